/- A part of TopRoom's proof. No condition. -/
import Derived.Test.YtglilpjokhgidaaGreatDoorD
import Derived.Test.YtglilpjokhgidaaGreatDoorProg
import Derived.WalkKit
import Derived.WalkSpells
import Derived.WalkLawsBesides
import Derived.Lib.Walk
import Derived.Lib.Builder
import Derived.Lib.UnsafeStr
import Derived.OwnWalk
import Derived.Shelf.RegionOpenPlain
import Derived.Lib.SliceRun
import Derived.Shelf.Strconv.Itoa3
set_option maxRecDepth 100000
set_option maxHeartbeats 4000000
set_option linter.unusedVariables false
set_option linter.unusedSimpArgs false
namespace Go.Proofs.YtglilpjokhgidaaGreatDoor
open Go.Proofs.Tryz (prog)
open Go.IntKind
namespace T
open Go V Q
variable {a b c d e f g:Nat} {u v w:Value} {i j k:Int} {t:TypeId} {p:List Value} {q:Bool} {n:IntKind} {x y z:TV} {r s:List TO} {o:List TV}
section
variable {N:List Nd} {S:SS} {M:List Mk} {E D J h:GS} {f a lo hi ns:Nat} {ks:aA} {res:Int} {A B:List IN}
theorem Mb:∀(ks:aA) (lo hi:Nat),Kc N lo hi ks->(∀k∈ks,qJ 58 N S M f k)->∀E:GS,GI E (hi-lo)->∃(G:Nat->GS) (X:List IN),G 0=E/\jl E (G ks.length) X/\X.length<=4*(hi-lo)/\(X=[]\/∃x g,X=x::g/\x.op=1)/\
  (∀d,(d=none\/d=some 0)->∃e,(e=none\/e=some 0)/\(d=none->e=none)/\((∃k l,ks=l++[k]/\eL N k)->e=none)/\fP (fR S f) (G ks.length).strs.length (E.ins.length-E.fr) X d e)/\
  ∀(j k:Nat),ks[j]? =some k->∀(a:ae) (c:Nat),c<=a.length->EN prog 58 [.p true (a.length+1) 0,I k] ((G j).mem N (SM S M) a) c λr o=>r= .tu []/\o=(G (j+1)).mem N (SM S M) a:=by
 intro ks;induction ks with
 | nil=>intro lo hi _ _ E i;exact ⟨λ_=>E,[],rfl,.nil i.tx,Z,.inl rfl,λd m=>⟨d,m,λh=>h,λ⟨k,l,h,_⟩=>by simp at h,.nil⟩,λj k h=>by simp at h⟩
 | cons k ks ih=>
  intro lo hi n t E i;obtain ⟨rfl,q1,q2,q3,y⟩:=n.inv;have:=y.le;have C:=t k (xO ..);have v:GI E ((1+sz N k)+(hi-(k+1+sz N k))):=i.le O;have ⟨D,X,e,a1,a2,a3,a4,a5,a6⟩:=C E (v.le O);have ⟨G,g,A,p,b2,b3,b4,b5⟩:=ih _ hi y (λk n=>t k (yU _ n)) D (a1.ad.gi v a2);refine ⟨λj=>match j with|0=>E|j+1=>G j,X++g,rfl,a1.ad.trans p,W,?_,λd m=>?_,λj k' h=>?_⟩;rcases a5 with h|⟨x,z,h,hx⟩;rw [h];exact b3;exact .inr ⟨x,z++g,by rw [h];rfl,hx⟩;obtain ⟨b,K,L,R,P⟩:∃b,(b=none\/b=some 0)/\(d=none->b=none)/\(eL N k->b=none)/\fP (fR S f) D.strs.length (E.ins.length-E.fr) X d b:=by rcases m with rfl|rfl;exact ⟨none,.inl rfl,λ_=>rfl,λ_=>rfl,.dead⟩;exact ⟨e,a3,λh=>(by cases h),a4,a1.sg⟩
  have ⟨F,H,q,J,s⟩:=b4 b K;refine ⟨F,H,λh=>q (L h),λ⟨kk,l,h,w⟩=>?_,?_⟩;cases l with
  | nil=>simp at h;obtain ⟨rfl,rfl⟩:=h;exact q (R w)
  | cons b6 l=>simp at h;exact J ⟨kk,l,h.2,w⟩
  rw [ft a1.ad i.fr] at s;exact (P.mono p.lo).app s;cases j with
  | zero=>cases h;show ∀(a:ae) (c:Nat),c<=a.length->EN prog 58 [.p true (a.length+1) 0,I k] (E.mem N (SM S M) a) c λr o=>r= .tu []/\o=(G 0).mem N (SM S M) a;rw [A];exact a6
  | succ j=>exact b5 j k' (Zs h)
theorem GJ (h:bK i=115):7<=i/\i<=13:=by
 unfold bK at h;repeat' split at h
 all_goals omega
theorem n37 (b:YN N S M res f a ks) (c:(nd N a).kind=6) (F:∀k,a<k->k<N.length->k+1+sz N k<=a+1+sz N a->7<=(nd N k).kind->(nd N k).kind<=13->qJ 58 N S M f k):qJ 37 N S M f a:=by
 intro E p;have H:=b.wt.mM;have g:=b.jx;unfold cu dB at g;simp [c] at g;have D:=b.kc.all;obtain ⟨G,X,s,t,e3,e4,e5,v⟩:=Mb ks (a+1) _ b.kc (λk c=>by have n:=D k c;have o:=GJ (g _ (dw c));exact F k O n.2.1 n.2.2.2 o.1 o.2) E (p.le O)
 have ⟨e,w,_,x,y⟩:=e5 (some 0) (.inr rfl);refine ⟨G ks.length,X,e,⟨t,p.fr,y⟩,O,w,λi=>?_,e4,λd m A=>?_⟩;cases i with
 | ret h=>omega
 | Wo h _ _ _=>omega
 | WE h z i=>exact x ⟨_,_,b.kc.uniq z,i⟩
 apply EW.o e37;have r:=hZ (S:=SM S M) (pre:=d) (g:=E) (fl:=m) O b.lt b.nn b.kc b.le;have K:=b.kc.length_le;have L:=b.le;simp [b37,CL.q r];rw [<-s];refine LP.ind (λj:Nat=>ks.length-j) (λj=>j<=ks.length) (λj=>[.p true (d.length+1) 0,.sl false (ks.map bF),I ks.length,I j]) (λ_=>[]) (λj=>(G j).mem N (SM S M) d) 0 (λ_ _=>⟨rfl,rfl,rfl⟩) (λj J k c=>?_) 0 O;simp [C6];apply ST.dc<;>intro h;have C:j<ks.length:=by omega
 obtain ⟨l,q⟩:∃l,ks[j]? =some l:=⟨_,zA C⟩;simp [q,CL.q (v j l q d m A),wn (j:=j) O];exact c (j+1) _ _ _ Z rfl rfl O O;have:j=ks.length:=by omega
 subst this;simp
theorem x58 (j:BK N S M res f lo hi):∀(n a:Nat),N.length-a<n->a<N.length->lo<=a->a+1+sz N a<=hi->(7<=(nd N a).kind->(nd N a).kind<=13->qJ 58 N S M f a)/\((nd N a).kind=6->qJ 37 N S M f a):=by
 intro n;induction n with
 | zero=>intro a h;omega
 | succ n q=>intro a h v t w;have ⟨ks,c⟩:=NT j v t O;have ix:∀k,a<k->k<N.length->k+1+sz N k<=a+1+sz N a->21<=(nd N k).kind->(nd N k).kind<=32->wY N S M f k:=λk r i s d e=>x86 j _ k (yF _) i O O d e;have m:∀k,a<k->k<N.length->k+1+sz N k<=a+1+sz N a->(nd N k).kind=6->qJ 37 N S M f k:=λk r i s d=>(q k O i O O).2 d;have g:=c.kc.all;have l:=λk b d e=>ix k (Zo (g k b)) (g k b).2.1 (g k b).2.2.2 d e;refine ⟨λx y=>?_,λb=>n37 c b λk r i s d e=>(q k O i O O).1 d e⟩;have b:(nd N a).kind=7\/(nd N a).kind=8\/(nd N a).kind=9\/(nd N a).kind=10\/(nd N a).kind=11\/(nd N a).kind=12\/(nd N a).kind=13:=O;rcases b with b|b|b|b|b|b|b;exact Pk c b l;exact Pj c b (λk b d e=>If j (g k b).2.1 (Zo (g k b)) (Zo (g k b)) ⟨d,e⟩) ix;by_cases p:ks.length=2;exact Ph c b p ix m;exact KG c b p ix m;exact KL c b ix m;by_cases o:res=0;exact Hf c b o;exact KK c b o l;exact KJ c b l;exact KH c b (λk b d e=>(j.rz k (Zo (g k b)) (Zo (g k b))).1.2 d e) l
end
end T
namespace T
open Go V Q
variable {a b c d e f g:Nat} {u w:Value} {i j k:Int} {t:TypeId} {p:List Value} {q:Bool} {n:IntKind} {x y z:TV} {r s:List TO} {o:List TV}
theorem Pw {b:Type} {Inv:Nat->b->Prop} {Step:Nat->b->b->Prop} {g0:b} (i:Inv 0 g0):∀n:Nat,(∀j,j<n->∀g,Inv j g->∃c,Step j g c/\Inv (j+1) c)->∃G:Nat->b,G 0=g0/\(∀j,j<=n->Inv j (G j))/\∀j,j<n->Step j (G j) (G (j+1)):=by
 intro n;induction n with
 | zero=>intro _;exact ⟨λ_=>g0,rfl,λj d=>by have:j=0:=O;subst this;exact i,λj d=>O⟩
 | succ n m=>
  intro h;have ⟨G,f,e,e3⟩:=m λj d=>h j O;have ⟨c,k,l⟩:=h n O _ (e n O);refine ⟨λj=>if j<=n then G j else c,by simp [f],λj d=>?_,λj d=>?_⟩;by_cases a:j<=n;simp [a,e j a];have:j=n+1:=by omega
  subst this;simp only [zO a];exact l;by_cases a:j<n;simp [show j<=n by omega,show j+1<=n by omega,e3 j a];have:j=n:=by omega
  subst this;simp only [zP (zC _),zO (show ¬j+1<=j by omega)];exact k
section
variable {N:List Nd} {S:SS} {M:List Mk} {K:aA} {g D E h:GS} {J a:Nat}
structure WM (S:SS) (g:GS) (i:Nat) (YY9:List IN) (l:Int) (at_:Nat):Prop where
 en:g.fns[i]? =some ⟨at_,YY9.length+1,(aN S.fn i).params,(aN S.fn i).ah,if (aN S.fn i).result=0 then 0 else 1⟩
 has:∀q x,(YY9++[⟨26,0,l⟩])[q]? =some x->g.ins[at_+q]? =some x
 sg:fP (fR S i) g.strs.length 0 (YY9++[⟨26,0,l⟩]) (some 0) none
 hd:YY9=[]\/∃x ZZ9,YY9=x::ZZ9/\x.op=1
theorem WM.mono {e:List IN} (h:WM S g b e i c) (a:∃X,D.ins=g.ins++X) (d:∃F,D.fns=g.fns++F) (f:g.strs.length<=D.strs.length):WM S D b e i c:=by obtain ⟨X,a⟩:=a;obtain ⟨F,d⟩:=d;exact ⟨by rw [d,zD (ab h.en)];exact h.en,λq x j=>by have:=h.has q x j;rw [a,zD (ab this)];exact this,h.sg.mono f,h.hd⟩
structure GV (N:List Nd) (S:SS) (K:aA) (j:Nat) (g:GS):Prop where
 tx:Bc g.tx g.strs.length
 sl:g.strs.length<=g.ins.length
 pos:∀k,K[j]? =some k->g.ins.length<=4*k
 all:g.ins.length<=4*N.length
 fl:g.fns.length=j
 fc:∀i,i<j->∃YY9 l at_,WM S g i YY9 l at_
 ne:0<j->g.ins≠[]
theorem GS.OO {pre:ae} {n:Nat}:(g.mem N S pre).set (pre.length+1) (.row (T.eP (g.cs N S pre.length) 12 [I n]) 0)=({g with fr:=n}:GS).mem N S pre:=by simp [GS.mem,GS.rows,GS.cs]
theorem GS.Km {F:List Ec}:(g.mem N S r).set (r.length+1) (.row (T.eP (g.cs N S r.length) 10 [.sl true (F.map rR)]) 0)=({g with fns:=F}:GS).mem N S r:=by simp [GS.mem,GS.rows,GS.cs]
structure GStep (N:List Nd) (S:SS) (M:List Mk) (K:aA) (j:Nat) (g g':GS):Prop where
 ex:∃(nn b:Nat) (ks:aA) (D:GS),K[j]? =some nn/\(aN S.fn j).node=nn/\nn<N.length/\0<=(nd N nn).size/\nn+1+sz N nn<=N.length/\Kc N (nn+1) (nn+1+sz N nn) (ks++[b])/\D.fr=g.ins.length/\D.fr<=D.ins.length/\D.ins.length<9000000/\D.fns=g.fns/\
  g'={D.put 26 0 (nd N nn).line with fns:=g.fns++[⟨g.ins.length,((D.ins.length-D.fr+1:Nat):Int),(aN S.fn j).params,(aN S.fn j).ah,if (aN S.fn j).result=0 then 0 else 1⟩]}/\
  ∀(pre:ae) (fl:Nat),fl<=pre.length->EN prog 37 [.p true (pre.length+1) 0,I b] (({g with fr:=g.ins.length}:GS).mem N (SM S M) pre) fl λr s'=>r= .tu []/\s'=D.mem N (SM S M) pre
theorem Ep (d:NK N K S M) (k:b<K.length) (c:GV N S K b g):∃p,GStep N S M K b g p/\GV N S K (b+1) p:=by
 have ⟨ps,t,a,j,c1,c2,c3,c4,c5,c6,c7,F,E,b1⟩:=d.cg b k;have hN:=d.wt.mM;have s:=(d.wt.te.g K[b] O j.lt).1;have hm:=j.ks.all a Z;have C:BK N S M (aN S.fn b).result b a (a+1+sz N a):=⟨d.wt,d.mr,d.res.tg,F,E,rfl⟩;have J:=(x58 C _ a (yF _) hm.2.1 (zC _) (zC _)).2 j.bk;have c8:=c.pos K[b] (zA k);have b6:=d.res.kn K[b] (zW k);have P:GI {g with fr:=g.ins.length} (1+sz N a):=⟨zC _,c.tx,c.sl,by simp only;omega⟩;have ⟨D,X,e,a1,a2,a3,a4,a5,a6⟩:=J _ P;have f:D.ins=g.ins++X:=a1.ad.ins;have n:=a1.ad.fr;have H:D.ins.length-D.fr=X.length:=by rw [f,n];simp
 have c9:sz N a+2<=sz N K[b]:=by have r:=j.ks.sep;have y:=j.ks.all t Z;have z:=List.pairwise_append.1 r;have A:=List.pairwise_cons.1 z.2.1;have:=A.1 a Z;omega
 refine ⟨_,⟨K[b],a,ps++[t],D,zA k,c1,j.lt,s.nn,s.le,by simpa using j.ks,n,by rw [n,f];simp,by rw [f];have:=c.all;simp;omega,a1.ad.fns,rfl,a6⟩,⟨a1.ad.tx,?_,?_,?_,?_,?_,?_⟩⟩;have r:D.strs.length<=g.strs.length+X.length:=a1.ad.hi;have y:=c.sl;show D.strs.length<=(D.put 26 0 (nd N K[b]).line).ins.length;rw [rC,f,xB];omega;intro d1 o;have hs:=d.res.ks;have v:=ab o;have:=(List.pairwise_iff_getElem.1 hs) b (b+1) k v O;rw [zA v] at o;cases o;simp only [rC,f];simp;omega;simp only [rC,f];simp;omega;simp [c.fl];intro i hi;by_cases R:i<b;have ⟨w,b2,x,h⟩:=c.fc i R;exact ⟨w,b2,x,h.mono ⟨X++[⟨26,0,(nd N K[b]).line⟩],by simp [GS.put,f]⟩ ⟨_,rfl⟩ (by simp;exact a1.ad.lo)⟩;have:i=b:=by omega
 subst this;refine ⟨X,(nd N K[i]).line,g.ins.length,?_,?_,?_,a5⟩;simp only [zH (show g.fns.length<=i by rw [c.fl];exact zC _),c.fl,Nat.sub_self];simp [H];intro q d2 hx;simp only [GS.put,f,yW];rw [zH O,show g.ins.length+q-g.ins.length=q by omega];exact hx;have l:=a1.sg;simp at l;simp;by_cases m:e=none;rw [m] at l;exact l.app .dead;have L:e=some 0:=by rcases a3 with h|h;exact absurd h m;exact h
 rw [L] at l;refine l.app (fP.end_ (.leave ?_));simp only [fR];refine decide_eq_false λh=>m (a4 (b1 h));intro _ h;simp [GS.put] at h
def GS.v (g:GS):TV:=.ag [.sl false (g.ins.map eV),.sl false (g.fns.map rR),.sl false (g.strs.map GG)]
theorem QQ {S:SS} {j:Nat} (h:j<S.fn.length):S.fn[j]? =some (aN S.fn j):=getD_some h _
theorem LQ {fl:Nat} {l s:ae} {o:Bool} (F:List Ec) (x:Ec) (h:F.length<1000000):cq false 5 40 0 fl (.sl true (F.map rR)) (.sl o [rR x]) l s=some (.sl true ((F++[x]).map rR),l,s):=by have:=dO (fl:=fl) (l:=l) (s:=s) (o:=o) (b:=40) ecZ O O F [x] W;simpa using this
theorem m19 (d:NK N K S M):∃g:GS,GV N S K K.length g/\EP prog 19 [(SM S M).q N] λr=>r=g.v:=by
 have ⟨G,P,i,e3⟩:=Pw (g0:=⟨[],[],[],0, #[],0⟩) ⟨λe he=>by simp at he,Z,Z,Z,rfl,λd4 hi=>O,λh=>O⟩ K.length λj z g hg=>Ep d z hg;refine ⟨G K.length,i _ (zC _),?_⟩;have hN:=d.wt.mM;have d1:K.length<=N.length+1:=by
  have c3:∀j (h:j<K.length),j<=K[j]:=by
   intro j;induction j with
   | zero=>intro _;omega
   | succ j ih=>intro h;have:=(List.pairwise_iff_getElem.1 d.res.ks) j (j+1) O h O;have:=ih O;omega
  by_cases c:K.length=0;omega;have:=c3 (K.length-1) O;have:=d.res.kn K[K.length-1] (zW _);omega
 have b1:=d.res.fl;refine EP.o e19 λs Q w=>?_;simp [b19,b1];have X:(G 0).mem N (SM S M) s=s++[TO.mp #[] 0,TO.row [TV.sl false (List.map bG N),TV.sl false (List.map ic M),TV.sl false (List.map dM S.ty),TV.sl false (List.map sR S.rc),TV.sl false (List.map pN S.fd),TV.sl false (List.map ju S.fn),TV.sl false (List.map bt S.sl),TV.sl false (List.map s7 S.va),TV.sl false (List.map vB S.pt),N0,N0,N0,I 0,TV.mp s.length] 0]:=by rw [P];rfl
 rw [<-X];have ef:(λx:Fn=>ju x)=ju:=rfl;refine LP.ind (λj:Nat=>K.length-j) (λj=>j<=K.length) (λj=>[.p false 1 0,.p true (s.length+1) 0,.sl false (S.fn.map ju),I K.length,I j])
  (λ_=>[.row [TV.sl false (List.map bG N),TV.sl false (List.map ic M),TV.sl false (List.map dM S.ty),TV.sl false (List.map sR S.rc),TV.sl false (List.map pN S.fd),TV.sl false (List.map ju S.fn),TV.sl false (List.map bt S.sl),TV.sl false (List.map s7 S.va),TV.sl false (List.map vB S.pt)] 0,.row [N0,N0,N0] 0])
  (λj=>(G j).mem N (SM S M) s) 2 (λ_ _=>⟨rfl,rfl,rfl⟩) (λj z d5 A=>?_) 0 (zY _)
 simp [Cc];apply ST.dc<;>intro h;have b6:j<K.length:=by omega
 have ⟨a,b,f,D,q1,q2,E,q4,q5,F,q7,q8,q9,c6,c7,c8⟩:=(e3 j b6).ex;have l:=i j O;have d2:=l.all;obtain ⟨k,y⟩:∃k:GS,k={G j with fr:=(G j).ins.length}:=⟨_,rfl⟩;have p:=hZ (S:=SM S M) (pre:=s) (g:=k) (fl:=s.length) O E q4 F q5;have q:=c8 s s.length (zC _);rw [<-y] at q;have J:=gO (S:=SM S M) (op:=26) (x:=0) (pre:=s) E q8 O (zC _);have L:=m39 (N:=N) (S:=SM S M) (pre:=s) (fl:=s.length) (g:=D.put 26 0 (nd N a).line) W W;have d3:f.length<1000000:=by have:=F.length_le;simp at this;omega
 have wk:i64.wrap (f.length:Int)=(f.length:Int):=bW O O;have c9:=zX O;have m:=GS.OO (N:=N) (S:=SM S M) (g:=G j) (pre:=s) (n:=(G j).ins.length);rw [<-y] at m;simp only [GS.cs,T.eP,List.set_cons_succ,List.set_cons_zero] at m;simp at p;simp [QQ (S:=S) (j:=j) O,GS.g1,GS.cs,y5,m,q2,CL.q p,wk];have gn:(List.map bF f++[[I (b:Int)]])[f.length]? =some [I (b:Int)]:=by rw [zH Z];simp
 simp [CL.q q,CL.q J];simp [GS.g1,GS.cs,CL.q L];have c2:s.length+1<(GS.mem N (SM S M) s (D.put 26 0 (nd N a).line)).length:=by simp [GS.mem,GS.rows]
 have v:∀x,((GS.mem N (SM S M) s (D.put 26 0 (nd N a).line)).set (s.length+1) x)[s.length+1]? =some x:=λx=>zF c2;have b2:(G j).fns.length<1000000:=by rw [l.fl];omega
 have C:(D.put 26 0 (nd N a).line).fns=(G j).fns:=c6;have H:=wn (j:=j) O;have R:((D.ins.length+1-D.fr:Nat):Int)=((D.ins.length-D.fr+1:Nat):Int):=by congr 1;omega
 have t:∀r:Int,r=(if (aN S.fn j).result=0 then 0 else 1)->(GS.mem N (SM S M) s (D.put 26 0 (nd N a).line)).set (s.length+1) (.row (T.eP ((D.put 26 0 (nd N a).line).cs N (SM S M) s.length) 10 [.sl true (((G j).fns++[(⟨D.fr,((D.ins.length+1-D.fr:Nat):Int),(aN S.fn j).params,(aN S.fn j).ah,r⟩:Ec)]).map rR)]) 0)=(G (j+1)).mem N (SM S M) s:=by intro r hr;rw [GS.Km,c7,hr,R,q7]
 have o:=λ(r:Int) (c5:Bool) (c4 s':ae)=>LQ (fl:=s.length) (l:=c4) (s:=s') (o:=c5) (G j).fns ⟨D.fr,((D.ins.length+1-D.fr:Nat):Int),(aN S.fn j).params,(aN S.fn j).ah,r⟩ b2;simp at o;refine ST.de (λh e=>?_) λh e=>?_;simp [GS.g1,GS.cs,v,C,o,H];refine A (j+1) _ _ _ Z rfl ?_ O O;have:=t 0 (by rw [zP h]);simp [GS.cs,T.eP] at this;exact this;simp [GS.g1,GS.cs,v,C,o,H];refine A (j+1) _ _ _ Z rfl ?_ O O;have:=t 1 (by rw [zO h]);simp [GS.cs,T.eP] at this;exact this;have:j=K.length:=by omega
 subst this;have l:=i K.length (zC _);simp [Jf,GS.g1,GS.cs];by_cases c:(G K.length).ins=[];simp [kT,c];apply w _;simp [GS.v,c];simp [kT,c,Gi (n0:=s.length) (id:=s.length+2) O,GS.g2 c,inZ];apply w _;simp [GS.v]
end
end T
namespace T
open Go V Q
variable {a b c d e f g:Nat} {u v w:Value} {i j k:Int} {t:TypeId} {p:List Value} {q:Bool} {n:IntKind} {x y z:TV} {r s:List TO} {o:List TV}
structure Sg where
 N:List Nd
 S:SS
 g:GS
 w1:List Int
 w2:List Int
 fuel:Nat
 zs:List Vl
structure Vm where
 H:Hp
 F:Fe
 time:Nat
 out:List UInt8
 aa:List Fm
 over:Bool
 ok:Int
 ot:Int
 ol:Int
structure Sn where
 l:Int
 r:Int
 y:Int
 n:Int
@[simp] def ON (x:Sn):ao:=[U x.l,U x.r,I x.y,I x.n]
@[simp] def pP (c:UInt8):ao:=[.v (.int .u8 c.toNat)]
theorem Wz (L:List UInt8):cR 0 1 (L.map pP):=bD (λx=>rfl) L
abbrev kL:Ro:=(0,0)
abbrev dK:Ro:=(6,0)
abbrev iM:Ro:=(10,0)
abbrev fe:Ro:=(11,0)
abbrev pE:Ro:=(12,0)
def oO (A:Lay) (n:Nat):cD:=(List.range n).map λi=>[.p true (A.id (ej i)) 0]
def Vm.cells (X:Sg) (c b:Nat) (A:Lay) (V:Vm) (a d sv cv:TV):ao:=[.sl false (X.N.map bG),.sl false (X.S.ma.map ic),.sl false (X.S.ty.map dM),.sl false (X.S.rc.map sR),.sl false (X.S.fd.map pN),.sl false (X.S.fn.map ju),.sl false (X.S.sl.map bt),.sl false (X.S.va.map s7),.sl false (X.S.pt.map vB),
 .sl false (X.g.ins.map eV),.sl false (X.g.fns.map rR),.sl false (X.g.strs.map GG),.sl false (X.w1.map bt),.sl false (X.w2.map bt),I X.fuel,I c,I b,.p true (A.id bY) 0,.p true (A.id ls) 0,I V.time,.sl true (V.out.map pP),a,B V.over,U V.ok,U V.ot,I V.ol,d,sv,cv]
structure VR (X:Sg) (room dk:Nat) (A:Lay) (s:ae) (V:Vm):Prop where
 hp:HR A s room V.H
 fd:FR A s V.F
 vm:A.al kL/\∃fv zv,s[A.id kL]? =some (.row (V.cells X room dk A fv zv (.m true (A.id iM) (A.az iM) 0 X.g.ins.length 4) (.m true (A.id fe) (A.az fe) 0 X.S.fn.length 1)) 0)/\SV A dK V.aa.length 1 fv/\mh A pE X.zs.length 4 zv
 fs:A.al dK->∃js,s[A.id dK]? =some (.aY (A.az dK) 1 (oO A V.aa.length++js))
 fr:∀i f,V.aa[i]? =some f->pB A s i f
 se:A.al iM/\∃L:List Sn,L.length=X.g.ins.length/\s[A.id iM]? =some (.aY (A.az iM) 4 (L.map ON))
 ca:A.al fe/\∃L:List Int,L.length=X.S.fn.length/\s[A.id fe]? =some (.aY (A.az fe) 1 (L.map bt))
 ze:A.al pE->s[A.id pE]? =some (.aY (A.az pE) 4 (X.zs.map aw))
 ti:V.time<=X.fuel
 fu:X.fuel<=1000000000
 nf:V.aa.length<=dk
 lm:dk<=100000
def VQ (X:Sg) (e d c:Nat) (A:Lay) (s:ae) (V V':Vm) (b:ae):Prop:=∃a,VR X e d a b V'/\bQ c (λ_=>True) A a s b/\∀i,i<V.aa.length->a.id (ej i)=A.id (ej i)
section
variable {X:Sg} {D E fl:Nat} {A J:Lay} {h s' s'':ae} {V V' V'':Vm} {R:Ro->Prop}
theorem bQ.any (a:bQ fl R A J h s'):bQ fl (λ_=>True) A J h s':=a.mono λ_ _=>trivial
theorem vS {A J:Lay} (h:∀i,i<a->J.id (ej i)=A.id (ej i)):oO J a=oO A a:=by unfold oO;refine List.map_congr_left λi b=>?_;rw [h i (wE.1 b)]
theorem VR.tV (b:VR X D E A h V) (a:NN R A J h s') (p:¬R kL) (t:¬R dK) (q:¬R iM) (r:¬R fe) (s:¬R pE) (c4:HR J s' D V'.H) (P:FR J s' V'.F) (b6:∀i f,V'.aa[i]? =some f->pB J s' i f) (g:V'.aa.length=V.aa.length) (hid:∀i,i<V.aa.length->J.id (ej i)=A.id (ej i))
  (o:V'.time=V.time) (H:V'.out=V.out) (e3:V'.over=V.over) (e4:V'.ok=V.ok) (e5:V'.ot=V.ot) (K:V'.ol=V.ol):VR X D E J s' V':=by
 obtain ⟨a1,a2,a3⟩:=a.ag _ p;obtain ⟨j,k,b3⟩:=a.ag _ t;obtain ⟨c1,l,C⟩:=a.ag _ q;obtain ⟨m,n,F⟩:=a.ag _ r;obtain ⟨y,z2,z3⟩:=a.ag _ s;have M:=(a.fx bY (.inr (.inl rfl))).1;have N:=(a.fx ls (.inr (.inr rfl))).1;obtain ⟨x,fv,zv,v2,v3,v4⟩:=b.vm;obtain ⟨w,L,s2,s3⟩:=b.se;obtain ⟨v,z,k2,k3⟩:=b.ca;refine ⟨c4,P,⟨a3.trans x,fv,zv,?_,?_,?_⟩,λc=>?_,b6,⟨C.trans w,L,s2,by rw [c1,l,a.get _ w q];exact s3⟩,⟨F.trans v,z,k2,by rw [m,n,a.get _ v r];exact k3⟩,λc=>?_,by rw [o];exact b.ti,b.fu,by rw [g];exact b.nf,b.lm⟩;rw [a1,a.get _ x p,v2,c1,l,m,n];simp only [Vm.cells,M,N,o,H,e3,e4,e5,K];rcases v3 with ⟨d,e⟩|⟨d,e,x3⟩;exact .inl ⟨b3.trans d,by rw [g,j,k];exact e⟩;exact .inr ⟨b3.trans d,by rw [g];exact e,x3⟩;rcases v4 with ⟨d,e⟩|⟨d,e⟩;exact .inl ⟨z3.trans d,by rw [y,z2];exact e⟩;exact .inr ⟨z3.trans d,e⟩;rw [b3] at c;obtain ⟨js,hj⟩:=b.fs c;exact ⟨js,by rw [j,k,a.get _ c t,g,vS hid];exact hj⟩;rw [z3] at c;rw [y,z2,a.get _ c s];exact b.ze c
theorem VR.jm (g:VR X D E A h V) (o:dA fl A h) (r:bQ fl R A J h s') (j:¬R kL) (n:¬R dK) (k:¬R iM) (l:¬R fe) (m:¬R pE) (q:HR J s' D V'.H) (d:FR J s' V'.F) (e:∀i f,V'.aa[i]? =some f->pB J s' i f) (p:V'.aa.length=V.aa.length) (hid:∀i,i<V.aa.length->J.id (ej i)=A.id (ej i))
  (a:V'.time=V.time) (b:V'.out=V.out) (e3:V'.over=V.over) (e4:V'.ok=V.ok) (e5:V'.ot=V.ot) (c:V'.ol=V.ol):VR X D E J s' V':=g.tV (r.tV o) j n k l m q d e p hid a b e3 e4 e5 c
theorem VR.frame {n:Fm} (c:VR X D E A h V) (l:dA fl A h) (p:a<V.aa.length) (q:Nc fl A h a n s'):VQ X D E fl A h V {V with aa:=V.aa.set a n} s':=by
 obtain ⟨J,s,i,t⟩:=q;have d:∀(j k:Nat),(∀b,(j,k)≠ej b/\(j,k)≠jY b/\(j,k)≠dI b)->¬Bg a (j,k):=λj k c e=>by rcases e with e|e|e;exact (c a).1 e;exact (c a).2.1 e;exact (c a).2.2 e
 have o:∀j,j≠a->∀r,Bg j r->¬Bg a r:=λj g r m e=>by rcases m with rfl|rfl|rfl <;> rcases e with e|e|e <;> simp at e <;> omega
 have hid:∀j,j<V.aa.length->J.id (ej j)=A.id (ej j):=λj _=>by by_cases e:j=a;rw [e];exact t;exact (i.ag _ (o j e _ (.inl rfl))).1
 refine ⟨J,c.jm l i (d _ _ λb=>by simp) (d _ _ λb=>by simp) (d _ _ λb=>by simp) (d _ _ λb=>by simp) (d _ _ λb=>by simp) (c.hp.jm l i λr m e=>by rcases e with rfl|rfl|rfl <;> simp [Rh] at m) (c.fd.jm l i (d _ _ λb=>by simp)) (λj f g=>?_) Z hid rfl rfl rfl rfl rfl rfl,i.any,hid⟩;simp only at g;by_cases e:j=a;subst e;rw [zF p] at g;cases g;exact s;rw [zE (Ne.symm e)] at g;exact (c.fr j f g).jm l i (o j e)
theorem VR.heap {c:Hp} {b:Fe} (d:VR X D E A h V) (g:dA fl A h) (i:HR J s' D c) (k:FR J s' b) (a:bQ fl Be A J h s'):VQ X D E fl A h V {V with H:=c,F:=b} s':=by have hid:∀j,J.id (ej j)=A.id (ej j):=λj=>(a.ag _ (by simp [Be])).1;refine ⟨J,d.jm g a (by simp [Be]) (by simp [Be]) (by simp [Be]) (by simp [Be]) (by simp [Be]) i k (λj f l=>(d.fr j f l).jm g a λr m e=>?_) rfl (λj _=>hid j) rfl rfl rfl rfl rfl rfl,a.any,λj _=>hid j⟩;rcases m with rfl|rfl|rfl <;> simp [Be] at e
theorem VQ.trans (d:VQ X D E fl A h V V' s') (m:V.aa.length<=V'.aa.length) (k:∀J,VR X D E J s' V'->dA fl J s'->(∀i,i<V.aa.length->J.id (ej i)=A.id (ej i))->J.id kL=A.id kL/\J.id bY=A.id bY/\J.id ls=A.id ls->h.length<=s'.length->VQ X D E fl J s' V' V'' s''):VQ X D E fl A h V V'' s'':=by obtain ⟨J,e,a,b⟩:=d;obtain ⟨c,g,j,l⟩:=k J e a.ij b ⟨(a.fx kL (.inl rfl)).1,(a.fx bY (.inr (.inl rfl))).1,(a.fx ls (.inr (.inr rfl))).1⟩ a.le;exact ⟨c,g,a.trans j,λi f=>(l i O).trans (b i f)⟩
theorem VQ.refl (a:VR X D E A h V) (b:dA fl A h):VQ X D E fl A h V V h:=⟨A,a,.refl b,λ_ _=>rfl⟩
theorem VR.row (a:VR X D E A h V) (b:dA fl A h) (w:V'.H=V.H) (v:V'.F=V.F) (g:V'.aa=V.aa) (C:V'.time<=X.fuel)
  (z:SV A dK V.aa.length 1 x) (F:mh A pE X.zs.length 4 y):VR X D E A (h.set (A.id kL) (.row (V'.cells X D E A x y (.m true (A.id iM) (A.az iM) 0 X.g.ins.length 4) (.m true (A.id fe) (A.az fe) 0 X.S.fn.length 1)) 0)) V':=by
 obtain ⟨c,_⟩:=a.vm;have n:=bQ.set b c (o:=.row (V'.cells X D E A x y (.m true (A.id iM) (A.az iM) 0 X.g.ins.length 4) (.m true (A.id fe) (A.az fe) 0 X.S.fn.length 1)) 0);have K:∀(j k:Nat),j≠0->¬(j,k)=kL:=λj k P e=>by simp at e;omega
 obtain ⟨s,L,M,N⟩:=a.se;obtain ⟨q,t,H,J⟩:=a.ca;refine ⟨by rw [w];exact a.hp.jm b n λr l e=>by rw [e] at l;simp [Rh] at l,by rw [v];exact a.fd.jm b n (K _ _ O),⟨c,x,y,b.get_eq c,by rw [g];exact z,F⟩,λd=>?_,λi f p=>?_,⟨s,L,M,by rw [b.aX s c Z];exact N⟩,⟨q,t,H,by rw [b.aX q c Z];exact J⟩,λd=>by rw [b.aX d c Z];exact a.ze d,C,a.fu,by rw [g];exact a.nf,a.lm⟩;rw [b.aX d c Z,g];exact a.fs d;rw [g] at p;exact (a.fr i f p).jm b n λr l e=>by rcases l with m|m|m <;> rw [m] at e <;> simp at e
theorem VR.Kr (a:VR X D E A h V) (b:dA fl A h) (d:V'.H=V.H) (c:V'.F=V.F) (e:V'.aa=V.aa) (g:V'.time<=X.fuel)
  (f:SV A dK V.aa.length 1 x) (i:mh A pE X.zs.length 4 y):VQ X D E fl A h V V' (h.set (A.id kL) (.row (V'.cells X D E A x y (.m true (A.id iM) (A.az iM) 0 X.g.ins.length 4) (.m true (A.id fe) (A.az fe) 0 X.S.fn.length 1)) 0)):=
 ⟨A,a.row b d c e g f i,(bQ.set b a.vm.1).any,λ_ _=>rfl⟩
theorem pY:prog.underlying 78=some (.slice 90):=Y
theorem m59 (b:VR X D E A h V) (p:V.aa.length=a+1):EN prog 59 [.p true (A.id kL) 0] h fl λr s'=>r= .p true (A.id (ej a)) 0/\s'=h:=by
 apply EN.o e59;have ⟨y,j,C,d,v,z⟩:=b.vm;have w:=yI b.nf b.lm;simp only [Vm.cells] at d;have n:j= .m true (A.id dK) (A.az dK) 0 (a+1) 1/\A.al dK:=by rcases v with ⟨i,c⟩|⟨_,c,_⟩;exact ⟨by rw [c,p],i⟩;omega
 obtain ⟨rfl,al⟩:=n;have ⟨s,g⟩:=b.fs al;have o:=λx=>fW (r:=true) (id:=A.id dK) (az:=A.az dK) (off:=0) (n:=a+1) (sz:=1) (l:=x) (s:=h) pY;have e:i64.wrap (((a+1:Nat):Int)-1)=(a:Int):=by rw [bW O O];omega
 have q:(oO A V.aa.length++s)[a]? =some [.p true (A.id (ej a)) 0]:=by rw [zD (by simp [oO];omega)];unfold oO;rw [zJ,xL O];rfl
 obtain ⟨f,k⟩:∃f,V.aa[a]? =some f:=⟨_,zA O⟩;have m:=b.fr a f k;have ⟨_,_,t,_⟩:=m.row;simp at e;simp [b59,d,o,e,show (a:Int)<a+1 by omega,g,q,y6 (ab t)]
end
theorem Ix {P:aB} {t:aP} {k:IntKind} {a b:Int}:∃n:Int,cm P .or t (.v (.int k a)) (.v (.int k b))=some (.v (.int k n)):=⟨_,cy rfl rfl (Tb t k a b)⟩
def Vm.end_ (V:Vm) (k t l:Int):Vm:=if V.over then V else {V with over:=true,ok:=k,ot:=t,ol:=l}
section
variable {X:Sg} {D E fl:Nat} {A J:Lay} {h s' s'':ae} {V V' V'':Vm} {R:Ro->Prop}
theorem Zg {k t l:Int} (a:VR X D E A h V) (b:dA fl A h):EN prog 89 [.p true (A.id kL) 0,.ag [U k,U t,I l]] h fl λr s'=>r= .tu []/\VQ X D E fl A h V (V.end_ k t l) s':=by
 apply EW.o e89;have ⟨g,p,s,d,m,n⟩:=a.vm;have j:=b.lo _ g;have i:=λx=>b.get_eq (o:=x) g;have q:=d;simp only [Vm.cells] at d;cases c:V.over with
 | true=>
  simp [b89,d,c];have:V.end_ k t l=V:=by unfold Vm.end_;rw [zP c]
  rw [this];exact .refl a b
 | false=>
  have e:V.end_ k t l={V with over:=true,ok:=k,ot:=t,ol:=l}:=by unfold Vm.end_;rw [c];rfl
  have f:=a.Kr (V':={V with over:=true,ok:=k,ot:=t,ol:=l}) b rfl rfl rfl a.ti m n;simp only [Vm.cells] at f;simp [b89,d,c,j,i,e];simpa using f
theorem a09 {k l:Int} (a:VR X D E A h V) (b:dA fl A h):EN prog 130 [.p true (A.id kL) 0,U k,I l] h fl λr s'=>r= .tu []/\VQ X D E fl A h V (V.end_ 2 k l) s':=by apply EW.o Sv;have c:=Zg (k:=2) (t:=k) (l:=l) a b;simp [Ur];refine CL.o c λr s' ⟨d,e⟩=>?_;subst d;simp;exact e
theorem pB.CZ {f f':Fm} {sv:TV} (b:pB A h a f) (d:dA fl A h) (i:f'.ah=f.ah) (g:f'.stack=f.stack) (k:mh A (jY a) f.ah.length 4 sv) (j:SV A (dI a) f.stack.length 4 x):Nc fl A h a f' (h.set (A.id (ej a)) (.row (f'.cells sv x) 0)):=
 ⟨A,⟨b.al,⟨sv,x,d.get_eq b.al,by rw [i];exact k,by rw [g];exact j⟩,λc=>by rw [d.aX c b.al Z,i];exact b.sl c,λc=>by rw [d.aX c b.al Z,g];exact b.sk c,by rw [g];exact b.kl⟩,(bQ.set d b.al).mono λr e=>.inl e,rfl⟩
def Vm.ev (X:Sg) (V:Vm) (f:Fm) (n:Nat) (b stop:Int):Bool×Vm:=
 let a:={V with aa:=V.aa.set n {f with ai:=b}}
 if V.time=X.fuel then (false,a.end_ 3 0 0) else if (V.time:Int)=stop then (false,a) else (true,{a with time:=V.time+1})
theorem m60 {f:Fm} {ai stop:Int} (e:VR X D E A h V) (v:dA fl A h) (R:V.aa.length=a+1) (P:V.aa[a]? =some f):EN prog 60 [.p true (A.id kL) 0,I ai,I stop] h fl λr s'=>r=B (V.ev X f a ai stop).1/\VQ X D E fl A h V (V.ev X f a ai stop).2 s':=by
 apply EW.o e60;have c:=m59 (fl:=fl) e R;have s:=e.fr a f P;have ⟨sv,kv,J,r2,r3⟩:=s.row;have N:=v.lo _ s.al;have b1:=e.frame v O (s.CZ (f':={f with ai:=ai}) v rfl rfl r2 r3);have ⟨L,n,b,z⟩:=b1;have hid:=(b.fx kL (.inl rfl)).1;have ⟨K,fv,zv,d,v3,v4⟩:=n.vm;have F:=b.ij.lo _ K;have M:=λb2=>b.ij.get_eq (o:=b2) K;have c3:=e.ti;have b6:=e.fu;simp only [Fm.cells] at J;simp only [hid,Fm.cells] at d F M;have c4:=d;simp only [Vm.cells] at d;have w1:i64.wrap ((V.time:Int)+1)=(V.time:Int)+1:=bW O O;have w2:i64.wrap (V.time:Int)=(V.time:Int):=bW O O;simp [b60,CL.q c,J,N];by_cases q:V.time=X.fuel;have j:(V.time:Int)=X.fuel:=by omega
 have C:=Zg (k:=3) (t:=0) (l:=0) n b.ij;simp only [hid,Fm.cells] at C;simp [d,zL j];refine CL.o C λr s' ⟨k1,p,w,x,y⟩=>?_;subst k1;have ev:V.ev X f a ai stop=(false,({V with aa:=V.aa.set a {f with ai:=ai}}:Vm).end_ 3 0 0):=by unfold Vm.ev;simp only [zP q]
 rw [ev];simp;exact ⟨p,w,b.trans x,λi g=>(y i (Zs g)).trans (z i g)⟩;have j:¬(V.time:Int)=X.fuel:=by omega
 by_cases m:(V.time:Int)=stop;have ev:V.ev X f a ai stop=(false,{V with aa:=V.aa.set a {f with ai:=ai}}):=by unfold Vm.ev;simp only [zO q,zP m]
 rw [ev];simp [d,zB j,zL m];exact ⟨L,n,b,z⟩;have ev:V.ev X f a ai stop=(true,{V with aa:=V.aa.set a {f with ai:=ai},time:=V.time+1}):=by unfold Vm.ev;simp only [zO q,zO m]
 rw [ev];have H:=n.Kr (V':={V with aa:=V.aa.set a {f with ai:=ai},time:=V.time+1}) b.ij rfl rfl rfl (by simp only;omega) v3 v4;simp only [Vm.cells,hid,Fm.cells] at H;simp [d,zB j,zB m,w1,F];have ⟨p,w,x,y⟩:=H;refine ⟨p,?_,b.trans ?_,λi g=>(y i (Zs g)).trans (z i g)⟩;simpa [Fm.cells] using w;simpa [Fm.cells] using x
end
structure ME where
 X:Sg
 room:Nat
 dk:Nat
 fl:Nat
 pv:Nat
 ph:Nat
 pd:Nat
 Fo:Nat->Option TO
structure MD (e:ME) (pf:Nat->Nat) (s:ae) (V:Vm) (A:Lay):Prop where
 vr:VR e.X e.room e.dk A s V
 ij:dA e.fl A s
 lf:e.fl<=s.length
 iv:A.id kL=e.pv
 ih:A.id bY=e.ph
 ie:A.id ls=e.pd
 fr:∀i,i<V.aa.length->A.id (ej i)=pf i
 fo:∀id o,e.Fo id=some o->s[id]? =some o/\∀r,A.al r->A.id r≠id
def MS (e:ME) (a:Nat->Nat) (s:ae) (V:Vm):Prop:=∃A,MD e a s V A
def Vm.top (V:Vm) (n:Nat) (f:Fm):Vm:={V with aa:=V.aa.set n f}
structure Vm.Is (V:Vm) (n:Nat) (f:Fm):Prop where
 len:V.aa.length=n+1
 get:V.aa[n]? =some f
section
variable {J:ME} {D:Nat->Nat} {E h:ae} {V V':Vm} {A:Lay} {n:Nat} {f:Fm} {a b:Vl}
theorem MD.QP {b:Lay} (d:MD J D E V A) (i:bQ J.fl (λ_=>True) A b E h):∀a o,J.Fo a=some o->h[a]? =some o/\∀r,b.al r->b.id r≠a:=λa o k=>by obtain ⟨e,f⟩:=d.fo a o k;have m:=ab e;refine ⟨by rw [i.fr a m λr _ c=>f r c];exact e,λr c j=>?_⟩;rcases i.nw r c with ⟨g,l⟩|g;exact f r g (l▸j);omega
theorem MD.to' (d:MD J D E V A) (q:VQ J.X J.room J.dk J.fl A E V V' h):∃c,MS J c h V':=by obtain ⟨b,e,a,f⟩:=q;exact ⟨λi=>b.id (ej i),b,e,a.ij,a.lf d.lf,(a.fx kL (.inl rfl)).1.trans d.iv,(a.fx bY (.inr (.inl rfl))).1.trans d.ih,(a.fx ls (.inr (.inr rfl))).1.trans d.ie,λ_ _=>rfl,d.QP a⟩
theorem MD.to (d:MD J D E V A) (q:VQ J.X J.room J.dk J.fl A E V V' h) (g:V'.aa.length<=V.aa.length):MS J D h V':=by obtain ⟨b,c,a,e⟩:=q;exact ⟨b,c,a.ij,a.lf d.lf,(a.fx kL (.inl rfl)).1.trans d.iv,(a.fx bY (.inr (.inl rfl))).1.trans d.ih,(a.fx ls (.inr (.inr rfl))).1.trans d.ie,λi f=>(e i O).trans (d.fr i O),d.QP a⟩
theorem rQ:(V.end_ i j k).aa.length=V.aa.length:=by unfold Vm.end_;split <;> rfl
theorem lB:(V.top n f).aa.length=V.aa.length:=by simp [Vm.top]
theorem Vm.Is.top (h:V.Is n f) {a:Fm}:(V.top n a).Is n a:=⟨by rw [lB];exact h.len,by simp [Vm.top,h.len]⟩
theorem Vm.Is.id (h:V.Is n f):V.top n f=V:=by
 have:V.aa.set n f=V.aa:=by apply xF λi=>?_;by_cases J:i=n;subst J;rw [zF (Zo h.len),h.get];rw [zE (Ne.symm J)]
 unfold Vm.top;rw [this]
theorem aJ {a:Fm}:(V.top n f).top n a=V.top n a:=by simp [Vm.top]
theorem fq (d:MD J D E V A) (b:V.Is n f) {a:Fm} (q:Nc J.fl A E n a h):MS J D h (V.top n a):=
 d.to (d.vr.frame d.ij (Zo b.len) q) (by rw [lB];omega)
theorem MD.Kx (d:MD J D E V A) (a:V.Is n f):A.id (ej n)=D n:=d.fr n (Zo a.len)
theorem v59 (b:MS J D E V) (a:V.Is n f):EN prog 59 [.p true J.pv 0] E J.fl λr h=>r= .p true (D n) 0/\h=E:=by have ⟨A,d⟩:=b;have c:=m59 (fl:=J.fl) d.vr a.len;rwa [d.iv,d.Kx a] at c
theorem FY (e:MS J D E V) (b:V.Is n f) (g:f.stack.length<1000000000000):EN prog 90 [.p true (D n) 0,.ag (aw a)] E J.fl λr h=>r= .tu []/\MS J D h (V.top n {f with stack:=f.stack++[a]}):=by have ⟨A,d⟩:=e;have c:=m90 (a:=a) (d.vr.fr n f b.get) d.ij d.lf g;rw [d.Kx b] at c;exact c.mono λr h ⟨i,j⟩=>⟨i,fq d b j⟩
theorem v93 {l:List Vl} (e:MS J D E V) (b:V.Is n f) (g:f.stack=l++[a]):EN prog 93 [.p true (D n) 0] E J.fl λr h=>r= .ag (aw a)/\MS J D h (V.top n {f with stack:=l}):=by have ⟨A,d⟩:=e;have c:=m93 (d.vr.fr n f b.get) d.ij g;rw [d.Kx b] at c;exact c.mono λr h ⟨i,j,_⟩=>⟨i,fq d b j⟩
theorem Xl {l:List Vl} {sv:TV} (e:MS J D E V) (b:V.Is n f) (i:f.stack=l++[a]) (g:E[D n]? =some (.row (f.cells sv x) 0)):EN prog 93 [.p true (D n) 0] E J.fl λr h=>r= .ag (aw a)/\MS J D h (V.top n {f with stack:=l})/\∃j,h[D n]? =some (.row (({f with stack:=l}:Fm).cells sv j) 0):=by have ⟨A,d⟩:=e;have c:=m93 (d.vr.fr n f b.get) d.ij i;rw [d.Kx b] at c;exact c.mono λr h ⟨k,m,o⟩=>⟨k,fq d b m,o sv x g⟩
theorem O4 {l b:List Vl} (e:MS J D E V) (a:V.Is n f) (g:f.stack=l++b):EN prog 136 [.p true (D n) 0,I b.length] E J.fl λr h=>r= .sl false (b.map aw)/\MS J D h (V.top n {f with stack:=l}):=by have ⟨A,d⟩:=e;have c:=a06 (d.vr.fr n f a.get) d.ij g;rw [d.Kx a] at c;exact c.mono λr h ⟨i,j⟩=>⟨i,fq d a j⟩
theorem v89 {k t l:Int} (a:MS J D E V):EN prog 89 [.p true J.pv 0,.ag [U k,U t,I l]] E J.fl λr h=>r= .tu []/\MS J D h (V.end_ k t l):=by have ⟨A,d⟩:=a;have c:=Zg (k:=k) (t:=t) (l:=l) d.vr d.ij;rw [d.iv] at c;exact c.mono λr h ⟨b,e⟩=>⟨b,d.to e (by rw [rQ];exact zC _)⟩
theorem v130 {k l:Int} (a:MS J D E V):EN prog 130 [.p true J.pv 0,U k,I l] E J.fl λr h=>r= .tu []/\MS J D h (V.end_ 2 k l):=by have ⟨A,d⟩:=a;have c:=a09 (k:=k) (l:=l) d.vr d.ij;rw [d.iv] at c;exact c.mono λr h ⟨b,e⟩=>⟨b,d.to e (by rw [rQ];exact zC _)⟩
theorem v60 {ai stop:Int} (b:MS J D E V) (a:V.Is n f):EN prog 60 [.p true J.pv 0,I ai,I stop] E J.fl λr h=>r=B (V.ev J.X f n ai stop).1/\MS J D h (V.ev J.X f n ai stop).2:=by have ⟨A,d⟩:=b;have c:=m60 (ai:=ai) (stop:=stop) d.vr d.ij a.len a.get;rw [d.iv] at c;refine c.mono λr h ⟨e,g⟩=>⟨e,d.to g ?_⟩;unfold Vm.ev;simp only;split;rw [rQ];simp;split <;> simp
theorem zu {t l:Int} (g:MS J D E V) (j:V.Is n f) (m:f.stack.length<1000000000000):EN prog 134 [.p true J.pv 0,.p true (D n) 0,.ag (aw a),U t,I l] E J.fl λr h=>r= .tu []/\MS J D h (if t=0 then V.top n {f with stack:=f.stack++[a]} else V.end_ 2 t l):=by apply EW.o Ss;have c:=FY (a:=a) g j m;have i:=v130 (k:=t) (l:=l) g;by_cases b:t=0;subst b;simp at c;simp [MW];refine CL.o c λr h ⟨d,e⟩=>?_;subst d;simp;exact e;rw [zO b];simp [MW,zB b];refine CL.o i λr h ⟨d,e⟩=>?_;subst d;simp;exact e
theorem Ve {y:Bool} {l:Int} (g:MS J D E V) (j:V.Is n f) (m:f.stack.length<1000000000000):EN prog 92 [.p true J.pv 0,.p true (D n) 0,.ag (aw a),B y,I l] E J.fl λr h=>r= .tu []/\MS J D h (if y=true then V.top n {f with stack:=f.stack++[a]} else V.end_ 2 4 l):=by
 have c:=FY (a:=a) g j m;have i:=v130 (k:=4) (l:=l) g;by_cases b:y;subst b;apply EW.o e92;simp at c;simp [b92];refine CL.o c λr h ⟨d,e⟩=>?_;subst d;simp;exact e;have b:y=false:=by simpa using b
 subst b;apply EW.o e92;simp [b92];refine CL.o i λr h ⟨d,e⟩=>?_;subst d;simp;exact e
theorem MD.seen {L:List Sn} (d:MD J D E V A) (q:L.length=J.X.g.ins.length):MS J D (E.set (A.id iM) (.aY (A.az iM) 4 (L.map ON))) V:=by
 have h:=d.vr;obtain ⟨a,F,K,M⟩:=h.se;have e:=bQ.set d.ij a (o:=.aY (A.az iM) 4 (L.map ON));have w:∀(j k:Nat),j≠10->¬(j,k)=iM:=λj k H J=>by simp at J;omega
 obtain ⟨m,p,C,x,y,z⟩:=h.vm;obtain ⟨l,n,t,v⟩:=h.ca;refine d.to ⟨A,⟨h.hp.jm d.ij e λr c J=>by rw [J] at c;simp [Rh] at c,h.fd.jm d.ij e (w _ _ O),⟨m,p,C,by rw [d.ij.aX m a Z];exact x,y,z⟩,λb=>?_,λi f s=>?_,⟨a,L,q,d.ij.get_eq a⟩,⟨l,n,t,by rw [d.ij.aX l a Z];exact v⟩,λb=>by rw [d.ij.aX b a Z];exact h.ze b,h.ti,h.fu,h.nf,h.lm⟩,e.any,λ_ _=>rfl⟩ (zC _);rw [d.ij.aX b a Z];exact h.fs b;exact (h.fr i f s).jm d.ij e λr c J=>by rcases c with g|g|g <;> rw [g] at J <;> simp at J
theorem v131 {k:Int} (N:MS J D E V) (q:c<J.X.g.ins.length) (X:0<=j) (hk:0<=k):EN prog 131 [.p true J.pv 0,I c,U j,U k] E J.fl λb1 h=>b1= .tu []/\MS J D h V:=by have ⟨A,d⟩:=N;apply EW.o Su;have ⟨C,e,F,H⟩:=d.vr.se;have ⟨v1,fv,zv,n,v3,v4⟩:=d.vr.vm;simp only [Vm.cells,d.iv] at n;have g:=zA (l:=e) (i:=c) O;generalize e[c]=x at g;have r:=d.ij.lo _ C;have M:=λx=>d.ij.get_eq (o:=x) C;have ⟨y,f⟩:=Ix (P:=prog) (t:=5) (k:=.u8) (a:=x.l) (b:=u8.wrap (1*2^(min j.toNat u8.bits)));have ⟨n2,s⟩:=Ix (P:=prog) (t:=5) (k:=.u8) (a:=x.r) (b:=u8.wrap (1*2^(min k.toNat u8.bits)));have m:=uY (P:=prog) (t:=5) (k:=.u8) (k':=.u8) (a:=1) X;have K:=uY (P:=prog) (t:=5) (k:=.u8) (k':=.u8) (a:=1) (b:=k) hk;simp at f s m K;have v:=d.seen (L:=e.set c {x with l:=y}) (Zs F);have w:=d.seen (L:=e.set c {x with l:=y,r:=n2}) (Zs F);simp [yJ] at v w;have R:∀z,((List.map ON e).set c z)[c]? =some z:=λz=>zF W;by_cases p:k=0;subst p;simp [MX,n,H,g,m,f,r,q];exact v;simp [MX,n,H,g,m,K,f,s,r,zB p,q,M,R];exact w
theorem FZ {y:Bool} (t:MS J D E V) (g:c<J.X.g.ins.length):EN prog 135 [.p true J.pv 0,I c,B y] E J.fl λr h=>r= .tu []/\MS J D h V:=by
 have ⟨A,d⟩:=t;have ⟨p,a,q,s⟩:=d.vr.se;have ⟨z,v,H,f,C,F⟩:=d.vr.vm;simp only [Vm.cells,d.iv] at f;have e:=zA (l:=a) (i:=c) O;generalize a[c]=x at e;have j:=d.ij.lo _ p;have w:=λx=>d.ij.get_eq (o:=x) p;have k:=d.seen (L:=a.set c {x with y:=min (i64.wrap (x.y+1)) 1073741824}) (Zs q);have m:=d.seen (L:=a.set c {x with n:=min (i64.wrap (x.n+1)) 1073741824}) (Zs q);simp [yJ] at k m;by_cases b:y;subst b;apply EW.o M5;simp [MV,f,s,e,j,g];exact k;have b:y=false:=by simpa using b
 subst b;apply EW.o M5;simp [MV,f,s,e,j,g];exact m
end
section
variable {J:ME} {D:Nat->Nat} {E s':ae} {V V':Vm} {A A':Lay} {n:Nat} {f:Fm} {a b:Vl} {H':Hp} {F':Fe}
theorem Ks {r:Ro} (h:Rh r):Be r:=⟨h.1,by have:=h.2;omega⟩
theorem MD.hf (d:MD J D E V A) (a:HR A' s' J.room H') (b:FR A' s' F') (c:bQ J.fl Be A A' E s'):MS J D s' {V with H:=H',F:=F'}:=
 d.to (d.vr.heap d.ij a b c) (zC _)
theorem MD.h (d:MD J D E V A) (b:HR A' s' J.room H') (a:bQ J.fl Rh A A' E s'):MS J D s' {V with H:=H'}:=
 d.hf b (d.vr.fd.jm d.ij a (by simp [Rh])) (a.mono λ_=>Ks)
def WK (J:ME) (D:Nat->Nat) (V:Vm) (H':Hp) (F':Fe) (w:Vl) (t:Int) (y:Bool) (a:Nat) (r:TV) (s':ae):Prop:=
 (a<=J.room/\r= .tu [.ag (aw w),U t,B y]/\MS J D s' {V with H:=H',F:=F'})\/(J.room<a/\r= .tu [.ag (aw vz),U 4,B true]/\MS J D s' V)
def NI (J:ME) (D:Nat->Nat) (V:Vm) (H':Hp) (w:Vl) (a:Nat) (r:TV) (s':ae):Prop:=
 (a<=J.room/\r= .tu [.ag (aw w),B true]/\MS J D s' {V with H:=H'})\/(J.room<a/\r= .tu [.ag (aw vz),B false]/\MS J D s' V)
theorem MD.al (d:MD J D E V A) {w:Vl} (h:WO V.H H' w c J.fl A E J.room x s'):NI J D V H' w c x s':=by rcases h with ⟨a,b,A',e,f⟩|⟨a,b,A',e,f⟩;exact .inl ⟨a,b,d.h e f⟩;exact .inr ⟨a,b,d.h e f⟩
theorem Xy (m:JI) (n:zj V.H) (l:Int) (a b:Vl):∃(H':Hp) (w:Vl) (t:Int) (y:Bool) (j:Nat),0<=t/\t<=6/\∀(J:ME) (D:Nat->Nat) (E:ae) (V':Vm),V'.H=V.H->MS J D E V'->EN prog 133 [.p true J.ph 0,I l,.ag (aw a),.ag (aw b)] E J.fl (WK J D V' H' V'.F w t y j):=by have ⟨H',w,t,y,j,o,p,c⟩:=a07 m n l a b;refine ⟨H',w,t,y,j,o,p,λJ D E V' k ⟨A,d⟩=>?_⟩;have c:=c A E J.room J.fl (k▸d.vr.hp) d.ij d.lf;simp only [d.ih] at c;refine c.mono λr s' h=>?_;rcases h with ⟨e,f,A',g,i⟩|⟨e,f,A',g,i⟩;exact .inl ⟨e,f,d.h g i⟩;exact .inr ⟨e,f,by have:=d.h g i;rw [<-k] at this;exact this⟩
theorem Xx (L:kz) (n:∀x∈V.F.ins,-9223372036854775808<=x) (k:Int) (e:List Vl) (a:1<=k) (b:k<=8) (o:e.length=(oY k).length):∃(H':Hp) (F':Fe) (w:Vl) (t:Int) (y:Bool) (j:Nat),0<=t/\t<=6/\∀(J:ME) (D:Nat->Nat) (E:ae) (V':Vm),V'.H=V.H->V'.F=V.F->MS J D E V'->EN prog 137 [.p true J.ph 0,.p true J.pd 0,I k,.sl false (e.map aw)] E J.fl (WK J D V' H' F' w t y j):=by have ⟨H',F',w,t,y,j,p,q,c⟩:=a05 L V.H V.F n k e a b o;refine ⟨H',F',w,t,y,j,p,q,λJ D E V' l m ⟨A,d⟩=>?_⟩;have c:=c A E J.room J.fl (l▸d.vr.hp) (m▸d.vr.fd) d.ij d.lf;simp only [d.ih,d.ie] at c;refine c.mono λr s' h=>?_;rcases h with ⟨a,b,A',f,g,i⟩|⟨a,b,A',f,g,i⟩;exact .inl ⟨a,b,d.hf f g i⟩;exact .inr ⟨a,b,by have:=d.hf f g i;rw [<-l,<-m] at this;exact this⟩
theorem O3 (H:Hp) (v:Vl) (i:Int):∃(w:Vl) (t:Int),(t=0\/t=2\/t=3)/\∀(J:ME) (D:Nat->Nat) (E:ae) (V':Vm),V'.H=H->MS J D E V'->EN prog 140 [.p true J.ph 0,.ag (aw v),I i] E J.fl λr s'=>r= .tu [.ag (aw w),U t]/\s'=E:=by have ⟨w,t,b,c⟩:=PK H v i;refine ⟨w,t,b,λJ D E V' a ⟨A,d⟩=>?_⟩;have c:=c A E J.room J.fl (a▸d.vr.hp);simp only [d.ih] at c;exact c
theorem v141 (H:Hp) (v:Vl) (i:Int) (x:Vl):∃(H':Hp) (t:Int),(t=0\/t=2\/t=3)/\∀(J:ME) (D:Nat->Nat) (E:ae) (V':Vm),V'.H=H->MS J D E V'->EN prog 141 [.p true J.ph 0,.ag (aw v),I i,.ag (aw x)] E J.fl λr s'=>r=U t/\MS J D s' {V' with H:=H'}:=by have ⟨H',t,g,c⟩:=a04 H v i x;refine ⟨H',t,g,λJ D E V' f ⟨A,d⟩=>?_⟩;have c:=c A E J.room J.fl (f▸d.vr.hp) d.ij;simp only [d.ih] at c;exact c.mono λr s' ⟨a,A',b,e⟩=>⟨a,d.h b e⟩
theorem v91 (H:Hp) (b:aU) (f:b.size<=100000000):∃(H':Hp) (w:Vl) (a:Nat),∀(J:ME) (D:Nat->Nat) (E:ae) (V':Vm),V'.H=H->MS J D E V'->EN prog 91 [.p true J.ph 0,.v (.string b)] E J.fl (NI J D V' H' w a):=by have ⟨H',w,a,c⟩:=m91 H b f;refine ⟨H',w,a,λJ D E V' e ⟨A,d⟩=>?_⟩;subst e;have c:=c A E J.room J.fl d.vr.hp d.ij d.lf;simp only [d.ih] at c;exact c.mono λr s' h=>d.al h
theorem Xu (H:Hp) (b:Int) (n:Nat) (z:Vl) (g:0<=b) (f:n<=1000000):∃(H':Hp) (w:Vl) (a:Nat),∀(J:ME) (D:Nat->Nat) (E:ae) (V':Vm),V'.H=H->MS J D E V'->EN prog 186 [.p true J.ph 0,I b,I n,.ag (aw z)] E J.fl (NI J D V' H' w a):=by have ⟨H',w,a,c⟩:=ZM H b n z g f;refine ⟨H',w,a,λJ D E V' e ⟨A,d⟩=>?_⟩;subst e;have c:=c A E J.room J.fl d.vr.hp d.ij d.lf;simp only [d.ih] at c;exact c.mono λr s' h=>d.al h
theorem Xs (H:Hp) (b:Int) (e:List Vl) (m:0<=b) (l:e.length<=100000000):∃(H':Hp) (w:Vl) (a:Nat),∀(J:ME) (D:Nat->Nat) (E:ae) (x:TV) (V':Vm),V'.H=H->MS J D E V'->aO [] E x=some (e.map aw)->aW x->dz x=x->Fy x=false->EN prog 187 [.p true J.ph 0,I b,x] E J.fl (NI J D V' H' w a):=by have ⟨H',w,a,c⟩:=ZK H b e m l;refine ⟨H',w,a,λJ D E x V' k ⟨A,d⟩ f g i j=>?_⟩;subst k;have c:=c A E J.room J.fl x d.vr.hp d.ij d.lf f g i j;simp only [d.ih] at c;exact c.mono λr s' h=>d.al h
theorem MD.zv (d:MD J D E V A) {z:Vl} (e:J.X.zs[c]? =some z):∃(a:cD) (m:Nat),E[A.id pE]? =some (.aY (A.az pE) 4 a)/\a[c]? =some (aw z)/\c<m/\m=J.X.zs.length/\a=J.X.zs.map aw/\∃b sv cv,E[J.pv]? =some (.row (V.cells J.X J.room J.dk A b (.m true (A.id pE) (A.az pE) 0 m 4) sv cv) 0):=by obtain ⟨j,b,n,g,k,h⟩:=d.vr.vm;have f:=ab e;rcases h with ⟨i,rfl⟩|⟨_,l,_⟩;exact ⟨_,_,d.vr.ze i,by rw [zJ,e];rfl,f,rfl,rfl,b,_,_,by rw [<-d.iv];exact g⟩;omega
theorem Xw (X:Sg) (H:Hp) (e:Nat) (i:Int) (z:Vl) (p:X.zs[e]? =some z):∃(H':Hp) (w q:Vl) (t:Int) (a:Nat),(t=0\/t=2)/\∀(J:ME) (D:Nat->Nat) (E:ae) (V':Vm),J.X=X->V'.H=H->MS J D E V'->EN prog 142 [.p true J.pv 0,I e,I i] E J.fl λr s'=>(a<=J.room/\r= .tu [.ag (aw w),U t]/\MS J D s' {V' with H:=H'})\/(J.room<a/\r= .tu [.ag (aw q),U 4]/\MS J D s' V'):=by by_cases k:i<0;refine ⟨H,vz,vz,2,0,.inr rfl,λJ D E V' l b h=>?_⟩;subst b;apply EW.o M3;simp [MQ,zL k];exact ⟨⟨rfl,rfl,rfl,rfl⟩,h⟩;have ⟨H',w,a,c⟩:=Xu H e (min i 65536).toNat z O O;refine ⟨H',w,vz,0,a,.inl rfl,λJ D E V' l b h=>?_⟩;have c:=c J D E V' b h;have ⟨A,d⟩:=h;subst l;have ⟨v,m,s,z2,z3,_,_,x,sv,cv,n⟩:=d.zv p;apply EW.o M3;simp only [Vm.cells,d.ih] at n;rw [show (((min i 65536).toNat:Nat):Int)=min i 65536 by omega] at c;simp [MQ,zB k,n,s,z2,z3];refine CL.o c λr s' o=>?_;rcases o with ⟨f,g,j⟩|⟨f,g,j⟩;subst g;simp;exact ⟨f,j⟩;subst g;simp;exact ⟨f,j⟩
theorem MD.mI (d:MD J D E V A) (t:ae):MD J D (E++t) V A:=by have a:bQ J.fl (λ_=>False) A A E (E++t):=bQ.mI d.ij t;refine ⟨d.vr.jm d.ij a (λh=>h) (λh=>h) (λh=>h) (λh=>h) (λh=>h) (d.vr.hp.jm d.ij a λ_ _ h=>h) (d.vr.fd.jm d.ij a λh=>h) (λi f b=>(d.vr.fr i f b).jm d.ij a λ_ _ h=>h) rfl (λ_ _=>rfl) rfl rfl rfl rfl rfl rfl,a.ij,a.lf d.lf,d.iv,d.ih,d.ie,d.fr,d.QP a.any⟩
theorem MS.mI (h:MS J D E V) (t:ae):MS J D (E++t) V:=by obtain ⟨A,d⟩:=h;exact ⟨A,d.mI t⟩
def hU (X:Sg) (r:Rc):List Vl:=((X.S.fd.take (r.fr.toNat+r.count.toNat)).drop r.fr.toNat).map λx=>(X.zs[x.type.toNat]?).getD vz
def FO (E:ae):Nat->TV
 | 0=>.sl true []
 | i+1=>.m true E.length i 0 (i+1) 4
def FT (E:ae) (a:List Vl):Nat->ae
 | 0=>E
 | i+1=>E++[.aY i 4 ((a.take (i+1)).map aw)]
theorem FQ (E:ae) (a:List Vl) (i:Nat):∃t,FT E a i=E++t:=by
 cases i with
 | zero=>exact ⟨[],by simp [FT]⟩
 | succ i=>exact ⟨_,rfl⟩
theorem Gx {E:ae} {a:List Vl} {z:Vl} {o:Bool} (h:a[c]? =some z) (s:a.length<=1000000) (m:d<=E.length) (l:ae):cq true 4 32 2 d (FO E c) (.sl o [aw z]) l (FT E a c)=some (FO E (c+1),l,FT E a (c+1)):=by
 have r:=ab h;have e:fits (c+1) 32:=by unfold fits;exact decide_eq_true ⟨O,O⟩
 have g:a.take (c+1)=a.take c++[z]:=by rw [xD,h];rfl
 have f:(a.take c).length=c:=W;cases c with
 | zero=>have:=fB (k:=true) (e:=4) (b:=32) (an:=2) (fl:=d) (l:=l) (s:=E) (y:=.sl o [aw z]) rfl;show cq true 4 32 2 d (.sl true []) (.sl o [aw z]) l E=_;rw [this,zP ⟨BC [z],e,O⟩,zO Z];simp only [db,FO,FT,g];simp
 | succ j=>
  have i:=zX m;show cq true 4 32 2 d (.m true E.length j 0 (j+1) 4) (.sl o [aw z]) l (E++[.aY j 4 ((a.take (j+1)).map aw)])=_;rw [kI rfl,zH (zC _)];simp only [Nat.sub_self,List.getElem?_cons_zero,tO];have q:=BD [z];have n:j+1<=((a.take (j+1)).map aw).length:=by rw [yQ,f];exact zC _
  rw [zP ⟨trivial,trivial,trivial,n,i,q,O,e⟩];have p:((a.take (j+1)).map aw).take (j+1)=(a.take (j+1)).map aw:=yC (by rw [yQ,f];exact zC _);simp only [FO,FT,g,p];simp
theorem O7:prog.underlying 29=some (.slice 215):=Y
theorem OF:me prog 215=some 2:=Y
theorem v143 (X:Sg) (H:Hp) (g:Nat) (r:Rc) (hr:X.S.rc[g]? =some r) (h1:0<=r.fr) (h2:0<=r.count) (h3:r.fr+r.count<=X.S.fd.length) (c6:∀x∈X.S.fd,∃(t:Nat) (z:Vl),x.type=(t:Nat)/\X.zs[t]? =some z) (e2:X.S.fd.length<=1000000):∃(H':Hp) (w:Vl) (s:Nat),∀(J:ME) (D:Nat->Nat) (E:ae) (V':Vm),J.X=X->V'.H=H->MS J D E V'->EN prog 143 [.p true J.pv 0,I g] E J.fl (NI J D V' H' w s):=by
 have f2:(hU X r).length=r.count.toNat:=by simp [hU];omega
 have ⟨H',w,s,c⟩:=Xs H g (hU X r) O O;refine ⟨H',w,s,λJ D E V' hX hV c5=>?_⟩;subst hX;have ⟨A,d⟩:=c5;have hb:∀t:ae,J.fl<=(E++t).length:=λt=>yI d.lf Z;apply EW.o So;have ⟨v1,fv,zv,v2,v3,v4⟩:=d.vr.vm;simp only [Vm.cells,d.iv] at v2;have c9:=ab hr;obtain ⟨n,m,g1,L,g3⟩:∃(n:cD) (m:Nat),n=J.X.S.rc.map sR/\n[g]? =some (sR r)/\g<m/\m=n.length:=⟨_,_,rfl,by rw [zJ,hr];rfl,by simpa using c9,rfl⟩;obtain ⟨a,N⟩:∃a:Nat,r.fr=a:=⟨r.fr.toNat,O⟩;obtain ⟨e,b1⟩:∃k:Nat,r.count=k:=⟨r.count.toNat,O⟩;obtain ⟨f,q⟩:∃f,f=(J.X.S.fd.take (a+e)).drop a:=⟨_,rfl⟩;have c7:f.length=e:=by rw [q];simp;omega
 have d3:hU J.X r=f.map λx=>(J.X.zs[x.type.toNat]?).getD vz:=by unfold hU;rw [N,b1,q];simp
 have b2:=λ(d6 t:ae)=>mj (l:=d6) (s:=t) (es:=J.X.S.fd.map pN) O7 OF (kC 0 a .i64) (kC _ (a+e) .i64) O W (kh (k:=2) (λx=>rfl) _);rw [<-List.map_take,<-List.map_drop,<-q] at b2;have w1:i64.wrap ((a:Int)+e)=((a+e:Nat):Int):=by rw [bW O O];omega
 simp at L;simp [Up,v2,<-g1,L,N,b1];simp only [w1,b2];have R:(f.map pN).length=e:=by simpa using c7
 obtain ⟨l,M⟩:∃l,l=f.map pN:=⟨_,rfl⟩;rw [<-M] at R ⊢;simp [R];have c2:(hU J.X r).length=e:=O;have d7:=LP.ind (P:=prog) (fl:=J.fl) (r:=RW (NI J D V' H' w s)) (lv:=[0,1,4,6,30,31,32]) (b:=λk=>a7 (qT k)) (λi:Nat=>e-i) (λi=>i<=e) (λi=>[.p true J.pv 0,I g,.p false 0 0,FO E i,.sl false l,I e,I i]) (λ_=>[TO.row [U 0,I 0,I 0,I 0] 0,TO.row [TV.v (Value.string r.name.val),I a,I e] 0]) (FT E (hU J.X r)) 2 (λi _=>⟨rfl,rfl,by cases i <;> rfl⟩) (λi hi k hk=>?_) 0 (zY _);simpa [FO,FT] using d7;obtain ⟨t,v⟩:∃t,FT E (hU J.X r) i=E++t:=FQ _ _ _;have p:=d.mI t;have ⟨f4,d9,f7,c3,f5,f6⟩:=p.vr.vm;simp only [Vm.cells,p.iv] at c3;rw [v];simp [qT];refine ST.dc (λf1=>?_) λe6=>?_;have h:=zA (l:=f) (i:=i) O;generalize f[i]=x at h;have d5:l[i]? =some [TV.v (Value.string x.name.val),I x.type]:=by rw [M,zJ,h];rfl
 have ⟨ty,z,b6,hz⟩:=c6 x (by rw [q] at h;exact yM (wD (zI h)));have d4:(hU J.X r)[i]? =some z:=by rw [d3,zJ,h];simp [b6,hz]
 have ⟨ZL,zm,z1,z2,z3,_,_,e1,f3,d8,c4⟩:=p.zv hz;simp only [Vm.cells] at c4;have K:=Gx (o:=true) d4 O d.lf;rw [v] at K;have wi:i64.wrap ((i:Int)+1)=((i+1:Nat):Int):=by rw [bW O O];omega
 simp at K z2;simp [d5,c4,b6,z1,z2,z3,K];simp only [wi];refine hk (i+1) _ _ _ ?_ ?_ ?_ O O <;> rfl;have c8:i=e:=by omega
 have dd:MS J D (E++t) V':=⟨A,p⟩;have d1:aO [] (E++t) (FO E i)=some ((hU J.X r).map aw):=by
  rw [<-v,c8];cases e with
  | zero=>have:=zK c2;rw [this];rfl
  | succ j=>show aO [] (E++[.aY j 4 (((hU J.X r).take (j+1)).map aw)]) (.m true E.length j 0 (j+1) 4)=_;rw [fX,zO O,zH (zC _)];have h5:((hU J.X r).map aw).take (j+1)=(hU J.X r).map aw:=yC (by rw [yQ];omega);simp [h5,c2]
 simp [Dt,c3,d.ih];have d2:aO [] (E++t) (dz (FO E i))=some ((hU J.X r).map aw):=by rw [<-d1];cases i <;> rfl
 have c:=c J D (E++t) (dz (FO E i)) V' hV dd d2 (by cases i <;> rfl) (by cases i <;> rfl) (by cases i <;> rfl);refine CL.of c (by cases i <;> rfl) λr s' hq=>?_;rcases hq with ⟨y,C,F⟩|⟨y,C,F⟩;subst C;simp;exact .inl ⟨y,rfl,F⟩;subst C;simp;exact .inr ⟨y,rfl,F⟩
end
def JF (X:Sg):Prop:=∀(H:Hp) (v:Vl),zj H->∃res:Option aU,(∀b,res=some b->b.size<=100000000)/\∀(e:ME) (a:Nat->Nat) (s:ae) (V':Vm),e.X=X->V'.H=H->MS e a s V'->EN prog 188 [X.S.q X.N,.p true e.ph 0,.ag (aw v)] s e.fl λr c=>r= .tu [.v (.string (res.getD ⟨#[]⟩)),B res.isSome]/\MS e a c V'
section
variable {J:ME} {D:Nat->Nat} {s h:ae} {V V':Vm} {A E:Lay} {n:Nat} {f:Fm} {a b:Vl} {H':Hp} {F':Fe}
theorem MD.row (d:MD J D s V A) (c:V'.H=V.H) (b:V'.F=V.F) (a:V'.aa=V.aa) (e:V'.time<=J.X.fuel) (f:SV A dK V.aa.length 1 x) (g:mh A pE J.X.zs.length 4 y):MS J D (s.set J.pv (.row (V'.cells J.X J.room J.dk A x y (.m true (A.id iM) (A.az iM) 0 J.X.g.ins.length 4) (.m true (A.id fe) (A.az fe) 0 J.X.S.fn.length 1)) 0)) V':=by have:=d.vr.Kr d.ij c b a e f g;rw [d.iv] at this;exact d.to this (by rw [a];exact zC _)
theorem yb {fl:Nat} {a b:List UInt8} {y:TV} {l s:ae} (h:aO l s y=some (b.map pP)) (d:a.length+b.length<=1000000000):cq false 1 1 0 fl (.sl true (a.map pP)) y l s=some (.sl true ((a++b).map pP),l,s):=by
 rw [Ke h];have c:fits ((a.map pP).length+(b.map pP).length) 1:=by unfold fits;exact decide_eq_true ⟨W,W⟩
 rw [zP ⟨Wz b,Wz a,c,O⟩,xR];split;rename_i h;rw [h];rfl
theorem Xv (X:Sg) (N:JF X) (V:Vm) (M:zj V.H) (x:V.out.length<=65536) (v:Vl):∃(y:Bool) (o:List UInt8),(V.out++o).length<=65536/\(y=false->o=[])/\∀(J:ME) (D:Nat->Nat) (s:ae) (V':Vm),J.X=X->V'.H=V.H->V'.out=V.out->MS J D s V'->EN prog 144 [.p true J.pv 0,.ag (aw v)] s J.fl λr h=>r=B y/\MS J D h {V' with out:=V.out++o}:=by
 have ⟨res,b1,c⟩:=N V.H v M;cases res with
 | none=>refine ⟨false,[],by simpa using x,λ_=>rfl,λJ D s V' g k f e=>?_⟩;have c:=c J D s V' g k e;subst g;have ⟨A,d⟩:=e;have ⟨v1,K,zv,m,v3,v4⟩:=d.vr.vm;simp only [Vm.cells,d.iv,d.ih] at m;apply EW.o LZ;simp [MP,m];refine CL.o c λr h ⟨w,n⟩=>?_;subst w;simp;rw [<-f];exact n
 | some t=>
  have ht:=b1 t rfl;have C:∀(J:ME) (D:Nat->Nat) (s:ae) (V':Vm) (Q:jw),J.X=X->V'.H=V.H->V'.out=V.out->MS J D s V'->
    (∀h,MS J D h V'->t.size+V.out.length≥65536->Q (B false) h)->(∀h,t.size+V.out.length<65536->MS J D h {V' with out:=V.out++(t.data.toList++[10])}->Q (B true) h)->
    EN prog 144 [.p true J.pv 0,.ag (aw v)] s J.fl Q:=by
   intro J D s V' Q g k f e k1 k2;have c:=c J D s V' g k e;subst g;have ⟨A,d⟩:=e;have ⟨v1,K,zv,m,v3,v4⟩:=d.vr.vm;simp only [Vm.cells,d.iv,d.ih] at m;apply EW.o LZ;simp [MP,m];refine CL.o c λr h ⟨w,n⟩=>?_;subst w;have b2:=n;have ⟨E,i⟩:=n;have ⟨b6,c5,c6,p,c2,c3⟩:=i.vr.vm;have q:=i.row (V':={V' with out:=V.out++(t.data.toList++[10])}) rfl rfl rfl i.vr.ti c2 c3;simp only [Vm.cells,i.iv,i.ih] at p q;have w1:i64.wrap (t.size:Int)=t.size:=bW O O;have w2:i64.wrap (65536-(V.out.length:Int))=65536-(V.out.length:Int):=bW O O;simp [p,f,w2];have P:=i.iv▸i.ij.lo _ b6;have R:=ab p;have L:=λc4:TO=>zF (a:=c4) R;apply ST.mk<;>intro e;simp;apply k1 _ b2;have:=yB e;omega;have h':=of_decide_eq_false e;have z:t.data.toList.length=t.size:=xS;have F:=λl s=>yb (fl:=J.fl) (a:=V.out) (b:=t.data.toList) (y:=.v (.string t)) (l:=l) (s:=s) (by simp [aO]) O;have H:=λ(o:Bool) l s=>yb (fl:=J.fl) (a:=V.out++t.data.toList) (b:=[10]) (y:=.sl o [[U 10]]) (l:=l) (s:=s) rfl W;simp at F H q;simp [p,f,P,L,F,H];apply k2 _ O;simpa using q
  by_cases hl:t.size+V.out.length≥65536;refine ⟨false,[],by simpa using x,λ_=>rfl,λJ D s V' g k f e=>C J D s V' _ g k f e (λh j _=>⟨rfl,?_⟩) λh j _=>absurd j O⟩;rw [<-f];simpa using j;refine ⟨true,t.data.toList++[10],?_,(λe=>by cases e),λJ D s V' g k f e=>C J D s V' _ g k f e (λh _ j=>absurd j O) λh _ j=>⟨rfl,j⟩⟩;have z:t.data.toList.length=t.size:=xS;rw [xB,xB,z];simp;omega
end
def Mz (c a:Nat) (b:ao) (bs:List UInt8):ao:=(b.set a (.p true c a)).set (a+1) (.sl true (bs.map pP))
structure Ic (s:ae) (id off z:Nat) (cs:ao) (bs:List UInt8):Prop where
 get:s[id]? =some (.row cs z)
 ad:cs[off]? =some (.v (.pointer none))\/cs[off]? =some (.p true id off)
 bf:cs[off+1]? =some (.sl true (bs.map pP))
 mark:pL z off
section
variable {J:ae} {id E fl D:Nat} {h:ao} {bs:List UInt8}
theorem Iq (a:Ic J id E D h bs) (f:fl<=id):lG id E J fl=some (J.set id (.row (h.set E (.p true id E)) D)):=by
 have d:=zX f;have j:=ab a.get;unfold lG;simp only [a.get,a.mark,d,and_self,if_true];rcases a.ad with b|b;simp only [b,eP];have g:=ab b;simp only [b,and_self,if_true];have c:h.set E (.p true id E)=h:=xF λi=>by by_cases e:i=E;subst e;rw [zF g,b];rw [zE (Ne.symm e)]
 rw [c];congr 1;exact (xF λi=>by by_cases e:i=id;subst e;rw [zF j,a.get];rw [zE (Ne.symm e)])
theorem Iy (a:Ic J id E D h bs) (f:fl<=id) (b:List UInt8) (i:bs.length+b.length<=1000000000):sO id E (b.map pP) (J.set id (.row (h.set E (.p true id E)) D)) fl=some (J.set id (.row (Mz id E h (bs++b)) D)):=by
 have e:=zX f;have g:=ab a.get;have c:(h.set E (.p true id E))[E+1]? =some (.sl true (bs.map pP)):=by rw [zE O];exact a.bf
 have d:fits ((bs.map pP).length+(b.map pP).length) 1:=by unfold fits;exact decide_eq_true ⟨W,W⟩
 unfold sO;rw [zF g];simp only [c];rw [zP ⟨a.mark,Wz b,Wz bs,d,e⟩,xU,<-List.map_append];rfl
theorem Zk (a:Ic J id E D h bs):EN prog 235 [.p true id E] J fl λr b=>r=I bs.length/\b=J:=by apply EN.o R0;simp [Tk,a.get,<-dS,a.bf]
theorem PB (b:Ic J id E D h bs) (j:bs≠[]) (g:fl<=id) (i:bs.length<=1000000000):EN prog 225 [.p true id E] J fl λr l=>r= .v (.string ⟨bs.toArray⟩)/\l=J.set id (.row (h.set (E+1) (.sl false (bs.map pP))) D):=by
 refine Ends.iN (f:=sy) Y Y ?_ ⟨rfl,rfl⟩;have d:=zX g;have e:∀bs:List UInt8,K9 (bs.map pP)=some bs:=λbs=>by
  induction bs with
  | nil=>rfl
  | cons a L k=>have:=a.toNat_lt;simp only [yS,pP,K9,k,zM];rw [zP ⟨O,O⟩];simp
 have e:=e bs;have c:=b.bf;unfold sy;cases bs with
 | nil=>exact absurd rfl j
 | cons a L=>simp at c e;simp only [b.get,c];rw [zP ⟨b.mark,d,by simp at i ⊢;omega⟩,e];rfl
theorem PA (a:Ic J id E D h bs) (t:aU) (b:fl<=id) (e:bs.length+t.size<=1000000000):EN prog 236 [.p true id E,.v (.string t)] J fl λr c=>r= .tu [I t.size,.v .nilIface]/\c=J.set id (.row (Mz id E h (bs++t.data.toList)) D):=by refine Ends.iN (f:=y0) Y Y ?_ ⟨rfl,rfl⟩;have d:=Iy a b t.data.toList (by have:t.data.toList.length=t.size:=xS;omega);show (lG id E J fl).bind _=_;rw [Iq a b];show (sO id E (t.data.toList.map pP) _ fl).map _=_;rw [d];rfl
theorem Pz (a:Ic J id E D h bs) (c:Nat) (g:c<256) (b:fl<=id) (i:bs.length+1<=1000000000):EN prog 238 [.p true id E,U c] J fl λr j=>r= .v .nilIface/\j=J.set id (.row (Mz id E h (bs++[UInt8.ofNat c])) D):=by
 refine Ends.iN (f:=xz) Y Y ?_ ⟨rfl,rfl⟩;have d:=Iy a b [UInt8.ofNat c] (Zs i);have e: [UInt8.ofNat c].map pP=[[U c]]:=by simp [Nat.mod_eq_of_lt g]
 rw [e] at d;show (lG id E J fl).bind _=_;rw [Iq a b];show (sO id E [[U c]] _ fl).map _=_;rw [d];rfl
end
theorem Ka {P:aB} {t:aP} {k:IntKind} {a b:Int}:cm P .and t (.v (.int k a)) (.v (.int k b))=some (.v (.int k (k.wrap (BitVec.ofInt k.bits a&&& BitVec.ofInt k.bits b).toNat))):=cy rfl rfl (F0 t k a b)
theorem US (n:Int):0<=u8.wrap (BitVec.ofInt u8.bits n&&& BitVec.ofInt u8.bits 15).toNat/\u8.wrap (BitVec.ofInt u8.bits n&&& BitVec.ofInt u8.bits 15).toNat<=15:=by
 have h:(BitVec.ofInt u8.bits n&&& BitVec.ofInt u8.bits 15).toNat<=15:=by
  rw [BitVec.toNat_and];apply yI Nat.and_le_right
  decide
 generalize (BitVec.ofInt u8.bits n&&& BitVec.ofInt u8.bits 15).toNat=m at h;have:=w8 (x:=(m:Int)) O O;rw [this];omega
theorem uX {a:cD}:bJ prog 77 9 (.sl q a) r s=(cN a).map λbs=>.v (.string ⟨bs.toArray⟩):=by have b:prog.underlying 77=some (.slice 5):=Y;have c:prog.underlying 9=some .string:=Y;have d:prog.underlying 5=some (.int .u8):=Y;unfold bJ;simp
theorem Zj (n:Nat) (X:n<256):∃t:aU,t.size<=4/\EP prog 237 [U n] (· = .v (.string t)):=by
 by_cases f:(n:Int)=34;refine ⟨⟨#[92,34]⟩,by decide,EP.o vW λs Q c=>?_⟩;simp [tK,f,uX,cN];exact c _ rfl;by_cases g:(n:Int)=92;refine ⟨⟨#[92,92]⟩,by decide,EP.o vW λs Q c=>?_⟩;simp [tK,g,uX,cN];exact c _ rfl;by_cases h:(n:Int)=10;refine ⟨⟨#[92,110]⟩,by decide,EP.o vW λs Q c=>?_⟩;simp [tK,h];exact c _ rfl;by_cases i:(n:Int)=9;refine ⟨⟨#[92,116]⟩,by decide,EP.o vW λs Q c=>?_⟩;simp [tK,i];exact c _ rfl;by_cases j:(n:Int)<32\/(126:Int)<n;obtain ⟨x,C⟩:∃x:Int,x=(n:Int).fdiv (2^4):=⟨_,rfl⟩;have M:0<=x/\x<=15:=by rw [C,Int.fdiv_eq_ediv_of_nonneg _ O];omega
 have L:min (Int.toNat 4) u8.bits=4:=Y;have q:=CH (P:=prog) (t:=5) (k:=.u8) (k':=.u64) (a:=n) (b:=4) O;rw [L,<-C] at q;have F:u8.wrap (x+1)=x+1:=w8 O O;obtain ⟨y,E⟩:∃y,y=u8.wrap (BitVec.ofInt u8.bits n&&& BitVec.ofInt u8.bits 15).toNat:=⟨_,rfl⟩;have N:=E▸US n;have r:=Ka (P:=prog) (t:=5) (k:=.u8) (a:=n) (b:=15);rw [<-E] at r;have H:u8.wrap (y+1)=y+1:=w8 O O;obtain ⟨D,A⟩:∃D:aU,D=⟨#[48,49,50,51,52,53,54,55,56,57,97,98,99,100,101,102]⟩:=⟨_,rfl⟩;have R:D.size=16:=by rw [A];decide
 have o:=λ(l s:ae)=>A2 (k:=.u8) (k':=.u8) (hi:=x+1) (b:=D) (l:=l) (s:=s) M.1 O O;have p:=λ(l s:ae)=>A2 (k:=.u8) (k':=.u8) (lo:=y) (hi:=y+1) (b:=D) (l:=l) (s:=s) N.1 O O;have z1:(D.extract x.toNat (x+1).toNat).size<=1:=by rw [xJ];omega
 have z2:(D.extract y.toNat (y+1).toNat).size<=1:=by rw [xJ];omega
 generalize D.extract x.toNat (x+1).toNat=d at*;generalize D.extract y.toNat (y+1).toNat=w at*;rw [A] at o p;have J:(⟨#[92,120]⟩:aU).size=2:=by decide
 have c1:=iZ (P:=prog) (t:=9) ⟨#[92,120]⟩ d O;have K:((⟨#[92,120]⟩:aU)++d).size=2+d.size:=by rw [yY,J]
 have v:=iZ (P:=prog) (t:=9) (⟨#[92,120]⟩++d) w O;refine ⟨⟨#[92,120]⟩++d++w,by rw [yY,K];omega,EP.o vW λs Q c=>?_⟩;have z:=c _ rfl;by_cases m:(n:Int)<32;simp [tK,zB f,zB g,zB h,zB i,zL m,q,r,F,H,o,p,c1,v];exact z;simp [tK,zB f,zB g,zB h,zB i,zB m,zL (j.resolve_left m),q,r,F,H,o,p,c1,v];exact z;refine ⟨⟨#[UInt8.ofNat n]⟩,by show (1:Nat)<=4;omega,EP.o vW λs Q c=>?_⟩;have a3:=λe=>j (.inl e);have a4:=λe=>j (.inr e);simp [tK,zB f,zB g,zB h,zB i,zB a3,zB a4,uX,cN];exact c _ rfl
theorem Jo:∃f:Nat->aU,∀n,n<256->(f n).size<=4/\EP prog 237 [U n] (· = .v (.string (f n))):=by
 have h:∀n:Nat,∃t:aU,n<256->t.size<=4/\EP prog 237 [U n] (· = .v (.string t)):=λn=>by by_cases a:n<256;have ⟨t,b⟩:=Zj n a;exact ⟨t,λ_=>b⟩;exact ⟨⟨#[]⟩,λh=>absurd h a⟩
 exact ⟨λn=>Classical.choose (h n),λn a=>Classical.choose_spec (h n) a⟩
theorem Zn (b:aU) (A:b.size<=100000000):∃n:Int,EP prog 231 [.v (.string b)] (· =I n):=by
 have ⟨f,a⟩:=Jo;obtain ⟨g,e⟩:∃g:Nat->Nat,g=λj=>(f (b.data.toList.getD j 0).toNat).size:=⟨_,rfl⟩;obtain ⟨q,r,t,v⟩:∃q:Nat->Nat,q 0=2/\(∀j,q (j+1)=q j+g j)/\∀j,q j<=2+4*j:=by
  refine ⟨λj=>Nat.rec 2 (λj x=>x+g j) j,rfl,λj=>rfl,λj=>?_⟩;induction j with
  | zero=>exact zC 2
  | succ j w=>
   have:g j<=4:=by rw [e];exact (a _ (UInt8.toNat_lt _)).1
   simp only at w ⊢;omega
 refine ⟨q b.size,EP.o R4 λs Q l=>?_⟩;simp [To];rw [show (2:Int)=((q 0:Nat):Int) by rw [r];rfl];refine LP.ind (λx:Nat=>b.size-x) (λx=>x<=b.size) (λx=>[.v (.string b),I (q x),I b.size,I x]) (λ_=>[]) (λ_=>s) 0 (λ_ _=>⟨rfl,rfl,rfl⟩) (λj C k p=>?_) 0 (zY _);simp [uj];apply ST.dc<;>intro h;have c1:=(a (b.data.toList.getD j 0).toNat (UInt8.toNat_lt _)).2;have y:=wn (j:=j) O;have D:=v j;have E:q (j+1)=q j+(f (b.data.toList.getD j 0).toNat).size:=by rw [t,e]
 have z:=(a (b.data.toList.getD j 0).toNat (UInt8.toNat_lt _)).1;have d:=sF (k:=.i64) (m:=(j:Int)) (b:=b) ⟨O,O⟩;rw [show ((j:Int)).toNat=j by omega] at d;have i:i64.wrap ((q j:Int)+((f (b.data.toList.getD j 0).toNat).size:Nat))=((q (j+1):Nat):Int):=by rw [bW O O];omega
 obtain ⟨c,o⟩:∃c:Nat,c=(b.data.toList.getD j 0).toNat:=⟨_,rfl⟩;rw [<-o] at d c1 i;simp [d,CP.q c1,i,y];refine p (j+1) _ _ _ Z rfl rfl O (by show b.size-(j+1)<b.size-j;omega);have:j=b.size:=by omega
 subst this;simp [D8];exact l _ rfl
theorem Zm (b:aU) (hb:b.size<=100000000):∃t:aU,(0<t.size/\t.size<=4*b.size+2)/\EP prog 232 [.v (.string b)] (· = .v (.string t)):=by
 have ⟨f,l⟩:=Jo;obtain ⟨g,v⟩:∃g:Nat->List UInt8,g=λj=>(f (b.data.toList.getD j 0).toNat).data.toList:=⟨_,rfl⟩;have K:∀j,(g j).length<=4:=λj=>by rw [v];have:=(l (b.data.toList.getD j 0).toNat (UInt8.toNat_lt _)).1;simpa using this
 obtain ⟨q,N,P,n⟩:∃q:Nat->List UInt8,q 0=[34]/\(∀j,q (j+1)=q j++g j)/\∀j,(q j).length<=1+4*j:=by
  refine ⟨λj=>Nat.rec [34] (λj x=>x++g j) j,rfl,λj=>rfl,λj=>?_⟩;induction j with
  | zero=>exact zC 1
  | succ j R=>have:=K j;simp at R ⊢;omega
 refine ⟨⟨(q b.size++[34]).toArray⟩,?_,EP.o R3 λs Q H=>?_⟩;have:=n b.size;show 0<(q b.size++[34]).toArray.size/\(q b.size++[34]).toArray.size<=_;simp;omega;have gp:=λx:TO=>(by simp:(s++[x])[s.length]? =some x);have sp:=λx y:TO=>(by simp:(s++[x]).set s.length y=s++[y]);have A:Ic (s++[.row FF 1000339]) s.length 0 1000339 FF []:=⟨gp _,.inl rfl,rfl,Y⟩;obtain ⟨C,k⟩:∃C:List UInt8->ao,C=λbs=>[.p true s.length 0,.sl true (bs.map pP)]:=⟨_,rfl⟩;have bl:∀bs,Ic (s++[.row (C bs) 1000339]) s.length 0 1000339 (C bs) bs:=λbs=>⟨gp _,.inr (by rw [k];rfl),by rw [k];rfl,Y⟩;have p:∀bs a,Mz s.length 0 (C bs) a=C a:=λbs a=>by rw [k];rfl
 have D:∀a,Mz s.length 0 FF a=C a:=λa=>by rw [k];rfl
 simp [Tn];refine CL.o (Pz A 34 O (zC _) Z) λr z ⟨e,i⟩=>?_;subst e;subst i;rw [sp,D];simp;rw [show (C ([]++[UInt8.ofNat 34]))=C (q 0) by rw [N];rfl];refine LP.ind (lv:=[0,3,7,8]) (λx:Nat=>b.size-x) (λx=>x<=b.size) (λx=>[.v (.string b),.p true s.length 0,I b.size,I x]) (λ_=>[]) (λx=>s++[.row (C (q x)) 1000339]) 0 (λ_ _=>⟨rfl,rfl,rfl⟩) (λj hj b1 L=>?_) 0 (zY _);simp [ui];apply ST.dc<;>intro h;have c1:=(l (b.data.toList.getD j 0).toNat (UInt8.toNat_lt _)).2;have X:=wn (j:=j) O;have M:=n j;have F:=(l (b.data.toList.getD j 0).toNat (UInt8.toNat_lt _)).1;have o:=sF (k:=.i64) (m:=(j:Int)) (b:=b) ⟨O,O⟩;have w:q (j+1)=q j++(f (b.data.toList.getD j 0).toNat).data.toList:=by rw [P,v]
 rw [show ((j:Int)).toNat=j by omega] at o;obtain ⟨c,J⟩:∃c:Nat,c=(b.data.toList.getD j 0).toNat:=⟨_,rfl⟩;rw [<-J] at o c1 w F;have d:=PA (bl (q j)) (f c) (zC s.length) O;rw [sp,p,<-w] at d;simp [o,CP.q c1];refine CL.o d λr z ⟨e,i⟩=>?_;subst e;subst i;simp [X];refine L (j+1) _ _ _ Z rfl rfl O (by show b.size-(j+1)<b.size-j;omega);have:j=b.size:=by omega
 subst this;have M:=n b.size;have d:=Pz (bl (q b.size)) 34 O (zC s.length) O;rw [sp,p] at d;have E:=PB (bl (q b.size++[UInt8.ofNat 34])) Z (zC _) W;simp [D7];refine CL.o d λr z ⟨e,i⟩=>?_;subst e;subst i;simp [CL.q E];exact H _ rfl
@[simp] theorem Wj (h:a≠11):As 1000341 a 1:=by
 unfold As;rw [show Nat.ble 1000341 999999=false from rfl,show gw 1000341=some (341,10,14) by simp [gw]];simp;by_cases b:a<=11;have:Nat.ble (10+2) (a+1)=false:=by
  cases e:Nat.ble (10+2) (a+1) with
  | false=>rfl
  | true=>have:=yN e;omega
 rw [this];simp;have:Nat.ble a (10+1)=false:=by
  cases e:Nat.ble a (10+1) with
  | false=>rfl
  | true=>have:=yN e;omega
 rw [this];simp
@[simp] theorem WG {d e f g h i j k l m:TV}:pR 1000341 [x,y,z,d,e,f,g,h,i,j,k,.sl q [],l,m]:=Y
structure PZ where
 out:List UInt8
 ad:Bool
 mp:Array MapEntry
 cl:Nat
 fJ:Bool
def PZ.put (st:PZ) (t:aU):PZ:=if st.fJ=true\/65536<st.out.length+t.size then {st with fJ:=true} else {st with out:=st.out++t.data.toList,ad:=true}
section
variable {N:List Nd} {S:SS} {hp:TV} {pre:ae} {st:PZ} {fl:Nat}
def PC (N:List Nd) (S:SS) (hp:TV) (b:Nat) (st:PZ):ao:=[.sl false (N.map bG),.sl false (S.ma.map ic),.sl false (S.ty.map dM),.sl false (S.rc.map sR),.sl false (S.fd.map pN),.sl false (S.fn.map ju),.sl false (S.sl.map bt),.sl false (S.va.map s7),.sl false (S.pt.map vB),hp,if st.ad=true then .p true (b+1) 10 else .v (.pointer none),.sl true (st.out.map pP),.mp b,B st.fJ]
def PM (N:List Nd) (S:SS) (hp:TV) (pre:ae) (st:PZ):ae:=pre++[.mp st.mp st.cl,.row (PC N S hp pre.length st) 1000341]
theorem WL:(PM N S hp pre st)[pre.length]? =some (.mp st.mp st.cl):=by rw [PM,gp0];rfl
theorem mR:(PM N S hp pre st)[pre.length+1]? =some (.row (PC N S hp pre.length st) 1000341):=by rw [PM,gp];rfl
theorem I8 {st':PZ} (a:st'.mp=st.mp) (b:st'.cl=st.cl):(PM N S hp pre st).set (pre.length+1) (.row (PC N S hp pre.length st') 1000341)=PM N S hp pre st':=by rw [PM,sp];simp [PM,a,b]
theorem PMb:Ic (PM N S hp pre st) (pre.length+1) 10 1000341 (PC N S hp pre.length st) st.out:=⟨mR,by unfold PC;cases st.ad <;> simp,by unfold PC;rfl,Y⟩
theorem PMl {a:List UInt8}:Mz (pre.length+1) 10 (PC N S hp pre.length st) a=PC N S hp pre.length {st with out:=a,ad:=true}:=by unfold Mz PC;simp
theorem vK (k:fl<=pre.length) (t:aU) (l:st.out.length<=65536) (m:t.size<=500000000):EN prog 230 [.p true (pre.length+1) 0,.v (.string t)] (PM N S hp pre st) fl λr d=>r= .tu []/\d=PM N S hp pre (st.put t):=by
 have c:Nat.ble fl (pre.length+1):=zX O;apply EW.o R5;cases a:st.fJ with
 | true=>
  have e:st.put t=st:=by unfold PZ.put;rw [zP (.inl a)];cases st;simp only at a;subst a;rfl
  rw [e];have j:PC N S hp pre.length st=PC N S hp pre.length {st with fJ:=true}:=by cases st;simp only at a;subst a;rfl
  have:=I8 (N:=N) (S:=S) (hp:=hp) (pre:=pre) (st':=st) rfl rfl;simp only [PC,a] at this;simp [MC,mR,PC,a,c];exact this
 | false=>
  have c1:=Zk (fl:=fl) (PMb (N:=N) (S:=S) (hp:=hp) (pre:=pre) (st:=st));have b:=λh=>PA (fl:=fl) (PMb (N:=N) (S:=S) (hp:=hp) (pre:=pre) (st:=st)) t O h;rw [PMl] at b;have w:i64.wrap (65536-(st.out.length:Int))=65536-(st.out.length:Int):=bW O O;simp [MC,mR,PC,a,CL.q c1,w];apply ST.mk<;>intro h;have f:=yB h;have e:st.put t={st with fJ:=true}:=by unfold PZ.put;rw [zP (.inr O)]
  have:=I8 (N:=N) (S:=S) (hp:=hp) (pre:=pre) (st:=st) (st':={st with fJ:=true}) rfl rfl;simp only [PC] at this;rw [e];simp [mR,PC,a,c];exact this;have f:=of_decide_eq_false h;have e:st.put t={st with out:=st.out++t.data.toList,ad:=true}:=by unfold PZ.put;rw [zO (by rw [a];simp;omega)]
  rw [e];simp;refine CL.o (b O) λr d ⟨g,i⟩=>?_;subst g;subst i;simp;exact I8 rfl rfl
end
def AE (e:MapEntry):Int:=match e.key with
 | .int _ n=>n
 | _=>0
def KI (L:List MapEntry):Prop:=∀e∈L,∃(a:Int) (b:Nat),e.key= .int .i64 a/\e.val= .int .i64 b/\b<=100000000
def sf (L:List MapEntry) (a:Int):Bool:=L.all λe=> !decide (AE e=a)
theorem QS (a:Int):∀(L:List MapEntry) (i:Nat),KI L->(sf L a=true->Instr.findNow (.int .i64) (.int .i64 a) L i=some none)/\(sf L a=false->∃j,∃e∈L,Instr.findNow (.int .i64) (.int .i64 a) L i=some (some (j,e.val))):=by
 intro L;induction L with
 | nil=>intro i _;exact ⟨λ_=>rfl,λh=>by simp [sf] at h⟩
 | cons e L r=>
  intro i h;have ⟨b,k,d,s,_⟩:=h e (xO ..);have o:AE e=b:=by unfold AE;rw [d]
  have g:=r (i+1) λx q=>h x (yU _ q);have p:sf (e::L) a=(!decide (b=a)&&sf L a):=by simp [sf,o]
  rw [p];by_cases f:a=b;subst f;have c:Instr.sameNow (.int .i64) (.int .i64 a) e.key=some true:=by rw [d];simp [Instr.sameNow]
  refine ⟨λh=>by simp at h,λ_=>⟨i,e,xO ..,by simp only [Instr.findNow,c]⟩⟩;have c:Instr.sameNow (.int .i64) (.int .i64 a) e.key=some false:=by rw [d];simp [Instr.sameNow,f]
  have n:decide (b=a)=false:=decide_eq_false λe=>f e.symm;rw [n];refine ⟨λh=>?_,λh=>?_⟩;simp only [Instr.findNow,c];exact g.1 (Zs h);have ⟨j,x,l,m⟩:=g.2 (Zs h);exact ⟨j,x,yU _ l,by simp only [Instr.findNow,c];exact m⟩
def u0 (n:Nat) (L:List MapEntry):Nat:=((List.range n).map λ(i:Nat)=>if sf L ((i:Int)+1)=true then 1 else 0).sum
theorem Ki {b:Type} (f g:b->Nat) (L:List b) (h:∀x∈L,f x<=g x):(L.map f).sum<=(L.map g).sum:=by
 induction L with
 | nil=>simp
 | cons a L d=>have e:=h a (xO ..);have i:=d λx c=>h x (yU _ c);simp;omega
theorem Kh {d:Type} (f g:d->Nat) (L:List d) (h:∀x∈L,f x<=g x) {y:d} (b:y∈L) (k:f y<g y):(L.map f).sum<(L.map g).sum:=by
 induction L with
 | nil=>cases b
 | cons a L e=>have i:=h a (xO ..);have j:=Ki f g L λx c=>h x (yU _ c);rcases yL.1 b with rfl|b;simp;omega;have:=e (λx c=>h x (yU _ c)) b;simp;omega
theorem xb (L:List MapEntry) (e:MapEntry) (a:Int):sf (L++[e]) a=(sf L a&& !decide (AE e=a)):=by simp [sf]
theorem DZ {L:List MapEntry} {e:MapEntry} (c:b<a) (d:AE e=(b:Int)+1) (f:sf L ((b:Int)+1)):u0 a (L++[e])<u0 a L:=by refine Kh _ _ _ (λx _=>?_) (wE.2 c) ?_;rw [xb];cases sf L ((x:Int)+1) <;> simp;split <;> omega;rw [xb,f,d];simp
theorem Hg (n:Nat):u0 n []=n:=by
 unfold u0;induction n with
 | zero=>rfl
 | succ n a=>rw [xV,xR,List.sum_append,a];simp [sf]
def Cs (a:Int):Option TO->eh
 | some (.mp b _)=>match Instr.findNow (.int .i64) (.int .i64 a) b.toList 0 with
  | some (some (_,v))=>some (.tu [c1 v,B true])
  | some none=>some (.tu [I 0,B false])
  | none=>none
 | _=>none
theorem Ct (a:Int) (b:Nat) (l s:ae):Ft prog 336 true (.mp b) (I a) l s=Cs a s[b]? :=by have c:prog.underlying 336=some (.map 2 3):=Y;have d:prog.underlying 2=some (.int .i64):=Y;have e:(prog.info? 3).bind (·.zero)=some (.int .i64 0):=Y;unfold Ft;rw [c];simp;unfold sD Cs;simp;rcases s[b]? with _|o;rfl;cases o <;> rfl
def Gg (a:Int) (k:Int) (d c:Nat) (l s:ae):Option TO->Option (ae×ae)
 | some (.mp b cl)=>if Nat.ble d c=true then match Instr.findNow (.int .i64) (.int .i64 a) b.toList 0 with
   | some (some (i,_))=>if Instr.sameBits 10000 (((b[i]?).map (·.key)).getD (.int .i64 a)) (.int .i64 a)=true then some (l,s.set c (.mp (b.modify i λe=>{e with key:=.int .i64 a,val:=.int .i64 k}) cl)) else none
   | some none=>some (l,s.set c (.mp (b.push {key:=.int .i64 a,val:=.int .i64 k,born:=cl}) (cl+1)))
   | none=>none
  else none
 | _=>none
theorem Pr (a:Int) (k:Int) (b c:Nat) (l s:ae):Q.KM prog 336 c (.mp b) (I a) (I k) l s=Gg a k c b l s s[b]? :=by have d:prog.underlying 336=some (.map 2 3):=Y;have e:prog.underlying 2=some (.int .i64):=Y;unfold Q.KM;rw [d];simp;unfold zy Gg;simp only [T.ob,cond_true,keyed,ak,wr,put,true_and];rcases s[b]? with _|o;rfl;cases o <;> rfl
theorem K4 {l:ae} {b:Array MapEntry} {cl:Nat} (h:r[a]? =some (.mp b cl)):eO prog 336 (.mp a) l r=some (I (b.size:Nat)):=by have c:prog.underlying 336=some (.map 2 3):=Y;unfold eO;rw [c];simp only [T.ob,cond_true,h]
structure PZ.OK (n:Nat) (st:PZ):Prop where
 ki:KI st.mp.toList
 out:st.out.length<=65536
 sz:st.mp.size+u0 n st.mp.toList<=n
structure PZ.Le (n:Nat) (st st':PZ):Prop where
 mu:u0 n st'.mp.toList<=u0 n st.mp.toList
 lg:st.fJ->st'=st
section
variable {n:Nat} {st D E:PZ}
theorem PZ.Le.refl (st:PZ):PZ.Le n st st:=⟨zC _,λ_=>rfl⟩
theorem PZ.Le.trans (h:PZ.Le n st D) (a:PZ.Le n D E):PZ.Le n st E:=⟨yI a.mu h.mu,λe=>by have:=h.lg e;subst this;exact a.lg e⟩
theorem sS {t:aU} (h:st.fJ):st.put t=st:=by unfold PZ.put;rw [zP (.inl h)];cases st;simp only at h;subst h;rfl
theorem mD {t:aU}:(st.put t).mp=st.mp:=by unfold PZ.put;split <;> rfl
theorem PZ.OK.put {t:aU} (h:PZ.OK n st):PZ.OK n (st.put t):=by refine ⟨by rw [mD];exact h.ki,?_,by rw [mD];exact h.sz⟩;have:=h.out;unfold PZ.put;split;exact this;rename_i a;have b:t.data.toList.length=t.size:=xS;simp;omega
theorem PZ.Le.put {t:aU}:PZ.Le n st (st.put t):=⟨by rw [mD];exact zC _,sS⟩
theorem rB {t:aU} (h:0<t.size) (a:(st.put t).fJ=false):(st.put t).out≠[]:=by unfold PZ.put at a ⊢;split at a;cases a;rename_i b;rw [zO b];have c:t.data.toList.length=t.size:=xS;intro e;have:=yH List.length e;simp only [xB,c,List.length_nil] at this;omega
theorem PZ.OK.lng (h:PZ.OK n st):PZ.OK n {st with fJ:=true}:=⟨h.ki,h.out,h.sz⟩
theorem PZ.Le.lng:PZ.Le n st {st with fJ:=true}:=⟨zC _,λh=>by cases st;simp only at h;subst h;rfl⟩
end
section
variable {N:List Nd} {S:SS} {H:Hp} {st:PZ}
def I9 (A:Lay) (a:ae):Prop:=∀r,A.al r->A.id r<a.length
def VS (N:List Nd) (S:SS) (H:Hp) (K:Nat) (st:PZ) (v:Vl) (b:PZ):Prop:=PZ.OK H.aD.length b/\PZ.Le H.aD.length st b/\(b.fJ=false->b.out≠[])/\∀(A:Lay) (a:ae) (d c:Nat),HR A a d H->I9 A a->c<=a.length->EN prog K [.p true (a.length+1) 0,.ag (aw v)] (PM N S (.p true (A.id bY) 0) a st) c λr e=>r= .tu []/\e=PM N S (.p true (A.id bY) 0) a b
theorem qu {A:Lay} {hp:TV} (h:HR A r a H) (c:I9 A r):HR A (PM N S hp r st) a H:=h.tV (λh=>h) ⟨λ_ _=>⟨rfl,rfl,rfl⟩,λd b _=>zD (c d b),λ_ _=>⟨rfl,rfl⟩⟩ λ_ _=>.inl λh=>h
theorem Zq (L:kz) (hH:zj H) (C:PZ.OK H.aD.length st) (v:Vl) (P:v.k=6\/v.k=7->∃l,VS N S H 233 st v l):∃l,VS N S H 224 st v l:=by
 have o:∀t:aU,0<t.size->t.size<=500000000->(∀(A:Lay) (a:ae) (f d:Nat),HR A a f H->I9 A a->d<=a.length->∀Q:jw,(CL prog 230 [.p true (a.length+1) 0,.v (.string t)] d (λ_=>rt (X:=Xc prog d (RW Q)) (.tu [])) [.row (aw v) 0] (PM N S (.p true (A.id bY) 0) a st))->EN prog 224 [.p true (a.length+1) 0,.ag (aw v)] (PM N S (.p true (A.id bY) 0) a st) d Q)->∃l,VS N S H 224 st v l:=λt hp ht b2=>by refine ⟨st.put t,C.put,.put,rB hp,λA a f d h g i=>b2 A a f d h g i _ ?_⟩;refine CL.o (vK i t C.out ht) λr R ⟨q,s⟩=>?_;subst q;subst s;simp
 by_cases j:v.k=1;have ⟨t,w,c⟩:=L.tx v.n (v.ok j);refine o t (K1 (v.ok j) c) O λA a f d h g i Q e=>EW.o oR ?_;simp at e;simp [oZ,zL j,CP.q c];exact e;by_cases k:v.k=2;have ⟨t,w,c⟩:=PD (!decide (v.n=0));refine o t w.1 O λA a f d h g i Q e=>EW.o oR ?_;simp at e c;simp [oZ,zL k,zB j];simp [CP.q c];exact e;by_cases m:v.k=4;have ⟨t,w,c⟩:=L.gx v.re v.im;refine o t (LG c) O λA a f d h g i Q e=>EW.o oR ?_;simp at e;simp [oZ,zL m,zB j,zB k,CP.q c];exact e;by_cases n:v.k=5;refine o ⟨#[110,105,108]⟩ (by decide) (by decide) λA a f d h g i Q e=>EW.o oR ?_;simp at e;simp [oZ,zL n,zB j,zB k,zB m];exact e;by_cases p:v.k=3;have c1:=λ(A:Lay) (a:ae) (f d:Nat) (h:HR A a f H) (g:I9 A a)=>Ax (fl:=d) (v:=v) (qu (N:=N) (S:=S) (st:=st) (hp:=.p true (A.id bY) 0) h g);simp at c1;cases y:H.text v with
 | none=>refine o ⟨#[63]⟩ (by decide) (by decide) λA a f d h g i Q e=>EW.o oR ?_;have c1:=c1 A a f d h g;rw [y] at c1;simp at e;simp [oZ,zL p,zB j,zB k,zB m,zB n,mR,PC,CL.q c1];exact e
 | some b=>have hb:=Hp.nu hH y;have ⟨b6,K⟩:=Zn b O;have ⟨t,w,c3⟩:=Zm b O;by_cases M:65536<b6;refine ⟨{st with fJ:=true},C.lng,.lng,(λh=>by cases h),λA a f d h g i=>EW.o oR ?_⟩;have b1:Nat.ble d (a.length+1):=zX O;have c1:=c1 A a f d h g;rw [y] at c1;have:=I8 (N:=N) (S:=S) (hp:=.p true (A.id bY) 0) (pre:=a) (st:=st) (st':={st with fJ:=true}) rfl rfl;simp only [PC] at this;simp [oZ,zL p,zB j,zB k,zB m,zB n,mR,PC,CL.q c1,CP.q K,zL M,b1];exact this;refine o t w.1 O λA a f d h g i Q e=>EW.o oR ?_;have c1:=c1 A a f d h g;rw [y] at c1;simp at e;simp [oZ,zL p,zB j,zB k,zB m,zB n,mR,PC,CL.q c1,CP.q K,zB M,CP.q c3];exact e
 by_cases x:v.k=7;have ⟨l,E,F,D,J⟩:=P (.inr x);refine ⟨l,E,F,D,λA a f d h g i=>EW.o oR ?_⟩;have c:=J A a f d h g i;simp at c;simp [oZ,zL x,zB j,zB k,zB p,zB m,zB n];refine CL.o c λr R ⟨q,s⟩=>?_;subst q;subst s;simp;by_cases z:v.k=6;have ⟨l,E,F,D,J⟩:=P (.inl z);refine ⟨l,E,F,D,λA a f d h g i=>EW.o oR ?_⟩;have c:=J A a f d h g i;simp at c;simp [oZ,zL z,zB x,zB j,zB k,zB p,zB m,zB n];refine CL.o c λr R ⟨q,s⟩=>?_;subst q;subst s;simp;refine o ⟨#[63]⟩ (by decide) (by decide) λA a f d h g i Q e=>EW.o oR ?_;simp at e;simp [oZ,zB z,zB x,zB j,zB k,zB p,zB m,zB n];exact e
end
theorem Oe {L:List Fd} {l s:ae} {a b:Nat} (h:a<=b) (c:b<=L.length):aK prog 29 (some (I a)) (some (I b)) none l s (.sl false (L.map pN))=some (.sl false (((L.take b).drop a).map pN)):=by rw [mj (el:=215) Y Y (kC 0 a .i64) (kC _ b .i64) h (Zs c) (kh (k:=2) (λx=>rfl) L)];simp
theorem LA {P:aB} {b:jw} {A:TV->RA (Xc P a b)} {f:(TV->RA (Xc P a b))->RA (Xc P a b)} (I:dL) (c:∀v r s,I v r s->PR (A v r s)) (d:∀j:dL,(∀v r s,I v r s->j v r s)->f j r s):jn (X:=Xc P a b) A f r s:=d A c
theorem Z8:∀(k a:Nat),a<10^(k+1)->Lib.nDigits a<=k+1:=by
 intro k;induction k with
 | zero=>intro a h;rw [Lib.nDigits_small (Zs h)];exact zC _
 | succ k c=>intro a h;by_cases b:a<10;rw [Lib.nDigits_small b];omega;rw [Lib.nDigits_big b];have:=c (a/10) (by rw [Nat.pow_succ] at h;omega);omega
def QH (b:Int):aU:=⟨(Lib.itoa b).toArray⟩
theorem Ek (h:a<=100000000):(QH a).size<=9:=by show (Lib.itoa a).toArray.size<=9;unfold Lib.itoa;rw [zO O,Lib.decDigits_eq];have:=Z8 8 ((a:Int).toNat) O;simpa using this
theorem Zi (h:a<=100000000):EP prog 240 [I a] (· = .v (.string (QH a))):=λs b=>by refine Ends.iN (f:=nP) Y Y ?_ ⟨rfl,rfl⟩;show (if 0<=(a:Int)/\(a:Int)<1000000000 then some (TV.v (.string ⟨(Lib.itoa a).toArray⟩),s) else none)=_;rw [zP O];rfl
section
variable {N:List Nd} {S:SS} {H:Hp} {st:PZ}
theorem OE {v:Vl} (g:v.k=6\/v.k=7) (h:(H.sz v).2=0):∃(i:Nat) (o:Ob),H.at v=some i/\H.aD[i]? =some o/\o.kind=v.k/\v.n=(i:Int)+1/\H.sz v=((o.bA.length:Int),0)/\H.of v=o.of:=by
 have b:¬v.k=3:=O;unfold Hp.sz at h;rw [zO (λe=>b e.1)] at h;cases a:H.at v with
 | none=>rw [a] at h;simp at h
 | some i=>have ⟨o,c,d,f⟩:=Hp.iy a;refine ⟨i,o,rfl,c,d,f,?_,?_⟩;unfold Hp.sz;rw [zO (λe=>b e.1),a];simp [c,b];unfold Hp.of;rw [a];simp [c]
theorem UU {m:Array MapEntry}:(PM N S x r st).set r.length (.mp m a)=PM N S x r {st with mp:=m,cl:=a}:=by simp [PM,PC]
def Ny (S:SS) (a:Int):Option (List Fd)->aU
 | some _=>((S.rc.map λr=>r.name.1).getD a.toNat ⟨#[]⟩)++⟨#[123]⟩
 | none=>⟨#[91]⟩
def Wx:Option (List Fd)->aU
 | some _=>⟨#[125]⟩
 | none=>⟨#[93]⟩
def Ng:Option (List Fd)->TV
 | some f=>.sl false (f.map pN)
 | none=>.sl true []
theorem vd {a b:aU} (h:0<a.size):0<(a++b).size:=by rw [yY];omega
def LL:Fd:=⟨dm,0⟩
def PZ.pr (F:Option (List Fd)) (i:Nat) (st:PZ):PZ:=match F with
 | some F=>(if 0<i then st.put ⟨#[44,32]⟩ else st).put ((F.getD i LL).name.1++⟨#[58,32]⟩)
 | none=>if 0<i then st.put ⟨#[44,32]⟩ else st
theorem PZ.OK.pr {n i:Nat} {F:Option (List Fd)} (h:PZ.OK n st):PZ.OK n (st.pr F i):=by
 have a:PZ.OK n (if 0<i then st.put ⟨#[44,32]⟩ else st):=by split;exact h.put;exact h
 unfold PZ.pr;split;exact a.put;exact a
theorem PZ.Le.pr {n i:Nat} {F:Option (List Fd)}:PZ.Le n st (st.pr F i):=by
 have a:PZ.Le n st (if 0<i then st.put ⟨#[44,32]⟩ else st):=by split;exact .put;exact .refl _
 unfold PZ.pr;split;exact a.trans .put;exact a
theorem H8 (K:∀c,PZ.OK H.aD.length c->u0 H.aD.length c.mp.toList<a->∀v,∃R,VS N S H 224 c v R) (F:Option (List Fd)) (w:Nat->Vl) (c:PZ) (C:PZ.OK H.aD.length c) (t:u0 H.aD.length c.mp.toList<a):
  ∃g:Nat->PZ,g 0=c/\(∀i,PZ.OK H.aD.length (g i))/\(∀i,PZ.Le H.aD.length c (g i))/\(∀i,VS N S H 224 ((g i).pr F i) (w i) (g (i+1)))/\∀i,((g i).pr F i).fJ->∀j,i<j->g j=(g i).pr F i:=by
 have r:∀(s:PZ) (v:Vl),∃m:PZ,PZ.OK H.aD.length s->u0 H.aD.length s.mp.toList<a->VS N S H 224 s v m:=λs v=>by by_cases h:PZ.OK H.aD.length s/\u0 H.aD.length s.mp.toList<a;have ⟨m,J⟩:=K s h.1 h.2 v;exact ⟨m,λ_ _=>J⟩;exact ⟨s,λz b=>absurd ⟨z,b⟩ h⟩
 have D:=λs v=>Classical.choose_spec (r s v);obtain ⟨G,q⟩:∃G:PZ->Vl->PZ,∀s v,PZ.OK H.aD.length s->u0 H.aD.length s.mp.toList<a->VS N S H 224 s v (G s v):=⟨λs v=>Classical.choose (r s v),D⟩;obtain ⟨g,o,p⟩:∃g:Nat->PZ,g 0=c/\∀i,g (i+1)=G ((g i).pr F i) (w i):=⟨λi=>Nat.rec c (λi x=>G (x.pr F i) (w i)) i,rfl,λ_=>rfl⟩;have k:∀i,PZ.OK H.aD.length (g i)/\PZ.Le H.aD.length c (g i):=by
  intro i;induction i with
  | zero=>rw [o];exact ⟨C,.refl _⟩
  | succ i y=>have f:=y.2.trans (PZ.Le.pr (F:=F) (i:=i));have ⟨M,P,_⟩:=q ((g i).pr F i) (w i) y.1.pr (wK f.mu t);rw [p];exact ⟨M,f.trans P⟩
 have l:∀i,VS N S H 224 ((g i).pr F i) (w i) (g (i+1)):=λi=>by have f:=(k i).2.trans (PZ.Le.pr (F:=F) (i:=i));rw [p];exact q _ _ (k i).1.pr (wK f.mu t)
 refine ⟨g,o,λi=>(k i).1,λi=>(k i).2,l,λi d j X=>?_⟩;induction j with
 | zero=>omega
 | succ j L=>
  by_cases E:j=i;subst E;exact (l j).2.1.lg d;have e:=L O;have A:(g j).pr F j=(g i).pr F i:=by rw [e];exact (PZ.Le.pr (n:=0)).lg d
  rw [<-A] at d ⊢;exact (l j).2.1.lg d
theorem Zl (i3:kz) (hH:zj H) (hr:∀r∈S.rc,0<=r.fr/\0<=r.count/\r.fr+r.count<=S.fd.length) (i5:S.fd.length<=1000000) (hn:H.aD.length<=1000000) (J:PZ.OK H.aD.length st) (ih:∀q,PZ.OK H.aD.length q->u0 H.aD.length q.mp.toList<u0 H.aD.length st.mp.toList->∀v,∃z,VS N S H 224 q v z) (v:Vl) (hk:v.k=6\/v.k=7):∃z,VS N S H 233 st v z:=by
 have c1:=λ(A:Lay) (a:ae) (m b:Nat) (h:HR A a m H) (p:I9 A a)=>Aw (fl:=b) (v:=v) (qu (N:=N) (S:=S) (st:=st) (hp:=.p true (A.id bY) 0) h p);have w:=λ(A:Lay) (a:ae) (m b:Nat) (h:HR A a m H) (p:I9 A a)=>Py (fl:=b) (v:=v) (qu (N:=N) (S:=S) (st:=st) (hp:=.p true (A.id bY) 0) h p);simp at c1 w;have h3:¬v.k=3:=O;have pt:∀t:aU,0<t.size->t.size<=500000000->(∀(A:Lay) (a:ae) (m b:Nat),HR A a m H->I9 A a->b<=a.length->∀(Q:jw),(∀l,CL prog 230 [.p true (a.length+1) 0,.v (.string t)] b (λ_=>rt (X:=Xc prog b (RW Q)) (.tu [])) l (PM N S (.p true (A.id bY) 0) a st))->EN prog 233 [.p true (a.length+1) 0,.ag (aw v)] (PM N S (.p true (A.id bY) 0) a st) b Q)->∃z,VS N S H 233 st v z:=λt hp ht g7=>by refine ⟨st.put t,J.put,.put,rB hp,λA a m b h p C=>g7 A a m b h p C _ λl=>?_⟩;refine CL.o (vK C t J.out ht) λr n ⟨k,d⟩=>?_;subst k;subst d;simp
 have h9:(H.sz v).2=0\/((H.sz v).2=3/\¬(H.sz v).2=0):=by unfold Hp.sz;rw [zO (λe=>h3 e.1)];split;split;exact .inl rfl;exact .inr ⟨rfl,Z⟩;exact .inr ⟨rfl,Z⟩
 rcases h9 with hz|⟨hz,j3⟩;rotate_left;refine pt ⟨#[63]⟩ (by decide) (by decide) λA a m b h p C Q D=>EW.o Ez ?_;have c1:=c1 A a m b h p;simp at D;simp [rX,mR,PC,CL.q c1,hz];exact D _;cases hl:st.fJ with
 | true=>refine pt ⟨#[63]⟩ (by decide) (by decide) λA a m b h p C Q D=>EW.o Ez ?_;have c1:=c1 A a m b h p;simp at D;simp [rX,mR,PC,CL.q c1,hz,hl];exact D _
 | false=>
 have ⟨i,o,a1,a2,a3,a4,a5,a6⟩:=OE hk hz;have g8:=ab a2;have d7:=λh=>hk.resolve_left h;by_cases f2:v.k=6/\(o.of<0\/(S.rc.length:Int)<=o.of\/∃r,S.rc[o.of.toNat]? =some r/\¬r.count=(o.bA.length:Int));have ⟨c,K⟩:=f2;refine pt ⟨#[63]⟩ (by decide) (by decide) λA a m b h p C Q D=>EW.o Ez ?_;have c1:=c1 A a m b h p;have w:=w A a m b h p;rw [a5] at c1;rw [a6] at w;simp at D;rcases K with K|K|⟨r,K,g5⟩;simp [rX,mR,PC,CL.q c1,hl,zL c,CL.q w,zL K];exact D _;by_cases c3:o.of<0;simp [rX,mR,PC,CL.q c1,hl,zL c,CL.q w,zL c3];exact D _;simp [rX,mR,PC,CL.q c1,hl,zL c,CL.q w,zB c3,zL K];exact D _;have M:=ab K;by_cases c3:o.of<0;simp [rX,mR,PC,CL.q c1,hl,zL c,CL.q w,zL c3];exact D _;simp [rX,mR,PC,CL.q c1,hl,zL c,CL.q w,zB c3,show ¬(S.rc.length:Int)<=o.of by omega,show 0<=o.of by omega,K,zB g5];exact D _;obtain ⟨F,d3,d4⟩:∃F:Option (List Fd),(v.k=6->∃r,0<=o.of/\S.rc[o.of.toNat]? =some r/\r.count=(o.bA.length:Int)/\F=some ((S.fd.take (r.fr+r.count).toNat).drop r.fr.toNat))/\(v.k=7->F=none):=by by_cases c:v.k=6;have K:=λh=>f2 ⟨c,h⟩;have M:o.of.toNat<S.rc.length:=O;have hg:=zA M;refine ⟨_,λ_=>⟨_,O,hg,?_,rfl⟩,λh=>O⟩;by_cases hc:(S.rc[o.of.toNat]).count=(o.bA.length:Int);exact hc;exact absurd (.inr (.inr ⟨_,hg,hc⟩)) K;exact ⟨none,λh=>absurd h c,λ_=>rfl⟩
 have fI:=QS v.n st.mp.toList 0 J.ki;obtain ⟨z,k1,k2,k0,kn,ku⟩:∃z,PZ.OK H.aD.length z/\PZ.Le H.aD.length st z/\(z.fJ=false->z.out≠[])/\(sf st.mp.toList v.n=false->∃(b6 j:Nat),b6<=100000000/\Instr.findNow (.int .i64) (.int .i64 v.n) st.mp.toList 0=some (some (j,.int .i64 b6))/\z=st.put (⟨#[35]⟩++QH b6))/\
   (sf st.mp.toList v.n=true->∃(q:PZ) (g:Nat->PZ) (c6:Nat->Vl),q={st with mp:=st.mp.push {key:=.int .i64 v.n,val:=.int .i64 ((st.mp.size+1:Nat):Int),born:=st.cl},cl:=st.cl+1}/\PZ.OK H.aD.length q/\(∀(j:Nat),∃t:Int,∀(A:Lay) (s:ae) (m b:Nat),HR A s m H->EN prog 140 [.p true (A.id bY) 0,.ag (aw v),I j] s b λr n=>r= .tu [.ag (aw (c6 j)),U t]/\n=s)/\
    g 0=q.put (Ny S o.of F)/\(∀i,PZ.OK H.aD.length (g i))/\(∀i,VS N S H 224 ((g i).pr F i) (c6 i) (g (i+1)))/\(∀i,((g i).pr F i).fJ->∀j,i<j->g j=(g i).pr F i)/\z=(g o.bA.length).put (Wx F)):=by
  cases hu:sf st.mp.toList v.n with
  | false=>have ⟨j,e,he,d5⟩:=fI.2 hu;have ⟨i4,b6,k,d,q3⟩:=J.ki e he;exact ⟨_,J.put,.put,rB (vd (by decide)),λ_=>⟨b6,j,q3,by rw [d5,d],rfl⟩,λh=>by cases h⟩
  | true=>
   obtain ⟨e,he⟩:∃e:MapEntry,e={key:=.int .i64 v.n,val:=.int .i64 ((st.mp.size+1:Nat):Int),born:=st.cl}:=⟨_,rfl⟩;obtain ⟨q,h2⟩:∃q:PZ,q={st with mp:=st.mp.push e,cl:=st.cl+1}:=⟨_,rfl⟩;have g6:AE e=(i:Int)+1:=by rw [he,<-a4];rfl
   have f4:q.mp.toList=st.mp.toList++[e]:=by rw [h2];simp
   have M:=DZ g8 g6 (by rw [<-a4];exact hu);rw [<-f4] at M;have h8:=J.sz;have f1:PZ.OK H.aD.length q:=by
    refine ⟨λx hx=>?_,by rw [h2];exact J.out,?_⟩;rw [f4] at hx;rcases xC.1 hx with hx|hx;exact J.ki x hx;rw [List.mem_singleton] at hx;rw [hx,he];exact ⟨_,_,rfl,rfl,O⟩;have:q.mp.size=st.mp.size+1:=by rw [h2];simp
    omega
   have hw:=λj:Nat=>PK H v j;obtain ⟨c6,hw⟩:∃c6:Nat->Vl,∀j:Nat,∃t:Int,∀(A:Lay) (s:ae) (m b:Nat),HR A s m H->EN prog 140 [.p true (A.id bY) 0,.ag (aw v),I j] s b λr n=>r= .tu [.ag (aw (c6 j)),U t]/\n=s:=
    ⟨λj=>Classical.choose (hw j),λj=>by have ⟨t,_,h⟩:=Classical.choose_spec (hw j);exact ⟨t,h⟩⟩
   obtain ⟨R,c5⟩:∃R:aU,R=(Ny S o.of F):=⟨_,rfl⟩;have ⟨g,g0,g1,g2,g3,g4⟩:=H8 ih F c6 (q.put R) f1.put (by rw [mD];exact M);refine ⟨_,(g1 _).put,⟨?_,λh=>by rw [hl] at h;cases h⟩,rB (by cases F;exact (by decide:0<(⟨#[93]⟩:aU).size);exact (by decide:0<(⟨#[125]⟩:aU).size)),(λh=>by cases h),λ_=>⟨q,g,c6,by rw [h2,he],f1,hw,by rw [g0,c5],g1,g3,g4,rfl⟩⟩;rw [mD];apply yI (g2 _).mu;rw [mD];omega
 refine ⟨z,k1,k2,k0,λA a m b h p C=>EW.o Ez ?_⟩;have c1:=c1 A a m b h p;have w:=w A a m b h p;rw [a5] at c1;rw [a6] at w;simp [-dG,rX,mR,PC,CL.q c1,hl];refine LA (λi2 l n=>n=PM N S (.p true (A.id bY) 0) a st/\(l=[.row (aw v) 0]\/∃x,l=[.row (aw v) 0,.row x 0])/\i2=Ng F) ?_ ?_
 ·rintro _ l _ ⟨rfl,c4,rfl⟩;have hR:=qu (N:=N) (S:=S) (st:=st) (hp:=.p true (A.id bY) 0) h p;have c3:=zX C;cases hu:sf st.mp.toList v.n with
  | false=>
   have ⟨b6,j,b1,E,b3⟩:=kn hu;have e1:(⟨#[35]⟩:aU).size=1:=by decide
   have hz:=Ek b1;have tc:=iZ (P:=prog) (t:=9) ⟨#[35]⟩ (QH b6) O;have cp:=vK (N:=N) (S:=S) (hp:=.p true (A.id bY) 0) (st:=st) C (⟨#[35]⟩++QH b6) J.out (by rw [yY];omega);rw [<-b3] at cp;rcases c4 with rfl|⟨x,rfl⟩;all_goals
    simp [mR,WL,PC,Ct,Cs,E,T.c1,CP.q (Zi b1),tc];refine CL.o cp λr n ⟨k,d⟩=>?_;subst k;subst d;simp
  | true=>
   have ⟨q,g,c6,h2,f9,hw,g0,g1,g3,g4,f5⟩:=ku hu;have d5:=fI.1 hu;have h8:=J.sz;have e1:((st.mp.size+1:Nat):Int)=(st.mp.size:Int)+1:=O;rw [e1] at h2;have w1:i64.wrap ((st.mp.size:Int)+1)=(st.mp.size:Int)+1:=bW O O;have tm:=λ(l:ae)=>K4 (l:=l) (WL (N:=N) (S:=S) (hp:=.p true (A.id bY) 0) (pre:=a) (st:=st));have R2:=qu (N:=N) (S:=S) (st:=q) (hp:=.p true (A.id bY) 0) h p;have w:=Py (fl:=b) (v:=v) R2;rw [a6] at w;simp at w;obtain ⟨R,c5⟩:∃R:aU,R=(Ny S o.of F):=⟨_,rfl⟩;rw [<-c5] at g0;have M7:(⟨#[123]⟩:aU).size=1:=by decide
   have h5:R.size<=500000000:=by
    rw [c5];cases F with
    | none=>exact (by decide:(⟨#[91]⟩:aU).size<=500000000)
    | some f=>
     have hg:((S.rc.map λr:Rc=>r.name.1).getD o.of.toNat (⟨#[]⟩:aU)).size<=100000:=by rw [zG,zJ];rcases D:S.rc[o.of.toNat]? with _|i1;exact (by decide:(⟨#[]⟩:aU).size<=100000);exact i1.name.2
     rw [Ny,yY];omega
   have d2:=vK (N:=N) (S:=S) (hp:=.p true (A.id bY) 0) (st:=q) C R f9.out h5;rw [<-g0] at d2;have gz:∀i,i<o.bA.length->((g i).pr F i).fJ->(g i).pr F i=z:=λi p L=>by rw [f5,g4 i L _ p,sS L]
   have f7:=λ(i:Nat) (s:PZ) (h1:s.out.length<=65536)=>vK (N:=N) (S:=S) (hp:=.p true (A.id bY) 0) (st:=s) C (Wx F) h1 (by cases F;exact (by decide:(⟨#[93]⟩:aU).size<=500000000);exact (by decide:(⟨#[125]⟩:aU).size<=500000000));have f6:=λ(s:PZ) (h1:s.out.length<=65536)=>vK (N:=N) (S:=S) (hp:=.p true (A.id bY) 0) (st:=s) C ⟨#[44,32]⟩ h1 (by decide);have lp:∀(l:ae),(l=[.row (aw v) 0]\/∃x,l=[.row (aw v) 0,.row x 0])->LP prog b (RW λr n=>r= .tu []/\n=PM N S (.p true (A.id bY) 0) a z) [0,3,6,140,141] (λd8=>Q.a5 (nL d8)) [.p true (a.length+1) 0,.p false 0 0,Ng F,I o.bA.length,I 0] l (PM N S (.p true (A.id bY) 0) a (g 0)):=by
    intro l c4;have j1:=h.JR a2;have h4:0<l.length:=by rcases c4 with rfl|⟨x,rfl⟩ <;> simp
    have l0:∀t:ae,fp (l++t) 0=some (.row (aw v) 0):=λt=>by rcases c4 with rfl|⟨x,rfl⟩ <;> rfl
    have d1:fp l 0=some (.row (aw v) 0):=by rcases c4 with rfl|⟨x,rfl⟩ <;> rfl
    have l1:∀x:TO,fp (l++[x]) l.length=some x:=λx=>by rw [<-dS];simp
    have l2:∀x y:TO,(l++[x]).set l.length y=l++[y]:=λx y=>Z;clear c4;refine LP.ind (lv:=[0,3,6,140,141]) (b:=λd8=>Q.a5 (nL d8)) (λx:Nat=>o.bA.length-x) (λx=>x<=o.bA.length) (λx=>[.p true (a.length+1) 0,.p false 0 0,Ng F,I o.bA.length,I x]) (λ_=>l) (λx=>PM N S (.p true (A.id bY) 0) a (g x)) l.length (λ_ _=>⟨rfl,rfl,by cases F <;> simp [Ng,h4]⟩) (λi i7 d8 hk=>?_) 0 (zY _);simp [-dG,nL];apply ST.dc<;>intro M;have wi:=wn (j:=i) O;refine eB (λl' n=>l'.take l.length=l/\n=PM N S (.p true (A.id bY) 0) a (g (i+1))) ?_ ?_;rintro l' _ ⟨g9,rfl⟩;simp [wi];exact hk (i+1) _ _ _ Z g9 rfl O (by show o.bA.length-(i+1)<o.bA.length-i;omega);intro j4 d9;obtain ⟨s1,c9⟩:∃s1,s1=if 0<i then (g i).put ⟨#[44,32]⟩ else g i:=⟨_,rfl⟩
    have h7:PZ.OK H.aD.length s1:=by rw [c9];split;exact (g1 i).put;exact g1 i
    obtain ⟨y,hy⟩:∃y,y=(g i).pr F i:=⟨_,rfl⟩;have j2:=hy▸(g1 i).pr;have ⟨t,c8⟩:=hw i;have c8:=c8 A _ m b (qu (N:=N) (S:=S) (st:=y) (hp:=.p true (A.id bY) 0) h p);have AU:=(g3 i).2.2.2 A a m b h p C;have gz:=gz i M;rw [<-hy] at AU gz;simp at c8 AU;simp [-dG];refine eB (λl' n=>l'=l/\n=PM N S (.p true (A.id bY) 0) a s1) ?_ ?_;rintro _ _ ⟨rfl,rfl⟩;by_cases c:v.k=6;have ⟨r,b1,E,b3,b4⟩:=d3 c;have ⟨r1,r2,r3⟩:=hr r (zI E);obtain ⟨f,f3⟩:∃f,f=(S.fd.take (r.fr+r.count).toNat).drop r.fr.toNat:=⟨_,rfl⟩;have i6:f.length=o.bA.length:=by rw [f3,List.length_drop,wI];omega
    rw [<-f3] at b4;have fg:f[i]? =some (f.getD i LL):=getD_some O _;have e2:(⟨#[58,32]⟩:aU).size=2:=by decide
    have i9:=(f.getD i LL).name.2;have tc:=iZ (P:=prog) (t:=9) (f.getD i LL).name.1 ⟨#[58,32]⟩ O;have ey:s1.put ((f.getD i LL).name.1++⟨#[58,32]⟩)=y:=by rw [c9,hy,b4];rfl
    have cn:=vK (N:=N) (S:=S) (hp:=.p true (A.id bY) 0) (st:=s1) C ((f.getD i LL).name.1++⟨#[58,32]⟩) h7.out (by rw [yY];omega);rw [ey] at cn;generalize f.getD i LL=nm at*;simp [d1,zL c,b4,Ng,fg,tc];refine CL.o cn λr n ⟨k,d⟩=>?_;subst k;subst d;simp [d1,mR,PC];refine CL.o c8 λr n ⟨k,d⟩=>?_;subst k;subst d;cases L:y.fJ with
    | true=>simp [l1,l2,mR,PC,L];rw [gz L]
    | false=>simp [l1,l2,mR,PC,L];refine CL.o AU λr n ⟨k,d⟩=>?_;subst k;subst d;simp;exact d9 _ _ ⟨Z,rfl⟩
    have ey:s1=y:=by rw [c9,hy,d4 (d7 c)];rfl
    rw [ey];simp [d1,zB c,mR,PC];refine CL.o c8 λr n ⟨k,d⟩=>?_;subst k;subst d;cases L:y.fJ with
    | true=>simp [l1,l2,mR,PC,L];rw [gz L]
    | false=>simp [l1,l2,mR,PC,L];refine CL.o AU λr n ⟨k,d⟩=>?_;subst k;subst d;simp;exact d9 _ _ ⟨Z,rfl⟩
    intro j5 e6;by_cases d6:0<i;have cc:=f6 _ (g1 i).out;have es:(g i).put ⟨#[44,32]⟩=s1:=by rw [c9,zP d6]
    rw [es] at cc;simp [zL d6];refine CL.o cc λr n ⟨k,d⟩=>?_;subst k;subst d;simp;exact e6 _ _ ⟨rfl,rfl⟩;have es:g i=s1:=by rw [c9,zO d6]
    simp [zB d6];exact e6 _ _ ⟨rfl,by rw [es]⟩;have:i=o.bA.length:=by omega
    subst this;have c7:=f7 0 _ (g1 o.bA.length).out;rw [<-f5] at c7;by_cases c:v.k=6;have ⟨_,_,_,_,b4⟩:=d3 c;rw [b4,Wx] at c7;simp [vf,d1,zL c];refine CL.o c7 λr n ⟨k,d⟩=>?_;subst k;subst d;simp;rw [d4 (d7 c),Wx] at c7;simp [vf,d1,zB c];refine CL.o c7 λr n ⟨k,d⟩=>?_;subst k;subst d;simp
   by_cases c:v.k=6
   ·have ⟨r,b1,E,b3,b4⟩:=d3 c;rw [b4] at c5;have f8:R=r.name.1++⟨#[123]⟩:=by rw [c5];simp [Ny,zJ,E]
    have tc:=iZ (P:=prog) (t:=9) r.name.1 ⟨#[123]⟩ (Zo r.name.2);rw [<-f8] at tc;rcases c4 with rfl|⟨x,rfl⟩;all_goals
     simp [mR,WL,PC,Ct,Cs,Pr,Gg,d5,c3,tm,w1,UU,<-h2,zL c,CL.q w,E,zL b1,tc];refine CL.o d2 λr n ⟨k,d⟩=>?_;subst k;subst d;simp;first|exact lp _ (.inl rfl)|exact lp _ (.inr ⟨_,rfl⟩)
   ·rw [d4 (d7 c)] at c5;rw [c5,Ny] at d2;rcases c4 with rfl|⟨x,rfl⟩;all_goals
     simp [mR,WL,PC,Ct,Cs,Pr,Gg,d5,c3,tm,w1,UU,<-h2,zB c];refine CL.o d2 λr n ⟨k,d⟩=>?_;subst k;subst d;simp;first|exact lp _ (.inl rfl)|exact lp _ (.inr ⟨_,rfl⟩)
 intro j hj;by_cases c:v.k=6;have ⟨r,b1,E,b3,b4⟩:=d3 c;have ⟨r1,r2,r3⟩:=hr r (zI E);have M:=ab E;have w1:i64.wrap (r.fr+r.count)=r.fr+r.count:=bW O O;have ts:=λ(l s:ae)=>Oe (L:=S.fd) (l:=l) (s:=s) (a:=r.fr.toNat) (b:=(r.fr+r.count).toNat) O O;rw [show ((r.fr.toNat:Nat):Int)=r.fr by omega,show (((r.fr+r.count).toNat:Nat):Int)=r.fr+r.count by omega] at ts;rw [b3] at w1 ts b4;simp [zL c,CL.q w,zB (show ¬o.of<0 by omega),mR,PC,show ¬(S.rc.length:Int)<=o.of by omega,b1,E,b3,w1,ts];exact hj _ _ _ ⟨rfl,.inr ⟨_,rfl⟩,by rw [b4];simp [Ng]⟩;simp [zB c];exact hj _ _ _ ⟨rfl,.inl rfl,by rw [d4 (d7 c)];rfl⟩
end
theorem Ym:me prog 90=some 1:=Y
theorem Ys {bp n id az:Nat} {l s:ae} (a:bp<=n):aK prog 78 none (some (I bp)) none l s (.m true id az 0 n 1)=some (.m true id az 0 bp 1):=by unfold aK;simp only [pY,Ym,zR,Bj,pC];rw [zP (show (0:Int)<=bp by omega)];simp;simp [a]
section
variable {J:ME} {D:Nat->Nat} {s h:ae} {V V':Vm} {A E:Lay} {n:Nat} {f:Fm} {a b:Vl} {H':Hp} {F':Fe}
def Vm.left (V:Vm) (n:Nat):Vm:=if n=0 then ({V with aa:=V.aa.take n}:Vm).end_ 1 0 0 else {V with aa:=V.aa.take n}
theorem MD.left (d:MD J D s V A) (z:V.Is n f) (P:mh A pE J.X.zs.length 4 x) (al:A.al dK):MS J D (s.set J.pv (.row (Vm.cells J.X J.room J.dk A {V with aa:=V.aa.take n} (.m true (A.id dK) (A.az dK) 0 n 1) x (.m true (A.id iM) (A.az iM) 0 J.X.g.ins.length 4) (.m true (A.id fe) (A.az fe) 0 J.X.S.fn.length 1)) 0)) {V with aa:=V.aa.take n}:=by
 have h:=d.vr;have E:=z.len;obtain ⟨a,_⟩:=h.vm;obtain ⟨v,y,M,N⟩:=h.se;obtain ⟨t,w,H,K⟩:=h.ca;have c:=bQ.set d.ij a (o:=.row (Vm.cells J.X J.room J.dk A {V with aa:=V.aa.take n} (.m true (A.id dK) (A.az dK) 0 n 1) x (.m true (A.id iM) (A.az iM) 0 J.X.g.ins.length 4) (.m true (A.id fe) (A.az fe) 0 J.X.S.fn.length 1)) 0);have L:∀(j k:Nat),j≠0->¬(j,k)=kL:=λj k p J=>by simp at J;omega
 have g:(V.aa.take n).length=n:=W;rw [d.iv] at c;have q:VQ J.X J.room J.dk J.fl A s V {V with aa:=V.aa.take n} _:=⟨A,⟨h.hp.jm d.ij c λr e J=>by rw [J] at e;simp [Rh] at e,h.fd.jm d.ij c (L _ _ O),⟨a,.m true (A.id dK) (A.az dK) 0 n 1,x,by rw [<-d.iv];exact d.ij.get_eq a,.inl ⟨al,by rw [g]⟩,P⟩,λm=>?_,λi f b=>?_,⟨v,y,M,by rw [<-d.iv,d.ij.aX v a Z];exact N⟩,⟨t,w,H,by rw [<-d.iv,d.ij.aX t a Z];exact K⟩,λm=>by rw [<-d.iv,d.ij.aX m a Z];exact h.ze m,h.ti,h.fu,yI (by rw [g];omega) h.nf,h.lm⟩,c.any,λ_ _=>rfl⟩;exact d.to q (by rw [g];omega);obtain ⟨F,p⟩:=h.fs al;refine ⟨[.p true (A.id (ej n)) 0]::F,?_⟩;rw [<-d.iv,d.ij.aX al a Z,p,g,E];simp [oO,xV];have C:V.aa[i]? =some f:=by simp only at b;rw [zS] at b;split at b;exact b;cases b
 exact (h.fr i f C).jm d.ij c λr e J=>by rcases e with l|l|l <;> rw [l] at J <;> simp at J
theorem v138 (C:MS J D s V) (p:V.Is n f):EN prog 138 [.p true J.pv 0] s J.fl λr h=>r= .tu []/\MS J D h (V.left n):=by
 have ⟨A,d⟩:=C;apply EW.o Sq;have ⟨M,z,zv,g,N,P⟩:=d.vr.vm;have H:=p.len;have R:=yI d.vr.nf d.vr.lm;have F:z= .m true (A.id dK) (A.az dK) 0 (n+1) 1/\A.al dK:=by rcases N with ⟨b,m⟩|⟨_,m,_⟩;exact ⟨by rw [m,H],b⟩;omega
 obtain ⟨rfl,al⟩:=F;have i:=d.left p P al;simp only [Vm.cells,d.iv] at g i;have q:=d.iv▸d.ij.lo _ M;have o:=λx:TO=>zF (a:=x) (ab g);have v:=λx t=>fW (r:=true) (id:=A.id dK) (az:=A.az dK) (off:=0) (n:=n+1) (sz:=1) (l:=x) (s:=t) pY;have w:=λx t=>fW (r:=true) (id:=A.id dK) (az:=A.az dK) (off:=0) (n:=n) (sz:=1) (l:=x) (s:=t) pY;have j:i64.wrap (((n+1:Nat):Int)-1)=(n:Int):=by rw [bW O O];omega
 have y:=λx t=>Ys (bp:=n) (n:=n+1) (id:=A.id dK) (az:=A.az dK) (l:=x) (s:=t) O;have X:i64.wrap (n:Int)=n:=bW O O;simp at j;by_cases e:n=0;have E:(n:Int)=0:=by omega
 have c:=v89 (k:=1) (t:=0) (l:=0) i;simp [MT,g,v,j,y,q,o,w,zL e];have b:V.left n=({V with aa:=V.aa.take n}:Vm).end_ 1 0 0:=by unfold Vm.left;rw [zP e]
 rw [b];refine CL.o c λr h ⟨K,L⟩=>?_;subst K;simp;exact L;have E:¬(n:Int)=0:=by omega
 simp [MT,g,v,j,y,q,o,w,zB e];have b:V.left n={V with aa:=V.aa.take n}:=by unfold Vm.left;rw [zO e]
 rw [b];exact i
theorem Gq:cm prog .eql 91 (.v (.pointer none)) (.v (.pointer none))=some (B true):=Y
theorem v139 (e:MS J D s V) (b:V.Is n f) (i:f.stack.length<1000000000000):EN prog 139 [.p true J.pv 0,.ag (aw a)] s J.fl λr h=>r= .tu []/\MS J D h (V.top n {f with stack:=f.stack++[a]}):=by have c1:=v59 e b;have g:=FY (a:=a) e b i;have ⟨A,d⟩:=e;have ⟨sv,l,c,_⟩:=(d.vr.fr n f b.get).row;rw [d.Kx b] at c;simp only [Fm.cells] at c;simp at g;apply EW.o Sp;simp [Uq,CL.q c1,c,Gq];refine CL.o g λr h ⟨j,k⟩=>?_;subst j;simp;exact k
end
section
variable {fl:Nat} {R:Ro->Prop} {A D:Lay} {J E:ae} {r h:Ro} {o:TO}
theorem dA.drop (c:dA fl A J):dA fl (A.drop h) J:=by
 have b:∀r,(A.drop h).al r->A.al r:=λr a=>by simp only [Lay.drop] at a;split at a;cases a;exact a
 exact ⟨λr d a f e=>c.ij r d (b r a) (b d f) e,λr a=>c.lt r (b r a),λr a=>c.lo r (b r a)⟩
theorem bQ.drop (b:dA fl A J) (d:¬x7 h):bQ fl (· =h) A (A.drop h) J J:=
 ⟨λr c=>⟨rfl,rfl,zO c⟩,λ_ _ _=>rfl,zC _,b.drop,λr a=>.inl ⟨by
  simp only [Lay.drop] at a;split at a;cases a;exact a,rfl⟩,λr a=>⟨rfl,by
  have e:r≠h:=λe=>d (e▸a);simp [Lay.drop,e]⟩⟩
def Lay.vH (A:Lay) (h:Ro) (n v:Nat):Lay:={id:=λr=>if r=h then n else A.id r,az:=λr=>if r=h then v else A.az r,al:=λr=>if r=h then true else A.al r}
theorem bQ.vH (f:dA fl A J) (e:fl<=J.length) (g:¬x7 h):bQ fl (· =h) A (A.vH h J.length a) J (J++[o]):=by have b:=bQ.new (o:=o) f e g;have c:=b.ij;refine ⟨λr d=>⟨zO d,zO d,zO d⟩,b.fr,b.le,⟨c.ij,c.lt,c.lo⟩,b.nw,b.fx⟩
end
section
variable {J:ME} {D:Nat->Nat} {E h s':ae} {V V':Vm} {A A1 A':Lay} {n:Nat} {f:Fm} {a b:Vl} {H':Hp} {F':Fe}
theorem MD.free {R:Ro->Prop} (d:MD J D E V A) (a:bQ J.fl R A A' E s') (g:∀r,R r->∃n,V.aa.length<=n/\Bg n r):MD J D s' V A':=by
 have b:∀(j k:Nat),j≠7->j≠8->j≠9->¬R (j,k):=λj k o p q h=>by obtain ⟨n,_,h⟩:=g _ h;rcases h with h|h|h <;> simp at h <;> omega
 have m:∀i,i<V.aa.length->∀r,Bg i r->¬R r:=λi c r e h=>by obtain ⟨n,s,h⟩:=g _ h;rcases e with rfl|rfl|rfl <;> rcases h with h|h|h <;> simp at h <;> omega
 have hid:=λi c=>(a.ag _ (m i c _ (.inl rfl))).1;refine ⟨d.vr.jm d.ij a (b _ _ O O O) (b _ _ O O O) (b _ _ O O O) (b _ _ O O O) (b _ _ O O O) (d.vr.hp.jm d.ij a λr e=>by obtain ⟨j,k⟩:=r;exact b _ _ (by have:=e.2;simp only at this;omega) (by have:=e.2;simp only at this;omega) (by have:=e.2;simp only at this;omega)) (d.vr.fd.jm d.ij a (b _ _ O O O)) (λi f l=>(d.vr.fr i f l).jm d.ij a (m i (ab l))) rfl hid rfl rfl rfl rfl rfl rfl,a.ij,a.lf d.lf,(a.ag _ (b _ _ O O O)).1.trans d.iv,(a.fx bY (.inr (.inl rfl))).1.trans d.ih,(a.fx ls (.inr (.inr rfl))).1.trans d.ie,λi c=>(hid i c).trans (d.fr i c),d.QP a.any⟩
theorem MD.slot (d:MD J D E V A) (e:bQ J.fl (· =jY V.aa.length) A A1 E h) (l:f.stack=[]) {sv:TV} (v:mh A1 (jY V.aa.length) f.ah.length 4 sv) (t:A1.al (jY V.aa.length)->h[A1.id (jY V.aa.length)]? =some (.aY (A1.az (jY V.aa.length)) 4 (f.ah.map aw))):
  ∃a,MD J D (h++[.row (f.cells sv (.sl true [])) 0]) V a/\pB a (h++[.row (f.cells sv (.sl true [])) 0]) V.aa.length f/\a.id (ej V.aa.length)=h.length/\∀j k,j≠7->j≠8->j≠9->a.id (j,k)=A.id (j,k)/\a.az (j,k)=A.az (j,k)/\a.al (j,k)=A.al (j,k):=by
 have m:∀k,¬x7 (jY k)/\¬x7 (dI k)/\¬x7 (ej k):=λk=>⟨by simp [x7],by simp [x7],by simp [x7]⟩;generalize C:V.aa.length=n at*;have u2:=bQ.drop e.ij (m n).2.1;have u3:=bQ.new (o:=TO.row (f.cells sv (.sl true [])) 0) u2.ij (e.lf d.lf) (m n).2.2;have p:bQ J.fl (Bg n) A _ E _:=((e.mono λr J=>.inr (.inl J)).trans (u2.mono λr J=>.inr (.inr J))).trans (u3.mono λr J=>.inl J);refine ⟨_,d.free p λr s=>⟨n,O,s⟩,?_,by simp [Lay.new],λj k x y z=>?_⟩;refine ⟨by simp [Lay.new],⟨sv,.sl true [],?_,?_,.inr ⟨by simp [Lay.new,Lay.drop],by simp [l],rfl⟩⟩,λc=>?_,λc=>by simp [Lay.new,Lay.drop] at c,by simp [l]⟩;rw [show ((A1.drop (dI n)).new (ej n) h.length).id (ej n)=h.length by simp [Lay.new],zH (zC _)];simp;rcases v with ⟨g,i⟩|⟨g,i,w⟩;exact .inl ⟨by simp [Lay.new,Lay.drop,g],by rw [i];simp [Lay.new,Lay.drop]⟩;exact .inr ⟨by simp [Lay.new,Lay.drop,g],i,w⟩;have q:A1.al (jY n):=by simpa [Lay.new,Lay.drop] using c
 have:=t q;simp only [Lay.new,Lay.drop];simp;rw [zD (ab this)];exact this;have:¬Bg n (j,k):=λb=>by rcases b with b|b|b <;> simp at b <;> omega
 exact p.ag _ this
theorem MD.push (d:MD J D E V A) (F:pB A E V.aa.length f) (hl:V.aa.length<J.dk) (b:bQ J.fl (λr=>r=kL\/r=dK) A A' E s') (v4:mh A pE J.X.zs.length 4 x) (al:A'.al dK)
  (z:s'[J.pv]? =some (.row (Vm.cells J.X J.room J.dk A {V with aa:=V.aa++[f]} (.m true (A'.id dK) (A'.az dK) 0 (V.aa.length+1) 1) x (.m true (A.id iM) (A.az iM) 0 J.X.g.ins.length 4) (.m true (A.id fe) (A.az fe) 0 J.X.S.fn.length 1)) 0))
  (C:s'[A'.id dK]? =some (.aY (A'.az dK) 1 (oO A V.aa.length++[[.p true (A.id (ej V.aa.length)) 0]]))):∃P,MS J P s' {V with aa:=V.aa++[f]}:=by
 have a:=d.vr;obtain ⟨v1,_⟩:=a.vm;obtain ⟨h,w,R,X⟩:=a.se;obtain ⟨t,v,M,N⟩:=a.ca;have c:∀(j k:Nat),j≠0->j≠6->¬((j,k)=kL\/(j,k)=dK):=λj k h0 h6 a=>by rcases a with a|a <;> simp at a <;> omega
 have n:∀i,∀r,Bg i r->¬(r=kL\/r=dK):=λi r l a=>by rcases l with rfl|rfl|rfl <;> rcases a with a|a <;> simp at a
 have hid:=λi=>(b.ag _ (n i _ (.inl rfl))).1;have s:=(b.fx kL (.inl rfl));have L:=(b.fx bY (.inr (.inl rfl))).1;have K:=(b.fx ls (.inr (.inr rfl))).1;have ce:=b.ag iM (c _ _ O O);have g:=b.ag fe (c _ _ O O);have cz:=b.ag pE (c _ _ O O);have q:VQ J.X J.room J.dk J.fl A E V {V with aa:=V.aa++[f]} s':=⟨A',⟨a.hp.jm d.ij b λr l=>by obtain ⟨j,k⟩:=r;exact c _ _ (by have:=l.1;simp only at this;omega) (by have:=l.2;simp only at this;omega),a.fd.jm d.ij b (c _ _ O O),⟨s.2.trans v1,.m true (A'.id dK) (A'.az dK) 0 (V.aa.length+1) 1,x,?_,.inl ⟨al,Z⟩,?_⟩,λ_=>⟨[],?_⟩,λi y e=>?_,⟨ce.2.2.trans h,w,R,by rw [ce.1,ce.2.1,b.get d.ij h (c _ _ O O)];exact X⟩,⟨g.2.2.trans t,v,M,by rw [g.1,g.2.1,b.get d.ij t (c _ _ O O)];exact N⟩,λm=>?_,a.ti,a.fu,W,a.lm⟩,b.any,λi _=>hid i⟩
 exact d.to' q;rw [s.1,d.iv,z,ce.1,ce.2.1,g.1,g.2.1];simp only [Vm.cells,L,K];rcases v4 with ⟨o,p⟩|⟨o,p⟩;exact .inl ⟨cz.2.2.trans o,by rw [cz.1,cz.2.1];exact p⟩;exact .inr ⟨cz.2.2.trans o,p⟩;rw [C,List.append_nil];simp;rw [vS λi _=>hid i];simp [oO,xV];simp only at e;by_cases H:i<V.aa.length;rw [zD H] at e;exact (a.fr i y e).jm d.ij b (n i);have:i=V.aa.length:=by have:=ab e;simp at this;omega
 subst this;simp at e;subst e;exact F.jm d.ij b (n _);rw [cz.2.2] at m;rw [cz.1,cz.2.1,b.get d.ij m (c _ _ O O)];exact a.ze m
theorem MD.OV (d:MD J D E V A) (c:pB A E V.aa.length f) (e:V.aa.length<J.dk) (al:A.al dK) (j:mh A pE J.X.zs.length 4 x):∃h,MS J h ((E.set (A.id dK) (.aY (A.az dK+1) 1 (oO A V.aa.length++[[.p true (A.id (ej V.aa.length)) 0]]))).set J.pv (.row (Vm.cells J.X J.room J.dk A {V with aa:=V.aa++[f]} (.m true (A.id dK) (A.az dK+1) 0 (V.aa.length+1) 1) x (.m true (A.id iM) (A.az iM) 0 J.X.g.ins.length 4) (.m true (A.id fe) (A.az fe) 0 J.X.S.fn.length 1)) 0)) {V with aa:=V.aa++[f]}:=by
 obtain ⟨a,_⟩:=d.vr.vm;have b:=bQ.bump d.ij al (o:=TO.aY (A.az dK+1) 1 (oO A V.aa.length++[[.p true (A.id (ej V.aa.length)) 0]]));have u2:=bQ.set b.ij a (o:=TO.row (Vm.cells J.X J.room J.dk A {V with aa:=V.aa++[f]} (.m true (A.id dK) (A.az dK+1) 0 (V.aa.length+1) 1) x (.m true (A.id iM) (A.az iM) 0 J.X.g.ins.length 4) (.m true (A.id fe) (A.az fe) 0 J.X.S.fn.length 1)) 0);rw [show (A.bump dK).id kL=J.pv from d.iv] at u2;have i:=(b.mono (R':=λr=>r=kL\/r=dK) λr J=>.inr J).trans (u2.mono λr J=>.inl J);have g:=d.iv▸d.ij.lt _ a;refine d.push c e i j al ?_ ?_;rw [zF (by simp;exact g)];first|rfl|simp [Lay.bump]
 show (List.set _ J.pv _)[A.id dK]? =_;rw [zE (by rw [<-d.iv];exact d.ij.ne a al Z),zF (d.ij.lt _ al)];first|rfl|simp [Lay.bump]
theorem MD.OU (d:MD J D E V A) (c:pB A E V.aa.length f) (e:V.aa.length<J.dk) (j:mh A pE J.X.zs.length 4 x):∃g,MS J g ((E++[TO.aY 0 1 (oO A V.aa.length++[[.p true (A.id (ej V.aa.length)) 0]])]).set J.pv (.row (Vm.cells J.X J.room J.dk A {V with aa:=V.aa++[f]} (.m true E.length 0 0 (V.aa.length+1) 1) x (.m true (A.id iM) (A.az iM) 0 J.X.g.ins.length 4) (.m true (A.id fe) (A.az fe) 0 J.X.S.fn.length 1)) 0)) {V with aa:=V.aa++[f]}:=by
 obtain ⟨b,_⟩:=d.vr.vm;have a:=bQ.new (r0:=dK) d.ij d.lf (by simp [x7]) (o:=TO.aY 0 1 (oO A V.aa.length++[[.p true (A.id (ej V.aa.length)) 0]]));have i:(A.new dK E.length).al kL:=by simp [Lay.new,b]
 have u2:=bQ.set a.ij i (o:=TO.row (Vm.cells J.X J.room J.dk A {V with aa:=V.aa++[f]} (.m true E.length 0 0 (V.aa.length+1) 1) x (.m true (A.id iM) (A.az iM) 0 J.X.g.ins.length 4) (.m true (A.id fe) (A.az fe) 0 J.X.S.fn.length 1)) 0);rw [show (A.new dK E.length).id kL=J.pv by simp [Lay.new,d.iv]] at u2;have h:=(a.mono (R':=λr=>r=kL\/r=dK) λr J=>.inr J).trans (u2.mono λr J=>.inl J);have k:=d.iv▸d.ij.lt _ b;refine d.push c e h j (by simp [Lay.new]) ?_ ?_;rw [zF W];simp [Lay.new];rw [show (A.new dK E.length).id dK=E.length by simp [Lay.new],zE O,zH (zC _)];simp [Lay.new]
theorem MD.calls {L:List Int} (d:MD J D E V A) (t:L.length=J.X.S.fn.length):MD J D (E.set (A.id fe) (.aY (A.az fe) 1 (L.map bt))) V A/\∀i f,pB A E i f->pB A (E.set (A.id fe) (.aY (A.az fe) 1 (L.map bt))) i f:=by
 have a:=d.vr;obtain ⟨h,q,w,x⟩:=a.se;obtain ⟨b,H,M,N⟩:=a.ca;have c:=bQ.set d.ij b (o:=TO.aY (A.az fe) 1 (L.map bt));have v:∀(j k:Nat),j≠11->¬(j,k)=fe:=λj k K J=>by simp at J;omega
 obtain ⟨p,s,F,y,z,C⟩:=a.vm;have n:∀i f,pB A E i f->pB A (E.set (A.id fe) (.aY (A.az fe) 1 (L.map bt))) i f:=λi f m=>m.jm d.ij c λr g J=>by rcases g with l|l|l <;> rw [l] at J <;> simp at J
 refine ⟨⟨⟨a.hp.jm d.ij c λr g J=>by rw [J] at g;simp [Rh] at g,a.fd.jm d.ij c (v _ _ O),⟨p,s,F,by rw [d.ij.aX p b Z];exact y,z,C⟩,λe=>?_,λi f m=>n i f (a.fr i f m),⟨h,q,w,by rw [d.ij.aX h b Z];exact x⟩,⟨b,L,t,d.ij.get_eq b⟩,λe=>by rw [d.ij.aX e b Z];exact a.ze e,a.ti,a.fu,a.nf,a.lm⟩,c.ij,c.lf d.lf,d.iv,d.ih,d.ie,d.fr,d.QP c.any⟩,n⟩;rw [d.ij.aX e b Z];exact a.fs e
end
def FP (s:ae) (c:Nat):Nat->TV
 | 0=>.sl true []
 | i+1=>.m true s.length (i+1-c) 0 (i+1) 4
def Fs (s:ae) (a:List Vl) (c:Nat):Nat->ae
 | 0=>s
 | i+1=>s++[.aY (i+1-c) 4 ((a.take (i+1)).map aw)]
theorem FU (s:ae) (a:List Vl) (c i:Nat):∃t,Fs s a c i=s++t:=by
 cases i with
 | zero=>exact ⟨[],by simp [Fs]⟩
 | succ i=>exact ⟨_,rfl⟩
theorem Gy {f:List Vl} {z:Vl} {o:Bool} (m:f[a]? =some z) (C:f.length<=1000000000000) (q:d<=r.length) (w:1<=c) (x:c<=a\/(a=0/\c=1)) (l:ae):cq true 4 32 2 d (FP r c a) (.sl o [aw z]) l (Fs r f c a)=some (FP r c (a+1),l,Fs r f c (a+1)):=by
 have A:=ab m;have g:fits (a+1) 32:=by unfold fits;exact decide_eq_true ⟨O,O⟩
 have i:f.take (a+1)=f.take a++[z]:=by rw [xD,m];rfl
 have h:(f.take a).length=a:=W;cases a with
 | zero=>have p:c=1:=O;subst p;have:=fB (k:=true) (e:=4) (b:=32) (an:=2) (fl:=d) (l:=l) (s:=r) (y:=.sl o [aw z]) rfl;show cq true 4 32 2 d (.sl true []) (.sl o [aw z]) l r=_;rw [this,zP ⟨BC [z],g,O⟩,zO Z];simp only [db,FP,Fs,i];simp
 | succ j=>
  have n:=zX q;show cq true 4 32 2 d (.m true r.length (j+1-c) 0 (j+1) 4) (.sl o [aw z]) l (r++[.aY (j+1-c) 4 ((f.take (j+1)).map aw)])=_;rw [kI rfl,zH (zC _)];simp only [Nat.sub_self,List.getElem?_cons_zero,tO];have v:=BD [z];have s:j+1<=((f.take (j+1)).map aw).length:=by rw [yQ,h];exact zC _
  rw [zP ⟨trivial,trivial,trivial,s,n,v,O,g⟩];have t:((f.take (j+1)).map aw).take (j+1)=(f.take (j+1)).map aw:=yC (by rw [yQ,h];exact zC _);simp only [FP,Fs,i,t];simp;omega
theorem Yu {e d y z:TO} (g:a≠b) (f:a≠c) (rc:b≠c):(((r.set a e).set b y).set a d).set c z=((r.set c z).set b y).set a d:=by rw [List.set_comm e y g,xU,List.set_comm d z f,List.set_comm y z rc]
theorem OQ {g c y z:TO} (f:a≠b) (e:a<r.length) (d:b<r.length):(((r.set a g)++[y]).set a c).set b z=((r.set b z)++[y]).set a c:=by rw [<-List.set_append_left _ _ e,xU,List.set_comm c z f,List.set_append_left _ _ d]
def lJ (X:Sg) (a:Fn) (b:List Vl):List Vl:=b++((X.S.sl.take (a.at_.toNat+a.ah.toNat)).drop (a.at_.toNat+b.length)).map λt=>(X.zs[t.toNat]?).getD vz
section
variable {J:ME} {D:Nat->Nat} {E h:ae} {V V':Vm} {A A':Lay} {n:Nat} {f:Fm} {a b:Vl} {H':Hp} {F':Fe}
theorem Bi {e:Fn} {args:List Vl} {o:Bool} (K:MS J D E V) (f6:J.X.S.fn[c]? =some e) {a0:Nat} (ha:e.at_=a0) (hm:e.ah=d) (hk:args.length<=d) (l5:a0+d<=J.X.S.sl.length) (j2:∀x∈J.X.S.sl,∃(t:Nat) (z:Vl),x=(t:Nat)/\J.X.zs[t]? =some z) (k8:J.X.S.sl.length<=99000000000) (f7:V.aa.length<J.dk):
  EN prog 35 [.p true J.pv 0,I c,.sl o (args.map aw)] E J.fl λr h=>∃v,MS J v h {V with aa:=V.aa++[⟨c,0,0,lJ J.X e args,[]⟩]}:=by
 have ⟨A,p⟩:=K;have c8:(lJ J.X e args).length=d:=by simp [lJ,ha,hm];omega
 apply EW.o e35;have ⟨v1,fv,zv,v2,v3,v4⟩:=p.vr.vm;have l8:=v2;simp only [Vm.cells,p.iv] at v2;obtain ⟨RL,rm,g1,g2,g3⟩:∃(RL:cD) (d:Nat),RL=J.X.S.fn.map ju/\RL[c]? =some (ju e)/\d=RL.length:=⟨_,_,rfl,by rw [zJ,f6];rfl,rfl⟩;simp at g2;obtain ⟨m,h8,k9⟩:∃m:Nat,1<=m/\m=max args.length 1:=⟨_,O,rfl⟩;have h4:EN prog 2025 [.sl false (args.map aw)] E J.fl λr h=>r=FP E m args.length/\h=Fs E (lJ J.X e args) m args.length:=by
  refine (Jr rfl O).mono λr h hq=>?_;rcases hq with ⟨R,X,q3⟩|⟨R,X,q3⟩;subst R;exact ⟨X,q3⟩;have l6:args.length≠0:=λJ=>R (zK J);obtain ⟨j,M⟩:∃j,args.length=j+1:=⟨args.length-1,O⟩;have h9:j+1-m=0:=O;have j4:(lJ J.X e args).take (j+1)=args:=by rw [lJ,xP O,yC O]
  rw [M];simp only [FP,Fs,h9,j4];rw [X,q3,M];exact ⟨rfl,rfl⟩
 simp [b35,v2,<-g1,g2,ha,hm];refine CL.o h4 λr h ⟨R,X⟩=>?_;subst R;subst X;simp;have j6:=LP.ind (P:=prog) (fl:=J.fl) (r:=RW λr h=>∃v,MS J v h {V with aa:=V.aa++[⟨c,0,0,lJ J.X e args,[]⟩]}) (lv:=[0,1,7,8,9]) (b:=λg4=>a5 (xk g4)) (λi:Nat=>d-i) (λi=>args.length<=i/\i<=d) (λi=>[.p true J.pv 0,I c,.p false 0 0,FP E m i,I i]) (λ_=>[TO.row [.v (.string e.name.1),I e.node,I e.params,I e.result,I a0,I d,I e.first,I e.ji] 0]) (Fs E (lJ J.X e args) m) 1 (λi _=>⟨rfl,rfl,by cases i <;> rfl⟩) (λi hi g4 hk=>?_) args.length ⟨zC _,hk⟩;simpa using j6;have ⟨i2,l3⟩:=hi;have ⟨t,ht⟩:=FU E (lJ J.X e args) m i;have k:=p.mI t;rw [ht];obtain ⟨SL,d8⟩:∃SL,SL=J.X.S.sl.map bt:=⟨_,rfl⟩;simp [xk];refine ST.dc (λl4=>?_) λl2=>?_;have hx:=zA (l:=J.X.S.sl) (i:=a0+i) O;generalize J.X.S.sl[a0+i]=x at hx;have f9:SL[a0+i]? =some [I x]:=by rw [d8,zJ,hx];rfl
 have ⟨ty,z,f8,hz⟩:=j2 x (zI hx);have j5:(lJ J.X e args)[i]? =some z:=by unfold lJ;rw [zH i2,zJ,yX,ha,hm,zS,zP W];simp;rw [show a0+args.length+(i-args.length)=a0+i by omega,hx];simp [f8,hz]
 have ⟨ZL,zm,z1,z2,z3,_,_,k6,l7,k4,s⟩:=k.zv hz;simp only [Vm.cells,<-d8] at s;have q:=Gy (o:=true) j5 O p.lf h8 O;rw [ht] at q;have wi:i64.wrap ((i:Int)+1)=((i+1:Nat):Int):=by rw [bW O O];omega
 obtain ⟨j0,i5⟩:∃j,j=a0+i:=⟨_,rfl⟩;have wa:i64.wrap ((a0:Int)+i)=(j0:Int):=by rw [bW O O];omega
 rw [<-i5] at f9;simp at q z2;simp [s];simp only [wa];simp [f9,f8,z1,z2,z3,q];simp only [wi];refine hk (i+1) _ _ _ ?_ ?_ ?_ ⟨O,O⟩ O <;> rfl;have i4:i=d:=by omega
 subst i4;obtain ⟨h1,d9,e1,e2,e3,e4⟩:∃x,x=FP E m i/\ce x=[x]/\aW x/\cH (jz x)/\jz (jz x)=jz x:=⟨_,rfl,by cases i <;> rfl,by cases i <;> rfl,by cases i <;> rfl,by cases i <;> rfl⟩;rw [<-d9];obtain ⟨g,c7⟩:∃g,g=E++t:=⟨_,rfl⟩;have i9:J.pv<g.length:=by rw [c7];have:=ab v2;simp;omega
 have s:=k.vr.vm;rw [<-c7] at s ⊢ k;have ⟨_,k5,j9,s,j7,j8⟩:=s;simp only [Vm.cells,k.iv] at s;have hb:=p.iv▸p.ij.lo _ v1;have g5:∀y:TO,(g++[y])[J.pv]? =g[J.pv]? :=λy=>zD i9;have gs:=λx y:TO=>zF (l:=g++[y]) (i:=J.pv) (a:=x) W;have k7:=λ(L:ae) (x:TO) (K:J.pv<L.length)=>zF (a:=x) K;have ⟨k1,L',k2,H⟩:=k.vr.ca;obtain ⟨b1,b6⟩:∃b1,b1=L'.map bt:=⟨_,rfl⟩;rw [<-b6] at H;have f5:=ab f6;have f1:=zA (l:=L') (i:=c) O;generalize L'[c]=cx at f1;have f2:b1[c]? =some [I cx]:=by rw [b6,zJ,f1];rfl
 have c9:J.pv≠A.id fe:=by rw [<-k.iv];exact k.ij.ne k.vr.vm.1 k1 Z
 have c1:∀(L:ae) (y:TO),(L.set J.pv y)[A.id fe]? =L[A.id fe]? :=λL y=>zE c9;have c2:∀(y:TO),(g++[y])[A.id fe]? =g[A.id fe]? :=λy=>zD (ab H);have e6:=k.ij.lo _ k1;have h5:∃w,bQ J.fl (· =jY V.aa.length) A w E g/\mh w (jY V.aa.length) (lJ J.X e args).length 4 (jz h1)/\(w.al (jY V.aa.length)=true->g[w.id (jY V.aa.length)]? =some (.aY (w.az (jY V.aa.length)) 4 ((lJ J.X e args).map aw))):=by
  rw [d9,c7,<-ht];cases i with
  | zero=>exact ⟨A.drop (jY V.aa.length),bQ.drop p.ij (by simp [x7]),.inr ⟨by simp [Lay.drop],c8,true,rfl⟩,λK=>by simp [Lay.drop] at K⟩
  | succ j=>refine ⟨A.vH (jY V.aa.length) E.length (j+1-m),bQ.vH p.ij p.lf (by simp [x7]),.inl ⟨by simp [Lay.vH],?_⟩,λ_=>?_⟩;simp [Lay.vH,c8,FP];simp [Lay.vH,Fs];exact yC (by rw [yQ,c8];exact zC _)
 have ⟨w,u1,j3,j1⟩:=h5;have ⟨A3,d3,f3,i3,C⟩:=p.slot (f:=⟨c,0,0,lJ J.X e args,[]⟩) u1 rfl j3 j1;have ⟨d4,f4⟩:=d3.calls (L:=L'.set c (i64.wrap (cx+1))) (Zs k2);have ff:=f4 _ _ f3;have d6:=C 6 0 O O O;have d1:=C 11 0 O O O;have d5:=C 10 0 O O O;have b2:=C 12 0 O O O;have d7:=C 1 0 O O O;have d2:=C 5 0 O O O;have g9:mh A3 pE J.X.zs.length 4 j9:=by rcases j8 with ⟨x1,x2⟩|⟨x1,x2⟩;exact .inl ⟨b2.2.2.trans x1,by rw [x2,b2.1,b2.2.1]⟩;exact .inr ⟨b2.2.2.trans x1,x2⟩
 rcases j7 with ⟨al,rfl⟩|⟨al,i7,rfl⟩;have ⟨js,M⟩:=k.vr.fs al;have i6:=ab M;have gj:∀x y:TO,((g++[y]).set J.pv x)[A.id dK]? =g[A.id dK]? :=λx y=>by rw [zE (by rw [<-k.iv];exact k.ij.ne k.vr.vm.1 al Z),zD i6]
 have q:=λ(r0:TO) (E:ae)=>kI (e:=1) (b:=8) (an:=2) (fl:=J.fl) (l:=[r0,.aY 0 1 [[.p true g.length 0]]]) (s:=E) (id:=A.id dK) (az:=A.az dK) (n:=V.aa.length) (sz:=1) (y:=.m false 1 0 0 1 1) (news:=[[.p true g.length 0]]) (by simp [jW]);have c6:fits (V.aa.length+1) 8:=by have:=k.vr.lm;unfold fits;exact decide_eq_true ⟨O,O⟩
 have h7:=k.ij.lo _ al;have g8:A.id dK≠J.pv:=by rw [<-k.iv];exact (k.ij.ne k.vr.vm.1 al Z).symm
 have c3:∀(L:ae) (y:TO),(L.set (A.id dK) y)[J.pv]? =L[J.pv]? :=λL y=>zE g8;have c4:∀(L:ae) (y:TO),(L.set (A.id dK) y)[A.id fe]? =L[A.id fe]? :=λL y=>zE (k.ij.ne al k1 Z);have h3:∀(F x y z:TO),((((g++[F]).set J.pv x).set (A.id dK) y).set J.pv z)[J.pv]? =some z:=λF x y z=>zF W;simp [D6,e1,e2,e3,e4,g5,s,hb,gs,q,gj,M,h7,c6,oO,c1,c2,c3,c4,H,f2,e6,h3,f5];have h2:=d6.2.2.trans al;have ⟨v,N⟩:=d4.OV ff f7 h2 g9;refine ⟨v,?_⟩;have i1:=vS λi hi=>(d3.fr i hi).trans (p.fr i hi).symm;simp only [Vm.cells,Fm.cells,d6,d1,d5,d7,d2,i3,i1] at N;rw [Yu g8.symm c9 (k.ij.ne al k1 Z),b6];simpa [yJ,oO] using N;have h6:=zK i7;have q:=λ(r0:TO) (E:ae)=>fB (k:=true) (e:=1) (b:=8) (an:=2) (fl:=J.fl) (l:=[r0,.aY 0 1 [[.p true g.length 0]]]) (s:=E) (y:=.m false 1 0 0 1 1) (news:=[[.p true g.length 0]]) (by simp [jW]);have c6:fits 1 8:=by decide
 have hz:T.cR 2 1 [[.p true g.length 0]]:=rfl;simp only [List.length_cons,List.length_nil,yZ,c6,hz] at q;simp [db] at q;have g6:∀(F x y z:TO),((((g++[F]).set J.pv x)++[y]).set J.pv z)[J.pv]? =some z:=λF x y z=>zF W;have g7:∀(F x y:TO),(((g++[F]).set J.pv x)++[y])[J.pv]? =some x:=λF x y=>by rw [zD W,zF W]
 have c5:∀(F x y:TO),(((g++[F]).set J.pv x)++[y])[A.id fe]? =some (.aY (A.az fe) 1 b1):=λF x y=>by rw [zD (by have:=ab H;simp;omega),c1,c2,H]
 simp [D6,e1,e2,e3,e4,g5,s,hb,q,c1,c5,f2,e6,g6,g7,f5];have ⟨v,N⟩:=d4.OU ff f7 g9;refine ⟨v,?_⟩;simp only [Vm.cells,Fm.cells,d1,d5,d7,d2,i3] at N;rw [OQ c9 W (by have:=ab H;simp;omega),b6];simpa [yJ,oO,h6] using N
end
def PQ (e:ME) (h:Nat->Nat) (a:Vm) (n:Nat) (d:Fm) (c:Hp) (b:Fe) (w:Vl) (t:Int) (g:Nat) (f:Int) (i:ae):Prop:=
 (g<=e.room/\MS e h i (if t=0 then {a.top n {d with stack:=d.stack++[w]} with H:=c,F:=b} else ({a with H:=c,F:=b}:Vm).end_ 2 t f))\/(e.room<g/\MS e h i (a.end_ 2 4 f))
section
variable {J:ME} {D:Nat->Nat} {s E:ae} {V V':Vm} {A A':Lay} {n at_:Nat} {f:Fm} {a b:Vl} {H':Hp} {F':Fe} {l:List Vl} {x:IN}
theorem Is.h (h:V.Is n f):({V with H:=H',F:=F'}:Vm).Is n f:=⟨h.len,h.get⟩
theorem Xj (i:JI) (V:Vm) (n:Nat) (f:Fm) (l:List Vl) (a:Vl) (x:IN) (b:V.Is n f) (o:f.stack=l++[a]) (m:l.length<1000000000000) (p:x.op=9):∃w:Vl,∀(J:ME) (D:Nat->Nat) (s:ae) (at_:Nat),at_<J.X.g.ins.length->MS J D s V->EN prog 94 [.p true J.pv 0,.p true (D n) 0,.ag (eV x),I at_] s J.fl λr E=>r= .tu []/\MS J D E (V.top n {f with stack:=l++[w]}):=by have ⟨w,y,c⟩:=a08 i x.a a;refine ⟨w,λJ D s at_ j h=>EW.o e94 ?_⟩;have c1:=v93 h b o;simp [b94,p];refine CL.o c1 λr E ⟨q,t⟩=>?_;subst q;have e:=v131 (k:=0) t j a.k0 O;simp;refine CL.o e λr E ⟨v,z⟩=>?_;subst v;simp at c;simp [CP.q c];have g:=FY (a:=w) z b.top m;refine CL.o g λr E ⟨A,d⟩=>?_;subst A;simp;rw [aJ] at d;exact d
theorem Jj {w:Vl} {line:Int} (h:WK J D V H' F' w i q c y E) (k:V.Is n f) (l:f.stack.length<1000000000000):
  ∃(o:Vl) (m:Int) (p:Bool),y= .tu [.ag (aw o),U m,B p]/\EN prog 134 [.p true J.pv 0,.p true (D n) 0,.ag (aw o),U m,I line] E J.fl λy E=>y= .tu []/\PQ J D V n f H' F' w i c line E:=by
 rcases h with ⟨d,e,g⟩|⟨d,e,g⟩;refine ⟨w,i,q,e,(zu g (Is.h k) l).mono λy E ⟨j,a⟩=>⟨j,.inl ⟨d,?_⟩⟩⟩;split;rename_i b;rw [zP b] at a;exact a;rename_i b;rw [zO b] at a;exact a;refine ⟨vz,4,true,e,(zu g k l).mono λy E ⟨j,a⟩=>⟨j,.inr ⟨d,?_⟩⟩⟩;rw [zO O] at a;exact a
theorem Xk (p:JI) (V:Vm) (n:Nat) (f:Fm) (l:List Vl) (a b:Vl) (x:IN) (e:V.Is n f) (q:zj V.H) (C:f.stack=l++[a,b]) (y:l.length<1000000000000) (F:x.op=10):∃(H':Hp) (w:Vl) (t:Int) (g:Nat),∀(J:ME) (D:Nat->Nat) (s:ae) (at_:Nat),at_<J.X.g.ins.length->MS J D s V->EN prog 94 [.p true J.pv 0,.p true (D n) 0,.ag (eV x),I at_] s J.fl λr E=>r= .tu []/\PQ J D (V.top n {f with stack:=l}) n {f with stack:=l} H' V.F w t g x.line E:=by have ⟨H',w,t,b1,g,t0,t1,c⟩:=Xy p q x.a a b;refine ⟨H',w,t,g,λJ D s at_ v h=>EW.o e94 ?_⟩;have c1:=v93 (l:=l++[a]) (a:=b) h e (by rw [C];simp);simp [b94,F];refine CL.o c1 λr E ⟨H,K⟩=>?_;subst H;simp;have o:=v93 K e.top rfl;refine CL.o o λr E ⟨L,j⟩=>?_;subst L;rw [aJ] at j;simp;refine CL.o (v131 j v a.k0 b.k0) λr E ⟨M,k⟩=>?_;subst M;have N:=k;have ⟨A,d⟩:=k;have ⟨v1,fv,zv,m,v3,v4⟩:=d.vr.vm;simp only [Vm.cells,d.iv,d.ih] at m;simp [m];refine CL.o (c J D _ (V.top n {f with stack:=l}) rfl N) λr E z=>?_;obtain ⟨w1,t1,y1,X,i⟩:=Jj z e.top y;subst X;simp at i;simp;refine CL.o i λr E ⟨P,R⟩=>?_;subst P;simp;exact R
end
section
variable {J:ME} {D:Nat->Nat} {E h:ae} {V V':Vm} {A A':Lay} {n at_:Nat} {f:Fm} {a b:Vl} {H':Hp} {F':Fe} {l:List Vl} {x:IN}
theorem MD.oN (d:MD J D E V A) (c:V.Is n f):∃sv b,E[D n]? =some (.row (f.cells sv b) 0)/\J.fl<=D n/\mh A (jY n) f.ah.length 4 sv/\SV A (dI n) f.stack.length 4 b/\∀a:Fm,a.ah=f.ah->a.stack=f.stack->MS J D (E.set (D n) (.row (a.cells sv b) 0)) (V.top n a):=by have e:=d.vr.fr n f c.get;obtain ⟨sv,b,l,h,i⟩:=e.row;have g:=d.Kx c;refine ⟨sv,b,g▸l,g▸d.ij.lo _ e.al,h,i,λa j k=>?_⟩;have q:=e.CZ d.ij j k h i;rw [g] at q;exact fq d c q
theorem Xi (i:MS J D E V) (j:V.Is n f) (l:x.op=11) (k:x.a=c):EN prog 95 [.p true J.pv 0,.p true (D n) 0,.ag (eV x),I at_] E J.fl λr h=>r= .tu []/\MS J D h (V.top n {f with pc:=c}):=by have ⟨A,d⟩:=i;have ⟨sv,m,a,e,_,_,g⟩:=d.oN j;have b:=g {f with pc:=c} rfl rfl;simp only [Fm.cells] at a b;apply EW.o NC;simp [JA,l,k,a,e];exact b
theorem NZ (z:MS J D E V) (o:V.Is n f) (C:f.stack=l++[a]) (q:at_<J.X.g.ins.length) (s:x.op=12) (p:x.a=c):EN prog 95 [.p true J.pv 0,.p true (D n) 0,.ag (eV x),I at_] E J.fl λr h=>r= .tu []/\MS J D h (V.top n (if a.n=0 then {f with stack:=l,pc:=c} else {f with stack:=l})):=by have c1:=v93 z o C;by_cases b:a.n=0;rw [zP b];apply EW.o NC;simp [JA,s,p];refine CL.o c1 λr h ⟨g,i⟩=>?_;subst g;have e:=FZ (y:=true) i q;simp [zL b];refine CL.o e λr h ⟨j,k⟩=>?_;subst j;have ⟨A,d⟩:=k;have ⟨sv,F,m,v,_,_,w⟩:=d.oN o.top;have t:=w {f with stack:=l,pc:=c} rfl rfl;simp only [Fm.cells,aJ] at m t;simp [m,v];exact t;rw [zO b];apply EW.o NC;simp [JA,s,p];refine CL.o c1 λr h ⟨g,i⟩=>?_;subst g;have e:=FZ (y:=false) i q;simp [zB b];refine CL.o e λr h ⟨j,k⟩=>?_;subst j;simp;exact k
theorem O0 (R:MS J D E V) (o:V.Is n f) (y:f.stack=l++[a]) (hl:at_<J.X.g.ins.length) (b:x.op=13\/x.op=14) (t:x.a=c):∃b2:Bool,b2=decide ((a.n=0)=(x.op=13))/\EN prog 95 [.p true J.pv 0,.p true (D n) 0,.ag (eV x),I at_] E J.fl λr h=>r= .tu []/\MS J D h (V.top n (if b2=true then {f with pc:=c} else {f with stack:=l})):=by
 have hp:=R;have ⟨A,d⟩:=R;have ⟨sv,q,g,N,_,r3,P⟩:=d.oN o;have c5:f.stack.length=l.length+1:=by rw [y];simp
 have X:=d.vr.fr n f o.get;have c4:=X.kl;simp only [Fm.cells] at g;rcases r3 with ⟨al,rfl⟩|⟨al,e0,rfl⟩;have ⟨js,s⟩:=X.sk al;have z:i64.wrap ((f.stack.length:Int)-1)=(l.length:Int):=by rw [bW O O];omega
 have v:=λx=>fW (r:=true) (id:=A.id (dI n)) (az:=A.az (dI n)) (off:=0) (n:=f.stack.length) (sz:=4) (l:=x) (s:=E) gT;have p:(f.stack.map aw++js)[l.length]? =some (aw a):=by rw [y];simp
 simp at p;have w:(l.length:Int)<f.stack.length:=O;by_cases e:(a.n=0)=(x.op=13);refine ⟨true,by simp [e],?_⟩;have m:=FZ (y:=true) hp hl;have M:∀h,MS J D h V->∃sv q,h[D n]? =some (.row [I f.fn,I f.pc,I f.ai,sv,q,.v (.pointer none),I 0,.sl true []] 0)/\J.fl<=D n/\MS J D (h.set (D n) (.row [I f.fn,I c,I f.ai,sv,q,.v (.pointer none),I 0,.sl true []] 0)) (V.top n {f with pc:=c}):=λh ⟨A',d'⟩=>by have ⟨sv,q,g,N,_,_,P⟩:=d'.oN o;have b1:=P {f with pc:=c} rfl rfl;simp only [Fm.cells] at g b1;exact ⟨sv,q,g,N,b1⟩
 apply EW.o NC;rcases b with b|b;have i:a.n=0:=by rw [b] at e;simpa using e
 simp [JA,b,t,g,v,z,w,s,p,i];refine CL.o m λr h ⟨j,k⟩=>?_;subst j;have ⟨c3,b6,C,F,H⟩:=M h k;simp [C,F];exact H;have i:¬a.n=0:=by rw [b] at e;simpa using e
 simp [JA,b,t,g,v,z,w,s,p,zB i];refine CL.o m λr h ⟨j,k⟩=>?_;subst j;have ⟨c3,b6,C,F,H⟩:=M h k;simp [C,F];exact H;refine ⟨false,by simp [e],?_⟩;have m:=FZ (y:=false) hp hl;apply EW.o NC;rcases b with b|b;have i:¬a.n=0:=by rw [b] at e;simpa using e
 simp [JA,b,t,g,v,z,w,s,p,zB i];refine CL.o m λr h ⟨j,k⟩=>?_;subst j;simp;refine CL.o (v93 k o y) λr h ⟨K,L⟩=>?_;subst K;simp;exact L;have i:a.n=0:=by rw [b] at e;simpa using e
 simp [JA,b,t,g,v,z,w,s,p,zL i];refine CL.o m λr h ⟨j,k⟩=>?_;subst j;simp;refine CL.o (v93 k o y) λr h ⟨K,L⟩=>?_;subst K;simp;exact L;omega
end
@[simp] theorem a1z (r:Bool) (i o:Nat):uW (.p r i o) (.p r i o):=by simp [uW,nT]
@[simp] theorem a1B (k:IntKind) (i:Int):uW (.v (.int k i)) (.v (.int k i)):=by simp [uW,nT,kp]
theorem my {a:Type} (L:List a) (n:Nat) (x:a):(L.set n x).take n=L.take n:=by apply xF;intro i;rw [zS,zS];split;rw [zE O];rfl
section
variable {J:ME} {D:Nat->Nat} {E h:ae} {V V':Vm} {A A':Lay} {n at_:Nat} {f:Fm} {a b:Vl} {H':Hp} {F':Fe} {l xs:List Vl} {x:IN}
theorem MS.row (h:MS J D E V):∃(A:Lay) (a b:TV),E[J.pv]? =some (.row (V.cells J.X J.room J.dk A a b (.m true (A.id iM) (A.az iM) 0 J.X.g.ins.length 4) (.m true (A.id fe) (A.az fe) 0 J.X.S.fn.length 1)) 0)/\A.id bY=J.ph/\A.id ls=J.pd/\SV A dK V.aa.length 1 a/\V.aa.length<=J.dk/\J.dk<=100000:=by obtain ⟨A,d⟩:=h;obtain ⟨f,a,b,c,e,g⟩:=d.vr.vm;exact ⟨A,a,b,by rw [<-d.iv];exact c,d.ih,d.ie,e,d.vr.nf,d.vr.lm⟩
theorem Xg {a:Fn} {e:Ec} (o:MS J D E V) (y:V.Is n f) (X:f.stack=l++xs) (hx:x.op=19) (z:x.a=c) (H:J.X.g.fns[c]? =some e) (R:e.params=xs.length) (K:J.X.S.fn[c]? =some a) {a0:Nat} (C:a.at_=a0) (N:a.ah=d) (L:xs.length<=d) (P:a0+d<=J.X.S.sl.length) (b1:∀x∈J.X.S.sl,∃(t:Nat) (b2:Vl),x=(t:Nat)/\J.X.zs[t]? =some b2) (F:J.X.S.sl.length<=99000000000):
  EN prog 96 [.p true J.pv 0,.p true (D n) 0,.ag (eV x)] E J.fl λr h=>r= .tu []/\((V.aa.length<J.dk/\∃i,MS J i h {V with aa:=V.aa.set n {f with stack:=l}++[⟨c,0,0,lJ J.X a xs,[]⟩]})\/(J.dk<=V.aa.length/\MS J D h ((V.top n {f with stack:=l}).end_ 2 5 x.line))):=by
 have c1:=O4 o y X;have ⟨A,fv,zv,s,i1,i2,v3,v4,v5⟩:=o.row;simp only [Vm.cells] at s;obtain ⟨b,p⟩:∃b,b=J.X.g.fns.map rR:=⟨_,rfl⟩;have q:b[c]? =some (rR e):=by rw [p,zJ,H];rfl
 simp at q;apply EW.o NB;simp [Jz,hx,z,s,<-p,q,R];refine CL.o c1 λr h ⟨q1,j⟩=>?_;subst q1;have ⟨A',m,b6,v,j1,j2,w,w4,w5⟩:=j.row;simp only [Vm.cells] at v;rw [lB] at w w4;have M:∀x:ae,eO prog 78 m x h=some (I (V.aa.length:Nat))/\eO prog 78 (bw m) x h=some (I (V.aa.length:Nat)):=λx=>w.eO pY;simp [v,M];by_cases hE:V.aa.length=J.dk;have g:(V.aa.length:Int)=J.dk:=by omega
 simp [zL g];refine CL.o (v130 j) λr h ⟨q3,k⟩=>?_;subst q3;simp;exact .inr ⟨O,k⟩;have g:¬(V.aa.length:Int)=J.dk:=by omega
 simp [zB g];refine CL.o (Bi j K C N L P b1 F (by rw [lB];omega)) λr h ⟨i,k⟩=>?_;simp;exact .inl ⟨O,i,k⟩
theorem Xh (b1:kz) (V:Vm) (n:Nat) (f:Fm) (l xs:List Vl) (x:IN) (hI:V.Is n f) (hF:∀x∈V.F.ins,-9223372036854775808<=x) (hs:f.stack=l++xs) (K:l.length<1000000000000) (M:x.op=20) (h1:1<=x.a) (h2:x.a<=8) (hl:xs.length=(oY x.a).length):∃(H':Hp) (F':Fe) (w:Vl) (t:Int) (C:Nat),∀(J:ME) (D:Nat->Nat) (E:ae),MS J D E V->EN prog 96 [.p true J.pv 0,.p true (D n) 0,.ag (eV x)] E J.fl λr h=>r= .tu []/\PQ J D (V.top n {f with stack:=l}) n {f with stack:=l} H' F' w t C x.line h:=by
 have ⟨H',F',w,t,b6,C,t0,R,c⟩:=Xx b1 hF x.a xs h1 h2 hl;refine ⟨H',F',w,t,C,λJ D E a=>EW.o NB ?_⟩;have c1:=O4 a hI hs;have ⟨A,g,j,k,N,P,v3,v4,v5⟩:=a.row;simp only [Vm.cells,N,P] at k;have L:(xs.length:Int)=if x.a=7 then 0 else if x.a=5 then 2 else 1:=by rw [hl];unfold oY;rcases (by omega:x.a=1\/x.a=2\/x.a=3\/x.a=4\/x.a=5\/x.a=6\/x.a=7\/x.a=8) with a|a|a|a|a|a|a|a <;> rw [a] <;> rfl
 have F:=λb2 (K:(xs.length:Int)=b2)=>K▸c1;have H:∀h,MS J D h (V.top n {f with stack:=l})->∃(A:Lay) (g j:TV),h[J.pv]? =some (.row ((V.top n {f with stack:=l}).cells J.X J.room J.dk A g j (.m true (A.id iM) (A.az iM) 0 J.X.g.ins.length 4) (.m true (A.id fe) (A.az fe) 0 J.X.S.fn.length 1)) 0)/\A.id bY=J.ph/\A.id ls=J.pd:=λh a=>by have ⟨A,g,j,k,N,P,_⟩:=a.row;exact ⟨A,g,j,k,N,P⟩
 have X:∀{r h},WK J D (V.top n {f with stack:=l}) H' F' w t b6 C r h->_:=λ{r h} i=>Jj (line:=x.line) i hI.top K;rcases (by omega:x.a=7\/x.a=5\/(¬x.a=7/\¬x.a=5)) with o|m|⟨o,m⟩;have c1:=F 0 (by rw [L,zP o]);simp [Jz,M,k,zL o];refine CL.o c1 λr h ⟨s,d⟩=>?_;subst s;have ⟨A,g,j,e,p,q⟩:=H h d;simp only [Vm.cells,p,q] at e;simp [e];refine CL.o (c J D _ (V.top n {f with stack:=l}) rfl rfl d) λr h i=>?_;have ⟨w1,R,y1,z,b⟩:=X i;subst z;simp at b;simp;refine CL.o b λr h ⟨v,y⟩=>?_;subst v;simp;exact y;have c1:=F 2 (by rw [L,zO O,zP m]);simp [Jz,M,k,zL m,zB (show ¬x.a=7 by omega)];refine CL.o c1 λr h ⟨s,d⟩=>?_;subst s;have ⟨A,g,j,e,p,q⟩:=H h d;simp only [Vm.cells,p,q] at e;simp [e];refine CL.o (c J D _ (V.top n {f with stack:=l}) rfl rfl d) λr h i=>?_;have ⟨w1,R,y1,z,b⟩:=X i;subst z;simp at b;simp;refine CL.o b λr h ⟨v,y⟩=>?_;subst v;simp;exact y;have c1:=F 1 (by rw [L,zO o,zO m]);simp [Jz,M,k,zB m,zB o];refine CL.o c1 λr h ⟨s,d⟩=>?_;subst s;have ⟨A,g,j,e,p,q⟩:=H h d;simp only [Vm.cells,p,q] at e;simp [e];refine CL.o (c J D _ (V.top n {f with stack:=l}) rfl rfl d) λr h i=>?_;have ⟨w1,R,y1,z,b⟩:=X i;subst z;simp at b;simp;refine CL.o b λr h ⟨v,y⟩=>?_;subst v;simp;exact y
theorem Xf {b:Fm} (j:MS J D E V) (d:V.Is n f) (q:V.over=false) (s:f.stack=l++[a]) (t:x.op=25) (p:n=c+1) (m:V.aa[c]? =some b) (o:b.stack.length<1000000000000):EN prog 96 [.p true J.pv 0,.p true (D n) 0,.ag (eV x)] E J.fl λr h=>r= .tu []/\MS J D h {V with aa:=(V.aa.take n).set c {b with stack:=b.stack++[a]}}:=by
 subst p;have c1:=v93 j d s;apply EW.o NB;simp [Jz,t];refine CL.o c1 λr h ⟨v,w⟩=>?_;subst v;simp;refine CL.o (v138 w d.top) λr h ⟨y,e⟩=>?_;subst y;have i:(V.top (c+1) {f with stack:=l}).left (c+1)={V with aa:=V.aa.take (c+1)}:=by unfold Vm.left;rw [zO O];simp [Vm.top,my]
 rw [i] at e;have ⟨A,F,M,g,K,L,_⟩:=e.row;simp only [Vm.cells,q] at g;simp [g];have H:=d.len;have k:({V with aa:=V.aa.take (c+1)}:Vm).Is c b:=⟨W,by simp only;rw [zS,zP O];exact m⟩;refine CL.o (v139 e k o) λr h ⟨z,C⟩=>?_;subst z;simp;exact C
theorem NX (g:MS J D E V) (c:V.Is 0 f) (i:V.over=false) (j:f.stack=l++[a]) (k:x.op=25):EN prog 96 [.p true J.pv 0,.p true (D 0) 0,.ag (eV x)] E J.fl λr h=>r= .tu []/\MS J D h {V with aa:=[],over:=true,ok:=1,ot:=0,ol:=0}:=by
 have c1:=v93 g c j;apply EW.o NB;simp [Jz,k];refine CL.o c1 λr h ⟨m,n⟩=>?_;subst m;simp;refine CL.o (v138 n c.top) λr h ⟨o,b⟩=>?_;subst o;have e:(V.top 0 {f with stack:=l}).left 0={V with aa:=[],over:=true,ok:=1,ot:=0,ol:=0}:=by unfold Vm.left Vm.end_;rw [zP rfl];simp [Vm.top,i]
 rw [e] at b;have ⟨A,p,t,d,q,s,_⟩:=b.row;simp only [Vm.cells] at d;simp [d];exact b
theorem NY (a:MS J D E V) (b:V.Is n f) (c:x.op=26):EN prog 96 [.p true J.pv 0,.p true (D n) 0,.ag (eV x)] E J.fl λr h=>r= .tu []/\MS J D h (V.left n):=by apply EW.o NB;simp [Jz,c];refine CL.o (v138 a b) λr h ⟨d,e⟩=>?_;subst d;simp;exact e
end
def PT (a:Vm) (n:Nat) (b:Fm) (w:Vl) (t c:Int):Vm:=if t=0 then a.top n {b with stack:=b.stack++[w]} else a.end_ 2 t c
def ET (a:Vm) (t b:Int):Vm:=if t=0 then a else a.end_ 2 t b
section
variable {J:ME} {D:Nat->Nat} {E h:ae} {V V':Vm} {A A':Lay} {n at_:Nat} {f:Fm} {a b:Vl} {H':Hp} {F':Fe} {l xs:List Vl} {x:IN}
theorem Xb (V:Vm) (n:Nat) (f:Fm) (l:List Vl) (a b:Vl) (x:IN) (e:V.Is n f) (o:f.stack=l++[a,b]) (m:l.length<1000000000000) (p:x.op=15):∃(w:Vl) (t:Int),∀(J:ME) (D:Nat->Nat) (E:ae),MS J D E V->EN prog 97 [.p true J.pv 0,.p true (D n) 0,.ag (eV x)] E J.fl λr h=>r= .tu []/\MS J D h (PT (V.top n {f with stack:=l}) n {f with stack:=l} w t x.line):=by have ⟨w,t,L,c⟩:=O3 V.H a b.n;refine ⟨w,t,λJ D E k=>EW.o Bp ?_⟩;simp [Bv,p];refine CL.o (v93 (l:=l++[a]) (a:=b) k e (by rw [o];simp)) λr h ⟨v,y⟩=>?_;subst v;simp;refine CL.o (v93 y e.top rfl) λr h ⟨z,d⟩=>?_;subst z;rw [aJ] at d;have ⟨A,K,M,j,q,s,_⟩:=d.row;simp only [Vm.cells,q,s] at j;simp [j];refine CL.o (c J D _ (V.top n {f with stack:=l}) rfl d) λr h ⟨C,F⟩=>?_;subst C;subst F;have g:=zu (a:=w) (t:=t) (l:=x.line) d e.top m;simp at g;simp;refine CL.o g λr h ⟨H,i⟩=>?_;subst H;simp;rw [aJ] at i;unfold PT;rw [aJ];exact i
theorem Xd (V:Vm) (n:Nat) (f:Fm) (l:List Vl) (a:Vl) (x:IN) (g:V.Is n f) (p:f.stack=l++[a]) (o:l.length<1000000000000) (q:x.op=17):∃(w:Vl) (t:Int),∀(J:ME) (D:Nat->Nat) (E:ae),MS J D E V->EN prog 97 [.p true J.pv 0,.p true (D n) 0,.ag (eV x)] E J.fl λr h=>r= .tu []/\MS J D h (PT (V.top n {f with stack:=l}) n {f with stack:=l} w t x.line):=by have ⟨w,t,M,c⟩:=O3 V.H a x.a;refine ⟨w,t,λJ D E e=>EW.o Bp ?_⟩;have ⟨A,m,L,j,s,v,_⟩:=e.row;simp only [Vm.cells,s,v] at j;simp [Bv,q,j];refine CL.o (v93 e g p) λr h ⟨C,b⟩=>?_;subst C;have ⟨A,m,L,k,y,z,_⟩:=b.row;simp only [Vm.cells,y,z] at k;simp [k];refine CL.o (c J D _ (V.top n {f with stack:=l}) rfl b) λr h ⟨F,H⟩=>?_;subst F;subst H;have d:=zu (a:=w) (t:=t) (l:=x.line) b g.top o;simp at d;simp;refine CL.o d λr h ⟨K,i⟩=>?_;subst K;simp;rw [aJ] at i;unfold PT;rw [aJ];exact i
theorem X8 (V:Vm) (n:Nat) (f:Fm) (l:List Vl) (a b c:Vl) (x:IN) (e:V.Is n f) (C:f.stack=l++[a,b,c]) (F:x.op=16):∃(H':Hp) (t:Int),∀(J:ME) (D:Nat->Nat) (E:ae),MS J D E V->EN prog 97 [.p true J.pv 0,.p true (D n) 0,.ag (eV x)] E J.fl λr h=>r= .tu []/\MS J D h (ET {V.top n {f with stack:=l} with H:=H'} t x.line):=by have ⟨H',t,P,y⟩:=v141 V.H a b.n c;refine ⟨H',t,λJ D E z=>?_⟩;by_cases j:t=0;apply EW.o Bp;simp [Bv,F];refine CL.o (v93 (l:=l++[a,b]) (a:=c) z e (by rw [C];simp)) λr h ⟨o,p⟩=>?_;subst o;simp;refine CL.o (v93 (l:=l++[a]) (a:=b) p e.top Z) λr h ⟨q,g⟩=>?_;subst q;rw [aJ] at g;simp;refine CL.o (v93 g e.top rfl) λr h ⟨s,d⟩=>?_;subst s;rw [aJ] at d;have ⟨A,K,N,i,k,m,_⟩:=d.row;simp only [Vm.cells,k,m] at i;simp [i];refine CL.o (y J D _ (V.top n {f with stack:=l}) rfl d) λr h ⟨v,w⟩=>?_;subst v;simp [zL j];rw [ET,zP j];exact w;apply EW.o Bp;simp [Bv,F];refine CL.o (v93 (l:=l++[a,b]) (a:=c) z e (by rw [C];simp)) λr h ⟨o,p⟩=>?_;subst o;simp;refine CL.o (v93 (l:=l++[a]) (a:=b) p e.top Z) λr h ⟨q,g⟩=>?_;subst q;rw [aJ] at g;simp;refine CL.o (v93 g e.top rfl) λr h ⟨s,d⟩=>?_;subst s;rw [aJ] at d;have ⟨A,K,N,i,k,m,_⟩:=d.row;simp only [Vm.cells,k,m] at i;simp [i];refine CL.o (y J D _ (V.top n {f with stack:=l}) rfl d) λr h ⟨v,w⟩=>?_;subst v;simp [zB j];refine CL.o (v130 w) λr h ⟨M,L⟩=>?_;subst M;simp;rw [ET,zO j];exact L
theorem X7 (V:Vm) (n:Nat) (f:Fm) (l:List Vl) (a c:Vl) (x:IN) (g:V.Is n f) (w:f.stack=l++[a,c]) (y:x.op=18):∃(H':Hp) (t:Int),∀(J:ME) (D:Nat->Nat) (E:ae),MS J D E V->EN prog 97 [.p true J.pv 0,.p true (D n) 0,.ag (eV x)] E J.fl λr h=>r= .tu []/\MS J D h (ET {V.top n {f with stack:=l} with H:=H'} t x.line):=by have ⟨H',t,L,s⟩:=v141 V.H a x.a c;refine ⟨H',t,λJ D E v=>?_⟩;by_cases e:t=0;apply EW.o Bp;simp [Bv,y];refine CL.o (v93 (l:=l++[a]) (a:=c) v g (by rw [w];simp)) λr h ⟨k,m⟩=>?_;subst k;simp;refine CL.o (v93 m g.top rfl) λr h ⟨o,b⟩=>?_;subst o;rw [aJ] at b;have ⟨A,z,K,d,i,j,_⟩:=b.row;simp only [Vm.cells,i,j] at d;simp [d];refine CL.o (s J D _ (V.top n {f with stack:=l}) rfl b) λr h ⟨p,q⟩=>?_;subst p;simp [zL e];rw [ET,zP e];exact q;apply EW.o Bp;simp [Bv,y];refine CL.o (v93 (l:=l++[a]) (a:=c) v g (by rw [w];simp)) λr h ⟨k,m⟩=>?_;subst k;simp;refine CL.o (v93 m g.top rfl) λr h ⟨o,b⟩=>?_;subst o;rw [aJ] at b;have ⟨A,z,K,d,i,j,_⟩:=b.row;simp only [Vm.cells,i,j] at d;simp [d];refine CL.o (s J D _ (V.top n {f with stack:=l}) rfl b) λr h ⟨p,q⟩=>?_;subst p;simp [zB e];refine CL.o (v130 q) λr h ⟨F,C⟩=>?_;subst F;simp;rw [ET,zO e];exact C
theorem Xa (X:Sg) (V:Vm) (n:Nat) (f:Fm) (l:List Vl) (a:Vl) (x:IN) (m:Nat) (z:Vl) (e:V.Is n f) (A:f.stack=l++[a]) (p:l.length<1000000000000) (C:x.op=21) (v:x.a=m) (F:X.zs[m]? =some z):∃(H':Hp) (w:Vl) (t:Int) (k:Nat),∀(J:ME) (D:Nat->Nat) (E:ae),J.X=X->MS J D E V->EN prog 97 [.p true J.pv 0,.p true (D n) 0,.ag (eV x)] E J.fl λr h=>r= .tu []/\PQ J D (V.top n {f with stack:=l}) n {f with stack:=l} H' V.F w t k x.line h:=by have ⟨H',w,L,t,k,M,c⟩:=Xw X V.H m a.n z F;refine ⟨H',w,t,k,λJ D E s q=>EW.o Bp ?_⟩;simp [Bv,C,v];refine CL.o (v93 q e A) λr h ⟨H,K⟩=>?_;subst H;simp;refine CL.o (c J D _ (V.top n {f with stack:=l}) s rfl K) λr h y=>?_;rcases y with ⟨g,i,j⟩|⟨g,i,j⟩;subst i;have b:=zu (a:=w) (t:=t) (l:=x.line) j (Is.h e.top) p;simp at b;simp;refine CL.o b λr h ⟨o,d⟩=>?_;subst o;simp;exact .inl ⟨g,d⟩;subst i;have b:=zu (a:=L) (t:=4) (l:=x.line) j e.top p;simp only [aw] at b;simp;refine CL.o b λr h ⟨o,d⟩=>?_;subst o;simp;rw [zO O] at d;exact .inr ⟨g,d⟩
theorem X9 (X:Sg) (V:Vm) (n:Nat) (f:Fm) (x:IN) (j:Nat) (r:Rc) (o:V.Is n f) (p:f.stack.length<1000000000000) (N:x.op=22) (F:x.a=j) (M:X.S.rc[j]? =some r) (s:0<=r.fr) (v:0<=r.count) (A:r.fr+r.count<=X.S.fd.length) (H:∀x∈X.S.fd,∃(t:Nat) (z:Vl),x.type=(t:Nat)/\X.zs[t]? =some z) (K:X.S.fd.length<=1000000):∃(H':Hp) (w:Vl) (i:Nat),∀(J:ME) (D:Nat->Nat) (E:ae),J.X=X->MS J D E V->EN prog 97 [.p true J.pv 0,.p true (D n) 0,.ag (eV x)] E J.fl λr h=>r= .tu []/\PQ J D V n f H' V.F w 0 i x.line h:=by have ⟨H',w,i,c⟩:=v143 X V.H j r M s v A H K;refine ⟨H',w,i,λJ D E C q=>EW.o Bp ?_⟩;simp [Bv,N,F];refine CL.o (c J D _ V C rfl q) λr h L=>?_;rcases L with ⟨d,e,g⟩|⟨d,e,g⟩;subst e;have b:=Ve (a:=w) (y:=true) (l:=x.line) g (Is.h o) p;simp at b;simp;refine CL.o b λr h ⟨k,m⟩=>?_;subst k;simp;exact .inl ⟨d,m⟩;subst e;have b:=Ve (a:=vz) (y:=false) (l:=x.line) g o p;simp at b;simp;refine CL.o b λr h ⟨k,m⟩=>?_;subst k;simp;exact .inr ⟨d,m⟩
theorem X6 (X:Sg) (v:JF X) (V:Vm) (n:Nat) (f:Fm) (l:List Vl) (a:Vl) (x:IN) (j:V.Is n f) (t:zj V.H) (z:V.out.length<=65536) (k:f.stack=l++[a]) (m:x.op=23):∃(y:Bool) (o:List UInt8),(V.out++o).length<=65536/\∀(J:ME) (D:Nat->Nat) (E:ae),J.X=X->MS J D E V->EN prog 97 [.p true J.pv 0,.p true (D n) 0,.ag (eV x)] E J.fl λr h=>r= .tu []/\MS J D h (ET {V.top n {f with stack:=l} with out:=V.out++o} (if y=true then 0 else 4) x.line):=by
 have ⟨y,o,s,F,c⟩:=Xv X v V t z a;refine ⟨y,o,s,λJ D E w i=>?_⟩;have p:=λh q=>c J D h (V.top n {f with stack:=l}) w rfl rfl q;cases y with
 | true=>apply EW.o Bp;simp [Bv,m];refine CL.o (v93 i j k) λr h ⟨b,d⟩=>?_;subst b;simp;refine CL.o (p _ d) λr h ⟨e,g⟩=>?_;subst e;simp;exact g
 | false=>apply EW.o Bp;simp [Bv,m];refine CL.o (v93 i j k) λr h ⟨b,d⟩=>?_;subst b;simp;refine CL.o (p _ d) λr h ⟨e,g⟩=>?_;subst e;simp;refine CL.o (v130 g) λr h ⟨C,A⟩=>?_;subst C;simp;exact A
theorem Xe (b:MS J D E V) (c:V.Is n f) (d:f.stack=l++[a]) (e:x.op=24):EN prog 97 [.p true J.pv 0,.p true (D n) 0,.ag (eV x)] E J.fl λr h=>r= .tu []/\MS J D h (V.top n {f with stack:=l}):=by apply EW.o Bp;simp [Bv,e];refine CL.o (v93 b c d) λr h ⟨g,i⟩=>?_;subst g;simp;exact i
end
@[simp] theorem a1A (r:Bool) (i v o n z:Nat):uW (.m r i v o n z) (.m r i v o n z):=by simp [uW,nT]
section
variable {J:ME} {D:Nat->Nat} {E h:ae} {V V':Vm} {A A':Lay} {n at_:Nat} {f:Fm} {a b:Vl} {H':Hp} {F':Fe} {l xs:List Vl} {x:IN} {P:ae->Prop}
theorem O1 (a:x.op=9\/x.op=10) (b:EN prog 94 [.p true J.pv 0,.p true (D n) 0,.ag (eV x),I at_] E J.fl λr h=>r= .tu []/\P h):EN prog 61 [.p true J.pv 0,.p true (D n) 0,.ag (eV x),I at_] E J.fl λr h=>r= .tu []/\P h:=by
 apply EW.o Br;rcases a with a|a <;>
 ·simp only [eV,a] at b;simp [Bw,a];refine CL.o b λr h ⟨c,d⟩=>?_;subst c;simp;exact d
theorem BG (a:x.op=11\/x.op=12\/x.op=13\/x.op=14) (b:EN prog 95 [.p true J.pv 0,.p true (D n) 0,.ag (eV x),I at_] E J.fl λr h=>r= .tu []/\P h):EN prog 61 [.p true J.pv 0,.p true (D n) 0,.ag (eV x),I at_] E J.fl λr h=>r= .tu []/\P h:=by
 apply EW.o Br;rcases a with a|a|a|a <;>
 ·simp only [eV,a] at b;simp [Bw,a];refine CL.o b λr h ⟨c,d⟩=>?_;subst c;simp;exact d
theorem zt (a:x.op=19\/x.op=20\/x.op=25\/x.op=26) (b:EN prog 96 [.p true J.pv 0,.p true (D n) 0,.ag (eV x)] E J.fl λr h=>r= .tu []/\P h):EN prog 61 [.p true J.pv 0,.p true (D n) 0,.ag (eV x),I at_] E J.fl λr h=>r= .tu []/\P h:=by
 apply EW.o Br;rcases a with a|a|a|a <;>
 ·simp only [eV,a] at b;simp [Bw,a];refine CL.o b λr h ⟨c,d⟩=>?_;subst c;simp;exact d
theorem sd (a:x.op=15\/x.op=16\/x.op=17\/x.op=18\/x.op=21\/x.op=22\/x.op=23\/x.op=24) (b:EN prog 97 [.p true J.pv 0,.p true (D n) 0,.ag (eV x)] E J.fl λr h=>r= .tu []/\P h):EN prog 61 [.p true J.pv 0,.p true (D n) 0,.ag (eV x),I at_] E J.fl λr h=>r= .tu []/\P h:=by
 apply EW.o Br;rcases a with a|a|a|a|a|a|a|a <;>
 ·simp only [eV,a] at b;simp [Bw,a];refine CL.o b λr h ⟨c,d⟩=>?_;subst c;simp;exact d
def Bh (k n c b:Int) (h:0<=k) (a:k=1->-9223372036854775808<=n):Vl:=⟨k,n,c,b,h,a⟩
theorem Xp (V:Vm) (n:Nat) (f:Fm) (x:IN) (i:V.Is n f) (j:f.stack.length<1000000000000) (b:x.op=2\/x.op=3\/x.op=4\/x.op=6) (k:x.op=2->-9223372036854775808<=x.a):∃w:Vl,∀(J:ME) (D:Nat->Nat) (E:ae) (at_:Nat),MS J D E V->EN prog 61 [.p true J.pv 0,.p true (D n) 0,.ag (eV x),I at_] E J.fl λr h=>r= .tu []/\MS J D h (V.top n {f with stack:=f.stack++[w]}):=by rcases b with b|b|b|b;refine ⟨Bh 1 x.a 0 0 O (λ_=>k b),λJ D E at_ d=>EW.o Br ?_⟩;have c:=FY (a:=Bh 1 x.a 0 0 O (λ_=>k b)) d i j;simp [Bh] at c;simp [Bw,b];refine CL.o c λr h ⟨e,g⟩=>?_;subst e;simp;exact g;refine ⟨Bh 2 x.a 0 0 O O,λJ D E at_ d=>EW.o Br ?_⟩;have c:=FY (a:=Bh 2 x.a 0 0 O O) d i j;simp [Bh] at c;simp [Bw,b];refine CL.o c λr h ⟨e,g⟩=>?_;subst e;simp;exact g;refine ⟨Bh 4 0 0 x.a O O,λJ D E at_ d=>EW.o Br ?_⟩;have c:=FY (a:=Bh 4 0 0 x.a O O) d i j;simp [Bh] at c;simp [Bw,b];refine CL.o c λr h ⟨e,g⟩=>?_;subst e;simp;exact g;refine ⟨Bh 5 0 0 0 O O,λJ D E at_ d=>EW.o Br ?_⟩;have c:=FY (a:=Bh 5 0 0 0 O O) d i j;simp [Bh] at c;simp [Bw,b];refine CL.o c λr h ⟨e,g⟩=>?_;subst e;simp;exact g
theorem Xn (V:Vm) (n:Nat) (f:Fm) (x:IN) (i:Nat) (b:Tx) (s:V.Is n f) (v:f.stack.length<1000000000000) (L:x.op=5) (C:x.a=i):∃(H':Hp) (w:Vl) (m:Nat),∀(J:ME) (D:Nat->Nat) (E:ae) (at_:Nat),J.X.g.strs[i]? =some b->MS J D E V->EN prog 61 [.p true J.pv 0,.p true (D n) 0,.ag (eV x),I at_] E J.fl λr h=>r= .tu []/\PQ J D V n f H' V.F w 0 m x.line h:=by
 have ⟨H',w,m,c⟩:=v91 V.H b.1 (Zo b.2);refine ⟨H',w,m,λJ D E at_ F q=>EW.o Br ?_⟩;have ⟨A,P,R,z,M,N,_⟩:=q.row;obtain ⟨e,t⟩:∃e,e=J.X.g.strs.map GG:=⟨_,rfl⟩;have H:e[i]? =some [.v (.string b.1)]:=by rw [t,zJ,F];rfl
 simp only [Vm.cells,M,N,<-t] at z;simp [Bw,L,C,z,H];refine CL.o (c J D _ V rfl q) λr h K=>?_;rcases K with ⟨g,j,k⟩|⟨g,j,k⟩;subst j;have d:=Ve (a:=w) (y:=true) (l:=x.line) k (Is.h s) v;simp at d;simp;refine CL.o d λr h ⟨o,p⟩=>?_;subst o;simp;exact .inl ⟨g,p⟩;subst j;have d:=Ve (a:=vz) (y:=false) (l:=x.line) k s v;simp at d;simp;refine CL.o d λr h ⟨o,p⟩=>?_;subst o;simp;exact .inr ⟨g,p⟩
theorem Xo (l:MS J D E V) (g:V.Is n f) (v:f.stack.length<1000000000000) (w:x.op=7) (t:x.a=c) (p:f.ah[c]? =some a):EN prog 61 [.p true J.pv 0,.p true (D n) 0,.ag (eV x),I at_] E J.fl λr h=>r= .tu []/\MS J D h (V.top n {f with stack:=f.stack++[a]}):=by have i:=FY (a:=a) l g v;have ⟨A,d⟩:=l;have ⟨sv,H,e,F,s,_,_⟩:=d.oN g;have o:=ab p;simp only [Fm.cells] at e;rcases s with ⟨al,rfl⟩|⟨_,C,_⟩;have k:=(d.vr.fr n f g.get).sl al;obtain ⟨b,m,q,j,e3⟩:∃(b:cD) (m:Nat),b=f.ah.map aw/\b[c]? =some (aw a)/\m=f.ah.length:=⟨_,_,rfl,by rw [zJ,p];rfl,rfl⟩;rw [<-q] at k;rw [<-e3] at e o;simp at j i;apply EW.o Br;simp [Bw,w,t,e,o,k,j];refine CL.o i λr h ⟨y,z⟩=>?_;subst y;simp;exact z;omega
theorem MD.QO (d:MD J D E V A) (b:V.Is n f) (al:A.al (jY n)) (l:c<f.ah.length):MS J D (E.set (A.id (jY n)) (.aY (A.az (jY n)) 4 ((f.ah.map aw).set c (aw a)))) (V.top n {f with ah:=f.ah.set c a}):=by have h:=d.vr.fr n f b.get;obtain ⟨sv,g,i,j,k⟩:=h.row;refine fq d b ⟨A,⟨h.al,⟨sv,g,?_,by simpa using j,k⟩,λ_=>?_,λe=>?_,h.kl⟩,(bQ.set d.ij al).mono λr J=>.inr (.inl J),rfl⟩;rw [d.ij.aX h.al al Z];exact i;rw [d.ij.get_eq al,yJ];rw [d.ij.aX e al Z];exact h.sk e
theorem Xm (s:MS J D E V) (b:V.Is n f) (M:f.stack=l++[a]) (N:x.op=8) (K:x.a=c) (p:c<f.ah.length):EN prog 61 [.p true J.pv 0,.p true (D n) 0,.ag (eV x),I at_] E J.fl λr h=>r= .tu []/\MS J D h (V.top n {f with stack:=l,ah:=f.ah.set c a}):=by
 have H:=s;have ⟨A,d⟩:=s;have ⟨sv,kv,m,X,F,_,_⟩:=d.oN b;have y:=Xl H b M m;simp only [Fm.cells] at m;have b1:dX (bw sv)=bw sv/\uW (bw sv) (bw sv):=by
  rcases F with ⟨_,rfl⟩|⟨_,_,c2,rfl⟩;exact ⟨rfl,by simp [uW,nT]⟩;have:f.ah.length=0:=by assumption
  omega
 apply EW.o Br;simp [Bw,N,K,m];refine CL.o y λr h ⟨P,R,b2,q⟩=>?_;subst P;have ⟨A',e⟩:=R;have ⟨c3,b6,i,k2,w,_,_⟩:=e.oN b.top;simp only [Fm.cells] at i q;rw [q] at i;simp only [xK,TO.row.injEq,List.cons.injEq] at i;have g:=i.1.2.2.2.1;subst g;simp only at w;rcases w with ⟨al,rfl⟩|⟨_,C,_⟩;have o:=(e.vr.fr n _ b.top.get).sl al;simp only at o;have L:=e.ij.lo _ al;have j:=e.QO b.top al p (a:=a);simp only [aJ] at j;obtain ⟨k,g⟩:∃(k:cD),k=f.ah.map aw:=⟨_,rfl⟩;have v:=zA p;generalize f.ah[c]=z at v;have t:k[c]? =some (aw z):=by rw [g,zJ,v];rfl
 rw [<-g] at o j;simp at j t ⊢;simp [q,p,o,t,L];exact j;have:=C;omega
theorem Xq {g:Ec} {a0:Nat} {stop:Int} (b:MS J D E V) (a:V.Is n f) (z:J.X.g.fns[f.fn]? =some g) (y:g.at_=a0) (p:J.X.g.ins[a0+f.pc]? =some x) (hb:J.X.g.ins.length<=100000000) (F:x.op=1) (K:V.time≠J.X.fuel) (H:(V.time:Int)≠stop):
  EN prog 40 [.p true J.pv 0,I stop] E J.fl λr h=>r=B true/\MS J D h {V with aa:=V.aa.set n {f with ai:=x.a,pc:=f.pc+1},time:=V.time+1}:=by
 have c0:=v59 b a;have c1:=v60 (ai:=x.a) (stop:=stop) b a;have L:V.ev J.X f n x.a stop=(true,{V with aa:=V.aa.set n {f with ai:=x.a},time:=V.time+1}):=by unfold Vm.ev;simp only [zO K,zO H]
 rw [L] at c1;have ⟨A,fv,zv,t,i1,i2,_⟩:=b.row;have ⟨A,d⟩:=b;have ⟨sv,kv,i,g2,g3,_,_⟩:=d.oN a;have b1:=ab p;obtain ⟨c,k⟩:∃c,c=J.X.g.fns.map rR:=⟨_,rfl⟩;have m:c[f.fn]? =some (rR g):=by rw [k,zJ,z];rfl
 obtain ⟨e,l⟩:∃e,e=J.X.g.ins.map eV:=⟨_,rfl⟩;obtain ⟨j,C⟩:∃j,j=a0+f.pc:=⟨_,rfl⟩;have o:e[j]? =some (eV x):=by rw [l,zJ,C,p];rfl
 have X:i64.wrap ((a0:Int)+f.pc)=(j:Int):=by rw [bW O O];omega
 have wp:i64.wrap ((f.pc:Int)+1)=((f.pc+1:Nat):Int):=by rw [bW O O];omega
 simp only [Vm.cells,<-k,<-l] at t;simp only [Fm.cells] at i;simp at m o;apply EW.o Wu;simp [WI,CL.q c0,t,i,m,y];simp only [X];simp [o,F];refine CL.o c1 λr h ⟨P,R⟩=>?_;subst P;have w:({V with aa:=V.aa.set n {f with ai:=x.a},time:=V.time+1}:Vm).Is n {f with ai:=x.a}:=⟨by simp [a.len],by simp [a.len]⟩;have ⟨A',v⟩:=R;have ⟨b6,b2,q,M,_,_,N⟩:=v.oN w;have s:=N {f with ai:=x.a,pc:=f.pc+1} rfl rfl;simp only [Fm.cells,Vm.top,xU] at q s;simp [q,M];simp only [wp];exact s
theorem O2 {e:Ec} {a0:Nat} {stop:Int} (a:MS J D E V) (i:V.Is n f) (v:J.X.g.fns[f.fn]? =some e) (t:e.at_=a0) (q:J.X.g.ins[a0+f.pc]? =some x) (P:J.X.g.ins.length<=100000000) (y:x.op=1) (z:V.time=J.X.fuel\/(V.time:Int)=stop):
  EN prog 40 [.p true J.pv 0,I stop] E J.fl λr h=>r=B false/\MS J D h (V.ev J.X f n x.a stop).2:=by
 have c0:=v59 a i;have c1:=v60 (ai:=x.a) (stop:=stop) a i;have C:(V.ev J.X f n x.a stop).1=false:=by unfold Vm.ev;by_cases g:V.time=J.X.fuel;simp only [zP g];simp only [zO g,zP (z.resolve_left g)]
 rw [C] at c1;have ⟨A,L,zv,s,X,i2,_⟩:=a.row;have ⟨A,d⟩:=a;have ⟨sv,kv,k,M,N,_,_⟩:=d.oN i;have R:=ab q;obtain ⟨b,l⟩:∃b,b=J.X.g.fns.map rR:=⟨_,rfl⟩;have o:b[f.fn]? =some (rR e):=by rw [l,zJ,v];rfl
 obtain ⟨c,m⟩:∃c,c=J.X.g.ins.map eV:=⟨_,rfl⟩;obtain ⟨j,w⟩:∃j,j=a0+f.pc:=⟨_,rfl⟩;have p:c[j]? =some (eV x):=by rw [m,zJ,w,q];rfl
 have K:i64.wrap ((a0:Int)+f.pc)=(j:Int):=by rw [bW O O];omega
 simp only [Vm.cells,<-l,<-m] at s;simp only [Fm.cells] at k;simp at o p;apply EW.o Wu;simp [WI,CL.q c0,s,k,o,t];simp only [K];simp [p,y];refine CL.o c1 λr h ⟨F,H⟩=>?_;subst F;simp;exact H
theorem Xr {e:Ec} {a0:Nat} {stop:Int} (i:MS J D E V) (l:V.Is n f) (z:J.X.g.fns[f.fn]? =some e) (y:e.at_=a0) (s:J.X.g.ins[a0+f.pc]? =some x) (X:J.X.g.ins.length<=100000000) (F:x.op≠1)
  (C:∀h,MS J D h (V.top n {f with pc:=f.pc+1})->EN prog 61 [.p true J.pv 0,.p true (D n) 0,.ag (eV x),I (a0+f.pc:Nat)] h J.fl λr h=>r= .tu []/\P h):
  EN prog 40 [.p true J.pv 0,I stop] E J.fl λr h=>r=B true/\P h:=by
 have c0:=v59 i l;have ⟨A,N,zv,t,i1,i2,_⟩:=i.row;have ⟨A,d⟩:=i;have ⟨sv,kv,g,v,R,_,w⟩:=d.oN l;have a:=C _ (w {f with pc:=f.pc+1} rfl rfl);have b1:=ab s;obtain ⟨b,k⟩:∃b,b=J.X.g.fns.map rR:=⟨_,rfl⟩;have o:b[f.fn]? =some (rR e):=by rw [k,zJ,z];rfl
 obtain ⟨c,m⟩:∃c,c=J.X.g.ins.map eV:=⟨_,rfl⟩;obtain ⟨j,q⟩:∃j,j=a0+f.pc:=⟨_,rfl⟩;have p:c[j]? =some (eV x):=by rw [m,zJ,q,s];rfl
 have L:i64.wrap ((a0:Int)+f.pc)=(j:Int):=by rw [bW O O];omega
 have M:i64.wrap ((f.pc:Int)+1)=((f.pc+1:Nat):Int):=by rw [bW O O];omega
 rw [<-q] at a;simp only [Vm.cells,<-k,<-m] at t;simp only [Fm.cells] at g a;simp at o p a;apply EW.o Wu;simp [WI,CL.q c0,t,g,o,y];simp only [L];simp [p,zB F,g,v];simp only [M];refine CL.o a λr h ⟨H,K⟩=>?_;subst H;simp;exact K
end
structure uc (X:Sg):Prop where
 fns:∀i,i<X.S.fn.length->∃(ec:Ec) (a0:Nat) (C:List IN) (fn:Fn) (b0 m p:Nat),X.S.fn[i]? =some fn/\X.g.fns[i]? =some ec/\ec.at_=a0/\ec.len=C.length/\(∀q x,C[q]? =some x->X.g.ins[a0+q]? =some x)/\fP (fR X.S i) X.g.strs.length 0 C (some 0) none/\(∃l,C.getLast?=some ⟨26,0,l⟩)/\(∃y,C.head?=some y/\(y.op=1\/C.length=1))/\fn.at_=b0/\fn.ah=m/\fn.params=p/\ec.params=p/\p<=m/\b0+m<=X.S.sl.length
 sl:∀x∈X.S.sl,∃(t:Nat) (z:Vl),x=(t:Nat)/\X.zs[t]? =some z
 sb:X.S.sl.length<=99000000000
 fd:∀x∈X.S.fd,∃(t:Nat) (z:Vl),x.type=(t:Nat)/\X.zs[t]? =some z
 fb:X.S.fd.length<=1000000
 rc:∀r∈X.S.rc,0<=r.fr/\0<=r.count/\r.fr+r.count<=X.S.fd.length
 zl:X.zs.length=X.S.ty.length
 il:X.g.ins.length<=9000000
 fu:X.fuel<=400
def FG (X:Sg) (f:Fm) (b:Nat):Prop:=∃(a:Ec) (a0:Nat) (C:List IN) (D:Nat->di),f.fn<X.S.fn.length/\X.g.fns[f.fn]? =some a/\a.at_=a0/\a.len=C.length/\(∀q x,C[q]? =some x->X.g.ins[a0+q]? =some x)/\I6 (fR X.S f.fn) X.g.strs.length (λq=>C[q]?) D 0 C.length/\D C.length=none/\D f.pc=some (f.stack.length+b)/\f.pc<=C.length/\f.ah.length=(fR X.S f.fn).ah
def mf (X:Sg) (f:Fm):Nat:=match X.g.fns[f.fn]? with
 | some a=>if (X.g.ins[a.at_.toNat+f.pc]?).map IN.op=some 1 then 1 else 4*(a.len.toNat-f.pc)-1
 | none=>0
def mu (X:Sg) (V:Vm):Nat:=(X.fuel-V.time)*(4*X.g.ins.length+1)+(V.aa.map (mf X)).sum
structure VI (X:Sg) (V:Vm):Prop where
 ov:V.over=false
 ne:V.aa≠[]
 top:∀n f,V.Is n f->FG X f 0
 low:∀(i:Nat) (f g:Fm),V.aa[i]? =some f->V.aa[i+1]? =some g->FG X f (bif ((X.S.fn[g.fn]?).map λy=>decide (y.result≠0))==some true then 1 else 0)
 sk:∀(i:Nat) (f:Fm),V.aa[i]? =some f->f.stack.length+mu X V<=100000000000
 out:V.out.length<=65536
section
variable {X:Sg} {V V':Vm} {J f' g:Fm} {n b:Nat} {D:IN}
theorem nv (L:aA) (n a y:Nat) (h:L[n]? =some a):(L.set n y).sum+a=L.sum+y:=by
 induction L generalizing n with
 | nil=>simp at h
 | cons b L c=>
  cases n with
  | zero=>simp at h;subst h;simp;omega
  | succ n=>simp at h;have:=c n h;simp;omega
theorem VI.is (h:VI X V):∃n J,V.Is n J:=by obtain ⟨J,a⟩:∃J,V.aa[V.aa.length-1]? =some J:=⟨_,zA (Zo (List.length_pos_iff.2 h.ne))⟩;exact ⟨V.aa.length-1,J,by have:=List.length_pos_iff.2 h.ne;omega,a⟩
theorem VI.set (h:VI X V) (g:V.Is n J) (d:V'.aa=V.aa.set n f') (m:V'.over=false) (p:V'.out.length<=65536) (q:f'.fn=J.fn) (r:FG X f' 0) (w:mu X V'<=mu X V) (x:f'.stack.length+mu X V'<=J.stack.length+mu X V):VI X V':=by
 have k:=g.len;refine ⟨m,λe=>?_,λt v j=>?_,λi f l a c=>?_,λi f a=>?_,p⟩;have:=yH List.length e;rw [d] at this;simp at this;rw [this] at k;simp at k;have:t=n:=by have:=j.len;rw [d] at this;simp at this;omega
 subst this;have:=j.get;rw [d,zF O] at this;cases this;exact r;rw [d] at a c;have s:=ab c;simp at s;rw [zE O] at a;by_cases e:i+1=n;subst e;rw [zF O] at c;cases c;rw [q];exact h.low i f J a g.get;rw [zE O] at c;exact h.low i f l a c;rw [d] at a;by_cases e:i=n;subst e;rw [zF O] at a;cases a;have:=h.sk _ _ g.get;omega;rw [zE O] at a;have:=h.sk _ _ a;omega
theorem E8 (c:V.Is n J) (a:V'.aa=V.aa.set n f') (b:V'.time=V.time):mu X V'+mf X J=mu X V+mf X f':=by unfold mu;rw [a,b,yJ];have:=nv (V.aa.map (mf X)) n (mf X J) (mf X f') (by rw [zJ,c.get];rfl);omega
theorem yl (c:V.Is n J) (a:V'.aa=V.aa.set n f') (b:V'.time=V.time+1) (d:V.time<X.fuel):mu X V'+mf X J+(4*X.g.ins.length+1)=mu X V+mf X f':=by unfold mu;rw [a,b,yJ];have:=nv (V.aa.map (mf X)) n (mf X J) (mf X f') (by rw [zJ,c.get];rfl);have e:X.fuel-V.time=(X.fuel-(V.time+1))+1:=O;rw [e,Nat.add_mul];omega
theorem VI.run (h:VI X V) (b:V.Is n J) (a:V'.aa=V.aa.set n f') (c:V'.time=V.time) (d:V'.over=false) (e:V'.out.length<=65536) (f:f'.fn=J.fn) (g:FG X f' 0) (i:mf X f'<mf X J) (k:f'.stack.length<=J.stack.length+1):VI X V'/\mu X V'<mu X V:=by have j:=E8 (X:=X) b a c;exact ⟨h.set b a d e f g O O,O⟩
theorem VI.call (h:VI X V) (d:V.Is n J) (c:V'.aa=V.aa.set n f'++[g]) (o:V'.time=V.time) (p:V'.over=false) (q:V'.out.length<=65536) (t:FG X g 0) (r:FG X f' (bif ((X.S.fn[g.fn]?).map λy=>decide (y.result≠0))==some true then 1 else 0)) (s:f'.fn=J.fn) (F:mf X f'+mf X g<mf X J) (K:f'.stack.length<=J.stack.length+1) (x:g.stack=[]):VI X V'/\mu X V'<mu X V:=by
 have H:mu X V'+mf X J=mu X V+mf X f'+mf X g:=by unfold mu;rw [c,o,xR,yJ,List.sum_append];have:=nv (V.aa.map (mf X)) n (mf X J) (mf X f') (by rw [zJ,d.get];rfl);simp;omega
 have E:=d.len;have z:mu X V'<mu X V:=O;have j:(V.aa.set n f').length=n+1:=W;refine ⟨⟨p,λe=>by rw [c] at e;simp at e,λC D l=>?_,λi f m a b=>?_,λi f a=>?_,q⟩,z⟩;have A:C=n+1:=by have:=l.len;rw [c] at this;simp at this;omega
 have:=l.get;rw [c,zH O,j,A] at this;simp at this;subst this;exact t;rw [c] at a b;have w:=ab b;simp at w;by_cases e:i=n;subst e;rw [zD O,zF O] at a;rw [zH O,j] at b;simp at b;cases a;subst b;exact r;rw [zD O,zE O] at a;rw [zD O] at b;by_cases k:i+1=n;rw [k,zF O] at b;cases b;rw [s];exact h.low i f J a (by rw [k];exact d.get);rw [zE O] at b;exact h.low i f m a b;rw [c] at a;have v:=ab a;simp at v;by_cases e:i=n+1;subst e;rw [zH O,j] at a;simp at a;subst a;rw [x];have:=h.sk _ _ d.get;simp;omega;rw [zD O] at a;by_cases e:i=n;subst e;rw [zF O] at a;cases a;have:=h.sk _ _ d.get;omega;rw [zE O] at a;have:=h.sk _ _ a;omega
theorem VI.ret {d:Fm} {m:Nat} (h:VI X V) (j:V.Is (m+1) J) (g:V.aa[m]? =some d) (f:V'.aa=(V.aa.take (m+1)).set m f') (q:V'.time=V.time) (r:V'.over=false) (s:V'.out.length<=65536) (t:f'.fn=d.fn) (v:FG X f' 0) (D:mf X f'=mf X d) (F:0<mf X J) (H:f'.stack.length<=d.stack.length+1):VI X V'/\mu X V'<mu X V:=by
 have l:=j.len;have n:(V.aa.take (m+1)).length=m+1:=W;have z:V.aa=V.aa.take (m+1)++[J]:=by apply xF;intro i;by_cases e:i<m+1;rw [zD O,zS,zP e];rw [zH O,n];by_cases o:i=m+1;subst o;simp;exact j.get;rw [xE O,xE W]
 have E:mu X V'+mf X J=mu X V:=by
  have a:(V.aa.map (mf X)).sum=((V.aa.take (m+1)).map (mf X)).sum+mf X J:=by
   conv=>lhs;rw [z]
   simp
  unfold mu;rw [f,q,yJ,a];have:=nv ((V.aa.take (m+1)).map (mf X)) m (mf X d) (mf X f') (by rw [zJ,zS,zP O,g];rfl);omega
 have x:mu X V'<mu X V:=O;have tk:∀i b,(V.aa.take (m+1))[i]? =some b->V.aa[i]? =some b:=λi b e=>by rw [zS] at e;split at e;exact e;cases e
 refine ⟨⟨r,λe=>by have:=yH List.length e;rw [f] at this;simp at this;rw [this] at l;simp at l,λA C k=>?_,λi b p a c=>?_,λi b a=>?_,s⟩,x⟩;have y:A=m:=by have:=k.len;rw [f] at this;simp at this;omega
 have:=k.get;rw [f,y,zF O] at this;cases this;exact v;rw [f] at a c;have w:=ab c;rw [xH,n] at w;rw [zE O] at a;by_cases e:i+1=m;subst e;rw [zF O] at c;cases c;rw [t];exact h.low i b d (tk _ _ a) g;rw [zE O] at c;exact h.low i b p (tk _ _ a) (tk _ _ c);rw [f] at a;by_cases e:i=m;subst e;rw [zF O] at a;cases a;have:=h.sk _ _ g;omega;rw [zE O] at a;have:=h.sk _ _ (tk _ _ a);omega
end
structure SO where
 V1:Vm
 td:Nat
 Fu:Bool
 bad:Vm
def SQ (e:ME) (V:Vm) (o:SO) (b:ae):Prop:=(o.td<=e.room/\(o.Fu=true->V.aa.length<e.dk)/\∃a,MS e a b o.V1)\/((e.room<o.td\/(o.Fu=true/\e.dk<=V.aa.length))/\∃a,MS e a b o.bad)
def Ia (V a:Vm):Prop:=a.over=true/\a.ok=2/\(a.ot=4\/a.ot=5)/\a.out=V.out/\a.time=V.time
structure Bx (X:Sg) (stop:Int) (V:Vm) (b:Bool) (o:SO):Prop where
 bad:0<o.td\/o.Fu->Ia V o.bad
 out:V.out<+:o.V1.out
 time:V.time<=o.V1.time
 nx:o.V1.over\/VI X o.V1
 mu:b->o.V1.over\/mu X o.V1<mu X V
 st:b=false->o.td=0/\o.Fu=false
 run:∀(e:ME) (pf:Nat->Nat) (s:ae),e.X=X->MS e pf s V->EN prog 40 [.p true e.pv 0,I stop] s e.fl λr s'=>r=B b/\SQ e V o s'
structure iE (X:Sg) (f:Fm) (ec:Ec) (a0:Nat) (C:List IN) (D:Nat->di) (x:IN):Prop where
 fn:f.fn<X.S.fn.length
 en:X.g.fns[f.fn]? =some ec
 at_:ec.at_=a0
 len:ec.len=C.length
 has:∀q x,C[q]? =some x->X.g.ins[a0+q]? =some x
 sg:I6 (fR X.S f.fn) X.g.strs.length (λq=>C[q]?) D 0 C.length
 de:D C.length=none
 sl:f.ah.length=(fR X.S f.fn).ah
 x:C[f.pc]? =some x
section
variable {X:Sg} {V V':Vm} {J f' E:Fm} {n b a0 h k:Nat} {x:IN} {ec:Ec} {C:List IN} {D:Nat->di} {stop:Int}
theorem iE.of (a:FG X J 0):∃ec a0 C D x,iE X J ec a0 C D x/\Good (fR X.S J.fn) X.g.strs.length D (JT (λh=>C[h]?) 0 C.length J.pc) J.pc J.stack.length x:=by
 obtain ⟨ec,a0,C,D,e,g,i,j,k,c,d,b,o,f⟩:=a;have l:J.pc<C.length:=by
  rcases zZ J.pc C.length with a|a;exact a;have:J.pc=C.length:=by omega
  rw [this,d] at b;cases b
 obtain ⟨x,m,n⟩:=c J.pc (zY _) l;exact ⟨ec,a0,C,D,x,⟨e,g,i,j,k,c,d,f,m⟩,n _ b⟩
theorem iE.lt (c:iE X J ec a0 C D x) (b:D h=some k) (d:h<=C.length):h<C.length:=by
 rcases zZ h C.length with a|a;exact a;have:h=C.length:=by omega
 rw [this,c.de] at b;cases b
theorem iE.fg (a:iE X J ec a0 C D x) (i:D h=some k) (g:h<=C.length) (c:f'.fn=J.fn) (d:f'.pc=h) (e:f'.ah.length=J.ah.length) (f:f'.stack.length+b=k):FG X f' b:=
 ⟨ec,a0,C,D,c▸a.fn,c▸a.en,a.at_,a.len,a.has,c▸a.sg,a.de,by rw [d,i,f],d▸g,by rw [e,c];exact a.sl⟩
theorem iE.Ze (h:iE X J ec a0 C D x) (a:x.op≠1):mf X J=4*(C.length-J.pc)-1:=by have:=h.has _ _ h.x;unfold mf;simp only [h.en,h.at_,h.len,yV,this,zM];rw [zO (Zs a)]
theorem iE.Zd (a:iE X J ec a0 C D x) (l:x.op≠1) (j:D h=some k) (g:h<=C.length) (e:f'.fn=J.fn) (f:f'.pc=h) (b:J.pc<h\/∃y,C[h]? =some y/\y.op=1):mf X f'<mf X J/\(h=J.pc+1->mf X f'+4<=mf X J):=by have c:=a.lt j g;have o:=ab a.x;rw [a.Ze l];have m:=a.has _ _ (zA c);unfold mf;rw [e,f];simp only [a.en,a.at_,a.len,yV,m,zM];split;refine ⟨O,λ_=>O⟩;rename_i i;rcases b with b|⟨y,d,n⟩;exact ⟨O,λ_=>O⟩;rw [zA c] at d;cases d;exact absurd (by rw [n]) i
theorem lI {c:Type} {L:List c} (h:L.length=a+1):∃l b,L=l++[b]/\l.length=a:=by refine ⟨L.take a,L[a],?_,W⟩;have:=wB a L;rw [yG O,List.drop_of_length_le O] at this;exact this.symm
theorem yd {c:Type} {L:List c} {n:Nat} (h:L.length=a+n):∃l b,L=l++b/\l.length=a/\b.length=n:=
 ⟨L.take a,L.drop a,(wB a L).symm,W,W⟩
theorem CV {i:Type} {L:List i} (h:L.length=a+2):∃l c b,L=l++[c,b]/\l.length=a:=by
 have ⟨l,g,d,e,f⟩:=yd h;match g,f with
 | [c,b],_=>exact ⟨l,c,b,d,e⟩
theorem OM {j:Type} {L:List j} (h:L.length=a+3):∃l d b c,L=l++[d,b,c]/\l.length=a:=by
 have ⟨l,i,e,f,g⟩:=yd h;match i,g with
 | [d,b,c],_=>exact ⟨l,d,b,c,e,f⟩
theorem vc (q:uc X) (y:VI X V) (m:V.Is n J) (h:iE X J ec a0 C D x) (v:x.op≠1) (o:SO) (j:0<o.td\/o.Fu->Ia V o.bad) (k:V.out<+:o.V1.out) (w:o.V1.time=V.time) (f:o.V1.over\/VI X o.V1/\T.mu X o.V1<T.mu X V)
  (l:∀(e:ME) (a:Nat->Nat) (s:ae) (d:Nat),e.X=X->d<e.X.g.ins.length->MS e a s (V.top n {J with pc:=J.pc+1})->EN prog 61 [.p true e.pv 0,.p true (a n) 0,.ag (eV x),I d] s e.fl λr c=>r= .tu []/\SQ e V o c):∃b o,Bx X stop V b o:=by
 refine ⟨true,o,j,k,O,f.imp_right And.left,λ_=>f.imp_right And.right,(λh=>by cases h),λe a s t p=>?_⟩;have g:=h.has _ _ h.x;subst t;exact Xr p m h.en h.at_ g (Zo q.il) v λc i=>l e a c _ rfl (ab g) i
theorem SQ.of {e:ME} {b:Nat->Nat} {a:Vm} (h:MS e b r a):SQ e V ⟨a,0,false,a⟩ r:=.inl ⟨zY _,(λh=>by cases h),b,h⟩
theorem dU (q:uc X) (p:VI X V) (l:V.Is n J) (h:iE X J ec a0 C D x) (w:x.op≠1) (a:Vm) (j:a.over\/VI X a/\T.mu X a<T.mu X V) (g:V.out<+:a.out) (i:a.time=V.time)
  (k:∀(e:ME) (c:Nat->Nat) (s:ae) (d:Nat),e.X=X->d<e.X.g.ins.length->MS e c s (V.top n {J with pc:=J.pc+1})->EN prog 61 [.p true e.pv 0,.p true (c n) 0,.ag (eV x),I d] s e.fl λr f=>r= .tu []/\MS e c f a):∃b o,Bx X stop V b o:=
 vc q p l h w ⟨a,0,false,a⟩ (λh=>by simp at h) g i j λe c s d t v m=>(k e c s d t v m).mono λr f ⟨y,z⟩=>⟨y,.of z⟩
theorem lW {k:Int}:(V.end_ k i j).over:=by unfold Vm.end_;split;assumption;rfl
theorem nF {k:Int}:(V.end_ k i j).out=V.out:=by unfold Vm.end_;split <;> rfl
theorem lV {k:Int}:(V.end_ k i j).time=V.time:=by unfold Vm.end_;split <;> rfl
theorem tG (c:V.over=false) (d:i=4\/i=5) (a:V.out=V'.out) (b:V.time=V'.time):Ia V' (V.end_ 2 i j):=by unfold Vm.end_;rw [zO (by rw [c];simp)];exact ⟨rfl,rfl,d,a,b⟩
end
section
variable {X:Sg} {V V':Vm} {J f' E f0:Fm} {n h a0 q k:Nat} {x:IN} {ec:Ec} {C:List IN} {D:Nat->di} {stop:Int} {l:List Vl}
theorem bC (L:List UInt8):L<+:L:=⟨[],Z⟩
theorem iE.go (h:iE X J ec a0 C D x) (g:VI X V) (f:V.Is n J) (i:x.op≠1) (d:D (J.pc+1)=some k) (b:f'.fn=J.fn) (c:f'.pc=J.pc+1) (e:f'.ah.length=J.ah.length) (q:f'.stack.length=k) (r:k<=J.stack.length+1) {a:Vm} (j:a.aa=V.aa.set n f') (l:a.time=V.time) (o:a.over=false) (p:a.out.length<=65536):VI X a/\T.mu X a<T.mu X V:=by have s:=ab h.x;have m:=h.Zd i d O b c (.inl O);exact g.run f j l o p b (h.fg d O b c e O) m.1 O
theorem iE.jump (h:iE X J ec a0 C D x) (i:VI X V) (g:V.Is n J) (j:x.op≠1) (e:D q=some k) (c:JT (λq=>C[q]?) 0 C.length J.pc q) (b:f'.fn=J.fn) (d:f'.pc=q) (f:f'.ah.length=J.ah.length) (s:f'.stack.length=k) (t:k<=J.stack.length+1) {a:Vm} (l:a.aa=V.aa.set n f') (o:a.time=V.time) (p:a.over=false) (r:a.out.length<=65536):VI X a/\T.mu X a<T.mu X V:=by have m:=h.Zd j e c.2.1 b d c.2.2;exact i.run g l o p r b (h.fg e c.2.1 b d f O) m.1 O
theorem kJ (M:uc X) (b:VI X V) (m:V.Is n J) (d:iE X J ec a0 C D x) (o:x.op≠1) (K:D (J.pc+1)=some k) (v:f0.fn=J.fn) (y:f0.pc=J.pc+1) (z:f0.ah.length=J.ah.length) (A:f0.stack.length+1=k) (R:k<=J.stack.length+1) (g:Hp) (f:Fe) (w:Vl) (t:Int) (p:Nat) (l:Int)
  (E:∀(e:ME) (a:Nat->Nat) (s:ae) (c:Nat),e.X=X->c<e.X.g.ins.length->MS e a s (V.top n {J with pc:=J.pc+1})->EN prog 61 [.p true e.pv 0,.p true (a n) 0,.ag (eV x),I c] s e.fl λr q=>r= .tu []/\PQ e a (V.top n f0) n f0 g f w t p l q):∃h b1,Bx X stop V h b1:=by
 refine vc M b m d o ⟨if t=0 then {(V.top n f0).top n {f0 with stack:=f0.stack++[w]} with H:=g,F:=f} else ({V.top n f0 with H:=g,F:=f}:Vm).end_ 2 t l,p,false,(V.top n f0).end_ 2 4 l⟩ (λ_=>tG b.ov (.inl rfl) rfl rfl) ?_ ?_ ?_ λe a s c N P L=>(E e a s c N P L).mono λr q ⟨q1,q2⟩=>⟨q1,?_⟩;simp only;split;exact bC _;rw [nF];exact bC _;simp only;split;rfl;rw [lV];rfl;simp only;split;refine .inr (d.go b m o K (f':={f0 with stack:=f0.stack++[w]}) v y z (Zs A) R ?_ rfl b.ov b.out);simp [Vm.top];exact .inl lW;rcases q2 with ⟨i,j⟩|⟨i,j⟩;exact .inl ⟨i,(λd=>by cases d),a,j⟩;exact .inr ⟨.inl i,a,j⟩
theorem v8 (A:uc X) (i:VI X V) (g:V.Is n J) (f:iE X J ec a0 C D x) (j:x.op≠1) (z:D (J.pc+1)=some k) (p:f0.fn=J.fn) (q:f0.pc=J.pc+1) (v:f0.ah.length=J.ah.length) (w:f0.stack.length=k) (E:k<=J.stack.length+1) (a:Vm) (t l:Int) (H:a.aa=V.aa.set n f0) (c:a.time=V.time) (K:a.over=false) (L:a.out.length<=65536) (m:V.out<+:a.out)
  (y:∀(e:ME) (b:Nat->Nat) (s:ae) (d:Nat),e.X=X->d<e.X.g.ins.length->MS e b s (V.top n {J with pc:=J.pc+1})->EN prog 61 [.p true e.pv 0,.p true (b n) 0,.ag (eV x),I d] s e.fl λr F=>r= .tu []/\MS e b F (ET a t l)):∃h o,Bx X stop V h o:=by
 refine dU A i g f j (ET a t l) ?_ ?_ ?_ y;unfold ET;split;exact .inr (f.go i g j z p q v w E H c K L);exact .inl lW;unfold ET;split;exact m;rw [nF];exact m;unfold ET;split;exact c;rw [lV];exact c
theorem FG.push (h:FG X J 1) (a:f'.fn=J.fn) (b:f'.pc=J.pc) (r:f'.ah=J.ah) (g:f'.stack.length=J.stack.length+1):FG X f' 0:=by obtain ⟨f,e,c,d,i,j,k,l,m,n,o,p,q,s⟩:=h;exact ⟨f,e,c,d,a▸i,a▸j,k,l,m,a▸n,o,by rw [b,p,g],b▸q,by simp_all⟩
theorem iE.mfb (h:iE X J ec a0 C D x) (a:f'.fn=J.fn):mf X f'<=4*X.g.ins.length:=by
 have c:C.length<=X.g.ins.length:=by by_cases b:C.length=0;omega;have:=ab (h.has _ _ (zA (show C.length-1<C.length by omega)));omega
 have d:=ab h.x;unfold mf;rw [a];simp only [h.en,h.len,yV];split <;> omega
theorem GF (z:uc X) (c9:kz) (hS:JF X) (f:VI X V) (hw:∃(e:ME) (o:Nat->Nat) (s:ae),e.X=X/\MS e o s V) (stop:Int):∃h c2,Bx X stop V h c2:=by
 have ⟨n,J,j⟩:=f.is;have ⟨ec,a0,C,D,x,b,hg⟩:=iE.of (f.top n J j);have hH:zj V.H:=by have ⟨e,o,s,_,f1,d⟩:=hw;exact d.vr.hp.hok
 have hF:∀x∈V.F.ins,-9223372036854775808<=x:=by have ⟨e,o,s,_,f1,d⟩:=hw;exact d.vr.fd.iv
 have i7:=f.sk n J j.get;have h9:=z.il;have d7:=b.has _ _ b.x;have P:=f.ov;have M:(V.top n {J with pc:=J.pc+1}).Is n {J with pc:=J.pc+1}:=j.top;have i6:=ab b.x;generalize b1:J.stack.length=dd at hg;cases hg with
 | @ai d a l t=>
  have i9:V.time<=X.fuel:=by have ⟨e,o,s,y,f1,d⟩:=hw;rw [<-y];exact d.vr.ti
  have fg:∀f',f'.fn=J.fn->f'.pc=J.pc+1->f'.ah=J.ah->f'.stack=J.stack->FG X f' 0:=λf' h1 h2 h3 h4=>b.fg t O h1 h2 (Zr h3) (by rw [h4];omega);have d9:∀h (b6:Vm),(∀e (o:Nat->Nat) (s:ae),e.X=X->MS e o s V->EN prog 40 [.p true e.pv 0,I stop] s e.fl λr R=>r=B h/\MS e o R b6)->∀e (o:Nat->Nat) (s:ae),e.X=X->MS e o s V->EN prog 40 [.p true e.pv 0,I stop] s e.fl λr R=>r=B h/\SQ e V ⟨b6,0,false,b6⟩ R:=λh b6 hr e o s y g=>(hr e o s y g).mono λr R ⟨K,p⟩=>⟨K,.of p⟩;have nb:∀b6,0<(⟨b6,0,false,b6⟩:SO).td\/(⟨b6,0,false,b6⟩:SO).Fu->Ia V b6:=λb6 b=>by simp at b
  by_cases h1:V.time=X.fuel;have c8:(V.ev X J n a stop).2=({V with aa:=V.aa.set n {J with ai:=a}}:Vm).end_ 3 0 0:=by unfold Vm.ev;simp only [zP h1]
  refine ⟨false,⟨(V.ev X J n a stop).2,0,false,(V.ev X J n a stop).2⟩,nb _,?_,?_,.inl ?_,(λb=>by cases b),λ_=>⟨rfl,rfl⟩,d9 _ _ λe o s y g=>?_⟩;rw [c8,nF];exact bC _;rw [c8,lV];grind;rw [c8];exact lW;subst y;exact O2 g j b.en b.at_ d7 O rfl (.inl h1);by_cases h2:(V.time:Int)=stop;have c8:(V.ev X J n a stop).2={V with aa:=V.aa.set n {J with ai:=a}}:=by unfold Vm.ev;simp only [zO h1,zP h2]
  refine ⟨false,⟨(V.ev X J n a stop).2,0,false,(V.ev X J n a stop).2⟩,nb _,?_,?_,.inr ?_,(λb=>by cases b),λ_=>⟨rfl,rfl⟩,d9 _ _ λe o s y g=>?_⟩
  simp_all
  simp_all
  rw [c8];have f2:=E8 (X:=X) (V':={V with aa:=V.aa.set n {J with ai:=a}}) j rfl rfl;have i3:mf X {J with ai:=a}=mf X J:=rfl;refine VI.set (V':={V with aa:=V.aa.set n {J with ai:=a}}) f j rfl P f.out rfl ?_ O (by simp only;omega);have ⟨d4,f5,C',D',k1,k2,k3,k4,k5,k6,k7,k8,k9,g9⟩:=f.top n J j;exact ⟨d4,f5,C',D',k1,k2,k3,k4,k5,k6,k7,k8,k9,g9⟩;subst y;exact O2 g j b.en b.at_ d7 O rfl (.inr h2);refine ⟨true,⟨{V with aa:=V.aa.set n {J with ai:=a,pc:=J.pc+1},time:=V.time+1},0,false,_⟩,nb _,bC _,Nat.le_succ _,?_,λ_=>?_,(λb=>by cases b),d9 _ _ λe o s y g=>?_⟩;have f2:=yl (X:=X) (V':={V with aa:=V.aa.set n {J with ai:=a,pc:=J.pc+1},time:=V.time+1}) j rfl rfl O;have hb:=b.mfb (f':={J with ai:=a,pc:=J.pc+1}) rfl;exact .inr (VI.set (V':={V with aa:=V.aa.set n {J with ai:=a,pc:=J.pc+1},time:=V.time+1}) f j rfl P f.out rfl (fg _ rfl rfl rfl rfl) O (by simp only;omega));have f2:=yl (X:=X) (V':={V with aa:=V.aa.set n {J with ai:=a,pc:=J.pc+1},time:=V.time+1}) j rfl rfl O;have hb:=b.mfb (f':={J with ai:=a,pc:=J.pc+1}) rfl
  grind
  subst y;exact Xq g j b.en b.at_ d7 O rfl h1 h2
 | @lit d c2 a l ho g2 t=>have ⟨w,c⟩:=Xp (V.top n {J with pc:=J.pc+1}) n {J with pc:=J.pc+1} ⟨c2,a,l⟩ M (by simp only;omega) ho g2;refine dU z f j b (by simp only;omega) (V.top n {J with pc:=J.pc+1,stack:=J.stack++[w]}) (.inr (b.go (f':={J with pc:=J.pc+1,stack:=J.stack++[w]}) f j (by simp only;omega) t rfl rfl rfl W O rfl rfl P f.out)) (bC _) rfl λe o s L y A g=>(c e o s L g).mono λr R ⟨K,p⟩=>⟨K,?_⟩;rw [aJ] at p;exact p
 | @str d a l h0 hl t=>obtain ⟨i,rfl⟩:∃i:Nat,a=i:=⟨a.toNat,O⟩;have hb:=zA (l:=X.g.strs) (i:=i) O;have ⟨H',w,c5,c⟩:=Xn (V.top n {J with pc:=J.pc+1}) n {J with pc:=J.pc+1} ⟨5,i,l⟩ i X.g.strs[i] M (by simp only;omega) rfl rfl;exact kJ z f j b Z t (f0:={J with pc:=J.pc+1}) rfl rfl rfl (by simp only;omega) O H' V.F w 0 c5 l λe o s L y A g=>c e o s L (by grind) g
 | @load d a l h0 hl t=>
  obtain ⟨i,rfl⟩:∃i:Nat,a=i:=⟨a.toNat,O⟩;have f3:i<J.ah.length:=by rw [b.sl];omega
  have hv:=zA f3;generalize J.ah[i]=v at hv;refine dU z f j b Z (V.top n {J with pc:=J.pc+1,stack:=J.stack++[v]}) (.inr (b.go (f':={J with pc:=J.pc+1,stack:=J.stack++[v]}) f j Z t rfl rfl rfl W O rfl rfl P f.out)) (bC _) rfl λe o s L y A g=>(Xo g M (by simp only;omega) rfl rfl hv).mono λr R ⟨K,p⟩=>⟨K,?_⟩;rw [aJ] at p;exact p
 | @store d a l h0 hl t=>obtain ⟨i,rfl⟩:∃i:Nat,a=i:=⟨a.toNat,O⟩;have ⟨k,v,F,N⟩:=lI b1;refine dU z f j b Z (V.top n {J with pc:=J.pc+1,stack:=k,ah:=J.ah.set i v}) (.inr (b.go (f':={J with pc:=J.pc+1,stack:=k,ah:=J.ah.set i v}) f j Z t rfl rfl Z N O rfl rfl P f.out)) (bC _) rfl λe o s L y A g=>(Xm g M F rfl rfl (by simp only;rw [b.sl];omega)).mono λr R ⟨K,p⟩=>⟨K,?_⟩;rw [aJ] at p;exact p
 | @un d a l t=>have ⟨k,v,F,N⟩:=lI b1;have ⟨w,c⟩:=Xj c9.cx (V.top n {J with pc:=J.pc+1}) n {J with pc:=J.pc+1} k v ⟨9,a,l⟩ M F O rfl;refine dU z f j b Z (V.top n {J with pc:=J.pc+1,stack:=k++[w]}) (.inr (b.go (f':={J with pc:=J.pc+1,stack:=k++[w]}) f j Z t rfl rfl rfl W O rfl rfl P f.out)) (bC _) rfl λe o s L y A g=>(O1 (.inl rfl) (c e o s L A g)).mono λr R ⟨K,p⟩=>⟨K,?_⟩;rw [aJ] at p;exact p
 | @bin d a l t=>have ⟨k,v,v',F,N⟩:=CV b1;have ⟨H',w,b2,c5,c⟩:=Xk c9.cx (V.top n {J with pc:=J.pc+1}) n {J with pc:=J.pc+1} k v v' ⟨10,a,l⟩ M hH F O rfl;refine kJ z f j b Z t (f0:={J with pc:=J.pc+1,stack:=k}) rfl rfl rfl (by simp only;omega) O H' V.F w b2 c5 l λe o s L y A g=>O1 (.inr rfl) ?_;have:=c e o s L A g;rwa [aJ] at this
 | @jump d a l t ht=>refine dU z f j b Z (V.top n {J with pc:=a}) (.inr (b.jump (f':={J with pc:=a}) f j Z t ht rfl rfl rfl b1 O rfl rfl P f.out)) (bC _) rfl λe o s L y A g=>(BG (.inl rfl) (Xi g M rfl rfl)).mono λr R ⟨K,p⟩=>⟨K,?_⟩;rw [aJ] at p;exact p
 | @AK d a l t d5 ht=>have ⟨k,v,F,N⟩:=lI b1;by_cases h0:v.n=0;refine dU z f j b Z (V.top n {J with stack:=k,pc:=a}) (.inr (b.jump (f':={J with stack:=k,pc:=a}) f j Z d5 ht rfl rfl rfl N O rfl rfl P f.out)) (bC _) rfl λe o s L y A g=>(BG Z (NZ g M F A rfl rfl)).mono λr R ⟨K,p⟩=>⟨K,?_⟩;rw [zP h0,aJ] at p;exact p;refine dU z f j b Z (V.top n {J with pc:=J.pc+1,stack:=k}) (.inr (b.go (f':={J with pc:=J.pc+1,stack:=k}) f j Z t rfl rfl rfl N O rfl rfl P f.out)) (bC _) rfl λe o s L y A g=>(BG Z (NZ g M F A rfl rfl)).mono λr R ⟨K,p⟩=>⟨K,?_⟩;rw [zO h0,aJ] at p;exact p
 | @qB d a c2 l ho t d5 ht=>have ⟨k,v,F,N⟩:=lI b1;by_cases h0:(v.n=0)=(c2=13);refine dU z f j b (by simp only;omega) (V.top n {J with pc:=a}) (.inr (b.jump (f':={J with pc:=a}) f j (by simp only;omega) d5 ht rfl rfl rfl b1 O rfl rfl P f.out)) (bC _) rfl λe o s L y A g=>?_;have ⟨c3,hy,c⟩:=O0 (x:=⟨c2,a,l⟩) g M F A ho rfl;refine (BG (by simp only;omega) c).mono λr R ⟨K,p⟩=>⟨K,?_⟩;rw [hy,decide_eq_true h0,zP rfl,aJ] at p;exact p;refine dU z f j b (by simp only;omega) (V.top n {J with pc:=J.pc+1,stack:=k}) (.inr (b.go (f':={J with pc:=J.pc+1,stack:=k}) f j (by simp only;omega) t rfl rfl rfl N O rfl rfl P f.out)) (bC _) rfl λe o s L y A g=>?_;have ⟨c3,hy,c⟩:=O0 (x:=⟨c2,a,l⟩) g M F A ho rfl;refine (BG (by simp only;omega) c).mono λr R ⟨K,p⟩=>⟨K,?_⟩;rw [hy,decide_eq_false h0,zO Z,aJ] at p;exact p
 | @index d a l t=>have ⟨k,v,v',F,N⟩:=CV b1;have ⟨w,b2,c⟩:=Xb (V.top n {J with pc:=J.pc+1}) n {J with pc:=J.pc+1} k v v' ⟨15,a,l⟩ M F O rfl;refine kJ z f j b Z t (f0:={J with pc:=J.pc+1,stack:=k}) rfl rfl rfl (by simp only;omega) O V.H V.F w b2 0 l λe o s L y A g=>sd Z ((c e o s g).mono λr R ⟨K,p⟩=>⟨K,.inl ⟨zY _,?_⟩⟩);rw [aJ] at p;exact p
 | @put d a l t=>have ⟨k,v,v',h6,F,N⟩:=OM b1;have ⟨H',b2,c⟩:=X8 (V.top n {J with pc:=J.pc+1}) n {J with pc:=J.pc+1} k v v' h6 ⟨16,a,l⟩ M F rfl;refine v8 z f j b Z t (f0:={J with pc:=J.pc+1,stack:=k}) rfl rfl rfl N O {V.top n {J with pc:=J.pc+1,stack:=k} with H:=H'} b2 l rfl rfl P f.out (bC _) λe o s L y A g=>sd Z ?_;have:=c e o s g;rwa [aJ] at this
 | @field d a l t=>have ⟨k,v,F,N⟩:=lI b1;have ⟨w,b2,c⟩:=Xd (V.top n {J with pc:=J.pc+1}) n {J with pc:=J.pc+1} k v ⟨17,a,l⟩ M F O rfl;refine kJ z f j b Z t (f0:={J with pc:=J.pc+1,stack:=k}) rfl rfl rfl (by simp only;omega) O V.H V.F w b2 0 l λe o s L y A g=>sd Z ((c e o s g).mono λr R ⟨K,p⟩=>⟨K,.inl ⟨zY _,?_⟩⟩);rw [aJ] at p;exact p
 | @GQ d a l t=>have ⟨k,v,v',F,N⟩:=CV b1;have ⟨H',b2,c⟩:=X7 (V.top n {J with pc:=J.pc+1}) n {J with pc:=J.pc+1} k v v' ⟨18,a,l⟩ M F rfl;refine v8 z f j b Z t (f0:={J with pc:=J.pc+1,stack:=k}) rfl rfl rfl N O {V.top n {J with pc:=J.pc+1,stack:=k} with H:=H'} b2 l rfl rfl P f.out (bC _) λe o s L y A g=>sd Z ?_;have:=c e o s g;rwa [aJ] at this
 | @call d a n' r l hf t=>
  have c7:(X.S.fn.map λJ=>(J.params.toNat,decide (J.result≠0)))[a]? =some (n',r):=hf;have A:a<X.S.fn.length:=by simpa using ab c7
  have ⟨d4,a1,C',c6,b0,m,j1,e1,e2,e3,e4,e5,e6,⟨lz,e7⟩,⟨c3,e8,e9⟩,Fz,Bs,M8,NF,ND,yt⟩:=z.fns a A;rw [zJ,e1] at c7;simp only [zM,xK,Prod.mk.injEq,M8,yV] at c7;have ⟨hp,hr⟩:=c7;have ⟨k,xs,F,N,f4⟩:=yd b1;have f3:(lJ X c6 xs).length=m:=by simp [lJ,Fz,Bs];omega
  have h8:aN X.S.fn a=c6:=by have:=getD_some (d:=(⟨dm,0,0,0,0,0,0,0⟩:Fn)) A;rw [e1] at this;exact (yD this).symm
  have hg:FG X ⟨a,0,0,lJ X c6 xs,[]⟩ 0:=by
   have ⟨_,D',d1,d2,d3⟩:=e6 (λq=>C'[q]?) λi x hx=>by simpa using hx
   rw [yZ] at d2 d3;exact ⟨d4,a1,C',D',A,e2,e3,e4,e5,d3,d2,d1,zY _,by simp only [fR];simp_all⟩
  have i4:mf X ⟨a,0,0,lJ X c6 xs,[]⟩<=3:=by
   have h0:C'[0]? =some c3:=by rw [<-List.head?_eq_getElem?];exact e8
   have:=e5 0 c3 h0;unfold mf;simp only [e2,e3,e4,yV,this,zM];split;omega;rename_i i5;rcases e9 with e9|e9
   simp_all
   rw [e9];omega
  have f6:(bif ((X.S.fn[a]?).map λc3=>decide (c3.result≠0))==some true then 1 else 0:Nat)=bif r then 1 else 0:=by rw [e1,<-hr];simp only [zM];cases decide (c6.result≠0) <;> rfl
  have g1:=b.Zd (f':={J with pc:=J.pc+1,stack:=k}) Z t O rfl rfl (.inl O);have i2:=g1.2 rfl;have f9:FG X {J with pc:=J.pc+1,stack:=k} (bif ((X.S.fn[a]?).map λc3=>decide (c3.result≠0))==some true then 1 else 0):=by rw [f6];exact b.fg t O rfl rfl rfl (by simp only;omega)
  have g7:=f.call j (f':={J with pc:=J.pc+1,stack:=k}) (g:=⟨a,0,0,lJ X c6 xs,[]⟩) (V':={V with aa:=V.aa.set n {J with pc:=J.pc+1,stack:=k}++[⟨a,0,0,lJ X c6 xs,[]⟩]}) rfl rfl P f.out hg f9 rfl O (by simp only;omega) rfl;refine vc z f j b Z ⟨{V with aa:=V.aa.set n {J with pc:=J.pc+1,stack:=k}++[⟨a,0,0,lJ X c6 xs,[]⟩]},0,true,(V.top n {J with pc:=J.pc+1,stack:=k}).end_ 2 5 l⟩ (λ_=>tG P (.inr rfl) rfl rfl) (bC _) rfl (.inr g7) λe o s L y h7 g=>?_;subst y;refine (zt Z (Xg (x:=⟨19,a,l⟩) g M F rfl rfl e2 O e1 Fz Bs O yt z.sl z.sb)).mono λr R ⟨K,p⟩=>⟨K,?_⟩;simp only [lB,aJ] at p;rcases p with ⟨k1,h5,k2⟩|⟨k1,k2⟩;refine .inl ⟨zY _,λ_=>k1,h5,?_⟩;simp only [Vm.top,xU] at k2;exact k2;exact .inr ⟨.inr ⟨rfl,k1⟩,o,k2⟩
 | @built d a l h0 hl t=>
  have ⟨k,xs,F,N,f4⟩:=yd b1;have f7:(bar a:Nat)=(oY a).length:=by unfold bar oY;rcases (by omega:a=1\/a=2\/a=3\/a=4\/a=5\/a=6\/a=7\/a=8) with b|b|b|b|b|b|b|b <;> rw [b] <;> rfl
  have ⟨H',F',w,b2,c5,c⟩:=Xh c9 (V.top n {J with pc:=J.pc+1}) n {J with pc:=J.pc+1} k xs ⟨20,a,l⟩ M hF F O rfl h0 hl (f4.trans f7);refine kJ z f j b Z t (f0:={J with pc:=J.pc+1,stack:=k}) rfl rfl rfl (by simp only;omega) O H' F' w b2 c5 l λe o s L y A g=>zt Z ?_;have:=c e o s g;rwa [aJ] at this
 | @list d a l h0 hl t=>
  obtain ⟨i,rfl⟩:∃i:Nat,a=i:=⟨a.toNat,O⟩;have ⟨k,v,F,N⟩:=lI b1;have g8:i<X.zs.length:=by rw [z.zl];have:(fR X.S J.fn).ty=X.S.ty.length:=rfl;omega
  have hz:=zA g8;have ⟨H',w,b2,c5,c⟩:=Xa X (V.top n {J with pc:=J.pc+1}) n {J with pc:=J.pc+1} k v ⟨21,i,l⟩ i _ M F O rfl rfl hz;refine kJ z f j b Z t (f0:={J with pc:=J.pc+1,stack:=k}) rfl rfl rfl (by simp only;omega) O H' V.F w b2 c5 l λe o s L y A g=>sd Z ?_;have:=c e o s y g;rwa [aJ] at this
 | @mk d a l h0 hl t=>
  obtain ⟨i,rfl⟩:∃i:Nat,a=i:=⟨a.toNat,O⟩;have g5:i<X.S.rc.length:=by have:(fR X.S J.fn).rc=X.S.rc.length:=rfl;omega
  have hr:=zA g5;have ⟨r1,r2,r3⟩:=z.rc _ (zI hr);have ⟨H',w,c5,c⟩:=X9 X (V.top n {J with pc:=J.pc+1}) n {J with pc:=J.pc+1} ⟨22,i,l⟩ i _ M (by simp only;omega) rfl rfl hr r1 r2 r3 z.fd z.fb;exact kJ z f j b Z t (f0:={J with pc:=J.pc+1}) rfl rfl rfl (by simp only;omega) O H' V.F w 0 c5 l λe o s L y A g=>sd Z (c e o s y g)
 | @print d a l t=>have ⟨k,v,F,N⟩:=lI b1;have ⟨c3,c2,ho,c⟩:=X6 X hS (V.top n {J with pc:=J.pc+1}) n {J with pc:=J.pc+1} k v ⟨23,a,l⟩ M hH f.out F rfl;refine v8 z f j b Z t (f0:={J with pc:=J.pc+1,stack:=k}) rfl rfl rfl N O {V.top n {J with pc:=J.pc+1,stack:=k} with out:=V.out++c2} (if c3=true then 0 else 4) l rfl rfl P ho ⟨c2,rfl⟩ λe o s L y A g=>sd Z ?_;have:=c e o s y g;rwa [aJ] at this
 | @pop d a l t=>have ⟨k,v,F,N⟩:=lI b1;refine dU z f j b Z (V.top n {J with pc:=J.pc+1,stack:=k}) (.inr (b.go (f':={J with pc:=J.pc+1,stack:=k}) f j Z t rfl rfl rfl N O rfl rfl P f.out)) (bC _) rfl λe o s L y A g=>(sd Z (Xe g M F rfl)).mono λr R ⟨K,p⟩=>⟨K,?_⟩;rw [aJ] at p;exact p
 | @ret d a l hr=>
  have ⟨k,v,F,N⟩:=lI b1;have g3:=b.Ze Z;cases n with
  | zero=>exact dU z f j b Z {V with aa:=[],over:=true,ok:=1,ot:=0,ol:=0} (.inl rfl) (bC _) rfl λe o s L y A g=>zt Z (NX (V:=V.top 0 {J with pc:=J.pc+1}) g M P F rfl)
  | succ m=>
   have c4:=zA (l:=V.aa) (i:=m) (Zo j.len);generalize V.aa[m]'(by grind)=f0 at c4;have i1:=f.sk _ _ c4;have hl:=f.low m f0 J c4 j.get;have c7:X.S.fn[J.fn]? =some (aN X.S.fn J.fn):=getD_some b.fn _;have d8:decide ((aN X.S.fn J.fn).result≠0):=hr;rw [c7] at hl;simp only [zM,d8] at hl;have d6:FG X {f0 with stack:=f0.stack++[v]} 0:=FG.push hl rfl rfl rfl Z;have g4:=ab b.x;refine dU z f j b Z {V with aa:=(V.aa.take (m+1)).set m {f0 with stack:=f0.stack++[v]}} (.inr (f.ret j c4 rfl rfl P f.out rfl d6 rfl O Z)) (bC _) rfl λe o s L y A g=>?_;have f8:(V.top (m+1) {J with pc:=J.pc+1}).aa[m]? =some f0:=by simp only [Vm.top];rw [zE O];exact c4
   refine (zt Z (Xf g M P F rfl rfl f8 O)).mono λr R ⟨K,p⟩=>⟨K,?_⟩;simp only [Vm.top,my] at p;exact p
 | @leave d a l hr=>
  have g3:=b.Ze Z;cases n with
  | zero=>refine dU z f j b Z ((V.top 0 {J with pc:=J.pc+1}).left 0) (.inl ?_) ?_ ?_ λe o s L y A g=>zt Z (NY g M rfl);unfold Vm.left;rw [zP rfl];exact lW;unfold Vm.left;rw [zP rfl,nF];exact bC _;unfold Vm.left;rw [zP rfl,lV];rfl
  | succ m=>
   have c4:=zA (l:=V.aa) (i:=m) (Zo j.len);generalize V.aa[m]'(by grind)=f0 at c4;have hl:=f.low m f0 J c4 j.get;have c7:X.S.fn[J.fn]? =some (aN X.S.fn J.fn):=getD_some b.fn _;have d8:decide ((aN X.S.fn J.fn).result≠0)=false:=hr;rw [c7] at hl;simp only [zM,d8] at hl;have d6:=hl;have g4:=ab b.x;have g6:(V.aa.take (m+1)).set m f0=V.aa.take (m+1):=by
    apply xF;intro i;by_cases e:i=m
    grind
    grind
   refine dU z f j b Z {V with aa:=V.aa.take (m+1)} (.inr (f.ret j c4 (V':={V with aa:=V.aa.take (m+1)}) g6.symm rfl P f.out rfl d6 rfl O O)) (bC _) rfl λe o s L y A g=>(zt Z (NY g M rfl)).mono λr R ⟨K,p⟩=>⟨K,?_⟩;unfold Vm.left at p;rw [zO O] at p;simp only [Vm.top,my] at p;exact p
end
open Classical in
noncomputable def pD (X:Sg) (stop:Int) (V:Vm):Bool×SO:=if h:∃p:Bool×SO,Bx X stop V p.1 p.2 then h.choose else (false,⟨V,0,false,V⟩)
theorem Kj {X:Sg} {stop:Int} {V:Vm} (h:∃b o,Bx X stop V b o):Bx X stop V (pD X stop V).1 (pD X stop V).2:=by have ⟨b,o,h⟩:=h;have:∃p:Bool×SO,Bx X stop V p.1 p.2:=⟨(b,o),h⟩;unfold pD;rw [dif_pos this];exact this.choose_spec
inductive pS (X:Sg) (stop:Int) (room dk:Nat):Vm->Vm->Prop
 | over {V:Vm} (h:V.over):pS X stop room dk V V
 | stop {V:Vm} (h:V.over=false) (hst:Bx X stop V (pD X stop V).1 (pD X stop V).2) (hb:(pD X stop V).1=false):pS X stop room dk V (pD X stop V).2.V1
 | bad {V:Vm} (h:V.over=false) (hst:Bx X stop V (pD X stop V).1 (pD X stop V).2) (hb:(pD X stop V).1) (hn:room<(pD X stop V).2.td\/((pD X stop V).2.Fu=true/\dk<=V.aa.length)):pS X stop room dk V (pD X stop V).2.bad
 | step {V E:Vm} (h:V.over=false) (hst:Bx X stop V (pD X stop V).1 (pD X stop V).2) (hb:(pD X stop V).1) (hn:(pD X stop V).2.td<=room) (hs:(pD X stop V).2.Fu->V.aa.length<dk) (hr:pS X stop room dk (pD X stop V).2.V1 E):pS X stop room dk V E
section
variable {X:Sg} {V V' D:Vm} {stop:Int} {E J h lim':Nat}
theorem O8 (K:uc X) (L:kz) (F:JF X) {e:ME} {z:Nat->Nat} (w:e.X=X) (h:MS e z r V) (H:V.over\/VI X V):EN prog 20 [.p true e.pv 0,I stop] r e.fl λC m=>C= .tu []/\∃d E,pS X stop e.room e.dk V E/\MS e d m E/\(E.over=true\/VI X E):=by
 apply EW.o e20;simp [b20];refine LP.ind (λx:Vm×ae=>if x.1.over=true then 0 else mu X x.1+1) (λx=>(∃d,MS e d x.2 x.1)/\(x.1.over=true\/VI X x.1)/\∀E,pS X stop e.room e.dk x.1 E->pS X stop e.room e.dk V E) (λ_=>[.p true e.pv 0,I stop]) (λ_=>[]) (λx=>x.2) 0 (λ_ _=>⟨rfl,rfl,rfl⟩) (λx R b2 y=>?_) (V,r) ⟨⟨z,h⟩,H,λ_ h=>h⟩;have ⟨g,D⟩:=x;have ⟨⟨s,i⟩,v,j⟩:=R;simp only at i v j;have ⟨b1,fv,zv,t,i1,i2,v3,v4,v5⟩:=i.row;simp only [Vm.cells] at t;cases b:g.over with
 | true=>simp [xr,t,b];exact ⟨s,g,j _ (.over b),i,.inl b⟩
 | false=>
  have J:=v.resolve_left (by rw [b];simp);have c:=Kj (GF K L F J ⟨e,s,D,w,i⟩ stop);have N:=c.run e s D w i;simp [xr,t,b];refine CL.o N λC m ⟨l,A⟩=>?_;cases f:(pD X stop g).1 with
  | false=>rw [f] at l;subst l;have ⟨M,P⟩:=c.st f;simp;rcases A with ⟨_,_,d,p⟩|⟨a,_⟩;exact ⟨d,_,j _ (.stop b c f),p,c.nx⟩;rw [M,P] at a;rcases a with a|⟨a,_⟩;omega;cases a
  | true=>
   rw [f] at l;subst l;simp;rcases A with ⟨a,p,d,q⟩|⟨a,d,q⟩;refine y ((pD X stop g).2.V1,m) _ _ _ rfl rfl rfl ⟨⟨d,q⟩,c.nx,λE n=>j _ (.step b c f a p n)⟩ ?_;simp only [b];rcases c.mu f with o|o;rw [zP o,zO Z];omega;split;simp;simp;exact o;have k:=c.bad (by rcases a with a|⟨a,_⟩;exact .inl O;exact .inr a);refine y ((pD X stop g).2.bad,m) _ _ _ rfl rfl rfl ⟨⟨d,q⟩,.inl k.1,λE n=>j _ ?_⟩ ?_;cases n with
   | over _=>exact .bad b c f a
   | stop h=>rw [k.1] at h;cases h
   | bad h=>rw [k.1] at h;cases h
   | step h=>rw [k.1] at h;cases h
   simp only [b];rw [zP k.1,zO Z];omega
theorem pS.grow (h:pS X stop E J V D):V.out<+:D.out/\V.time<=D.time:=by
 induction h with
 | over _=>exact ⟨⟨[],Z⟩,zC _⟩
 | stop _ a _=>exact ⟨a.out,a.time⟩
 | bad _ a _ b=>have c:=a.bad (by rcases b with b|⟨b,_⟩;exact .inl O;exact .inr b);rw [c.2.2.2.1,c.2.2.2.2];exact ⟨⟨[],Z⟩,zC _⟩
 | step _ a _ _ _ _ d=>exact ⟨a.out.trans d.1,yI a.time d.2⟩
def Rel (E a:Vm):Prop:=E=a\/(E.over=true/\E.ok=2/\(E.ot=4\/E.ot=5)/\E.out<+:a.out/\E.time<=a.time)
theorem pS.rel {k i:Vm} (a:pS X stop E J V k) (g:pS X stop h lim' V i) (s:E<=h) (r:J<=lim'):Rel k i:=by
 induction a generalizing i with
 | over c=>
  cases g with
  | over _=>exact .inl rfl
  | stop a=>rw [c] at a;cases a
  | bad a=>rw [c] at a;cases a
  | step a=>rw [c] at a;cases a
 | stop c j d=>
  cases g with
  | over a=>rw [c] at a;cases a
  | stop a=>exact .inl rfl
  | bad a _ b=>rw [d] at b;cases b
  | step a _ b=>rw [d] at b;cases b
 | bad c j d f=>have e:=j.bad (by rcases f with f|⟨f,_⟩;exact .inl O;exact .inr f);have m:=g.grow;exact .inr ⟨e.1,e.2.1,e.2.2.1,by rw [e.2.2.2.1];exact m.1,by rw [e.2.2.2.2];exact m.2⟩
 | step c j d f p t q=>
  cases g with
  | over a=>rw [c] at a;cases a
  | stop a _ b=>rw [d] at b;cases b
  | bad a _ b n=>rcases n with n|⟨o,l⟩;omega;have:=p o;omega
  | step a _ _ _ _ l=>exact q l
theorem pS.fix {b:Vm} (h:pS X stop E J V b) (a:V.over):b=V:=by
 cases h with
 | over _=>rfl
 | stop h=>rw [a] at h;cases h
 | bad h=>rw [a] at h;cases h
 | step h=>rw [a] at h;cases h
theorem pS.Yw {d e b c:Vm} (a:Rel d e) (f:pS X i E J d b) (g:pS X i h lim' e c) (q:E<=h) (p:J<=lim'):Rel b c:=by rcases a with a|⟨j,l,m,n,o⟩;subst a;exact f.rel g q p;have:=f.fix j;subst this;have k:=g.grow;exact .inr ⟨j,l,m,n.trans k.1,yI o k.2⟩
end
theorem least {P:Nat->Prop} (h:∃i,P i):∃i,P i/\∀j,j<i->¬P j:=by
 have ⟨i,d⟩:=h;induction i using Nat.strongRecOn with
 | ind i g=>by_cases a:∃j,j<i/\P j;have ⟨j,b,c⟩:=a;exact g j b c;exact ⟨i,d,λj e f=>a ⟨j,e,f⟩⟩
theorem Ij:prog.underlying 27=some (.slice 156):=Y
section
variable {T U:List Ty} {D:Nat}
def O9 (T:List Ty) (x:Ty) (i:Nat):Prop:=∃t,T[i]? =some t/\x.kind=t.kind/\x.of=t.of
theorem a0b (T:List Ty) (x:Ty) (D:T.length<=1000000000000):∃n:Int,EP prog 127 [.sl false (T.map dM),.ag (dM x)] (· =I n):=by
 have q:∀n:Int,(∀i,O9 T x i->(∀j,j<i->¬O9 T x j)->n=i)->((∀i,¬O9 T x i)->n= -1)->EP prog 127 [.sl false (T.map dM),.ag (dM x)] (· =I n):=by
  intro n a g;refine EP.o Sw λs Q o=>?_;simp [Us];refine LP.ind (λi:Nat=>T.length-i) (λi=>i<=T.length/\∀j,j<i->¬O9 T x j) (λi=>[.sl false (T.map dM),.p false 0 0,I T.length,I i]) (λ_=>[.row [U x.kind,I x.of] 0]) (λ_=>s) 1 (λ_ _=>⟨rfl,rfl,rfl⟩) (λi v k y=>?_) 0 ⟨zY _,λj w=>O⟩;have ⟨F,m⟩:=v;simp [uD];refine ST.dc (λz=>?_) λE=>?_;have f:=zA z;generalize T[i]=t at f;have C:i64.wrap ((i:Int)+1)=((i+1:Nat):Int):=by rw [bW O O];omega
  have A:=CM x.kind x.of t.kind t.of;simp [f,A];apply ST.mk<;>intro c;simp at c;simp;exact o _ (by rw [a i ⟨t,f,c⟩ m]);simp;simp only [C];refine y (i+1) _ _ _ rfl rfl rfl ⟨O,λj w=>?_⟩ O;by_cases e:j=i;subst e;intro d;have ⟨J,b,l,r⟩:=d;rw [f] at b;cases b;simp [l,r] at c;exact m j O;simp [Du];apply o _;rw [g λi d=>?_];by_cases H:i<T.length;exact m i O d;have ⟨t,h,_⟩:=d;have:=ab h;omega
 by_cases p:∃i,O9 T x i;have ⟨i,a,g⟩:=least p;refine ⟨i,q i (λj b l=>?_) λh=>absurd a (h i)⟩;rcases xQ i j with h|h|h;exact absurd a (l i h);rw [h];exact absurd b (g j h);exact ⟨-1,q _ (λi h _=>absurd ⟨i,h⟩ p) λ_=>rfl⟩
theorem m84 (T:List Ty) (k:Int) (g:T.length<=1000000000000):∃b:Bool,EP prog 84 [.sl false (T.map dM),I k] (· =B b):=by by_cases c:0<k;by_cases d:k<T.length;by_cases e:k=5;refine ⟨false,EP.o AP λs Q a=>?_⟩;simp [Ti,e];have f:(5:Int)<T.length:=O;simp [zL f];exact a _ rfl;refine ⟨true,EP.o AP λs Q a=>?_⟩;simp [Ti,zL c,zL d,zB e];exact a _ rfl;refine ⟨false,EP.o AP λs Q a=>?_⟩;simp [Ti,zL c,zB d];exact a _ rfl;refine ⟨false,EP.o AP λs Q a=>?_⟩;simp [Ti,zB c];exact a _ rfl
theorem m85 (T:List Ty) (x:Ty) (d:T.length<=1000000000000):∃b:Bool,EP prog 85 [.sl false (T.map dM),.ag (dM x)] (· =B b):=by have ⟨n,c⟩:=a0b T x d;refine ⟨decide (0<=n),EP.o Bq λs Q a=>?_⟩;simp at c;simp [b85,CP.q c];exact a _ rfl
def gE (r:Nat):List Ty:=[⟨0,0⟩,⟨1,0⟩,⟨2,0⟩,⟨3,0⟩,⟨4,0⟩,⟨5,0⟩]++(List.range (min r 100)).map λ(i:Nat)=>⟨6,i⟩
theorem sL (K:List Ty) (x:Ty) {fl:Nat} {l s:ae} {o:Bool} (h:K.length<=1000000):cq false 2 16 0 fl (.sl true (K.map dM)) (.sl o [dM x]) l s=some (.sl true ((K++[x]).map dM),l,s):=by have:=lF (fl:=fl) (l:=l) (s:=s) (o:=o) K [x] W;simpa using this
theorem m82 (r:Nat):EP prog 82 [I r] (· = .sl false ((gE r).map dM)):=by
 refine EP.o e82 λs Q q=>?_;simp [b82];refine LP.ind (λi:Nat=>6-i) (λi=>i<=6) (λi=>[I r,.sl true (((List.range i).map λ(k:Nat)=>(⟨k,0⟩:Ty)).map dM),I i]) (λ_=>[]) (λ_=>s) 0 (λi _=>⟨rfl,rfl,rfl⟩) (λi v k g=>?_) 0 (zY _);obtain ⟨K,d⟩:∃K,K=(List.range i).map λ(k:Nat)=>(⟨k,0⟩:Ty):=⟨_,rfl⟩;have p:K.length=i:=by simp [d]
 rw [<-d];simp [BL];refine ST.dc (λy=>?_) λt=>?_;have a:=λf l s=>sL (fl:=f) (l:=l) (s:=s) (o:=true) K ⟨i,0⟩ O;simp at a;have w8:u8.wrap (i:Int)=(i:Int):=by rcases (by omega:i=0\/i=1\/i=2\/i=3\/i=4\/i=5) with h|h|h|h|h|h <;> rw [h] <;> rfl
 simp [w8,a,wn (j:=i) O];refine g (i+1) _ _ _ ?_ rfl rfl O O;simp [xV,d];have w:i=6:=by omega
 subst w;simp [IG];have z:min (r:Int) 100=((min r 100:Nat):Int):=O;obtain ⟨m,n⟩:∃m,m=min r 100:=⟨_,rfl⟩;rw [z,<-n];have A:=LP.ind (P:=prog) (fl:=s.length) (r:=RP Q s) (lv:=[3,18,19]) (b:=λk=>a3 (xd k)) (λi:Nat=>m-i) (λi=>i<=m) (λi=>[.sl true ((K++(List.range i).map λ(k:Nat)=>(⟨6,k⟩:Ty)).map dM),I m,I i]) (λ_=>[]) (λ_=>s) 0 (λi _=>⟨rfl,rfl,rfl⟩) (λi v k g=>?_) 0 (zY _);simpa using A;obtain ⟨c,e⟩:∃c,c=K++(List.range i).map λ(k:Nat)=>(⟨6,k⟩:Ty):=⟨_,rfl⟩;have C:c.length=6+i:=by simp [e,p]
 rw [<-e];simp [xd];refine ST.dc (λy=>?_) λt=>?_;have a:=λf l s=>sL (fl:=f) (l:=l) (s:=s) (o:=true) c ⟨6,i⟩ O;simp at a;simp [a,wn (j:=i) O];refine g (i+1) _ _ _ ?_ rfl rfl O O;simp [xV,e];have x:i=m:=by omega
 subst x;simp [II];apply q _;rw [e,d,n];simp [gE,xV]
theorem m83 (T U:List Ty) (D:T.length<=1000000000000) (E:U.length<=1000000000000):∃b:Bool,EP prog 83 [.sl false (T.map dM),.sl false (U.map dM)] (· =B b):=by
 by_cases w:T.length=U.length;have q:∀b,(b=true↔∀(i:Nat) (x y:Ty),T[i]? =some x->U[i]? =some y->x.kind=y.kind/\x.of=y.of)->EP prog 83 [.sl false (T.map dM),.sl false (U.map dM)] (· =B b):=by
  intro b n;refine EP.o e83 λs Q d=>?_;simp [JB,w];refine LP.ind (λi:Nat=>U.length-i) (λi=>i<=U.length/\∀j,j<i->∀x y,T[j]? =some x->U[j]? =some y->x.kind=y.kind/\x.of=y.of) (λi=>[.sl false (T.map dM),.sl false (U.map dM),I U.length,I i]) (λ_=>[]) (λ_=>s) 0 (λ_ _=>⟨rfl,rfl,rfl⟩) (λi r k v=>?_) 0 ⟨zY _,λj t=>O⟩;have ⟨H,p⟩:=r;simp [BJ];refine ST.dc (λJ=>?_) λF=>?_;have f:=zA (l:=T) (i:=i) O;generalize T[i]'O=x at f;have g:=zA O;generalize U[i]=y at g;have A:=CJ x.kind x.of y.kind y.of;have C:i64.wrap ((i:Int)+1)=((i+1:Nat):Int):=by rw [bW O O];omega
  simp [f,g,A];apply ST.mk<;>intro m;simp;apply d _;have:b=false:=by
   cases b with
   | false=>rfl
   | true=>have:=n.1 rfl i x y f g;simp [this] at m
  rw [this];simp;simp only [C];refine v (i+1) _ _ _ rfl rfl rfl ⟨O,λj t=>?_⟩ O;by_cases e:j=i;subst e;intro K L c a;rw [f] at c;cases c;rw [g] at a;cases a;simpa using m;exact p j O;simp [IE];apply d _;have:=n.2 λj x y c a=>p j (Zo (ab a)) x y c a;rw [this]
 by_cases o:∀(i:Nat) (x y:Ty),T[i]? =some x->U[i]? =some y->x.kind=y.kind/\x.of=y.of;exact ⟨true,q _ ⟨λ_=>o,λ_=>rfl⟩⟩;exact ⟨false,q _ ⟨(λh=>by cases h),λh=>absurd h o⟩⟩;refine ⟨false,EP.o e83 λs Q d=>?_⟩;have z:¬(T.length:Int)=U.length:=O;simp [JB,zB z];exact d _ rfl
theorem Of {T:List Ty} {l s:ae} {a b:Nat} (h:a<=b) (c:b<=T.length):aK prog 27 (some (I a)) (some (I b)) none l s (.sl false (T.map dM))=some (.sl false (((T.take b).drop a).map dM)):=by rw [mj Ij Y (kC 0 a .i64) (kC _ b .i64) h (Zs c) (kh (k:=2) (λx=>rfl) T)];simp
theorem Ck {T:List Ty} {l s:ae} {b:Nat} (a:b<=T.length):aK prog 27 none (some (I b)) none l s (.sl false (T.map dM))=some (.sl false ((T.take b).map dM)):=by rw [mj Ij Y (OD 0) (kC _ b .i64) (zY _) (Zs a) (kh (k:=2) (λx=>rfl) T)];simp
theorem m57 (T:List Ty) (hT:T.length<=99000000000):∃b:Bool,EP prog 57 [.sl false (T.map dM)] (· =B b):=by
 have ⟨r,d9,b1⟩:=least (P:=λr=>∀t,T[r+6]? =some t->t.kind≠6) ⟨T.length,λt h=>by have:=ab h;omega⟩;have f4:r<=T.length:=by rcases zZ T.length r with h|h;exact absurd (λt v=>by have:=ab v;omega) (b1 T.length h);exact h
 have ⟨JB,y⟩:=m83 (T.take (gE r).length) (gE r) W (by simp [gE];omega);have d4:(gE r).length=6+min r 100:=by simp [gE];omega
 have d1:=λj=>m84 (T.take j) (eZ T j).of W;have d2:=λj=>m85 ((T.take j).drop (gE r).length) (eZ T j) W;have ⟨c2,c9⟩:=Classical.axiomOfChoice d1;have ⟨c3,c4⟩:=Classical.axiomOfChoice d2;obtain ⟨q,d5⟩:∃q:Nat->Bool,∀j,q j=(decide ((eZ T j).kind≠7)|| !c2 j||c3 j):=⟨_,λ_=>rfl⟩;have c7:∀b,(b=true↔¬100<r/\¬T.length<(gE r).length/\JB/\∀j,(gE r).length<=j->j<T.length->q j=false)->EP prog 57 [.sl false (T.map dM)] (· =B b):=by
  intro b M;have C:∀Q:TV->Prop,(∀c8,c8=B b->Q c8)->(100<r\/T.length<(gE r).length\/JB=false\/∃j,(gE r).length<=j/\j<T.length/\q j)->Q (B false):=by
   intro Q p d8;apply p _;have:b=false:=by
    cases b with
    | false=>rfl
    | true=>have ⟨n,o,w,L⟩:=M.1 rfl;rcases d8 with h|h|h|⟨j,h5,x,d⟩;exact absurd h n;exact absurd h o;rw [h] at w;cases w;rw [L j h5 x] at d;cases d
   rw [this]
  refine EP.o e57 λs Q p=>?_;simp [b57];refine LP.ind (λi:Nat=>r-i) (λi=>i<=r) (λi=>[.sl false (T.map dM),I i]) (λ_=>[]) (λ_=>s) 0 (λ_ _=>⟨rfl,rfl,rfl⟩) (λi hi b2 R=>?_) 0 (zY _);have z:i64.wrap ((i:Int)+6)=((i+6:Nat):Int):=by rw [bW O O];omega
  have w1:i64.wrap ((i:Int)+1)=((i+1:Nat):Int):=by rw [bW O O];omega
  obtain ⟨F,N⟩:∃j,j=i+6:=⟨_,rfl⟩;rw [<-N] at z;have stop:∀t,T[F]? =some t->t.kind≠6->i=r:=λt n o=>by rcases zZ i r with h|h;exact absurd (λt' v=>by rw [<-N,n] at v;cases v;exact o) (b1 i h);omega
  have ex:i=r->qi (X:=PX prog s Q) (.sl false (T.map dM)) (I i) [] s:=by
   intro d6;subst d6;obtain ⟨c,d3⟩:∃c,c=gE i:=⟨_,rfl⟩;have A:=m82 i;rw [<-d3] at A d4 y C M c4;rw [List.map_take] at y;by_cases n:100<i;have D:(100:Int)<i:=by omega
   simp [qi,CP.q A,zL D];exact C Q p (.inl n);have D:¬(100:Int)<i:=by omega
   by_cases o:T.length<c.length;have H:(T.length:Int)<c.length:=by omega
   simp [qi,CP.q A,zB D,zL H];exact C Q p (.inr (.inl o));have H:¬(T.length:Int)<c.length:=by omega
   have ts:=λl s=>Ck (T:=T) (l:=l) (s:=s) (b:=c.length) O;cases J:JB with
   | false=>rw [J] at y;simp [qi,CP.q A,zB D,zB H,ts,CP.q y];exact C Q p (.inr (.inr (.inl J)))
   | true=>
    rw [J] at y;simp [qi,CP.q A,zB D,zB H,ts,CP.q y];have e1:=LP.ind (P:=prog) (fl:=s.length) (r:=RP Q s) (lv:=[0,4,5]) (b:=λb2=>a3 (xj b2)) (λj:Nat=>T.length-j) (λj=>c.length<=j/\j<=T.length/\∀k,c.length<=k->k<j->q k=false) (λj=>[.sl false (T.map dM),.sl false (c.map dM),I j]) (λ_=>[]) (λ_=>s) 0 (λ_ _=>⟨rfl,rfl,rfl⟩) (λj hj b2 R=>?_) c.length ⟨zC _,O,λk n o=>O⟩;simpa using e1;have ⟨c5,f2,c6⟩:=hj;have e6:6<=c.length:=O;simp [xj];refine ST.dc (λE=>?_) λf1=>?_;have f:=iW E;have wj:i64.wrap ((j:Int)+1)=((j+1:Nat):Int):=by rw [bW O O];omega
    have AP:=c9 j;have Bq:=c4 j;have g:=d5 j;generalize eZ T j=e2 at f AP Bq g;have K:=λl s=>Ck (l:=l) (s:=s) (b:=j) O;have b6:=λl s=>Of (l:=l) (s:=s) (a:=c.length) (b:=j) c5 O;rw [List.map_take] at AP;rw [List.map_drop,List.map_take] at Bq;simp at K b6;simp at Bq;have bad:=λh=>C Q p (.inr (.inr (.inr ⟨j,c5,E,h⟩)));by_cases d:e2.kind=7;cases hf:c2 j with
    | false=>rw [hf] at AP g;simp [f,d,K,CP.q AP];exact bad (by rw [g];simp)
    | true=>
     rw [hf] at AP g;cases hg:c3 j with
     | true=>rw [hg] at Bq g;rw [d] at Bq;simp [f,d,K,b6,CP.q AP,CP.q Bq];exact bad (by rw [g];simp)
     | false=>rw [hg] at Bq g;rw [d] at Bq;simp [f,d,K,b6,CP.q AP,CP.q Bq];simp only [wj];refine R (j+1) _ _ _ rfl rfl rfl ⟨O,O,λk w L=>?_⟩ O;by_cases e:k=j;subst e;rw [g,d];rfl;exact c6 k w O
    simp [f,zB d];exact bad (by rw [g];simp [d]);simp [J3];apply p _;have:=M.2 ⟨n,o,J,λk w L=>c6 k w O⟩;rw [this]
  obtain ⟨m,hm⟩:∃m,T.length=m:=⟨_,rfl⟩;by_cases E:F<m;have f:=zA (l:=T) (i:=F) O;generalize T[F]'O=t at f;by_cases x:t.kind=6;have f3:i≠r:=λe=>d9 t (by rw [<-e,<-N];exact f) x;simp [si,hm,z];simp only [decide_eq_true E];simp [z,f,x,w1];exact R (i+1) _ _ _ rfl rfl rfl O O;simp [si,hm,z];simp only [decide_eq_true E];simp [z,f,zB x];exact ex (stop t f x);have d7:¬(F:Int)<m:=by omega
  simp [si,hm,z,zB d7];apply ex;rcases zZ i r with h|h;exact absurd (λt' v=>by have:=ab v;omega) (b1 i h);omega
 by_cases hc:¬100<r/\¬T.length<(gE r).length/\JB/\∀j,(gE r).length<=j->j<T.length->q j=false;exact ⟨true,c7 _ ⟨λ_=>hc,λ_=>rfl⟩⟩;exact ⟨false,c7 _ ⟨(λh=>by cases h),λh=>absurd h hc⟩⟩
theorem m32 (T:List Ty) (j:T.length<=99000000000) (e:TG T D) (t:Nat) (f:t<T.length):∃z:Vl,EP prog 32 [.sl false (T.map dM),I t] (· = .ag (aw z)):=by
 have ⟨b,c⟩:=m57 T j;cases b with
 | false=>refine ⟨vz,EP.o e32 λs Q d=>?_⟩;simp [b32,CP.q c];exact d _ rfl
 | true=>
  have g:=iW f;have k:0<=(eZ T t).kind/\(eZ T t).kind<=7:=by rcases zZ t 6 with h|h;have:=e.base t h;omega;rcases e.ok t f h with ⟨a,_⟩|⟨a,_⟩ <;> omega
  generalize eZ T t=x at g k;obtain ⟨m,l⟩:∃m,T.length=m:=⟨_,rfl⟩;have a:¬(t:Int)<0:=O;have n:¬(m:Int)<=t:=O;have i:¬m<=t:=O;refine ⟨⟨min x.kind 5,0,0,0,O,λ_=>O⟩,EP.o e32 λs Q d=>?_⟩;simp [b32,CP.q c,l,zB a];simp only [decide_eq_false i];simp [g];exact d _ rfl
end
abbrev f34:TV:=.v (.func (.func 34) #[] #[])
theorem Oq:Ir prog f34=some 34:=Y
@[simp ↓] theorem a3m {b:jw} {k:TV->RA (Xc prog a b)}:dy (X:=Xc prog a b) 0 f34 o k r s=af (X:=Xc prog a b) 34 o k r s:=by unfold dy;rw [show Ir (Xc prog a b).P f34=some 34 from Oq];rfl
theorem m34 (f:Fn):∃b:Bool,EP prog 34 [.ag (ju f)] (· =B b):=by refine ⟨decide (f.name.1=⟨#[109,97,105,110]⟩),EP.o e34 λs Q a=>?_⟩;simp [b34];exact a _ rfl
theorem Et {F:List Fn} {i:Nat} (h:i<F.length):F[i]? =some (aN F i):=getD_some h _
theorem m33 (F:List Fn) (E:F.length<=1000000000):∃n:Int,n<F.length/\EP prog 33 [.sl false (F.map ju),f34] (· =I n):=by
 have ⟨g,y⟩:=Classical.axiomOfChoice m34;have q:∀n:Int,(∀i,i<F.length->g (aN F i)->(∀j,j<i->¬g (aN F j))->n=i)->((∀i,i<F.length->¬g (aN F i))->n= -1)->EP prog 33 [.sl false (F.map ju),f34] (· =I n):=by
  intro n a d;refine EP.o e33 λs Q l=>?_;simp [b33];refine LP.ind (λi:Nat=>F.length-i) (λi=>i<=F.length/\∀j,j<i->¬g (aN F j)) (λi=>[.sl false (F.map ju),f34,I F.length,I i]) (λ_=>[]) (λ_=>s) 0 (λ_ _=>⟨rfl,rfl,rfl⟩) (λi z k C=>?_) 0 ⟨zY _,λj A=>O⟩;have ⟨J,f⟩:=z;simp [C8];refine ST.dc (λo=>?_) λH=>?_;have p:=Et o;have c:=y (aN F i);have D:i64.wrap ((i:Int)+1)=((i+1:Nat):Int):=by rw [bW O O];omega
  simp at c;cases b:g (aN F i) with
  | true=>rw [b] at c;simp [p,CP.q c];exact l _ (by rw [a i o b f])
  | false=>rw [b] at c;simp [p,CP.q c];simp only [D];refine C (i+1) _ _ _ rfl rfl rfl ⟨O,λj A=>?_⟩ O;by_cases e:j=i;subst e;rw [b];simp;exact f j O
  simp [Ja];apply l _;rw [d λi K=>f i O]
 by_cases m:∃i,i<F.length/\g (aN F i);have ⟨i,⟨t,a⟩,d⟩:=least m;refine ⟨i,O,q i (λj x v w=>?_) λh=>absurd a (h i t)⟩;rcases xQ i j with h|h|h;exact absurd a (w i h);rw [h];exact absurd ⟨x,v⟩ (d j h);exact ⟨-1,O,q _ (λi h r _=>absurd ⟨i,h,r⟩ m) λ_=>rfl⟩
section
variable {s:ae} {fl:Nat}
theorem Jv (L:List Int):cR 0 1 (L.map bt):=bD (λx=>rfl) L
theorem m56 (L:List Int) (a:L.length<=100000000):EN prog 56 [.sl false (L.map bt)] s fl λr d=>r= .sl false (L.map bt)/\d=s:=by
 cases L with
 | nil=>exact Ends.iN (f:=bI 1 8 0) Y Y (by simp [bI,Fy]) ⟨rfl,rfl⟩
 | cons v L=>
  have b:fits (L.length+1) 8:=by unfold fits;exact decide_eq_true ⟨by simp at a;omega,by simp at a;omega⟩
  refine Ends.iN (f:=bI 1 8 0) Y Y ?_ ⟨rfl,rfl⟩;unfold bI;have c:=Jv (v::L);simp only [Ag,Fy,xA,if_false,yS] at c ⊢;rw [fB rfl];simp [Jv L,b,db]
theorem m30 (L D:List Int) (e:L.length<=100000000) (d:D.length<=100000000) (g:fl<=s.length):EN prog 30 [.sl false (L.map bt),.sl false (D.map bt),I 0,I 0] s fl λr f=>r= .p true s.length 0/\f=s++[.row [.sl false (L.map bt),.sl false (D.map bt),I 0,I 0] 0]:=by apply EW.o e30;have c1:=m56 (s:=s) (fl:=fl) L e;have a:=m56 (s:=s) (fl:=fl) D d;have b:min 0 (L.length:Int)=0:=O;have c:min 0 (D.length:Int)=0:=O;simp [b30,CL.q c1,CL.q a,b,c]
theorem m31 (n:Nat) (f:n<=65536) (e:fl<=s.length):EN prog 31 [I n] s fl λr c=>r= .tu [.p true s.length 0,I 0]/\c=s++[.row [I n,I 0,.sl true []] 0]:=by apply EW.o e31;have a:¬(n:Int)<0:=O;have b:¬(65536:Int)<n:=O;have d:¬65536<n:=O;simp [b31,zB a,zB b]
def lP (b k:Nat):Lay:={id:=λr=>if r=kL then b+3 else if r=bY then b+4 else if r=ls then b+2 else if r=iM then b else if r=fe then b+1 else b+5,az:=λr=>if r=pE then k-1 else 0,al:=λr=>if r=kL\/r=bY\/r=ls\/r=iM\/r=fe\/r=pE then true else false}
def Sg.V0 (X:Sg) (a:Bool):Vm:={H:=⟨0,[]⟩,F:=⟨X.w1,X.w2,0,0⟩,time:=0,out:=[],aa:=[],over:=a,ok:=0,ot:=0,ol:=0}
theorem nmd {X:Sg} (j:Bool) (z:0<X.zs.length) (d:a<=1000000) (t:b<=100000) (q:X.fuel<=1000000000) (n:X.w1.length<=1000000) (p:X.w2.length<=1000000) (v:∀x∈X.w1,-9223372036854775808<=x) (A:fl<=s.length) (w:Nat->Nat):MS ⟨X,a,b,fl,s.length+3,s.length+4,s.length+2,λg=>s[g]?⟩ w
  (s++[.aY 0 4 ((List.replicate X.g.ins.length (⟨0,0,0,0⟩:Sn)).map ON),.aY 0 1 ((List.replicate X.S.fn.length (0:Int)).map bt),.row [.sl false (X.w1.map bt),.sl false (X.w2.map bt),I 0,I 0] 0,
   .row ((X.V0 j).cells X a b (lP s.length X.zs.length) (.sl true []) (.m true (s.length+5) (X.zs.length-1) 0 X.zs.length 4) (.m true s.length 0 0 X.g.ins.length 4) (.m true (s.length+1) 0 0 X.S.fn.length 1)) 0,
   .row [I a,I 0,.sl true []] 0,.aY (X.zs.length-1) 4 (X.zs.map aw)]) (X.V0 j):=by
 have c:∀r,(lP s.length X.zs.length).al r->r=kL\/r=bY\/r=ls\/r=iM\/r=fe\/r=pE:=λr h=>by simp only [lP] at h;split at h;assumption;cases h
 have gt:∀(k:Nat) (L:ae),(s++L)[s.length+k]? =L[k]? :=λk L=>by rw [zH O,show s.length+k-s.length=k by omega]
 have l:∀(L:ae),(s++L)[s.length]? =L[0]? :=λL=>gt 0 L;refine ⟨lP s.length X.zs.length,⟨⟨⟨by rfl,.sl true [],?_,.inr ⟨rfl,rfl,rfl⟩⟩,(λh=>by simp [lP] at h),(λi o h=>by simp [Sg.V0] at h),(λi o h=>by simp [Sg.V0] at h),λi _=>⟨by simp [lP],λ_=>by simp [lP]⟩,d,zY _,rfl,(λo h=>by simp [Sg.V0] at h)⟩,⟨by rfl,?_,zY _,zY _,n,p,v⟩,⟨by rfl,.sl true [],.m true (s.length+5) (X.zs.length-1) 0 X.zs.length 4,?_,.inr ⟨rfl,rfl,rfl⟩,.inl ⟨by rfl,by rfl⟩⟩,(λh=>by simp [lP] at h),(λi f h=>by simp [Sg.V0] at h),⟨by rfl,List.replicate X.g.ins.length ⟨0,0,0,0⟩,Z,?_⟩,⟨by rfl,List.replicate X.S.fn.length 0,Z,?_⟩,λ_=>?_,zY _,q,zY _,t⟩,⟨λr y h m e=>?_,λr h=>?_,λr h=>?_⟩,W,by rfl,by rfl,by rfl,(λi h=>by simp [Sg.V0] at h),λg o h=>⟨?_,λr d=>?_⟩⟩;show (s++_)[s.length+4]? =_;rw [gt];rfl;show (s++_)[s.length+2]? =_;rw [gt];rfl;show (s++_)[s.length+3]? =_;rw [gt];rfl;show (s++_)[s.length]? =_;rw [l];rfl;show (s++_)[s.length+1]? =_;rw [gt];rfl;show (s++_)[s.length+5]? =_;rw [gt];simp [lP];rcases c r h with rfl|rfl|rfl|rfl|rfl|rfl <;> rcases c y m with rfl|rfl|rfl|rfl|rfl|rfl <;> first|rfl|(simp [lP] at e;done)|(simp [lP] at e;omega)
 rcases c r h with rfl|rfl|rfl|rfl|rfl|rfl <;> simp [lP];rcases c r h with rfl|rfl|rfl|rfl|rfl|rfl <;> simp [lP] <;> omega;simp only at h ⊢;rw [zD (ab h)];exact h;have:=ab h;rcases c r d with rfl|rfl|rfl|rfl|rfl|rfl <;> simp [lP] <;> omega
end
def Sg.Vi (X:Sg) (n:Int):Vm:=if n<0 then X.V0 true else {X.V0 false with aa:=[⟨n.toNat,0,0,lJ X (aN X.S.fn n.toNat) [],[]⟩]}
section
variable {J:ae} {fl:Nat}
theorem Ps {J:ae} (b:a<=100000000):Q.E9 2 4 24 [U 0,U 0,I 0,I 0] (I a) (I a) r J=some (.m true J.length 0 0 a 4,r,J++[.aY 0 4 (List.replicate a [U 0,U 0,I 0,I 0])]):=by unfold Q.E9;simp;unfold mT;show (if _ then _ else none)=_;rw [zP ⟨O,O,O,λh=>O,rfl,rfl⟩];simp [db,mC]
theorem Za {J:ae} (b:a<=100000000):Q.E9 2 1 8 [I 0] (I a) (I a) r J=some (.m true J.length 0 0 a 1,r,J++[.aY 0 1 (List.replicate a [I 0])]):=by unfold Q.E9;simp;unfold mT;show (if _ then _ else none)=_;rw [zP ⟨O,O,O,λh=>O,rfl,rfl⟩];simp [db,mC]
def Pa (b:Nat):Nat->TV
 | 0=>.sl true []
 | j+1=>.m true (b+5) j 0 (j+1) 4
def Pb (X:Sg) (a b:Nat) (J:ae) (j:Nat):ae:=J++([.aY 0 4 (List.replicate X.g.ins.length [U 0,U 0,I 0,I 0]),.aY 0 1 (List.replicate X.S.fn.length [I 0]),.row [.sl false (X.w1.map bt),.sl false (X.w2.map bt),I 0,I 0] 0,.row [TV.sl false (List.map bG X.N),TV.sl false (List.map ic X.S.ma),TV.sl false (List.map dM X.S.ty),TV.sl false (List.map sR X.S.rc),TV.sl false (List.map pN X.S.fd),TV.sl false (List.map ju X.S.fn),TV.sl false (List.map bt X.S.sl),TV.sl false (List.map s7 X.S.va),TV.sl false (List.map vB X.S.pt),TV.sl false (List.map eV X.g.ins),TV.sl false (List.map rR X.g.fns),TV.sl false (List.map GG X.g.strs),TV.sl false (List.map bt X.w1),TV.sl false (List.map bt X.w2),I X.fuel,I a,I b,TV.p true (J.length+4) 0,TV.p true (J.length+2) 0,I 0,TV.sl true [],TV.sl true [],B false,U 0,U 0,I 0,(Pa J.length j),TV.m true J.length 0 0 X.g.ins.length 4,TV.m true (J.length+1) 0 0 X.S.fn.length 1] 0,.row [I a,I 0,.sl true []] 0]++match j with
 | 0=>[]
 | j+1=>[.aY j 4 ((X.zs.take (j+1)).map aw)])
theorem m18 {X:Sg} {dk:Nat} (w:X.zs.length=X.S.ty.length) (n:0<X.zs.length) (d9:X.zs.length<=99000000000) (hr:a<=65536) (c8:0<dk) (hl:dk<=100000) (b1:X.fuel<=1000000000) (K:X.w1.length<=1000000) (L:X.w2.length<=1000000) (hv:∀x∈X.w1,-9223372036854775808<=x) (hi:X.g.ins.length<=100000000) (c7:X.S.fn.length<=100000000) (R:fl<=J.length)
  (hz:∀(t:Nat) (z:Vl),X.zs[t]? =some z->EP prog 32 [.sl false (X.S.ty.map dM),I t] (· = .ag (aw z))) (hn:i<X.S.fn.length) (M:EP prog 33 [.sl false (X.S.fn.map ju),f34] (· =I i))
  (d2:∀x∈X.S.sl,∃(t:Nat) (z:Vl),x=(t:Nat)/\X.zs[t]? =some z) (c4:X.S.sl.length<=99000000000) (c6:∀d,d<X.S.fn.length->∃a0 m:Nat,(aN X.S.fn d).at_=a0/\(aN X.S.fn d).ah=m/\a0+m<=X.S.sl.length):
  EN prog 18 [X.S.q X.N,X.g.v,.ag [.sl false (X.w1.map bt),.sl false (X.w2.map bt),I X.fuel,I a,I dk]] J fl λr c=>r= .p true (J.length+3) 0/\∃g,MS ⟨X,a,dk,fl,J.length+3,J.length+4,J.length+2,λA=>J[A]?⟩ g c (X.Vi i):=by
 apply EW.o e18;have E:=m30 (s:=J++[.aY 0 4 (List.replicate X.g.ins.length [U 0,U 0,I 0,I 0])]++[.aY 0 1 (List.replicate X.S.fn.length [I 0])]) (fl:=fl) X.w1 X.w2 O O W;simp at E;simp [b18,GS.v,Ps hi,Za c7,CL.q E];refine CL.o (m31 a hr W) λr c ⟨q1,q2⟩=>?_;subst q1;subst q2;have p:fl<=J.length+3:=O;simp [p];have c3:=LP.ind (P:=prog) (fl:=fl) (r:=RW λr c=>r= .p true (J.length+3) 0/\∃g,MS ⟨X,a,dk,fl,J.length+3,J.length+4,J.length+2,λA=>J[A]?⟩ g c (X.Vi i)) (lv:=[3,7,39,40]) (b:=λc2=>a4 (sj c2)) (λj:Nat=>X.zs.length-j) (λj=>j<=X.zs.length) (λj=>[.p false 0 0,.p true (J.length+3) 0,I X.S.ty.length,I j])
  (λ_=>[.row [TV.sl false (List.map bG X.N),TV.sl false (List.map ic X.S.ma),TV.sl false (List.map dM X.S.ty),TV.sl false (List.map sR X.S.rc),TV.sl false (List.map pN X.S.fd),TV.sl false (List.map ju X.S.fn),TV.sl false (List.map bt X.S.sl),TV.sl false (List.map s7 X.S.va),TV.sl false (List.map vB X.S.pt)] 0,.row [TV.sl false (List.map eV X.g.ins),TV.sl false (List.map rR X.g.fns),TV.sl false (List.map GG X.g.strs)] 0,.row [TV.sl false (List.map bt X.w1),TV.sl false (List.map bt X.w2),I X.fuel,I a,I dk] 0])
  (Pb X a dk J) 3 (λ_ _=>⟨rfl,rfl,rfl⟩) (λj hj c2 hk=>?_) 0 (zY _)
 simp at c3;exact c3;cases j with
 | zero=>
  have f:=zA n;generalize X.zs[0]=z at f;have Mc:=hz 0 z f;have k:=λl c=>fB (k:=true) (e:=4) (b:=32) (an:=2) (fl:=fl) (l:=l) (s:=c) (y:=.sl true [aw z]) rfl;have s:fits 1 32:=by decide
  have N:=BC [z];simp [db,s] at k;simp only [Pb,Pa];simp at Mc;simp [sj,p,<-w,n,CP.q Mc,k];refine hk 1 _ _ _ ?_ rfl ?_ O O;rw [w];rfl;have v:X.zs.take 1=[z]:=by
   match hX:X.zs,f with
   | d6::d5,h=>simp at h;rw [h];rfl
  simp [Pb,Pa,v]
 | succ j=>
  simp only [Pb,Pa];simp [sj,<-w];refine ST.dc (λd8=>?_) λd7=>?_;have c9:j+1<X.zs.length:=by omega
  have d1:j+1<=min (j+1) X.zs.length:=O;have f:=zA c9;generalize X.zs[j+1]=z at f;have Mc:=hz _ z f;simp at Mc;have wj:i64.wrap ((j:Int)+1+1)=((j+2:Nat):Int):=by rw [bW O O];omega
  have s:fits (j+1+1) 32:=by unfold fits;exact decide_eq_true ⟨O,O⟩
  have k:=λl c=>kI (e:=4) (b:=32) (an:=2) (fl:=fl) (l:=l) (s:=c) (id:=J.length+5) (az:=j) (n:=j+1) (sz:=4) (y:=.sl true [aw z]) rfl;have c5:fl<=J.length+5:=O;have N:=BD [z];simp at k N;simp [p,CP.q Mc,k,c5,s,zL d1];refine hk (j+2) _ _ _ ?_ rfl ?_ O O;rw [wj];have v:X.zs.take (j+2)=X.zs.take (j+1)++[z]:=by rw [xD,f];rfl
  simp [Pb,Pa,v,List.take_take];have b2:j+1=X.zs.length:=by omega
  have C:=nmd (s:=J) (fl:=fl) false n (show a<=1000000 by omega) hl b1 K L hv R (λ_=>0);simp at C;simp [<-b2] at C;have D:=nmd (s:=J) (fl:=fl) true n (show a<=1000000 by omega) hl b1 K L hv R (λ_=>0);simp at D;simp [<-b2] at D;have b6:List.take (j+1) (List.map aw X.zs)=List.map aw X.zs:=yC (by rw [yQ];omega);by_cases q:i<0;simp [Dg,p,CP.q M,zL q,b6];refine ⟨λ_=>0,?_⟩;unfold Sg.Vi;rw [zP q];exact D;obtain ⟨d,rfl⟩:∃d:Nat,i=d:=⟨i.toNat,O⟩;have ⟨a0,m,f1,f2,f3⟩:=c6 d O;have H:=Bi (args:=[]) (o:=false) C (Et (F:=X.S.fn) (i:=d) O) f1 f2 (zY _) f3 d2 c4 c8;simp at H;simp [Dg,CP.q M,zB q,b6];have d3:List.take (j+1) X.zs=X.zs:=yC O;simp only [d3,List.cons_append,List.nil_append];refine CL.o H λr c ⟨g,d4⟩=>?_;simp;refine ⟨g,?_⟩;unfold Sg.Vi;rw [zO q];exact d4
end
section
variable {J:ME} {D:Nat->Nat} {E h:ae} {V V':Vm} {A A':Lay} {X:Sg} {fl:Nat}
theorem MD.move (d:MD J D E V A) (a:∀r,A.al r->h[A.id r]? =E[A.id r]?) (j:∀b o,J.Fo b=some o->h[b]? =some o):MD J D h V A:=by
 have lt:∀r,A.al r->A.id r<h.length:=λr g=>by obtain ⟨o,m⟩:∃o,E[A.id r]? =some o:=⟨_,zA (d.ij.lt r g)⟩;exact ab ((a r g).trans m)
 have c:NN (λ_=>False) A A E h:=⟨λ_ _=>⟨rfl,rfl,rfl⟩,λr k _=>a r k,λ_ _=>⟨rfl,rfl⟩⟩;exact ⟨d.vr.tV c (λa=>a) (λa=>a) (λa=>a) (λa=>a) (λa=>a) (d.vr.hp.tV (λa=>a) c λ_ _=>.inl λa=>a) (d.vr.fd.tV c λa=>a) (λi f l=>(d.vr.fr i f l).tV c λ_ _ a=>a) rfl (λ_ _=>rfl) rfl rfl rfl rfl rfl rfl,⟨d.ij.ij,lt,d.ij.lo⟩,yI (d.ij.lo _ d.vr.vm.1) (xZ (lt _ d.vr.vm.1)),d.iv,d.ih,d.ie,d.fr,λb o e=>⟨j b o e,(d.fo b o e).2⟩⟩
open Classical in
noncomputable def ME.all (J:ME) (A:Lay) (E:ae):ME:={J with Fo:=λid=>if ∃r,A.al r/\A.id r=id then none else E[id]?}
theorem MD.all (d:MD J D E V A):MD (J.all A E) D E V A:=⟨d.vr,d.ij,d.lf,d.iv,d.ih,d.ie,d.fr,λe o h=>by simp only [ME.all] at h;split at h;cases h;rename_i b;exact ⟨h,λr c a=>b ⟨r,c,a⟩⟩⟩
theorem rZ {o:TO} (h:E[a]? =some o) (d:∀r,A.al r->A.id r≠a):(J.all A E).Fo a=some o:=by simp only [ME.all];rw [zO λ⟨r,b,c⟩=>d r b c];exact h
structure MB (e:ME) (mb:Nat) (s:ae) (V:Vm) (A:Lay):Prop where
 md:∃D,MD e D s V A
 bx:s[mb]? =some (.row [.p true e.pv 0] 0)
 nb:∀r,A.al r->A.id r≠mb
def Oth (A A':Lay) (E h:ae):Prop:=∀a o,E[a]? =some o->(∀r,A.al r->A.id r≠a)->h[a]? =some o/\∀r,A'.al r->A'.id r≠a
theorem MB.move {b j:Lay} (k:MB J a E V A) (e:Oth b j E h) (q:∀r c,A.al r->b.al c->b.id c≠A.id r) (p:∀r,b.al r->b.id r≠a) (n:∀i o,J.Fo i=some o->h[i]? =some o):MB J a h V A:=by obtain ⟨⟨D,d⟩,l,m⟩:=k;refine ⟨⟨D,d.move (λr f=>?_) n⟩,(e _ _ l p).1,m⟩;obtain ⟨o,g⟩:∃o,E[A.id r]? =some o:=⟨_,zA (d.ij.lt r f)⟩;rw [g];exact (e _ _ g λc s=>q r c f s).1
theorem sh:prog.underlying 40=some (.pointer 73):=Y
theorem m8 (t:uc X) (L:kz) (q:JF X) (v:J.X=X) (l:MB J a E V A) (p:J.Fo=λ_=>none) (s:V.over\/VI X V):EN prog 8 [.p true a 0,I (-1)] E J.fl λr h=>∃e A',pS X (-1) J.room J.dk V e/\(e.over=true\/VI X e)/\r= .ag [U e.ok,U e.ot,I e.ol]/\MB J a h e A'/\Oth A A' E h:=by have ⟨⟨D,d⟩,f,n⟩:=l;have c:=O8 (stop:=-1) t L q (e:=J.all A E) v ⟨A,d.all⟩ s;apply EW.o e8;simp [b8,cw sh,f];refine CL.o c λr h ⟨y,x,e,z,⟨A',b⟩,C⟩=>?_;subst y;have g:=(b.fo a _ (rZ f n));have ⟨H,F,N,i,K,M⟩:=b.vr.vm;simp only [Vm.cells,b.iv] at i;have w:(J.all A E).pv=J.pv:=rfl;rw [w] at i;simp [g.1,i];refine ⟨e,z,C,⟨rfl,rfl,rfl⟩,A',⟨⟨x,b.vr,b.ij,b.lf,b.iv,b.ih,b.ie,b.fr,λk o j=>by rw [p] at j;cases j⟩,g.1,g.2⟩,λk o m f=>b.fo k o (rZ m f)⟩
theorem m11 (c:MB J a E V A):EN prog 11 [.p true a 0] E fl λr h=>r=I V.time/\h=E:=by have ⟨⟨D,d⟩,e,g⟩:=c;apply EN.o Bs;have ⟨i,f,l,b,j,k⟩:=d.vr.vm;simp only [Vm.cells,d.iv] at b;simp [b11,cw sh,e,b]
theorem m17 {fuel:Nat} (x y:List Int) (k:fuel<=1048576) (l:a<=65536) (i:1<=b) (j:b<=1000):EP prog 17 [.ag [.sl false (x.map bt),.sl false (y.map bt),I fuel,I a,I b]] (· =B true):=by refine EP.o e17 λE Q g=>?_;have h:(0:Int)<=fuel:=O;have c:(fuel:Int)<=1048576:=O;have d:(a:Int)<=65536:=O;have e:(1:Int)<=b:=O;have f:(b:Int)<=1000:=O;simp [b17,c,d,e,f];exact g _ rfl
theorem vi0 (h:uc X) (i:a<X.S.fn.length):VI X (X.Vi a):=by
 have ⟨A,a1,e,b,M,m,p,w,o,e3,e4,e5,z,⟨lz,e7⟩,⟨y,e8,e9⟩,Fz,Bs,M8,NF,ND,yt⟩:=h.fns a i;have s:aN X.S.fn a=b:=by have:=getD_some (d:=(⟨dm,0,0,0,0,0,0,0⟩:Fn)) i;rw [w] at this;exact (yD this).symm
 have K:(lJ X b []).length=m:=by simp [lJ,Fz,Bs];omega
 have F:FG X ⟨a,0,0,lJ X b [],[]⟩ 0:=by
  have ⟨_,t,v,k,l⟩:=z (λq=>e[q]?) λa x L=>by simpa using L
  rw [yZ] at k l;exact ⟨A,a1,e,t,i,o,e3,e4,e5,l,k,v,zY _,by simp only [fR];rw [K,s,Bs];simp⟩
 have N:mf X ⟨a,0,0,lJ X b [],[]⟩<=3:=by
  have C:e[0]? =some y:=by rw [<-List.head?_eq_getElem?];exact e8
  have:=e5 0 y C;unfold mf;simp only [o,e3,e4,yV,this,zM];split;omega;rename_i J;rcases e9 with e9|e9;exact absurd (Zr e9) J;rw [e9];omega
 have E:X.Vi a={X.V0 false with aa:=[⟨a,0,0,lJ X b [],[]⟩]}:=by unfold Sg.Vi;rw [zO O];simp only [yV,s]
 rw [E];have H:mu X {X.V0 false with aa:=[⟨a,0,0,lJ X b [],[]⟩]}<=20000000000:=by have a1:=h.fu;have a2:=h.il;unfold mu;simp only [Sg.V0,yS,xX,List.sum_cons,List.sum_nil,Nat.sub_zero];have:X.fuel*(4*X.g.ins.length+1)<=400*36000001:=Nat.mul_le_mul a1 O;omega
 refine ⟨rfl,Z,λn f r=>?_,λj f g c D=>?_,λj f c=>?_,zY _⟩;have:=r.len;simp at this;subst this;have:=r.get;simp at this;subst this;exact F;simp at D;have:j=0:=by have:=ab c;simp at this;exact this
 subst this;simp at c;subst c;show ([]:List Vl).length+mu X _<=100000000000;rw [List.length_nil,yZ];exact yI H O
end
end T
namespace T
open Go V Q
variable {a b c d e f g:Nat} {u v:Value} {i j k:Int} {t:TypeId} {p:List Value} {q:Bool} {n:IntKind} {x y z:TV} {r s:List TO} {o:List TV}
structure NW (X:Sg) (n:Int):Prop where
 z0:0<X.zs.length
 z1:X.zs.length<=99000000000
 w1:X.w1.length<=1000000
 w2:X.w2.length<=1000000
 wv:∀x∈X.w1,-9223372036854775808<=x
 fl:X.S.fn.length<=100000000
 hz:∀(t:Nat) (z:Vl),X.zs[t]? =some z->EP prog 32 [.sl false (X.S.ty.map dM),I t] (· = .ag (aw z))
 hn:n<X.S.fn.length
 h33:EP prog 33 [.sl false (X.S.fn.map ju),f34] (· =I n)
 h19:EP prog 19 [X.S.q X.N] (· =X.g.v)
section
variable {J:ME} {D:Nat->Nat} {E h:ae} {V V':Vm} {A A':Lay} {X:Sg} {fl room dk:Nat} {n:Int}
def Sg.w (X:Sg) (room dk:Nat):TV:=.ag [.sl false (X.w1.map bt),.sl false (X.w2.map bt),I X.fuel,I room,I dk]
theorem vin (a:uc X) (b:n<X.S.fn.length):(X.Vi n).over\/VI X (X.Vi n):=by by_cases h:n<0;left;unfold Sg.Vi;rw [zP h];rfl;right;obtain ⟨i,rfl⟩:∃i:Nat,n=i:=⟨n.toNat,O⟩;exact vi0 a O
structure NM (X:Sg) (n:Int) (room dk fl:Nat) (s s':ae) (e:ME) (mb:Nat) (E:Vm) (A:Lay):Prop where
 x:e.X=X
 rm:e.room=room
 lm:e.dk=dk
 fl:e.fl=fl
 fo:e.Fo=λ_=>none
 run:pS X 0 room dk (X.Vi n) E
 vi:E.over\/VI X E
 bx:MB e mb s' E A
 lb:s.length<=mb
 la:∀r,A.al r->s.length<=A.id r
 Nz:∀(id:Nat) (o:TO),s[id]? =some o->s'[id]? =some o
theorem m7 (e:uc X) (L:kz) (N:JF X) (b:NW X n) (j:room<=65536) (R:1<=dk) (b1:dk<=1000) (P:fl<=E.length) {Q:jw} (M:∀h J y m A,NM X n room dk fl E h J y m A->Q (.tu [.p true y 0,I 0]) h):EN prog 7 [X.S.q X.N,X.w room dk] E fl Q:=by
 have c5:=e.fu;have c6:=e.il;have D:=m17 (fuel:=X.fuel) X.w1 X.w2 O j R b1;have q:=m18 (dk:=dk) e.zl b.z0 b.z1 j O O O b.w1 b.w2 b.wv O b.fl P b.hz b.hn b.h33 e.sl e.sb λi l=>by
  have ⟨c4,a1,C',H,C,c2,c7,F,e2,e3,e4,e5,e6,e7,e8,Fz,Bs,M8,NF,ND,yt⟩:=e.fns i l;have x:aN X.S.fn i=H:=by have:=getD_some (d:=(⟨dm,0,0,0,0,0,0,0⟩:Fn)) l;rw [F] at this;exact (yD this).symm
  exact ⟨C,c2,by rw [x];exact Fz,by rw [x];exact Bs,yt⟩
 have s:=b.h19;simp only [GS.v] at s q;apply EW.o e7;simp [b7,Sg.w,CP.q D,CP.q s];refine CL.o q λr g ⟨q1,c8,q2⟩=>?_;subst q1;simp;have ⟨k,p⟩:=q2;have v:=p.mI [.row [.p true (E.length+3) 0] 0];have K:(g++[TO.row [.p true (E.length+3) 0] 0])[g.length]? =some (.row [.p true (E.length+3) 0] 0):=by rw [zH (zC _)];simp
 have nb:∀r,k.al r->k.id r≠g.length:=λr j J=>by have:=p.ij.lt r j;omega
 have b2:E.length<=g.length:=by rcases zZ g.length E.length with a|a;have hx:=zA a;have:=ab (p.fo _ _ hx).1;omega;exact a
 have t:=O8 (stop:=0) e L N rfl ⟨k,v.all⟩ (vin e b.hn);have b6:(ME.all ⟨X,room,dk,fl,E.length+3,E.length+4,E.length+2,λf=>E[f]?⟩ k (g++[TO.row [.p true (E.length+3) 0] 0])).pv=E.length+3:=rfl;simp only [b6] at t;simp;refine CL.o t λr h ⟨q3,c3,m,q4,⟨A',c⟩,q6⟩=>?_;subst q3;simp;have w:=c.fo _ _ (rZ K nb);have z:=λf o a=>by have:=v.fo f o a;exact c.fo f o (rZ this.1 this.2)
 refine M h ⟨X,room,dk,fl,E.length+3,E.length+4,E.length+2,λ_=>none⟩ g.length m A' ⟨rfl,rfl,rfl,rfl,rfl,q4,q6,⟨⟨c3,c.vr,c.ij,c.lf,c.iv,c.ih,c.ie,c.fr,λf o l=>by cases l⟩,w.1,w.2⟩,b2,λr j=>?_,λf o a=>(z f o a).1⟩;rcases zZ (A'.id r) E.length with a|a;exact absurd rfl ((z _ _ (zA a)).2 r j);exact a
end
end T
namespace T
open Go V Q
variable {a b c d e f g:Nat} {u v w:Value} {i j k:Int} {t:TypeId} {p:List Value} {q:Bool} {n:IntKind} {x y z:TV} {r s:List TO} {o:List TV}
@[simp] def Es (f:Fm):ao:=[I f.fn,I f.ai,.sl false (f.ah.map aw)]
theorem frZ (L:List Fm):cR 0 3 (L.map Es):=bD (λx=>rfl) L
def Vm.fr (V:Vm):List Fm:=if V.over=true then [] else V.aa
def Vm.st (V:Vm):ao:=[I V.time,.sl false (V.fr.map Es),.sl false (V.H.aD.map s8),I V.H.cells,.v (.string ⟨V.out.toArray⟩),I V.F.read,I V.F.drawn]
@[simp] theorem a1y (b:aU):uW (.v (.string b)) (.v (.string b)):=by simp [uW,nT,kp]
section
variable {J:ME} {D:Nat->Nat} {s h:ae} {V V':Vm} {A E:Lay} {X:Sg} {fl room dk:Nat} {n:Int}
theorem byB (L:List UInt8):cN (L.map pP)=some L:=by
 induction L with
 | nil=>rfl
 | cons a L b=>simp [cN,b]
theorem Gz (K:List Fm) (x:Fm) {fl:Nat} {l s:ae} {o:Bool} (h:K.length<=1000000):cq false 3 40 0 fl (.sl true (K.map Es)) (.sl o [Es x]) l s=some (.sl true ((K++[x]).map Es),l,s):=by have:=dO (fl:=fl) (l:=l) (s:=s) (o:=o) (b:=40) frZ O O K [x] W;simpa using this
theorem MD.ah (d:MD J D s V A) {f:Fm} (i:V.aa[a]? =some f) (n:f.ah.length<=99000000000):∃sv c,s[D a]? =some (.row (f.cells sv c) 0)/\aW (dz (bw sv))/\EN prog 25 [dz (bw sv)] s fl λr h=>r= .sl false (f.ah.map aw)/\h=s:=by have e:=d.vr.fr a f i;obtain ⟨sv,c,g,k,m⟩:=e.row;rw [d.fr a (ab i)] at g;refine ⟨sv,c,g,?_⟩;rcases k with ⟨j,rfl⟩|⟨j,l,o,rfl⟩;refine ⟨rfl,Px ?_ O⟩;show aO [] s (.m true (A.id (jY a)) (A.az (jY a)) 0 f.ah.length 4)=_;rw [fX];by_cases b:f.ah.length=0;rw [zP b,zK b];rfl;rw [zO b,e.sl j,iR,zP ⟨rfl,rfl,Z⟩];rw [wG,yC Z];have:=zK l;rw [this];exact ⟨rfl,Px rfl Z⟩
theorem m21 (M:V.over=false->∀f∈V.aa,f.ah.length<=99000000000) (d:MD J D s V A):EN prog 21 [.p true J.pv 0] s fl λr h=>r= .ag V.st/\h=s:=by
 have j:=m41 (fl:=s.length) d.vr.hp;have l:=m42 (fl:=s.length) d.vr.hp;have m:=m43 (fl:=s.length) d.vr.fd;have ⟨v1,n,zv,g,o,v4⟩:=d.vr.vm;simp only [Vm.cells,d.iv,d.ih,d.ie] at g;rw [d.ih] at j l;rw [d.ie] at m;apply EN.o e21;simp [b21,g,y7,byB];cases e:V.over with
 | true=>simp [CL.q j,CL.q l,g,y7,byB,CL.q m,e,yg,Vm.st,Vm.fr]
 | false=>
  simp [CL.q j,CL.q l,g,y7,byB,CL.q m,e];have F:∀x:ae,eO prog 78 n x s=some (I (V.aa.length:Nat))/\eO prog 78 (bw n) x s=some (I (V.aa.length:Nat)):=λx=>o.eO pY;have c4:=yI d.vr.nf d.vr.lm;simp [F];have b2:=LP.ind (P:=prog) (fl:=s.length) (r:=RT false s λr h=>r=TV.ag V.st/\h=s) (lv:=[2,3,44,45,46]) (b:=λk=>a5 (xq k)) (λi:Nat=>V.aa.length-i) (λi=>i<=V.aa.length) (λi=>[.p false 0 0,.p false 1 0,bw n,I V.aa.length,I i])
   (λi=>[.row [I 0,N0,N0,I 0,S [],I 0,I 0] 0,.row [I V.time,.sl true ((V.aa.take i).map Es),.sl false (V.H.aD.map s8),I V.H.cells,.v (.string ⟨V.out.toArray⟩),I V.F.read,I V.F.drawn] 0]) (λ_=>s) 2 (λi _=>⟨rfl,rfl,by rcases o with ⟨_,rfl⟩|⟨_,_,rfl⟩ <;> rfl⟩) (λi hi k E=>?_) 0 (zY _)
  exact b2;obtain ⟨K,a⟩:∃K,K=V.aa.take i:=⟨_,rfl⟩;have y:K.length<=1000000:=by simp [a];omega
  rw [<-a];simp [xq];refine ST.dc (λH=>?_) λc2=>?_;have c:=zA O;generalize V.aa[i]'O=f at c;have ⟨sv,kv,p,v,t⟩:=d.ah (fl:=s.length) c (M e f (zI c));have q:=λfl b6 b1 s=>Gz (fl:=fl) (l:=b1) (s:=s) (o:=b6) K f y;have wi:i64.wrap ((i:Int)+1)=((i+1:Nat):Int):=by rw [bW O O];omega
  simp only [Fm.cells] at p;simp at q;rcases o with ⟨al,rfl⟩|⟨al,c3,rfl⟩;have ⟨X,C⟩:=d.vr.fs al;have R:(oO A V.aa.length++X)[i]? =some [.p true (D i) 0]:=by rw [zD (by simp [oO];omega)];unfold oO;rw [zJ,xL O,<-d.fr i O];rfl
  have L:bO [dz (bw sv)]:=by simp [bO,v]
  simp [H,C,R,p,CL.eq t L,q,wi];refine E (i+1) _ _ _ rfl ?_ rfl O O;have N:V.aa.take (i+1)=K++[f]:=by rw [xD,c,a];rfl
  simp [N];omega;have z:i=V.aa.length:=by omega
  simp [yg];have w:K=V.aa:=by rw [a,z,wH]
  simp [Vm.st,Vm.fr,e,w]
@[simp] def HK (f:Fm):ao:=[I f.fn,I f.pc,I f.ai,.sl false (f.ah.map aw),.sl false (f.stack.map aw)]
theorem coZ (L:List Fm):cR 0 5 (L.map HK):=bD (λx=>rfl) L
def Vm.du (V:Vm):ao:=[I V.time,.sl false (V.fr.map HK),.sl false (V.H.aD.map s8),I V.H.cells,.v (.string ⟨V.out.toArray⟩),I V.F.read,I V.F.drawn]
theorem GB (K:List Fm) (x:Fm) {fl:Nat} {l s:ae} {o:Bool} (h:K.length<=1000000):cq false 5 72 0 fl (.sl true (K.map HK)) (.sl o [HK x]) l s=some (.sl true ((K++[x]).map HK),l,s):=by have:=dO (fl:=fl) (l:=l) (s:=s) (o:=o) (b:=72) coZ O O K [x] W;simpa using this
theorem MD.stack (d:MD J D s V A) {f:Fm} (i:V.aa[a]? =some f):∃sv b,s[D a]? =some (.row (f.cells sv b) 0)/\aW (dz (bw b))/\EN prog 25 [dz (bw b)] s fl λr h=>r= .sl false (f.stack.map aw)/\h=s:=by have c:=d.vr.fr a f i;have o:=c.kl;obtain ⟨sv,b,g,n,k⟩:=c.row;rw [d.fr a (ab i)] at g;refine ⟨sv,b,g,?_⟩;rcases k with ⟨j,rfl⟩|⟨j,m,rfl⟩;refine ⟨rfl,Px ?_ O⟩;show aO [] s (.m true (A.id (dI a)) (A.az (dI a)) 0 f.stack.length 4)=_;rw [fX];by_cases e:f.stack.length=0;rw [zP e,zK e];rfl;obtain ⟨p,l⟩:=c.sk j;rw [zO e,l,iR,zP ⟨rfl,rfl,Z⟩,wG,xP Z,yC Z];have:=zK m;rw [this];exact ⟨rfl,Px rfl Z⟩
theorem m13 (b6:V.over=false->∀f∈V.aa,f.ah.length<=99000000000) (C:MB J a s V A):EN prog 13 [.p true a 0] s fl λr h=>r= .ag V.du/\h=s:=by
 have ⟨⟨D,d⟩,p,h3⟩:=C;have c:=m21 (fl:=s.length) b6 d;have ⟨v1,fv,zv,x,v3,v4⟩:=d.vr.vm;simp only [Vm.cells,d.iv,d.ih,d.ie] at x;apply EN.o NF;simp only [Vm.st] at c;obtain ⟨e,l⟩:∃F,F=V.fr:=⟨_,rfl⟩;have q:e.length<=1000000/\(V.over=true->e=[])/\(V.over=false->e=V.aa):=by have c9:=yI d.vr.nf d.vr.lm;rw [l];unfold Vm.fr;cases V.over <;> simp;omega
 rw [<-l] at c;simp [b13,cw sh,p,CL.q c];have c4:=LP.ind (P:=prog) (fl:=s.length) (r:=RT false s λr h=>r=TV.ag V.du/\h=s) (lv:=[0,2,4,30,31,32]) (b:=λk=>a6 (xu k)) (λi:Nat=>e.length-i) (λi=>i<=e.length) (λi=>[.p true a 0,.p false 0 0,.p false 2 0,.sl false (e.map Es),I e.length,I i])
  (λi=>[.row [I 0,N0,N0,I 0,S [],I 0,I 0] 0,.row [I V.time,.sl false (e.map Es),.sl false (V.H.aD.map s8),I V.H.cells,.v (.string ⟨V.out.toArray⟩),I V.F.read,I V.F.drawn] 0,.row [I V.time,.sl true ((e.take i).map HK),.sl false (V.H.aD.map s8),I V.H.cells,.v (.string ⟨V.out.toArray⟩),I V.F.read,I V.F.drawn] 0]) (λ_=>s) 3 (λi _=>⟨rfl,rfl,rfl⟩) (λi hi k X=>?_) 0 (zY _)
 exact c4;obtain ⟨K,g⟩:∃K,K=e.take i:=⟨_,rfl⟩;have L:K.length<=1000000:=by simp [g];omega
 rw [<-g];obtain ⟨m,n⟩:∃m,e.length=m:=⟨_,rfl⟩;simp [xu,n];refine ST.dc (λc7=>?_) λc6=>?_;have b2:V.over=false:=by
  cases ho:V.over with
  | false=>rfl
  | true=>have:=q.2.1 ho;rw [this] at n;simp at n;omega
 have E:=q.2.2 b2;have j:=zA (l:=e) (i:=i) O;generalize e[i]'O=f at j;have t:=E▸j;have v:=ab t;have ⟨sv,kv,o,z,y⟩:=d.stack (fl:=s.length) t;have w:=λfl c5 c3 s=>GB (fl:=fl) (l:=c3) (s:=s) (o:=c5) K f L;have wi:i64.wrap ((i:Int)+1)=((i+1:Nat):Int):=by rw [bW O O];omega
 have b1:bO [dz (bw kv)]:=by simp [bO,z]
 simp only [Fm.cells] at o;simp at w;rcases v3 with ⟨al,rfl⟩|⟨al,c8,rfl⟩;have ⟨js,R⟩:=d.vr.fs al;have hx:(oO A V.aa.length++js)[i]? =some [.p true (D i) 0]:=by rw [zD (by simp [oO];omega)];unfold oO;rw [zJ,xL v,<-d.fr i v];rfl
 have N:(i:Int)<V.aa.length:=O;simp [j,p,x,N,R,hx,o,CL.eq y b1,w,wi];refine X (i+1) _ _ _ ?_ ?_ rfl O O;rfl;have c2:e.take (i+1)=K++[f]:=by rw [xD,j,g];rfl
 simp [c2];omega;have M:i=e.length:=by omega
 simp [Jg];have H:K=e:=by rw [g,M,wH]
 simp [Vm.du,H,l]
theorem m10 (g:V.over=false->∀f∈V.aa,f.ah.length<=99000000000) (b:MB J a s V A):EN prog 10 [.p true a 0] s fl λr h=>r= .ag V.st/\h=s:=by have ⟨⟨D,d⟩,e,i⟩:=b;have c:=m21 (fl:=s.length) g d;apply EN.o Fz;simp only [Vm.st] at c;simp [b10,cw sh,e,CL.q c,Vm.st]
end
section
variable {J:ae} {V:Vm}
theorem m24 (L:List Vl) (g:L.length<=1000000000000):EP prog 24 [.sl false (L.map aw),.sl false (L.map aw)] (· =B true):=by
 refine EP.o e24 λJ Q c=>?_;obtain ⟨m,e⟩:∃m,L.length=m:=⟨_,rfl⟩;simp [b24,e];refine LP.ind (λi:Nat=>m-i) (λi=>i<=m) (λi=>[.sl false (L.map aw),.sl false (L.map aw),I m,I i]) (λ_=>[]) (λ_=>J) 0 (λ_ _=>⟨rfl,rfl,rfl⟩) (λi j k d=>?_) 0 (zY _);simp [Ca];refine ST.dc (λn=>?_) λh=>?_;have a:=zA (l:=L) (i:=i) O;generalize L[i]'O=x at a;have f:i64.wrap ((i:Int)+1)=((i+1:Nat):Int):=by rw [bW O O];omega
 have b:=Gr x.k x.n x.re x.im x.k x.n x.re x.im;simp at b;simp [a,b,f];exact d (i+1) _ _ _ rfl rfl rfl O O;simp [Jc];exact c _ rfl
theorem m44 (L:List Ob) (h:L.length<=1000000000) (f:∀o∈L,o.bA.length<=1000000000):EP prog 44 [.sl false (L.map s8),.sl false (L.map s8)] (· =B true):=by
 refine EP.o e44 λJ Q b=>?_;obtain ⟨m,e⟩:∃m,L.length=m:=⟨_,rfl⟩;simp [b44,e];refine LP.ind (λi:Nat=>m-i) (λi=>i<=m) (λi=>[.sl false (L.map s8),.sl false (L.map s8),I m,I i]) (λ_=>[]) (λ_=>J) 0 (λ_ _=>⟨rfl,rfl,rfl⟩) (λi n k d=>?_) 0 (zY _);simp [C4];refine ST.dc (λp=>?_) λj=>?_;have a:=zA (l:=L) (i:=i) O;generalize L[i]'O=x at a;have g:i64.wrap ((i:Int)+1)=((i+1:Nat):Int):=by rw [bW O O];omega
 have c:=m24 x.bA (Zo (f x (zI a)));simp [a,CP.q c,g];exact d (i+1) _ _ _ rfl rfl rfl O O;simp [J7];exact b _ rfl
structure VB (V:Vm):Prop where
 fr:V.fr.length<=100000000
 sl:∀f∈V.fr,f.ah.length<=99000000000
 sk:∀f∈V.fr,f.stack.length<=1000000000000
 ob:V.H.aD.length<=1000000000
 ov:∀o∈V.H.aD,o.bA.length<=1000000000
theorem m22 (a:VB V):EP prog 22 [.ag V.st,.ag V.st] (· =B true):=by
 refine EP.o e22 λJ Q j=>?_;have g:=a.fr;have f:=m44 V.H.aD a.ob a.ov;have e:=a.sl;obtain ⟨F,h⟩:∃F,F=V.fr:=⟨_,rfl⟩;simp only [Vm.st,<-h] at g e ⊢;obtain ⟨m,o⟩:∃m,F.length=m:=⟨_,rfl⟩;simp [b22,o];have p:=LP.ind (P:=prog) (fl:=J.length) (r:=RP Q J) (lv:=[2,3,50,51]) (b:=λk=>a4 (xp k)) (λi:Nat=>m-i) (λi=>i<=m) (λi=>[.p false 0 0,.p false 1 0,I m,I i]) (λ_=>[.row [I V.time,.sl false (F.map Es),.sl false (V.H.aD.map s8),I V.H.cells,.v (.string ⟨V.out.toArray⟩),I V.F.read,I V.F.drawn] 0,.row [I V.time,.sl false (F.map Es),.sl false (V.H.aD.map s8),I V.H.cells,.v (.string ⟨V.out.toArray⟩),I V.F.read,I V.F.drawn] 0]) (λ_=>J) 2 (λ_ _=>⟨rfl,rfl,rfl⟩) (λi t k n=>?_) 0 (zY _);exact p;simp [xp];refine ST.dc (λv=>?_) λs=>?_;have d:=zA (l:=F) (i:=i) O;generalize F[i]'O=x at d;have q:i64.wrap ((i:Int)+1)=((i+1:Nat):Int):=by rw [bW O O];omega
 have c:=m24 x.ah (Zo (e x (zI d)));simp [d,CP.q c,q];exact n (i+1) _ _ _ rfl rfl rfl O O;simp [Je,CP.q f];exact j _ rfl
theorem m23 (g:VB V):EP prog 23 [.ag V.du] (· = .ag V.st):=by
 refine EP.o e23 λJ Q d=>?_;have h:=g.fr;obtain ⟨F,j⟩:∃F,F=V.fr:=⟨_,rfl⟩;simp only [Vm.du,Vm.st,<-j] at h d ⊢;obtain ⟨m,q⟩:∃m,F.length=m:=⟨_,rfl⟩;simp [b23,q];have t:=LP.ind (P:=prog) (fl:=J.length) (r:=RP Q J) (lv:=[1,2,3,20,21]) (b:=λk=>a5 (xn k)) (λi:Nat=>m-i) (λi=>i<=m) (λi=>[.p false 0 0,.p false 1 0,.p false 2 0,I m,I i]) (λi=>[.row [I V.time,.sl false (F.map HK),.sl false (V.H.aD.map s8),I V.H.cells,.v (.string ⟨V.out.toArray⟩),I V.F.read,I V.F.drawn] 0,.row [I 0,N0,N0,I 0,S [],I 0,I 0] 0,.row [I V.time,.sl true ((F.take i).map Es),.sl false (V.H.aD.map s8),I V.H.cells,.v (.string ⟨V.out.toArray⟩),I V.F.read,I V.F.drawn] 0]) (λ_=>J) 3 (λ_ _=>⟨rfl,rfl,rfl⟩) (λi z k p=>?_) 0 (zY _);exact t;obtain ⟨K,a⟩:∃K,K=F.take i:=⟨_,rfl⟩;have w:K.length<=100000000:=by simp [a];omega
 rw [<-a];simp [xn];refine ST.dc (λA=>?_) λy=>?_;have c:=zA (l:=F) (i:=i) O;generalize F[i]'O=x at c;have v:i64.wrap ((i:Int)+1)=((i+1:Nat):Int):=by rw [bW O O];omega
 have e:=λf o l J=>dO (fl:=f) (l:=l) (s:=J) (o:=o) (b:=40) frZ O O K [x] W;simp at e;simp [c,e,v];refine p (i+1) _ _ _ rfl ?_ rfl O O;have s:F.take (i+1)=K++[x]:=by rw [xD,c,a];rfl
 simp [s];simp [Jd];have n:K=F:=by rw [a,show i=F.length by omega,wH]
 rw [n];exact d _ rfl
theorem m12 (a:VB V):EP prog 12 [.ag V.du,.ag V.du] (· =B true):=by
 refine EP.o M8 λJ Q n=>?_;have f:=m23 a;have e:=m22 a;have h:=a.fr;have g:=a.sk;obtain ⟨F,j⟩:∃F,F=V.fr:=⟨_,rfl⟩;simp only [Vm.du,Vm.st,<-j] at h g f e ⊢;obtain ⟨m,p⟩:∃m,F.length=m:=⟨_,rfl⟩;simp [b12,CP.q f,CP.q e,p];have q:=LP.ind (P:=prog) (fl:=J.length) (r:=RP Q J) (lv:=[2,3,14,15]) (b:=λk=>a4 (xw k)) (λi:Nat=>m-i) (λi=>i<=m) (λi=>[.p false 0 0,.p false 1 0,I m,I i]) (λ_=>[.row [I V.time,.sl false (F.map HK),.sl false (V.H.aD.map s8),I V.H.cells,.v (.string ⟨V.out.toArray⟩),I V.F.read,I V.F.drawn] 0,.row [I V.time,.sl false (F.map HK),.sl false (V.H.aD.map s8),I V.H.cells,.v (.string ⟨V.out.toArray⟩),I V.F.read,I V.F.drawn] 0]) (λ_=>J) 2 (λ_ _=>⟨rfl,rfl,rfl⟩) (λi v k o=>?_) 0 (zY _);exact q;simp [xw];refine ST.dc (λw=>?_) λt=>?_;have d:=zA (l:=F) (i:=i) O;generalize F[i]'O=x at d;have s:i64.wrap ((i:Int)+1)=((i+1:Nat):Int):=by rw [bW O O];omega
 have c:=m24 x.stack (g x (zI d));simp [d,CP.q c,s];exact o (i+1) _ _ _ rfl rfl rfl O O;simp [Jh];exact n _ rfl
end
theorem m15 (l m:List Int) (f h k:Int):∃b:Bool,EP prog 15 [.ag [.sl false (l.map bt),.sl false (m.map bt),I f,I h,I k]] (· =B b)/\(b=true->0<=f/\f<=1048576/\0<=h/\h<=65536/\1<=k/\k<=1000):=by by_cases c:0<=f;rotate_left;refine ⟨false,EP.o yt λs Q a=>?_,λh=>by cases h⟩;simp [JC,zB c];exact a _ rfl;by_cases d:f<=1048576;rotate_left;refine ⟨false,EP.o yt λs Q a=>?_,λh=>by cases h⟩;simp [JC,zL c,zB d];exact a _ rfl;by_cases e:0<=h;rotate_left;refine ⟨false,EP.o yt λs Q a=>?_,λh=>by cases h⟩;simp [JC,zL c,zL d,zB e];exact a _ rfl;by_cases g:h<=65536;rotate_left;refine ⟨false,EP.o yt λs Q a=>?_,λh=>by cases h⟩;simp [JC,zL c,zL d,zL e,zB g];exact a _ rfl;by_cases i:1<=k;rotate_left;refine ⟨false,EP.o yt λs Q a=>?_,λh=>by cases h⟩;simp [JC,zL c,zL d,zL e,zL g,zB i];exact a _ rfl;by_cases j:k<=1000;rotate_left;refine ⟨false,EP.o yt λs Q a=>?_,λh=>by cases h⟩;simp [JC,zL c,zL d,zL e,zL g,zL i,zB j];exact a _ rfl;refine ⟨true,EP.o yt λs Q a=>?_,λ_=>⟨c,d,e,g,i,j⟩⟩;simp [JC,zL c,zL d,zL e,zL g,zL i,zL j];exact a _ rfl
theorem m5 (i j:List Int) (f h k:Int):∃b:Bool,EP prog 5 [.ag [.sl false (i.map bt),.sl false (j.map bt),I f,I h,I k]] (· =B b)/\(b=true->0<=f/\f<=400/\0<=h/\h<=400/\1<=k/\k<=1000/\i.length<=100/\j.length<=100):=by
 have ⟨b,c,g⟩:=m15 i j f h k;cases b with
 | false=>refine ⟨false,EP.o e5 λs Q a=>?_,λh=>by cases h⟩;simp [b5,CP.q c];exact a _ rfl
 | true=>by_cases d:f<=400;rotate_left;refine ⟨false,EP.o e5 λs Q a=>?_,λh=>by cases h⟩;simp [b5,CP.q c,zB d];exact a _ rfl;by_cases e:h<=400;rotate_left;refine ⟨false,EP.o e5 λs Q a=>?_,λh=>by cases h⟩;simp [b5,CP.q c,zL d,zB e];exact a _ rfl;by_cases l:(i.length:Int)<=100;rotate_left;refine ⟨false,EP.o e5 λs Q a=>?_,λh=>by cases h⟩;simp [b5,CP.q c,zL d,zL e,zB l];exact a _ rfl;by_cases m:(j.length:Int)<=100;rotate_left;refine ⟨false,EP.o e5 λs Q a=>?_,λh=>by cases h⟩;simp [b5,CP.q c,zL d,zL e,zL l,zB m];exact a _ rfl;refine ⟨true,EP.o e5 λs Q a=>?_,λ_=>⟨(g rfl).1,d,(g rfl).2.2.1,e,(g rfl).2.2.2.2.1,(g rfl).2.2.2.2.2,O,O⟩⟩;simp [b5,CP.q c,zL d,zL e,zL l,zL m];exact a _ rfl
theorem m9 (a b:List UInt8) (h:a<+:b):EP prog 9 [.v (.string ⟨a.toArray⟩),.v (.string ⟨b.toArray⟩)] (· =B true):=by
 refine EP.o e9 λs Q e=>?_;have j:=h.length_le;have i:(⟨a.toArray⟩:aU).size=a.length:=by simp [ByteArray.size]
 have c:(⟨b.toArray⟩:aU).size=b.length:=by simp [ByteArray.size]
 have f:(a.length:Int)<=b.length:=O;have d:=λl s=>Im (k':=.i64) (hi:=(a.length:Int)) (l:=l) (s:=s) O (by rw [c];omega);have g:(⟨b.toArray⟩:aU).extract 0 a.length=⟨a.toArray⟩:=by apply ByteArray.ext;rw [ByteArray.data_extract];apply Array.ext';rw [Array.toList_extract,wF];simp;exact (List.prefix_iff_eq_take.1 h).symm
 simp at d;simp [b9,i,c,zL f,d,g];exact e _ rfl
section
variable {J h:ae} {X:Sg} {V E D:Vm} {e:ME} {mb:Nat} {A:Lay} {n:Int} {room dk fl:Nat}
theorem FG.sl (c:uc X) {f:Fm} {b:Nat} (h:FG X f b):f.ah.length<=99000000000:=by
 obtain ⟨r,a0,C,D,a,t,v,w,x,y,z,A,E,i⟩:=h;obtain ⟨s,a1,k,g,l,m,p,e,n,e3,e4,e5,q,e7,e8,Fz,Bs,M8,NF,ND,yt⟩:=c.fns _ a;have j:aN X.S.fn f.fn=g:=by have:=getD_some (d:=(⟨dm,0,0,0,0,0,0,0⟩:Fn)) a;rw [e] at this;exact (yD this).symm
 have:=c.sb;rw [i];simp only [fR];rw [j,Bs];omega
theorem VI.ah (b:uc X) (h:V.over\/VI X V):V.over=false->∀f∈V.aa,f.ah.length<=99000000000:=λk f d=>by
 have a:=h.resolve_left (by rw [k];simp);obtain ⟨i,g,e⟩:=yA d;have c:V.aa[i]? =some f:=by rw [zA g,e]
 by_cases j:i+1<V.aa.length;exact (a.low i f _ c (zA j)).sl b;exact (a.top i f ⟨O,c⟩).sl b
theorem MB.vb (j:uc X) (h:V.over\/VI X V) (g:MB e mb J V A):VB V:=by obtain ⟨⟨q,d⟩,_,_⟩:=g;have p:=yI d.vr.nf d.vr.lm;have n:=VI.ah j h;refine ⟨?_,?_,?_,by have:=d.vr.hp.len;omega,λo l=>?_⟩;unfold Vm.fr;split;simp;omega;unfold Vm.fr;split;intro f a;cases a;rename_i c;exact n (Zs c);unfold Vm.fr;split;intro f a;cases a;intro f a;obtain ⟨i,b,k⟩:=yA a;exact (d.vr.fr i f (by rw [zA b,k])).kl;obtain ⟨i,b,m⟩:=yA l;have:=d.vr.hp.JR (by rw [zA b,m]);omega
theorem MB.ext (a:MB e mb J V A) (j:e.Fo=λ_=>none) (c:∀(b:Nat) (o:TO),J[b]? =some o->h[b]? =some o):MB e mb h V A:=by obtain ⟨⟨l,d⟩,g,i⟩:=a;refine ⟨⟨l,d.move (λr k=>?_) λb o a=>by rw [j] at a;cases a⟩,c _ _ g,i⟩;have f:=zA (d.ij.lt r k);rw [f];exact c _ _ f
theorem KB (c:∀(b:Nat) (o:TO),J[b]? =some o->h[b]? =some o):J.length<=h.length:=by rcases zZ h.length J.length with a|a;have:=ab (c _ _ (zA a));omega;exact a
theorem a0k (q:EP prog 6 [] (· =B true)) (L:kz) (d2:aU) (P R:List Int) (f a k:Int) (i j:Nat) (hc:i<=255) (g4:j<=255)
  (hX:∀(N:List Nd) (S:SS) (K:aA) (M:List Mk),NK N K S M->P.length<=100->R.length<=100->∀z:Nat,z<=400->∃(X:Sg) (n:Int),X.N=N/\X.S=SM S M/\X.w1=P/\X.w2=R/\X.fuel=z/\uc X/\JF X/\NW X n):
  EP prog 3 [.v (.string d2),.ag [.sl false (P.map bt),.sl false (R.map bt),I f,I a,I k],U i,U j] (· =B true):=by
 refine EP.o e3 λJ Q hQ=>?_;have s:=hQ _ rfl;have ⟨b5,c5,w⟩:=m5 P R f a k;simp [b3];apply CP.o (m4 d2);intro g6 x;rcases x with x|⟨N,S,K,M,x,hC⟩;subst x;simp [CP.q q];exact s;subst x;cases b5 with
 | false=>simp [CP.q c5,CP.q q];exact s
 | true=>
  have ⟨f0,f1,r0,r1,k0,k1,l1,l2⟩:=w rfl;obtain ⟨z,rfl⟩:∃n:Nat,f=n:=⟨f.toNat,O⟩;obtain ⟨room,rfl⟩:∃n:Nat,a=n:=⟨a.toNat,O⟩;obtain ⟨dk,rfl⟩:∃n:Nat,k=n:=⟨k.toNat,O⟩;have ⟨X,n,e1,e2,e3,e4,e5,m,D,hN⟩:=hX N S K M hC l1 l2 z O;have d6:i64.wrap ((room:Int)+i)=((room+i:Nat):Int):=by rw [bW O O];omega
  have d5:min (i64.wrap ((dk:Int)+j)) 1000=((min (dk+j) 1000:Nat):Int):=by rw [bW O O];omega
  obtain ⟨g2,f6⟩:∃r,r=room+i:=⟨_,rfl⟩;obtain ⟨f8,f4⟩:∃r,r=min (dk+j) 1000:=⟨_,rfl⟩;rw [<-f6] at d6;rw [<-f4] at d5;simp [CP.q c5];have v:=m7 m L D hN O O O (zC _) (Q:=λr h=>∃e mb E A,r= .tu [.p true mb 0,I 0]/\NM X n room dk J.length J h e mb E A) λh e mb E A a=>⟨e,mb,E,A,rfl,a⟩;simp only [SS.q,Sg.w,e1,e2,e3,e4,e5,SM] at v;refine CL.o v λr s1 ⟨ea,ma,Ea,Aa,o,d⟩=>?_;subst o;have f3:=KB d.Nz;have v:=m7 m L D hN O O O f3 (Q:=λr h=>∃e mb E A,r= .tu [.p true mb 0,I 0]/\NM X n g2 f8 J.length s1 h e mb E A) λh e mb E A a=>⟨e,mb,E,A,rfl,a⟩;simp only [SS.q,Sg.w,e1,e2,e3,e4,e5,SM] at v;have wc:i64.wrap (i:Int)=i:=bW O O;have wf:i64.wrap (j:Int)=j:=bW O O;simp [wc,wf,d6,d5];refine CL.o v λr s2 ⟨eb,mb,Eb,Ab,o,c⟩=>?_;subst o;simp [cw sh];have ba:=d.bx.ext d.fo c.Nz;have ca:=m8 m L D d.x ba d.fo d.vi;rw [d.fl] at ca;refine CL.o ca λr s3 ⟨b,d1,ra,va,o,d8,oa⟩=>?_;subst o;have c8:∀r,Aa.al r->Aa.id r<s1.length:=by have ⟨⟨pf,c6⟩,_,_⟩:=d.bx;exact c6.ij.lt
  have g5:=ab d.bx.bx;have bb:=c.bx.move oa (λr p a C e=>by have:=c.la r a;have:=c8 p C;omega) (λr a e=>by have:=c.lb;have:=c8 r a;omega) λid f9 a=>by rw [c.fo] at a;cases a
  have cb:=m8 m L D c.x bb c.fo c.vi;rw [c.fl] at cb;simp;refine CL.o cb λr s4 ⟨t,g3,rb,vb,o,b1,ob⟩=>?_;subst o;have d9:∀r p,d1.al r->Ab.al p->Ab.id p≠d1.id r:=λr p a C e=>by have ⟨⟨pf,c6⟩,_,_⟩:=c.bx;have hx:=zA (c6.ij.lt p C);exact (oa _ _ hx λg1 e6 e'=>by have:=c.la p C;have:=c8 g1 e6;omega).2 r a e.symm
  have y:=d8.move ob d9 (λr a e=>by have:=c.la r a;omega) λid f9 a=>by rw [d.fo] at a;cases a
  have d7:Rel b t:=by have h0:=d.run.rel c.run O O;rw [d.rm,d.lm] at ra;rw [c.rm,c.lm] at rb;exact pS.Yw h0 ra rb O O
  have sa:=VI.ah m va;have sb:=VI.ah m vb;have b6:=m10 (fl:=J.length) sa y;have c3:=m10 (fl:=J.length) sb b1;have d3:=m11 (fl:=J.length) y;have d4:=m11 (fl:=J.length) b1;have c2:=m13 (fl:=J.length) sa y;have c4:=m13 (fl:=J.length) sb b1;by_cases F:b.ok=2/\(b.ot=4\/b.ot=5);have f5:b.out<+:t.out/\b.time<=t.time:=by rcases d7 with a|⟨_,_,_,l,w⟩;rw [a];exact ⟨bC _,zC _⟩;exact ⟨l,w⟩
  have c9:=m9 _ _ f5.1;have ht:(b.time:Int)<=t.time:=O;simp only [Vm.st] at b6 c3;rcases F with ⟨g,l|l⟩;simp [g,l,CL.q b6,CL.q c3,CP.q c9,CL.q d3,CL.q d4,zL ht,CP.q q];exact s;simp [g,l,CL.q b6,CL.q c3,CP.q c9,CL.q d3,CL.q d4,zL ht,CP.q q];exact s;have f2:b=t:=by rcases d7 with a|⟨_,g,h3,_⟩;exact a;exact absurd ⟨g,h3⟩ F
  subst f2;have f7:=MB.vb m va y;have b2:=m12 f7;have H:=Gs b.ok b.ot b.ol b.ok b.ot b.ol;simp at H;simp only [Vm.du] at c2 c4 b2;by_cases g:b.ok=2;have l:=λa=>F ⟨g,.inl a⟩;have w:=λa=>F ⟨g,.inr a⟩;rw [g] at H;simp [g,zB l,zB w,H,CL.q c2,CL.q c4,CP.q b2,CP.q q];exact s;simp [zB g,H,CL.q c2,CL.q c4,CP.q b2,CP.q q];exact s
end
section
variable {N:List Nd} {K:aA} {S:SS} {M:List Mk} {D E:List Int} {J:Nat}
theorem xok (f:NK N K S M) (l1:D.length<=100) (l2:E.length<=100) (hv:∀x∈D,-9223372036854775808<=x) (hf:J<=400):∃(X:Sg) (n:Int),X.N=N/\X.S=SM S M/\X.w1=D/\X.w2=E/\X.fuel=J/\uc X/\NW X n:=by
 have ⟨g,p,C⟩:=m19 f;have a:=f.res;have hN:=f.wt.mM;have c6:K.length<=N.length:=by have:=lK a.ks a.kn K.length (zC _);rwa [iC (zC _)] at this
 have hT:=a.tl;have h6:=a.tg.GN;have R:∀t:{t:Nat//t<S.ty.length},∃z:Vl,EP prog 32 [.sl false (S.ty.map dM),I t.1] (· = .ag (aw z)):=λt=>m32 S.ty hT a.tg t.1 t.2;have ⟨w,b6⟩:=Classical.axiomOfChoice R;obtain ⟨b,v⟩:∃b:List Vl,b=(List.range S.ty.length).map λt=>if h:t<S.ty.length then w ⟨t,h⟩ else vz:=⟨_,rfl⟩
 have c2:b.length=S.ty.length:=by rw [v];simp
 have k:∀t,(h:t<S.ty.length)->b[t]? =some (w ⟨t,h⟩):=λt h=>by rw [v,zJ,xL h];simp only [zM,dif_pos h]
 have ⟨n,hn,F⟩:=m33 S.fn (by rw [a.fl];omega);refine ⟨⟨N,SM S M,g,D,E,J,b⟩,n,rfl,rfl,rfl,rfl,rfl,⟨λi q=>?_,λx j=>?_,a.bl.1,λx j=>?_,by have:=a.fx;show S.fd.length<=_;omega,a.rc,c2,by have:=p.all;show g.ins.length<=_;omega,hf⟩,⟨by show 0<b.length;omega,by show b.length<=_;omega,by show D.length<=_;omega,by show E.length<=_;omega,hv,by show S.fn.length<=_;rw [a.fl];omega,λt z e=>?_,hn,F,C⟩⟩;have r:i<K.length:=by rw [<-a.fl];exact q
 have ⟨y,l,A,H,L,P,c⟩:=p.fc i r;have ⟨ps,t,c5,f1,f2,o,f4,f5,f6,f7,f8,f9⟩:=a.fg i r;have b2:S.fn[i]? =some (aN S.fn i):=getD_some q _;obtain ⟨d,b1⟩:∃d:Nat,(aN S.fn i).at_=d:=⟨(aN S.fn i).at_.toNat,O⟩;obtain ⟨m,hm⟩:∃m:Nat,(aN S.fn i).ah=m:=⟨(aN S.fn i).ah.toNat,O⟩;refine ⟨_,A,y++[(⟨26,0,l⟩:IN)],aN S.fn i,d,m,ps.length,b2,H,rfl,Z,L,P,⟨l,Z⟩,?_,b1,hm,o,o,O,by show d+m<=S.sl.length;omega⟩;rcases c with c|⟨c3,c4,c,h5⟩;subst c;exact ⟨_,rfl,.inr rfl⟩;subst c;exact ⟨c3,rfl,.inl h5⟩;have ⟨x1,x2⟩:=a.sl x j;exact ⟨x.toNat,_,O,k _ O⟩;have ⟨x1,x2⟩:=a.fd x j;exact ⟨x.type.toNat,_,O,k _ O⟩;have s:t<S.ty.length:=by have:=ab e;simp only at this;omega
 have:=k t s;simp only at e;rw [this] at e;cases e;exact b6 ⟨t,s⟩
end
section
variable {N:List Nd} {S:SS} {H:Hp}
theorem JQ (L:kz) (a:zj H) (g:∀r∈S.rc,0<=r.fr/\0<=r.count/\r.fr+r.count<=S.fd.length) (d:S.fd.length<=1000000) (f:H.aD.length<=1000000):∀(m:Nat) (st:PZ),PZ.OK H.aD.length st->u0 H.aD.length st.mp.toList<m->∀v,∃j,VS N S H 224 st v j:=by
 intro m;induction m with
 | zero=>intro st _ h;omega
 | succ m i=>exact λst b n v=>Zq L a b v λe=>Zl L a g d f b (λk c l=>i k c O) v e
def OL:PZ:=⟨[],false, #[],0,false⟩
theorem Zv (L:kz) (m:zj H) (q:∀r∈S.rc,0<=r.fr/\0<=r.count/\r.fr+r.count<=S.fd.length) (o:S.fd.length<=1000000) (v:Vl):∃res:Option aU,(∀b,res=some b->b.size<=100000000)/\∀(A:Lay) (s:ae) (d f:Nat),HR A s d H->I9 A s->EN prog 216 [S.q N,.p true (A.id bY) 0,.ag (aw v)] s f λr k=>r= .tu [.v (.string (res.getD ⟨#[]⟩)),B res.isSome]/\k=s:=by
 by_cases i:H.aD.length<=1000000;rotate_left;exact ⟨none,(λb h=>by cases h),λA s d f h=>absurd h.len i⟩;have n:PZ.OK H.aD.length OL:=⟨(λe h=>by cases h),zY _,by show 0+u0 _ []<=_;rw [Hg];omega⟩;obtain ⟨a,j,z,t,w⟩:=JQ L m q o i _ OL n (yF _) v;refine ⟨if a.fJ=true then none else some ⟨a.out.toArray⟩,λb h=>?_,λA s d f h p=>EN.o Re ?_⟩;split at h;cases h;cases h;have:=j.out;show a.out.toArray.size<=_;simp;omega;have c:=w A s d s.length h p (zC _);simp at c;have l:=λh=>PB (PMb (N:=N) (S:=S) (hp:=.p true (A.id bY) 0) (pre:=s) (st:=a)) h (Nat.le_succ _);simp [Tw];refine CL.o c λr k ⟨x,y⟩=>?_;subst x;subst y;cases g:a.fJ with
 | true=>simp [mR,PC,g]
 | false=>simp [mR,PC,g,CL.q (l (t g) (yI j.out O))]
theorem ZJ (L:kz) (g:zj H) (k:∀r∈S.rc,0<=r.fr/\0<=r.count/\r.fr+r.count<=S.fd.length) (j:S.fd.length<=1000000) (v:Vl):∃res:Option aU,(∀b,res=some b->b.size<=100000000)/\∀(A:Lay) (s:ae) (a d:Nat),HR A s a H->I9 A s->EN prog 188 [S.q N,.p true (A.id bY) 0,.ag (aw v)] s d λr n=>r= .tu [.v (.string (res.getD ⟨#[]⟩)),B res.isSome]/\n=s:=by
 have ⟨res,l,m⟩:=Zv (N:=N) L g k j v;cases e:H.text v with
 | none=>refine ⟨res,l,λA s a d h f=>EN.o HE ?_⟩;have c:=m A s a s.length h f;have c1:=Ax (fl:=s.length) (v:=v) h;rw [e] at c1;simp at c c1;simp [HU,CL.q c1];simp [CL.q c]
 | some b=>have o:=Hp.nu g e;by_cases i:(65536:Int)<(b.size:Nat);refine ⟨none,(λb h=>by cases h),λA s a d h f=>EN.o HE ?_⟩;have c1:=Ax (fl:=s.length) (v:=v) h;rw [e] at c1;simp at c1;simp [HU,CL.q c1,zL i];refine ⟨some b,(λb h=>by cases h;omega),λA s a d h f=>EN.o HE ?_⟩;have c1:=Ax (fl:=s.length) (v:=v) h;rw [e] at c1;simp at c1;simp [HU,CL.q c1,zB i]
end
theorem shl {X:Sg} (L:kz) (a:uc X):JF X:=by intro H v i;obtain ⟨res,k,l⟩:=ZJ L i a.rc a.fb v;refine ⟨res,k,λe n s V' m j h=>?_⟩;have g:=h;have ⟨A,d⟩:=h;have b:=d.vr.hp;rw [j] at b;have c:=l A s _ e.fl b d.ij.lt;rw [d.ih] at c;exact c.mono λr o ⟨c1,f⟩=>⟨c1,by rw [f];exact g⟩
theorem aw6:EP prog 6 [] (· =B true):=λs _=>Ends.iN (f:=iX) Y Y rfl ⟨rfl,rfl⟩
theorem law (b:aU) (d g:List Int) (f h k:Int) (a c:Nat) (o:a<=255) (q:c<=255) (r:∀x∈d,-9223372036854775808<=x):
  EP prog 3 [.v (.string b),.ag [.sl false (d.map bt),.sl false (g.map bt),I f,I h,I k],U a,U c] (· =B true):=
 a0k aw6 leaf b d g f h k a c o q λ_ _ _ _ l l1 s _ p=>by have ⟨X,n,i,j,e3,e4,e5,e,m⟩:=xok l l1 s r p;exact ⟨X,n,i,j,e3,e4,e5,e,shl leaf e,m⟩
end T
namespace T
open Go V
variable {a b c d e f g:Nat} {u v w:Value} {i j k:Int} {t:TypeId} {p:List Value} {q:Bool} {n:IntKind} {x y z:TV} {r s:List TO} {o:List TV}
def gL (K:Nat):Bool:=Nat.blt K 257&& !Ef K [6,25,52,56,225,236,238,240,242,244,247,255,256]
theorem lM (K:Nat):dp K=gL (real K):=rfl
def NH (P:aB) (K:Nat):Bool:=match P.funcs[K]? with
 | some a=>match a.body with
  | some c=>dW P Pl K c&&qd a.ntmps c
  | none=>true
 | none=>true
def iS (P:aB):aA->Bool
 | []=>true
 | K::l=>(!(gL K)&& !(Nat.beq K 6)||NH P K)&&iS P l
theorem c0:iS prog [0,1,2,3,4,5,6,7,8,9,10,11,12,13,14,15]:=Y
theorem c16:iS prog [16,17,18,19,20,21,22,23,24,25,26,27,28,29,30,31]:=Y
theorem Mc:iS prog [32,33,34,35,36,37,38,39,40,41,42,43,44,45,46,47]:=Y
theorem c48:iS prog [48,49,50,51,52,53,54,55,56,57,58,59,60,61,62,63]:=Y
theorem c64:iS prog [64,65,66,67,68,69,70,71,72,73,74,75,76,77,78,79]:=Y
theorem c80:iS prog [80,81,82,83,84,85,86,87,88,89,90,91,92,93,94,95]:=Y
theorem c96:iS prog [96,97,98,99,100,101,102,103,104,105,106,107,108,109,110,111]:=Y
theorem a0G:iS prog [112,113,114,115,116,117,118,119,120,121,122,123,124,125,126,127]:=Y
theorem a0F:iS prog [128,129,130,131,132,133,134,135,136,137,138,139,140,141,142,143]:=Y
theorem a0E:iS prog [144,145,146,147,148,149,150,151,152,153,154,155,156,157,158,159]:=Y
theorem a0D:iS prog [160,161,162,163,164,165,166,167,168,169,170,171,172,173,174,175]:=Y
theorem a0C:iS prog [176,177,178,179,180,181,182,183,184,185,186,187,188,189,190,191]:=Y
theorem a0B:iS prog [192,193,194,195,196,197,198,199,200,201,202,203,204,205,206,207]:=Y
theorem a0A:iS prog [208,209,210,211,212,213,214,215,216,217,218,219,220,221,222,223]:=Y
theorem AU:iS prog [224,225,226,227,228,229,230,231,232,233,234,235,236,237,238,239]:=Y
theorem a0z:iS prog [240,241,242,243,244,245,246,247,248,249,250,251,252,253,254,255]:=Y
theorem a0y:iS prog [256]:=Y
theorem bP {P:aB}:∀{l:aA},iS P l->∀K∈l,(gL K||Nat.beq K 6)->NH P K
 | [],_,K,b,_=>by cases b
 | k::l,h,K,b,c=>by simp only [iS,zN,Bool.or_eq_true] at h;rcases yL.1 b with rfl|b;rcases h.1 with a|a;simp only [xG] at a;rw [a.1,a.2] at c;cases c;exact a;exact bP h.2 K b c
theorem HL (h:(gL a||Nat.beq a 6)):NH prog a:=by
 have s:a<257:=by rcases Bool.or_eq_true_iff.1 h with h|h;unfold gL at h;have:=(xI.1 h).1;exact yN this;rw [zU h];omega
 by_cases b:a<16;exact bP c0 a (by simp only [yL];omega) h;by_cases f:a<32;exact bP c16 a (by simp only [yL];omega) h;by_cases n:a<48;exact bP Mc a (by simp only [yL];omega) h;by_cases o:a<64;exact bP c48 a (by simp only [yL];omega) h;by_cases p:a<80;exact bP c64 a (by simp only [yL];omega) h;by_cases q:a<96;exact bP c80 a (by simp only [yL];omega) h;by_cases r:a<112;exact bP c96 a (by simp only [yL];omega) h;by_cases c:a<128;exact bP a0G a (by simp only [yL];omega) h;by_cases d:a<144;exact bP a0F a (by simp only [yL];omega) h;by_cases e:a<160;exact bP a0E a (by simp only [yL];omega) h;by_cases g:a<176;exact bP a0D a (by simp only [yL];omega) h;by_cases i:a<192;exact bP a0C a (by simp only [yL];omega) h;by_cases j:a<208;exact bP a0B a (by simp only [yL];omega) h;by_cases k:a<224;exact bP a0A a (by simp only [yL];omega) h;by_cases l:a<240;exact bP AU a (by simp only [yL];omega) h;by_cases m:a<256;exact bP a0z a (by simp only [yL];omega) h;exact bP a0y a (by simp only [yL];omega) h
theorem nC {b:Func} {c:Code} (h:(gL a||Nat.beq a 6)) (e:prog.funcs[a]? =some b) (d:b.body=some c):dW prog Pl a c/\qd b.ntmps c:=by have:=HL h;unfold NH at this;rw [e] at this;simp only [d] at this;exact xI.1 this
end T
namespace V
open Go Go.RowKit
variable {a b c d e f g:Nat} {u v w:Value} {i j k:Int} {t:TypeId} {p:List Value} {q:Bool} {n:IntKind}
theorem Av (b o:Nat) (w:World) (c:w.cell? ⟨b,o,none⟩=some (.pointer (some ⟨b,o,none⟩))):
  Calls prog 242 #[.pointer (some ⟨b,o,none⟩)] w λe a=>e= .returned (.tuple #[])/\a=w:=by
 go_enter Tryz.func242,Tryz.ntmps242
 go_wp2
 rw [Lib.run_neq_ptr_same w _ Tryz.underlying337 (j:=(prog.info? 339).get Y) Y]
 go_wp2
 go_end0
 exact ⟨rfl,rfl⟩
theorem vJ (b o:Nat) (w:World) (k:w.cell? ⟨b,o,none⟩=some (.pointer none)) (d:w.shape? b=some (t,a)) (h:o<a) (l:w.frozen? ⟨b,o,none⟩=false) (g:liesAt prog prog.depth t (a/prog.cellsOf t) o 339 1):
  Calls prog 242 #[.pointer (some ⟨b,o,none⟩)] w λt i=>t= .returned (.tuple #[])/\i=w.setCell ⟨b,o,none⟩ (.pointer (some ⟨b,o,none⟩)):=by
 obtain ⟨j,c,f⟩:∃j,prog.info? 339=some j/\j.size=2:=yR.1 (by kernel_rfl:(prog.info? 339).map (·.size)=some 2);have e:prog.underlying 360=some .unsafePointer:=Y
 go_enter Tryz.func242,Tryz.ntmps242
 go_wp2
 rw [Lib.run_to_unsafe w ⟨b,o,none⟩ Tryz.underlying337 e c (by rw [f];decide) d h];simp;rw [Oper.upon_value]
 go_wp2
 rw [run_callFunc_extern Tryz.func244 Y Y Y Y];rw [Lib.run_noEscape];simp;rw [Oper.upon_value]
 go_wp2
 rw [Lib.run_from_unsafe w ⟨b,o,none⟩ e Tryz.underlying337 c d g];simp;rw [Oper.upon_value]
 go_wp2
 go_end0
 exact ⟨rfl,rfl⟩
theorem Hs:liesAt prog prog.depth 339 (2/prog.cellsOf 339) 0 339 1:=Y
theorem Hr:liesAt prog prog.depth 341 (14/prog.cellsOf 341) 10 339 1:=Y
section
variable {D:au} {H:AH} {E:World}
theorem Rel.cell (m:Rel D H E) {sz:Nat} {q:di} {B:gI} (l:H[a]? =some (.row p sz q)) (h:D a=some B) (c:p[b]? =some u) (k:nj u):∃v,E.cell? ⟨B.b,b,none⟩=some v/\VR D u v:=by
 obtain ⟨t,s,o,j⟩:=m.load l h (off:=b) (n:=1) (Zo (ab c)) (λr d=>by
  have e:(p.drop b).take 1=[u]:=by rw [yG (ab c)];have:=zA (ab c);rw [c] at this;simp at this;rw [<-this];simp
  rw [e] at d;rcases yL.1 d with rfl|d;exact yk k;cases d)
 obtain ⟨v,f,g⟩:=o.get (i:=0) (a:=u) (by simp [c]);have:=j 0 v f;rw [cP,Nat.add_zero] at this;exact ⟨v,this,g⟩
theorem yy {o:fQ} (h:(o.bind λa=>if nj a=true then some a else none)=some u):o=some u/\nj u:=by
 cases o with
 | none=>cases h
 | some a=>simp only [zR] at h;split at h;rename_i b;cases h;exact ⟨rfl,b⟩;cases h
theorem Ee {sz:Nat} (h:pL sz a):∃b N,gw sz=some (b,a,N):=by unfold pL at h;split at h;rename_i b o N c;have:=zU h;subst this;exact ⟨b,N,c⟩;cases h
theorem Rel.box (r:Rel D H E) {sz:Nat} {B:gI} (q:H[a]? =some (.row p sz (some 0))) (m:D a=some B) (x:pL sz b):
  ∃c N,E.shape? B.b=some (c,N)/\B.n=N/\b+1<N/\liesAt prog prog.depth c (N/prog.cellsOf c) b 339 1/\(∀k,k<N->E.frozen? ⟨B.b,k,none⟩=false)/\(∀e o j,gw sz=some (e,o,j)->o=b)/\
   ∀(s n:Nat) (i:gI),p[b+1]? =some (.slice (some ⟨s,0,none⟩) n 1)->n≠0->D s=some i->dJ E i.b=some 5:=by
 obtain ⟨c,N,d⟩:=Ee x;obtain ⟨f,l,t⟩:=r.bu a p sz _ B c b N q m d;obtain ⟨_,_,F,C,e,A,g,y,_,w⟩:=r.rows a p sz _ B q m;have v:e=c:=by unfold dJ at f;rw [g] at f;simpa using f
 subst v;refine ⟨e,N,?_,l,?_,?_,λk d=>?_,λz o j h=>?_,t⟩;unfold World.shape?;rw [g];simp only;rw [y,l];rcases iP d with ⟨_,rfl,rfl,rfl⟩|⟨_,rfl,rfl,rfl⟩ <;> omega;rcases iP d with ⟨_,rfl,rfl,rfl⟩|⟨_,rfl,rfl,rfl⟩;exact Hs;exact Hr;unfold World.frozen?;simp only [g];have:=w Z k O;unfold kU at this;simp;omega;rw [d] at h;cases h;rfl
theorem oF (d:Rel D H E) {B:gI} (c:D a=some B) {j:AH} (h:iT a b H=some j):
  Calls prog 242 #[.pointer (some ⟨B.b,b,none⟩)] E λe i=>e= .returned undef/\Rel D j i/\Ext D H E D j i:=by
 unfold iT at h;split at h;rename_i F sz g;split at h;rename_i t;have ⟨J,N,p,C,b3,b4,b5,q,_⟩:=d.box g c t;split at h;rename_i f;cases h;have ⟨v,k,l⟩:=d.cell g c f rfl;cases l.ak rfl;refine (vJ B.b b E k p O (b5 b O) b4).mono ?_;rintro e i ⟨rfl,rfl⟩;obtain ⟨_,y,z⟩:=d.CS (P:=prog) g c (ab f) (zY _) (.ptr c) rfl (λr o n w=>by have:=q r o n w;omega);exact ⟨rfl,y,z⟩;rename_i K x f;split at h;rename_i s;obtain ⟨rfl,rfl⟩:=s;cases h;have ⟨v,k,l⟩:=d.cell g c f rfl;obtain ⟨_,A,m,rfl⟩:=l.ez;rw [c] at m;cases m;refine (Av B.b x E k).mono ?_;rintro e i ⟨rfl,rfl⟩;exact ⟨rfl,d,Ext.refl _ _ _⟩;cases h;cases h;cases h;cases h
theorem iB (h:cd D [u] p):∃v,p=[v]/\VR D u v:=by obtain ⟨v,c,rfl,a,b⟩:=h.ep;have:=zK b.1.symm;subst this;exact ⟨v,rfl,a⟩
theorem BB (h:cd D [u,v] p):∃b a,p=[b,a]/\VR D u b/\VR D v a:=by obtain ⟨b,f,rfl,c,d⟩:=h.ep;obtain ⟨a,rfl,e⟩:=iB d;exact ⟨b,a,rfl,c,e⟩
end
theorem P5:da prog (λK a H=>if K=242 then H0 a H else none):=by intro K a H r m h _ l w q f i;dsimp only at h;split at h;rename_i d;subst d;unfold H0 at h;split at h;rename_i o p;have ⟨n,b,e⟩:=map_some h;cases e;obtain ⟨v,rfl,g⟩:=iB i;obtain ⟨_,B,c,rfl⟩:=g.ez;refine (oF f c b).mono ?_;rintro e s ⟨rfl,j,k⟩;exact ⟨undef,l,rfl,VR.undef,j,k⟩;cases h;cases h
section
variable {D:au} {H:AH} {E:World}
theorem G0:prog.underlying 77=some (.slice 5):=Y
theorem zd [Small prog] (L:Rel D H E) {B:gI} (z:D a=some B) (hy:VR D u v) {w:AH} (h:pA prog t a b u H=some w):
  ∃e n c i j s,E.cell? ⟨B.b,b+1,none⟩=some (.slice e n c)/\(Builtin.append_ #[77,t] 77 #[.slice e n c,v]).run prog E= .ok i j/\(∃f4,j.cell? ⟨B.b,b+1,none⟩=some f4)/\j.frozen? ⟨B.b,b+1,none⟩=false/\(∃e m c,i= .slice e m c)/\
   Rel s w (j.setCell ⟨B.b,b+1,none⟩ i)/\Ext D H E s w (j.setCell ⟨B.b,b+1,none⟩ i):=by
 unfold pA at h;split at h;rename_i cs sz K;split at h;rename_i hm;cases g:cV prog 77 (.pointer (some ⟨a,b+1,none⟩)) H with
 | none=>rw [g] at h;cases h
 | some x=>
  rw [g] at h;simp only [zR] at h;split at h;cases h;rename_i c6;cases d:cC prog 77 t x u H with
  | none=>rw [d] at h;cases h
  | some e6=>
   rw [d] at h;simp at h;have ⟨f5,H3⟩:=e6;have F:cs[b+1]? =some x/\nj x:=by unfold cV at g;simp only [K,G0] at g;split at g;rename_i y k e3;cases y;cases k;exact yy g;cases g
   have c7:=F.1;have ⟨x',k1,q⟩:=L.cell K z F.1 F.2;have d6:∃e n c,x'= .slice e n c:=by
    have:∃A n c,x= .slice A n c:=by unfold cC at d;split at d;split at d;split at d;split at d;split at d;exact ⟨_,_,_,rfl⟩;exact ⟨_,_,_,rfl⟩;exact ⟨_,_,_,rfl⟩;cases d;cases d;cases d;cases d;cases d
    obtain ⟨A,n,c,rfl⟩:=this;cases A with
    | none=>
     cases q with
     | sc _=>exact ⟨_,_,_,rfl⟩
    | some A=>obtain ⟨A',R,rfl⟩:=q.fa;exact ⟨_,_,_,rfl⟩
   obtain ⟨e,n,c,rfl⟩:=d6;have ⟨i,j,s,r1,r2,M,r4,r5⟩:=n9 (ty:=77) d L q hy;have c8:∃e m c,i= .slice e m c:=by rcases r5 with ⟨_,_,_,_,_,o⟩|⟨_,_,l,_⟩;exact ⟨_,_,_,o⟩;exact ⟨_,_,_,l⟩
   have ⟨el,f6,b1,b2,b3,b4,b5,b6,b7⟩:=L.box K z hm;have c2:=M.mono _ _ z;simp only [N8] at h;split at h;rename_i X f3 c5;split at h;rename_i hc;cases h;have ⟨c9,d5⟩:=hc;have ⟨q1,q2,q3,N,f8,f9,q4,q5,_,q6⟩:=r2.rows a X f3 _ B c5 c2;have c3:b+1<N.size:=O;have ⟨g5,t2,t3⟩:=r2.ru (P:=prog) (cs':=X.set (b+1) f5) c5 c2 (k:=b+1) O (zY _) (λd8 g7 p=>by
    rw [yO] at p;by_cases J:b+1=d8;subst J;simp [c9] at p;exact .inl ⟨rfl,p.symm⟩;rw [zO J] at p;exact .inr ⟨Ne.symm J,p⟩) (Zs q3) r4 d5 (λf7 o' N' _ _ g6 m B' y c4 C=>by
    subst y;have C:=C;obtain ⟨_,⟨k,_⟩|⟨k,_⟩|⟨_,B3,d9,e3,e4,e5,rfl⟩⟩:=r4.ew;exact absurd k c4;exact absurd k c4;have e3:=e3;rw [C] at e3;cases e3;rcases r5 with ⟨g4,n',R,m',l,o⟩|⟨m',R,l,o⟩;injection l with a1 a2 a3
    injection o with d1 d2 d3
    subst a1;subst a2;subst a3;subst d1;subst d2;subst d3;generalize r:Value.slice (some ⟨B'.b,0,none⟩) n d9=x' at q;cases q with
    | sc hs=>subst r;cases hs
    | @sl d7 o0 n0 c0 B0 g1 g2 g3=>
     injection r with f x2 x3
     injection f with f
     injection f with x4 x5
     subst x2;subst x5;have d4:n≠0:=by rintro rfl;exact c6 rfl
     rw [x4];exact M.Ik _ _ (b7 d7 n B0 c7 d4 g1)
    | pJ=>
     injection r with f x2 x3
     omega
    | sle=>exact absurd rfl c6
    | _=>cases r
    injection l with f
    injection f with f
    injection f with f
    rw [f];exact o 5 G0)
   refine ⟨e,n,c,i,j,s,k1,r1,?_,?_,c8,t2,M.trans t3⟩;refine ⟨N[b+1],?_⟩;unfold World.cell?;simp only [q4,Option.isSome_none];simp [c3];unfold World.frozen?;simp only [q4];have:=q6 Z (b+1) c3;unfold kU at this;simp;omega;cases h;cases h
 cases h;cases h
end
end V
namespace V
open Go Go.RowKit Go.Shelf
variable {a b c d e f g:Nat} {u v w:Value} {i j k:Int} {t:TypeId} {p:List Value} {q:Bool} {n:IntKind}
section
variable {D:au} {H:AH} {E:World}
theorem fV {P:aB} {b:Array Oper} {c:List Oper} {o:Oper} {a:Act} {Q:Exit->Act->World->Prop} (i:o.guard=none) (sl x:Operand) (t d:aP)
  (j:o.op= .call {callee:=.builtin .append,args:= #[sl,x],argTypes:= #[t,d]}) (v f:aq) (l:a.eval sl=v) (m:a.eval x=f) {e:World} (k:(Builtin.append_ #[t,d] o.type #[v,f]).run P E= .ok u e)
  (h:wpList P b Q c (a.put o.dst u) e):wpList P b Q (o::c) a E:=by
 refine wpList_plain i λK g=>?_;unfold Oper.wp execOp;simp only [j,resolve,invoke,builtin,Sem.run_bind,Sem.run_pure,Result.andThen_ok,List.map_toArray,yS,xX,l,m,k];exact g _ _ h
theorem X1 [Small prog] (o:Rel D H E) {B:gI} (i:D a=some B) {t:aU} {g f:AH} (k:iT a b H=some g) (l:pA prog 9 a b (.string t) g=some f):
  Calls prog 236 #[.pointer (some ⟨B.b,b,none⟩),.string t] E λe j=>e= .returned (.tuple #[.int .i64 t.size,.nilIface])/\∃d,Rel d f j/\Ext D H E d f j:=by
 have x:∀h E,(callFunc 242 h).run prog E= .ok (.enter 242 h) E:=enters_of Tryz.func242 Y rfl
 go_enter Tryz.func236,Tryz.ntmps236
 go_wp2_with (go_at_fn 242;refine (oF o i k).mono ?_)
 rintro e L ⟨rfl,s,v⟩;obtain ⟨C,n,c,K,M,d,y,p,⟨J,z⟩,A,⟨F,m,w,rfl⟩,q,r⟩:=zd s i (.sc rfl:VR D (.string t) (.string t)) l
 go_wp2_with (at_builtin;refine fV rfl _ _ 77 9 rfl _ _ rfl rfl p ?_)
 go_wp2
 go_ret2
 exact ⟨rfl,d,q,v.trans r⟩
end
end V
namespace T
open Go V
variable {a b c d e f g:Nat} {u v w:Value} {i j k:Int} {t:TypeId} {p:List Value} {q:Bool} {n:IntKind} {x y z:TV} {r s:List TO} {o:List TV}
theorem Wy:NL prog:={
 G0:=Y
 u5:=Y
 u9:=Y
 i5:=by have ⟨b,c,a⟩:=yR.1 (by kernel_rfl:(prog.info? 5).map (λi=>(i.size,i.bytes,i.zero))=some (1,1,some (.int .u8 0)));exact ⟨b,_,c,yH (·.1) a,yH (·.2.1) a,yH (·.2.2) a,rfl⟩
 Yy:=by kernel_rfl}
end T
namespace V
open Go Go.RowKit Go.Shelf
variable {a b c d e f g:Nat} {u v w:Value} {i j k:Int} {t:TypeId} {p:List Value} {q:Bool} {n:IntKind}
section
variable {D:au} {H:AH} {E:World}
theorem Mf (c:Int) (E:World):(Instr.buildSlice 77 1 #[(0,.int .u8 c)]).run prog E= .ok (.slice (some ⟨E.heap.size,0,none⟩) 1 1) (E.alloc (.cells #[.int .u8 c] 5)):=by obtain ⟨e,g,a,b,f,d,rfl⟩:=T.Wy.i5;simp [Instr.buildSlice,run_underlying G0,aV a,b,dq a d,Instr.fill,Value.cells,newRow];rw [show Array.range 1= #[0] by decide];simp [Array.setIfInBounds]
theorem X0 [Small prog] (x:Rel D H E) {B:gI} (k:D a=some B) {h j:AH} {q:aq×AH} (c:iT a b H=some h) (w:fN prog 77 1 [(0,.int .u8 i)] h=some q) (t:pA prog 77 a b q.1 q.2=some j):
  Calls prog 238 #[.pointer (some ⟨B.b,b,none⟩),.int .u8 i] E λe s=>e= .returned .nilIface/\∃g,Rel g j s/\Ext D H E g j s:=by
 have X:∀l E,(callFunc 242 l).run prog E= .ok (.enter 242 l) E:=enters_of Tryz.func242 Y rfl
 go_enter Tryz.func238,Tryz.ntmps238
 go_wp2_with (go_at_fn 242;refine (oF x k c).mono ?_)
 rintro e f ⟨rfl,r,M⟩;have ⟨vs,c3,c4,m,K,p,L⟩:=jQ w r rfl (cd.cons (.sc rfl) .nil);rw [Mf] at m;injection m with F J
 subst F;subst J;obtain ⟨N,n,c1,v',w2,g,y,z,⟨u,k3⟩,k4,⟨b6,b2,P,rfl⟩,A,C⟩:=zd K (p.mono _ _ k) L t;have k0:f.cell? ⟨B.b,b+1,none⟩=some (.slice N n c1):=by
  have d:∃o,h[a]? =some o/\o≠ .dead:=by unfold iT at c;split at c;rename_i R sz d;split at c;split at c;cases c;exact ⟨_,zF (ab d),Z⟩;split at c;cases c;exact ⟨_,d,Z⟩;cases c;cases c;cases c;cases c
  have ⟨o,d,v⟩:=d;have b1:=r.blt d k v;rw [<-y];unfold World.cell?;have:(f.alloc (.cells #[.int .u8 i] 5)).heap[B.b]? =f.heap[B.b]? :=by show (f.heap.push _)[B.b]? =_;rw [xY,zO O]
  simp only [this]
 go_wp2_with (at_builtin;refine fV rfl _ _ 77 77 rfl _ _ rfl rfl z ?_)
 go_wp2
 go_ret
 exact ⟨rfl,g,A,(M.trans p).trans C⟩
end
section
variable {D:au} {H:AH} {E w':World}
theorem Rel.Hv (h:Rel D H E) {sz:Nat} {B:gI} (q:H[a]? =some (.row p sz (some b))) (r:D a=some B) {x:Array aq} {fr K:Nat×Nat} (A:E.heap[B.b]? =some (.cells x t fr)) (L:w'.heap[B.b]? =some (.cells x t K))
  (n:∀d,d≠B.b->w'.heap[d]? =E.heap[d]?) (h3:w'.heap.size=E.heap.size) (h4:w'.os=E.os) (h5:w'.tape=E.tape) (h6:w'.output=E.output):
  Rel D (H.set a (.row p sz none)) w'/\Ext D H E D (H.set a (.row p sz none)) w':=by
 have hid:=ab q;obtain ⟨k,m⟩:=h.freeze q r p.length;rw [wH] at k m;have F:∀d,dJ w' d=dJ E d:=by intro d;unfold dJ;by_cases c:d=B.b;subst c;rw [A,L];rw [n d c]
 have c6:∀(i:Nat) (o:AO) (f:gI),(H.set a (.row p sz none))[i]? =some o->D i=some f->o.own->f.b≠B.b:=by intro i o f g c M e;by_cases C:a=i;subst C;rw [zF hid] at g;cases g;cases M;rw [zE C] at g;rcases h.inj i a _ _ f B g q c r M Z e with z|z;exact C z.symm;exact AO.eN rfl z
 refine ⟨⟨⟨?_,?_,k.inj,k.lt⟩,⟨?_,k.fx.2⟩,?_⟩,⟨⟨h4,h5,h6,m.mono,m.fix,m.len,Nat.le_of_eq h3.symm,?_,m.ro,m.fresh⟩,λd e c=>(F d).trans c⟩⟩;intro i y J w f g c;obtain ⟨N,P,R,C',b2,c3,j,l,v,k4⟩:=k.rows i y J w f g c;by_cases s:f.b=B.b;rw [s,A] at j;cases j;refine ⟨N,P,R,x,t,K,by rw [s];exact L,l,v,λc4=>?_⟩;cases w with
 | none=>exact absurd rfl c4
 | some c8=>exact absurd s (c6 i _ f g c rfl)
 exact ⟨N,P,R,C',b2,c3,by rw [n _ s];exact j,l,v,k4⟩;intro i es cl f g c;obtain ⟨j,l⟩:=k.maps i es cl f g c;refine ⟨?_,l⟩;rw [n];exact j;intro e;rw [e,A] at j;cases j;obtain ⟨b6,c2,j⟩:=k.fx.1;exact ⟨b6,c2,by rw [n 0 (λe=>h.fx.2 a _ B q r rfl e.symm)];exact j⟩;intro i y J w f e o b1 g c hm;obtain ⟨j,l,v⟩:=k.bu i y J w f e o b1 g c hm;exact ⟨(F _).trans j,l,λc7 c5 X a1 a2 a3=>(F _).trans (v c7 c5 X a1 a2 a3)⟩;intro d c hf;exact n d λe=>hf a _ B q r rfl e.symm
end
section
variable {D:au} {H:AH} {E J:World}
theorem X2 (b o g n c:Nat) (l:List UInt8) (E:World) (f:E.cell? ⟨b,o+1,none⟩=some (.slice (some ⟨g,0,none⟩) l.length c)) (a:l≠[]) (t:l.length<=c) (k:E.shape? g=some (5,n)) (i:l.length<=n) (d:l.length<=9223372036854775807)
  (h:∀j x,l[j]? =some x->E.cell? ⟨g,j,none⟩=some (.int .u8 x.toNat)):
  Calls prog 225 #[.pointer (some ⟨b,o,none⟩)] E λe J=>e= .returned (.string ⟨l.toArray⟩)/\J=E.drew.freeze ⟨g,0,none⟩ l.length:=by
 have s:l.length≠0:=by simpa using a
 have p:prog.underlying 351=some (.pointer 5):=Y;have c1:=f;have q:(Builtin.unsafeSliceData_ #[77] 351 #[.slice (some ⟨g,0,none⟩) l.length c]).run prog E.drew= .ok (.pointer (some ⟨g,0,none⟩)) E.drew:=
  Lib.run_unsafeSliceData_row _ _ _ _ _ _ O
 have r:(Builtin.unsafeString_ #[351,3] 9 #[.pointer (some ⟨g,0,none⟩),.int .i64 l.length]).run prog E.drew= .ok (.string ⟨l.toArray⟩) (E.drew.freeze ⟨g,0,none⟩ l.length):=by apply Lib.run_unsafeString_row E.drew 351 3 9 5 p Y g n k l a i d;intro j x m;rw [cP,yZ];exact h j x m
 have mixed:prog.follows .mixedOrders:=Y
 go_enter Tryz.func225,Tryz.ntmps225
 go_wp2
 go_region_o
 all_goals (go_wp2;go_ret;exact ⟨rfl,rfl⟩)
theorem Rel.cells (g:Rel D H E) {sz:Nat} {d:di} {B:gI} (f:H[a]? =some (.row p sz d)) (e:D a=some B):∃(C:Array aq) (b:aP) (c:Nat×Nat),E.heap[B.b]? =some (.cells C b c)/\C.size=B.n/\p.length<=C.size:=by obtain ⟨_,_,j,C,b,c,h,i,_⟩:=g.rows a p sz d B f e;exact ⟨C,b,c,h,i,O⟩
theorem P9:da prog (λK s H=>if K=225 then DI prog s H else none):=by
 intro K s H d2 H' h _ D E vs g c6;dsimp only at h;split at h;rename_i P;subst P;unfold DI at h;split at h;rename_i id w;split at h;rename_i z sz p;split at h;rename_i hm;split at h;rename_i r n i;split at h;rename_i C d5 lo l;split at h;rename_i X;have ⟨v,a,c9,c8⟩:=X;cases q:Ii C with
 | none=>rw [q] at h;cases h
 | some bs=>
  rw [q] at h;cases h;obtain ⟨d3,rfl,c5⟩:=iB c6;obtain ⟨_,B,t,rfl⟩:=c5.ez;have m:z[w+1]? =some (.slice (some ⟨r,0,none⟩) n 1)/\nj (.slice (some ⟨r,0,none⟩) n 1):=by unfold cV at i;simp only [p,G0] at i;split at i;rename_i A F e3;cases A;cases F;exact yy i;cases i
  have c2:=m.1;have ⟨x',k1,k2⟩:=g.cell p t m.1 m.2;obtain ⟨_,⟨e,_⟩|⟨e,_⟩|⟨_,f,c,d,M,g3,rfl⟩⟩:=k2.ew;exact absurd e a;exact absurd e a;have d:=d;have ⟨el,c7,b1,b2,b3,b4,b5,b6,b7⟩:=g.box p t hm;have o:=b7 r n f c2 a d;have ⟨y,L,fr,k,q2,x⟩:=g.cells l d;have c3:L=5:=by unfold dJ at o;rw [k] at o;simpa using o
  subst c3;have j:=JU C bs q;have R:bs.length=n:=by rw [<-v,j];simp
  subst R;have c4:bs≠[]:=λe=>a (by rw [e];rfl);have N:bs.length<=9223372036854775807:=O;refine (X2 B.b w f.b y.size c bs E k1 c4 M (by unfold World.shape?;rw [k]) (by rw [v] at x;exact x) N λd1 d4 hj=>?_).mono ?_;obtain ⟨u,a1,a2⟩:=g.cell l d (by rw [j,zJ,hj];rfl) rfl;cases a2.ak rfl;exact a1;rintro e J ⟨rfl,rfl⟩;have hd:Rel D H E.drew:=g.drew _;have ⟨t1,t2⟩:=Rel.Hv (w':=E.drew.freeze ⟨f.b,0,none⟩ bs.length) hd l d k (by
   unfold World.freeze;rw [zO a];show (Array.modify _ _ _)[f.b]? =_;rw [wO,zP rfl];show Option.map _ E.heap[f.b]? =_;rw [k];rfl) (λb j=>by
   unfold World.freeze;rw [zO a];show (Array.modify _ _ _)[b]? =_;rw [wO,zO (Ne.symm j)]) (by
   unfold World.freeze;rw [zO a];exact Array.size_modify ..) (by unfold World.freeze;rw [zO a]) (by unfold World.freeze;rw [zO a]) (by unfold World.freeze;rw [zO a])
  exact ⟨_,D,rfl,.sc rfl,t1,(Ext.drew _).trans t2⟩
 cases h;cases h;cases h;cases h;cases h;cases h;cases h
theorem P8 [Small prog]:da prog (λK a H=>if K=236 then H5 prog a H else none):=by intro K a H r o h _ D E y g k;dsimp only at h;split at h;rename_i f;subst f;unfold H5 at h;split at h;rename_i s w t;have ⟨p,b,h⟩:=T.bind_some h;have ⟨q,c,e⟩:=map_some h;cases e;obtain ⟨v,x,rfl,j,i⟩:=BB k;obtain ⟨_,B,d,rfl⟩:=j.ez;cases i.ak rfl;refine (X1 g d b c).mono ?_;rintro e J ⟨rfl,n,l,m⟩;exact ⟨_,n,rfl,VR.rJ (cd.cons (.sc rfl) (cd.cons (.sc rfl) .nil)),l,m⟩;cases h;cases h
theorem P7 [Small prog]:da prog (λK a H=>if K=238 then H4 prog a H else none):=by intro K a H r s h _ D E A j m;dsimp only at h;split at h;rename_i g;subst g;unfold H4 at h;split at h;rename_i x y c;have ⟨t,b,h⟩:=T.bind_some h;have ⟨q,i,h⟩:=T.bind_some h;have ⟨w,d,e⟩:=map_some h;cases e;obtain ⟨v,z,rfl,l,k⟩:=BB m;obtain ⟨_,B,f,rfl⟩:=l.ez;cases k.ak rfl;refine (X0 j f b i d).mono ?_;rintro e J ⟨rfl,p,n,o⟩;exact ⟨_,p,rfl,.sc rfl,n,o⟩;cases h;cases h
theorem EX (E:World):(Instr.buildSlice 79 0 #[]).run prog E= .ok (.slice (some ⟨E.heap.size,0,none⟩) 0 0) (E.alloc (.cells #[] 96)):=by have d:prog.underlying 79=some (.slice 96):=Y;obtain ⟨a,b,c⟩:∃a,prog.info? 96=some a/\a.size=4:=yR.1 (by kernel_rfl:(prog.info? 96).map (·.size)=some 4);simp [Instr.buildSlice,run_underlying d,aV b,c,Instr.fill,newRow];rw [show Array.range 0= #[] by decide];simp
theorem FN (E:World):Calls prog 25 #[.slice none 0 0] E λe J=>e= .returned (.slice none 0 0)/\J=E:=by
 have a:prog.underlying 79=some (.slice 96):=Y
 go_enter Tryz.func25,Tryz.ntmps25
 go_wp2
 rw [Lib.run_eql_slice_nil E 79 96 none 0 0 0 0 a]
 go_wp2
 go_ret
 exact ⟨rfl,rfl⟩
theorem w25 (E:World) (a:Addr) (n c:Nat) {b:World} (h:(Builtin.append_ #[79,79] 79 #[.slice (some ⟨E.heap.size,0,none⟩) 0 0,.slice (some a) n c]).run prog (E.alloc (.cells #[] 96))= .ok u b):
  Calls prog 25 #[.slice (some a) n c] E λe J=>e= .returned u/\J=b:=by
 have d:prog.underlying 79=some (.slice 96):=Y
 go_enter Tryz.func25,Tryz.ntmps25
 go_wp2
 rw [Lib.run_eql_slice_nil E 79 96 (some a) n c 0 0 d]
 go_wp2_with (at_builtin;refine fV rfl _ _ 79 79 rfl _ _ rfl rfl h ?_)
 go_wp2
 go_ret
 exact ⟨rfl,rfl⟩
theorem YQ [Small prog]:da prog (λK b H=>if K=25 then gu prog 79 b H else none):=by
 intro K b H r M h _ D E F d f;dsimp only at h;split at h;rename_i l;subst l;unfold gu at h;split at h;cases h;obtain ⟨v,rfl,a⟩:=iB f;cases a.ak rfl;refine (FN E).mono ?_;rintro e J ⟨rfl,rfl⟩;exact ⟨_,D,rfl,.sc rfl,d,Ext.refl _ _ _⟩;rename_i A n c;have ⟨q,m,h⟩:=T.bind_some h;obtain ⟨v,rfl,a⟩:=iB f;obtain ⟨j,k,rfl⟩:=a.fa;have ⟨F,N,R,g,s,i,t⟩:=jQ m d rfl .nil;rw [EX] at g;injection g with o p
 subst o;subst p;obtain ⟨C,P,L,w,x,y,z⟩:=iA h s t (a.mono i.mono);refine (w25 E j n k w).mono ?_;rintro e J ⟨rfl,rfl⟩;exact ⟨C,L,rfl,z,x,i.trans y⟩;cases h;cases h
theorem EV (E:World):(Instr.buildSlice 80 0 #[]).run prog E= .ok (.slice (some ⟨E.heap.size,0,none⟩) 0 0) (E.alloc (.cells #[] 104)):=by have d:prog.underlying 80=some (.slice 104):=Y;obtain ⟨a,b,c⟩:∃a,prog.info? 104=some a/\a.size=4:=yR.1 (by kernel_rfl:(prog.info? 104).map (·.size)=some 4);simp [Instr.buildSlice,run_underlying d,aV b,c,Instr.fill,newRow];rw [show Array.range 0= #[] by decide];simp
theorem FM (E:World):Calls prog 52 #[.slice none 0 0] E λe J=>e= .returned (.slice none 0 0)/\J=E:=by
 have a:prog.underlying 80=some (.slice 104):=Y
 go_enter Tryz.func52,Tryz.ntmps52
 go_wp2
 rw [Lib.run_eql_slice_nil E 80 104 none 0 0 0 0 a]
 go_wp2
 go_ret
 exact ⟨rfl,rfl⟩
theorem w52 (E:World) (a:Addr) (n c:Nat) {b:World} (h:(Builtin.append_ #[80,80] 80 #[.slice (some ⟨E.heap.size,0,none⟩) 0 0,.slice (some a) n c]).run prog (E.alloc (.cells #[] 104))= .ok u b):
  Calls prog 52 #[.slice (some a) n c] E λe J=>e= .returned u/\J=b:=by
 have d:prog.underlying 80=some (.slice 104):=Y
 go_enter Tryz.func52,Tryz.ntmps52
 go_wp2
 rw [Lib.run_eql_slice_nil E 80 104 (some a) n c 0 0 d]
 go_wp2_with (at_builtin;refine fV rfl _ _ 80 80 rfl _ _ rfl rfl h ?_)
 go_wp2
 go_ret
 exact ⟨rfl,rfl⟩
theorem YP [Small prog]:da prog (λK b H=>if K=52 then gu prog 80 b H else none):=by
 intro K b H r M h _ D E F d f;dsimp only at h;split at h;rename_i l;subst l;unfold gu at h;split at h;cases h;obtain ⟨v,rfl,a⟩:=iB f;cases a.ak rfl;refine (FM E).mono ?_;rintro e J ⟨rfl,rfl⟩;exact ⟨_,D,rfl,.sc rfl,d,Ext.refl _ _ _⟩;rename_i A n c;have ⟨q,m,h⟩:=T.bind_some h;obtain ⟨v,rfl,a⟩:=iB f;obtain ⟨j,k,rfl⟩:=a.fa;have ⟨F,N,R,g,s,i,t⟩:=jQ m d rfl .nil;rw [EV] at g;injection g with o p
 subst o;subst p;obtain ⟨C,P,L,w,x,y,z⟩:=iA h s t (a.mono i.mono);refine (w52 E j n k w).mono ?_;rintro e J ⟨rfl,rfl⟩;exact ⟨C,L,rfl,z,x,i.trans y⟩;cases h;cases h
theorem EU (E:World):(Instr.buildSlice 22 0 #[]).run prog E= .ok (.slice (some ⟨E.heap.size,0,none⟩) 0 0) (E.alloc (.cells #[] 2)):=by have d:prog.underlying 22=some (.slice 2):=Y;obtain ⟨a,b,c⟩:∃a,prog.info? 2=some a/\a.size=1:=yR.1 (by kernel_rfl:(prog.info? 2).map (·.size)=some 1);simp [Instr.buildSlice,run_underlying d,aV b,c,Instr.fill,newRow];rw [show Array.range 0= #[] by decide];simp
theorem FL (E:World):Calls prog 56 #[.slice none 0 0] E λe J=>e= .returned (.slice none 0 0)/\J=E:=by
 have a:prog.underlying 22=some (.slice 2):=Y
 go_enter Tryz.func56,Tryz.ntmps56
 go_wp2
 rw [Lib.run_eql_slice_nil E 22 2 none 0 0 0 0 a]
 go_wp2
 go_ret
 exact ⟨rfl,rfl⟩
theorem w56 (E:World) (a:Addr) (n c:Nat) {b:World} (h:(Builtin.append_ #[22,22] 22 #[.slice (some ⟨E.heap.size,0,none⟩) 0 0,.slice (some a) n c]).run prog (E.alloc (.cells #[] 2))= .ok u b):
  Calls prog 56 #[.slice (some a) n c] E λe J=>e= .returned u/\J=b:=by
 have d:prog.underlying 22=some (.slice 2):=Y
 go_enter Tryz.func56,Tryz.ntmps56
 go_wp2
 rw [Lib.run_eql_slice_nil E 22 2 (some a) n c 0 0 d]
 go_wp2_with (at_builtin;refine fV rfl _ _ 22 22 rfl _ _ rfl rfl h ?_)
 go_wp2
 go_ret
 exact ⟨rfl,rfl⟩
theorem YO [Small prog]:da prog (λK b H=>if K=56 then gu prog 22 b H else none):=by
 intro K b H r M h _ D E F d f;dsimp only at h;split at h;rename_i l;subst l;unfold gu at h;split at h;cases h;obtain ⟨v,rfl,a⟩:=iB f;cases a.ak rfl;refine (FL E).mono ?_;rintro e J ⟨rfl,rfl⟩;exact ⟨_,D,rfl,.sc rfl,d,Ext.refl _ _ _⟩;rename_i A n c;have ⟨q,m,h⟩:=T.bind_some h;obtain ⟨v,rfl,a⟩:=iB f;obtain ⟨j,k,rfl⟩:=a.fa;have ⟨F,N,R,g,s,i,t⟩:=jQ m d rfl .nil;rw [EU] at g;injection g with o p
 subst o;subst p;obtain ⟨C,P,L,w,x,y,z⟩:=iA h s t (a.mono i.mono);refine (w56 E j n k w).mono ?_;rintro e J ⟨rfl,rfl⟩;exact ⟨C,L,rfl,z,x,i.trans y⟩;cases h;cases h
end
end V
end Go.Proofs.YtglilpjokhgidaaGreatDoor
namespace Go.Proofs
open Go.Shelf YtglilpjokhgidaaGreatDoor
def Tryz.lays171_ren:Go.Shelf.Ren:=⟨λ| 171=>240|243=>243|246=>245|283=>246|284=>247|285=>248|286=>249|129=>251|317=>250|318=>252|319=>253|320=>254|337=>255|338=>256|n=>n,λ| 3=>3|9=>9|2=>2|4=>4|171=>363|0=>0|53=>301|37=>77|5=>5|173=>366|212=>370|51=>344|20=>20|213=>371|46=>332|232=>374|233=>375|n=>n,λ| 17=>0|18=>1|19=>2|n=>n⟩
theorem Tryz.lays171:Go.Proofs.LaysM.n171 prog Tryz.lays171_ren:={
 mixed:=Y
 f129:=Tryz.func251.trans (yH some Y)
 f171:=Tryz.func240.trans (yH some Y)
 f243:=Tryz.func243.trans (yH some Y)
 f246:=Tryz.func245.trans (yH some Y)
 f283:=Tryz.func246.trans (yH some Y)
 f284:=Tryz.func247.trans (yH some Y)
 f285:=Tryz.func248.trans (yH some Y)
 f286:=Tryz.func249.trans (yH some Y)
 f317:=Tryz.func250.trans (yH some Y)
 f318:=Tryz.func252.trans (yH some Y)
 f319:=Tryz.func253.trans (yH some Y)
 f320:=Tryz.func254.trans (yH some Y)
 f337:=Tryz.func255.trans (yH some Y)
 f338:=Tryz.func256.trans (yH some Y)
 t0:=Tryz.underlying0
 a0:=Tryz.isAgg0
 z0:=Tryz.sizeOf0
 v0:=Tryz.zeroValue0
 t2:=Tryz.underlying2
 a2:=Tryz.isAgg2
 z2:=Tryz.sizeOf2
 v2:=Tryz.zeroValue2
 t3:=Tryz.underlying3
 a3:=Tryz.isAgg3
 z3:=Tryz.sizeOf3
 v3:=Tryz.zeroValue3
 t4:=Tryz.underlying4
 a4:=Tryz.isAgg4
 z4:=Tryz.sizeOf4
 v4:=Tryz.zeroValue4
 t5:=Tryz.underlying5
 a5:=Tryz.isAgg5
 z5:=Tryz.sizeOf5
 v5:=Tryz.zeroValue5
 t9:=Tryz.underlying9
 a9:=Tryz.isAgg9
 z9:=Tryz.sizeOf9
 v9:=Tryz.zeroValue9
 t20:=Tryz.underlying20
 a20:=Tryz.isAgg20
 z20:=Tryz.sizeOf20
 v20:=Tryz.zeroValue20
 t37:=Tryz.underlying77
 a37:=Tryz.isAgg77
 z37:=Tryz.sizeOf77
 v37:=Tryz.zeroValue77
 t46:=Tryz.underlying332
 a46:=Tryz.isAgg332
 z46:=Tryz.sizeOf332
 v46:=Tryz.zeroValue332
 t51:=Tryz.underlying344
 a51:=Tryz.isAgg344
 z51:=Tryz.sizeOf344
 v51:=Tryz.zeroValue344
 t53:=Tryz.underlying301
 a53:=Tryz.isAgg301
 z53:=Tryz.sizeOf301
 v53:=Tryz.zeroValue301
 t171:=Tryz.underlying363
 a171:=Tryz.isAgg363
 z171:=Tryz.sizeOf363
 v171:=Tryz.zeroValue363
 t173:=Tryz.underlying366
 a173:=Tryz.isAgg366
 z173:=Tryz.sizeOf366
 v173:=Tryz.zeroValue366
 t212:=Tryz.underlying370
 a212:=Tryz.isAgg370
 z212:=Tryz.sizeOf370
 v212:=Tryz.zeroValue370
 t213:=Tryz.underlying371
 a213:=Tryz.isAgg371
 z213:=Tryz.sizeOf371
 t232:=Tryz.underlying374
 a232:=Tryz.isAgg374
 z232:=Tryz.sizeOf374
 v232:=Tryz.zeroValue374
 t233:=Tryz.underlying375
 a233:=Tryz.isAgg375
 z233:=Tryz.sizeOf375
 v233:=Tryz.zeroValue375
 g17:=Y
 g18:=Y
 g19:=Y
 i0:=Y
 i2:=Y
 i3:=Y
 i4:=Y
 i5:=Y
 i9:=Y
 i20:=Y
 i37:=Y
 i46:=Y
 i51:=Y
 i53:=Y
 i171:=Y
 i173:=Y
 i212:=Y
 i232:=Y
 i233:=Y
 m17:=Y
 m18:=Y
 m19:=by kernel_rfl}
end Go.Proofs
namespace Go.Proofs.YtglilpjokhgidaaGreatDoor
open Go.Proofs.Tryz (prog)
open Go.IntKind
namespace V
open Go Go.RowKit Go.Shelf
variable {a b c d e f g:Nat} {u v w:Value} {i j k:Int} {t:TypeId} {p:List Value} {q:Bool} {n:IntKind}
section
variable {D:au} {H:AH} {E J:World}
theorem Rel.quiet (h:Rel D H E) (w:J.os=E.os) (x:J.tape=E.tape) (y:J.output=E.output) (z:E.heap.size<=J.heap.size) (f:∀b,b<E.heap.size->J.heap[b]? =E.heap[b]?):Rel D H J/\Ext D H E D H J:=by
 have p:∀b c,dJ E b=some c->dJ J b=some c:=by
  intro b c a;unfold dJ at a ⊢;have A:b<E.heap.size:=by rcases zZ b E.heap.size with m|m;exact m;rw [Array.getElem?_eq_none m] at a;cases a
  rw [f b A];exact a
 refine ⟨⟨⟨?_,?_,h.inj,h.lt⟩,⟨?_,h.fx.2⟩,?_⟩,⟨⟨w,x,y,λ_ _ e=>e,λ_ _ e=>⟨e,rfl⟩,zC _,z,λb a _=>f b a,λ_ _ e _=>e,λK o B a1 a2 a3 _=>⟨K,o,B,a1,a2,a3,rfl⟩⟩,p⟩⟩;intro i k sz s B d a;obtain ⟨g,j,r,C,c,l,L,M⟩:=h.rows i k sz s B d a;exact ⟨g,j,r,C,c,l,(f _ (h.blt d a Z)).trans L,M⟩;intro i v cl B d a;obtain ⟨g,j⟩:=h.maps i v cl B d a;exact ⟨(f _ (h.blt d a Z)).trans g,j⟩;obtain ⟨c,l,q⟩:=h.fx.1;exact ⟨c,l,(f 0 h.fx.pos).trans q⟩;intro i k sz s B c o N d a F;obtain ⟨g,j,r⟩:=h.bu i k sz s B c o N d a F;exact ⟨p _ _ g,j,λP n t a1 a2 a3=>p _ _ (r P n t a1 a2 a3)⟩
theorem WZ (n:Int) (i:0<=n) (j:n<1000000000) (a:Rel D H E):Calls prog 240 #[.int .i64 n] E λe J=>e= .returned (.string ⟨(Lib.itoa n).toArray⟩)/\Rel D H J/\Ext D H E D H J:=by refine (Any.strconv_Itoa Tryz.lays171 n O O E ?_).mono ?_;obtain ⟨g,h,q⟩:=a.fx.1;unfold Lib.TabIs World.var?;generalize f:prog.globalNamed _=x;obtain rfl:x=some 0:=f.symm.trans Y;simp only [zR,q];rintro e J ⟨rfl,k,c,rfl⟩;exact ⟨rfl,a.quiet rfl rfl rfl (by show E.heap.size<=(E.heap++c).size;rw [Array.size_append];omega) (λb d=>by show (E.heap++c)[b]? =E.heap[b]?;exact Array.getElem?_append_left d)⟩
theorem P6:da prog (λK a H=>if K=240 then yi a H else none):=by intro K a H r k h _ D E l d g;dsimp only at h;split at h;rename_i c;subst c;unfold yi at h;split at h;rename_i n;split at h;rename_i b;cases h;obtain ⟨v,rfl,f⟩:=iB g;cases f.ak rfl;refine (WZ n b.1 b.2 d).mono ?_;rintro e J ⟨rfl,i,j⟩;exact ⟨_,D,rfl,.sc rfl,i,j⟩;cases h;cases h;cases h
theorem H7 (h:∀E:World,Rel (λ_=>none) [] E->Calls prog 6 #[] E λe J=>∃v f g,e= .returned v/\VR f (.bool true) v/\Rel f g J/\Ext (λ_=>none) [] E f g J):da prog (λK l H=>if K=6 then rG l H else none):=by intro K l H r g c _ D E P m t;dsimp only at c;split at c;rename_i q;subst q;unfold rG at c;split at c;cases c;have:=zK t.1.symm;subst this;have p:Rel (λ_=>none) [] E:=⟨⟨λi n sz y B a _=>by simp at a,λi F cl B a _=>by simp at a,λi j o L B z a=>by simp at a,λi B k=>by cases k⟩,⟨m.fx.1,λi o B a=>by simp at a⟩,λi n sz y B C o N a=>by simp at a⟩;refine (h E p).mono ?_;rintro e J ⟨v,f,A,rfl,s,M,d⟩;cases s.bool;obtain ⟨w,x⟩:=m.quiet d.os d.tape d.output d.size (λb k=>d.frame b k λi o B a=>by simp at a);exact ⟨_,D,rfl,.sc rfl,w,x⟩;cases c;cases c
end
end V
namespace T
open Go V Q
variable {a b c d e f g:Nat} {u v w:Value} {i j k:Int} {t:TypeId} {p:List Value} {q:Bool} {n:IntKind} {x y z:TV} {r s:List TO} {o:List TV}
structure DE where
 K:Nat
 n:Nat
 b:(X:CX)->ao->RA X
 h:∃f,BE K f n b
inductive DT where
 | nil
 | one {K n:Nat} {f:Func} {b:(X:CX)->ao->RA X} (h:BE K f n b) (t:DT)
 | node (k:Nat) (a b:DT)
def DT.find:DT->Nat->Option DE
 | .nil,_=>none
 | @DT.one c n f b h t,K=>bif Nat.beq c K then some ⟨c,n,b,f,h⟩ else t.find K
 | .node k a b,K=>bif Nat.blt K k then a.find K else b.find K
theorem DT.Hw {e:DE}:∀{t:DT},t.find a=some e->e.K=a:=by
 intro t;induction t with
 | nil=>intro h;cases h
 | @one g n f b h t i=>
  intro c;simp only [DT.find] at c;cases d:Nat.beq g a with
  | true=>rw [d] at c;cases c;exact zU d
  | false=>rw [d] at c;exact i c
 | node k m b j l=>
  intro c;simp only [DT.find] at c;cases d:Nat.blt a k with
  | true=>rw [d] at c;exact j c
  | false=>rw [d] at c;exact l c
def ng (K:Nat):Bool:=dp K||Nat.beq K 6
abbrev XS (P:aB) (c:Tc) (L a:Nat) (rt:TV->ae->Option (TV×ae)):CX:={
 R:=Option (TV×ae)
 bad:=none
 cl:=λK e s a k=>match c K e s a with
  | some p=>k p.1 p.2
  | none=>none
 gg:=Wr none
 lp:=λb d l s=>KW none b L d l s
 fl:=a
 rt:=rt
 P:=P}
def lY (P:aB) (D:DT) (M:Tc) (L:Nat):Nat->Tc
 | 0=>λ_ _ _ _=>none
 | n+1=>λK a s d=>match M K a s d with
  | some p=>some p
  | none=>match D.find K with
   | some e=>bif Nat.beq e.n a.length then e.b (XS P (lY P D M L n) L (bif AA.rw K then d else s.length) λr b=>jq (AA.rw K) (AA.aM K) s (some (r,b))) a [] s else none
   | none=>bif ng K then match P.funcs[real K]? with
     | some g=>match g.body with
      | some c=>bif Nat.ble a.length g.ntmps then qw P AA Pl (XS P (lY P D M L n) L (bif AA.rw K then d else s.length) λr b=>jq (AA.rw K) (AA.aM K) s (some (r,b))) K g c a (λr b=>jq (AA.rw K) (AA.aM K) s (some (r,b))) s else none
      | none=>none
     | none=>none
    else match AA.tp K with
     | some f=>f a s d
     | none=>none
theorem tJ {D:DT} {M:Tc} (J:∀K b s d p,M K b s d=some p->∃m,tc prog AA Pl ng m K b s d=some p):∀n K b s d p,lY prog D M a n K b s d=some p->∃m,tc prog AA Pl ng m K b s d=some p:=by
 intro n;induction n with
 | zero=>intro K b s d p h;cases h
 | succ n X=>
  intro K b s d p h;have A:∀{i:Func} {c:Code},ng K->prog.funcs[real K]? =some i->i.body=some c->b.length<=i.ntmps->qw prog AA Pl (XS prog (lY prog D M a n) a (bif AA.rw K then d else s.length) λr g=>jq (AA.rw K) (AA.aM K) s (some (r,g))) K i c b (λr g=>jq (AA.rw K) (AA.aM K) s (some (r,g))) s=some p->∃m,tc prog AA Pl ng m K b s d=some p:=by
   intro i c k l j o P;have L:jr prog AA Pl ng (XS prog (lY prog D M a n) a (bif AA.rw K then d else s.length) λr g=>jq (AA.rw K) (AA.aM K) s (some (r,g))) (λr=>r=some p):=by have z:¬((none:Option (TV×ae))=some p):=Z;refine ⟨z,λ{K' c3 s' b2 b6} h=>?_,λh=>qv (λr=>r=some p) z h⟩;simp only at h;split at h;rename_i q x;have ⟨m,R⟩:=X _ _ _ _ _ x;exact ⟨m,q.1,q.2,R,h⟩;cases h
   have ⟨m,r0,g,E,F⟩:=n7 L (λ{b1 ts c2 s} h=>⟨a,h⟩) P;have H:=nW (nU (Nat.le_succ m) m m (zC m)) (Nat.le_succ m) _ E;refine ⟨m+1,?_⟩;simp only [tc,gY,k,if_true,l,j,o];rw [H];exact F
  simp only [lY] at h;split at h;rename_i q x;cases h;exact J _ _ _ _ _ x;split at h;rename_i e t;obtain rfl:=DT.Hw t;have ⟨f,v⟩:=e.h;cases w:Nat.beq e.n b.length with
  | false=>rw [w] at h;cases h
  | true=>
   rw [w] at h;have y:=(zU w).symm;have C:=v.ok;simp only [okF,zN] at C;have ⟨⟨o1,o2⟩,o3⟩:=C;have ⟨c,j⟩:=xM.1 o2;have N:cF f=c:=by unfold cF;rw [j];rfl
   have t:=v.eq (XS prog (lY prog D M a n) a (bif AA.rw e.K then d else s.length) λr g=>jq (AA.rw e.K) (AA.aM e.K) s (some (r,g))) b s y;rw [N] at t;refine A (by unfold ng;rw [o1];rfl) v.hf j (by rw [y];exact yN o3) (t.trans h)
  cases k:ng K with
  | true=>
   rw [k] at h;simp at h;split at h;rename_i i l;split at h;rename_i c j;cases o:Nat.ble b.length i.ntmps with
   | true=>rw [o] at h;exact A k l j (yN o) h
   | false=>rw [o] at h;cases h
   cases h;cases h
  | false=>rw [k] at h;simp at h;split at h;rename_i f l;refine ⟨1,?_⟩;simp only [tc,gY,k,l];exact h;cases h
noncomputable def awD:DT:=(.node 127 (.node 68 (.node 35 (.node 18 (.node 10 (.node 7 (.node 4 (.one e3 .nil) (.one e4 (.one e5 .nil))) (.node 8 (.one e7 .nil) (.one e8 (.one e9 .nil)))) (.node 13 (.node 11 (.one Fz .nil) (.one Bs (.one M8 .nil))) (.node 15 (.one NF (.one ND .nil)) (.one yt (.one e17 .nil))))) (.node 26 (.node 21 (.node 19 (.one e18 .nil) (.one e19 (.one e20 .nil))) (.node 23 (.one e21 (.one e22 .nil)) (.one e23 (.one e24 .nil)))) (.node 31 (.node 27 (.one e26 .nil) (.one Wv (.one e30 .nil))) (.node 33 (.one e31 (.one e32 .nil)) (.one e33 (.one e34 .nil)))))) (.node 49 (.node 42 (.node 38 (.node 36 (.one e35 .nil) (.one e36 (.one e37 .nil))) (.node 40 (.one e38 (.one e39 .nil)) (.one Wu (.one e41 .nil)))) (.node 45 (.node 43 (.one e42 .nil) (.one e43 (.one e44 .nil))) (.node 47 (.one e45 (.one e46 .nil)) (.one e47 (.one e48 .nil))))) (.node 61 (.node 57 (.node 50 (.one e49 .nil) (.one e50 (.one e51 .nil))) (.node 59 (.one e57 (.one ua .nil)) (.one e59 (.one e60 .nil)))) (.node 64 (.node 62 (.one Br .nil) (.one e62 (.one e63 .nil))) (.node 66 (.one e64 (.one e65 .nil)) (.one e66 (.one e67 .nil))))))) (.node 97 (.node 83 (.node 74 (.node 71 (.node 69 (.one e68 .nil) (.one e69 (.one e70 .nil))) (.node 72 (.one e71 .nil) (.one e72 (.one e73 .nil)))) (.node 77 (.node 75 (.one e74 .nil) (.one e75 (.one e76 .nil))) (.node 79 (.one e77 (.one e78 .nil)) (.one e79 (.one e82 .nil))))) (.node 90 (.node 86 (.node 84 (.one e83 .nil) (.one AP (.one Bq .nil))) (.node 88 (.one e86 (.one e87 .nil)) (.one e88 (.one e89 .nil)))) (.node 93 (.node 91 (.one e90 .nil) (.one e91 (.one e92 .nil))) (.node 95 (.one e93 (.one e94 .nil)) (.one NC (.one NB .nil)))))) (.node 111 (.node 104 (.node 100 (.node 98 (.one Bp .nil) (.one e98 (.one e99 .nil))) (.node 102 (.one T4 (.one T3 .nil)) (.one T1 (.one T0 .nil)))) (.node 107 (.node 105 (.one SZ .nil) (.one SY (.one SX .nil))) (.node 109 (.one SW (.one SU .nil)) (.one SR (.one SP .nil))))) (.node 118 (.node 114 (.node 112 (.one SN .nil) (.one SK (.one SJ .nil))) (.node 116 (.one SI (.one SH .nil)) (.one SF (.one SE .nil)))) (.node 121 (.node 119 (.one SD .nil) (.one SC (.one SB .nil))) (.node 123 (.one SA (.one Sz .nil)) (.one M7 (.one Sy .nil)))))))) (.node 183 (.node 154 (.node 140 (.node 133 (.node 130 (.node 128 (.one Sw .nil) (.one kX (.one M6 .nil))) (.node 131 (.one Sv .nil) (.one Su (.one AQ .nil)))) (.node 136 (.node 134 (.one mK .nil) (.one Ss (.one M5 .nil))) (.node 138 (.one Sr (.one M4 .nil)) (.one Sq (.one Sp .nil))))) (.node 147 (.node 143 (.node 141 (.one EF .nil) (.one EE (.one M3 .nil))) (.node 145 (.one So (.one LZ .nil)) (.one Sm (.one Sl .nil)))) (.node 150 (.node 148 (.one Sk .nil) (.one Sj (.one Si .nil))) (.node 152 (.one Sh (.one Sf .nil)) (.one Se (.one Sd .nil)))))) (.node 169 (.node 161 (.node 157 (.node 155 (.one Sc .nil) (.one LY (.one Sb .nil))) (.node 159 (.one Sa (.one S9 .nil)) (.one S8 (.one S7 .nil)))) (.node 165 (.node 163 (.one S6 .nil) (.one LW (.one S5 .nil))) (.node 167 (.one S4 (.one S2 .nil)) (.one RY (.one RX .nil))))) (.node 176 (.node 172 (.node 170 (.one RV .nil) (.one RU (.one HI .nil))) (.node 174 (.one HH (.one kW .nil)) (.one ED (.one RR .nil)))) (.node 179 (.node 177 (.one RN .nil) (.one RM (.one EC .nil))) (.node 181 (.one EB (.one RJ .nil)) (.one EA (.one LV .nil))))))) (.node 210 (.node 196 (.node 189 (.node 186 (.node 184 (.one a0v .nil) (.one RI (.one RH .nil))) (.node 187 (.one RE .nil) (.one RD (.one HE .nil)))) (.node 192 (.node 190 (.one a0u .nil) (.one a0t (.one a0s .nil))) (.node 194 (.one LU (.one RC .nil)) (.one RB (.one Rz .nil))))) (.node 203 (.node 199 (.node 197 (.one Ry .nil) (.one Rx (.one Rw .nil))) (.node 201 (.one Rv (.one Ru .nil)) (.one Rs (.one Rr .nil)))) (.node 206 (.node 204 (.one Rq .nil) (.one Rp (.one HD .nil))) (.node 208 (.one HC (.one Rn .nil)) (.one Rm (.one Rl .nil)))))) (.node 224 (.node 217 (.node 213 (.node 211 (.one Rk .nil) (.one Rj (.one LS .nil))) (.node 215 (.one Ri (.one Rg .nil)) (.one Rf (.one Re .nil)))) (.node 220 (.node 218 (.one a0r .nil) (.one Rd (.one Rb .nil))) (.node 222 (.one HB (.one LR .nil)) (.one Ra (.one R9 .nil))))) (.node 232 (.node 228 (.node 226 (.one oR .nil) (.one R8 (.one R7 .nil))) (.node 230 (.one a0q (.one R6 .nil)) (.one R5 (.one R4 .nil)))) (.node 235 (.node 233 (.one R3 .nil) (.one Ez (.one R1 .nil))) (.node 239 (.one R0 (.one vW .nil)) (.one QZ (.one QY .nil)))))))))
end T
namespace T
open Go V
variable {a b c d e f g:Nat} {u v w:Value} {i j k:Int} {t:TypeId} {p:List Value} {q:Bool} {n:IntKind} {x y z:TV} {r s:List TO} {o:List TV}
instance small:Small prog:={
 bs:=λi z h1 h2=>by have:((prog.info? 339).map λi=>i.zero.map λz=>z.cells.size)=some (some 2):=Y;rw [h1] at this;simp only [zM,h2,xK] at this;exact this
 bp:=λi z h1 h2=>by have:((prog.info? 341).map λi=>i.zero.map λz=>z.cells.size)=some (some 14):=Y;rw [h1] at this;simp only [zM,h2,xK] at this;exact this}
def qm (P:aB):qI:=λK=>
 if K=25 then some (gu P 79) else if K=52 then some (gu P 80) else if K=56 then some (gu P 22) else if K=242 then some H0 else if K=225 then some (DI P) else if K=236 then some (H5 P) else if K=238 then some (H4 P) else if K=240 then some yi else none
def sT (P:aB):qI:=λK=>if K=6 then some rG else qm P K
theorem oS (d:ao) (s:ae) (e f:Nat):bI a b c d s e=bI a b c d s f:=by unfold bI;split;split;rfl;split;rfl;rw [sN];rfl;rfl
theorem rU (h:bI a b 0 o r c=some (x,s)):s=r:=by unfold bI at h;split at h;split at h;cases h;split at h;cases h;rfl;have ⟨p,d,a⟩:=map_some h;cases a;unfold cq at d;split at d;cases d;simp only at d;split at d;split at d;cases d;rfl;cases d;rfl;cases d;cases h;cases h
section
variable {D:qI} {E:Nat->Bool} {L n:Nat}
theorem EH {f:ao->ae->Nat->Option (TV×ae)} {g:aQ->AH->Option (aq×AH)} (l:AA.rw a) (o:D (real a)=some g) (h:s5 f g):fj prog AA (λd y s c=>if d=a then f y s c else none) (fG prog Pl D E L (n+1)):=by intro d k s c r w b _ X z C H x i m;dsimp only at b;split at b;rename_i e;subst e;rw [l] at i ⊢;have ⟨v,j,A,F,p,q,t⟩:=h k s c r w b X z C H x i m;refine ⟨v,j,A,F,?_,q,t,λe=>by cases e⟩;simp only [fG,o];exact p;cases b
theorem EI {f:ao->ae->Nat->Option (TV×ae)} {g:aQ->AH->Option (aq×AH)} (p:AA.rw a=false) (w:D (real a)=some g) (h:s5 f g) (q:∀c s b o,f c s b=f c s o) (x:∀c s b r i,f c s b=some (r,i)->i=s):fj prog AA (λj c s b=>if j=a then f c s b else none) (fG prog Pl D E L (n+1)):=by intro j k s b r i d _ X F K H C l t;dsimp only at d;split at d;rename_i e;subst e;rw [p] at l ⊢;have ⟨v,m,J,M,y,z,A⟩:=h k s s.length r i (by rw [q k s s.length b];exact d) X F K H C l t;refine ⟨v,m,J,M,?_,z,A,λ_=>x _ _ _ _ _ d⟩;simp only [fG,w];exact y;cases d
theorem Jx:WN prog 79 4 32:={
 of:=by have ⟨c,d,a⟩:=yR.1 (by kernel_rfl:(prog.info? 96).map (λi=>(i.size,i.bytes,i.zero.map λz=>(z.cells.toList.all ak,z.cells.size)))=some (4,32,some (true,4)));have ⟨f,e,b⟩:=yR.1 (yH (·.2.2) a);exact ⟨96,c,f,Y,d,yH (·.1) a,yH (·.2.1) a,e,yH (·.1) b,(yH (·.2) b).trans (yH (·.1) a).symm⟩}
theorem T6:WN prog 80 4 24:={
 of:=by have ⟨c,d,a⟩:=yR.1 (by kernel_rfl:(prog.info? 104).map (λi=>(i.size,i.bytes,i.zero.map λz=>(z.cells.toList.all ak,z.cells.size)))=some (4,24,some (true,4)));have ⟨f,e,b⟩:=yR.1 (yH (·.2.2) a);exact ⟨104,c,f,Y,d,yH (·.1) a,yH (·.2.1) a,e,yH (·.1) b,(yH (·.2) b).trans (yH (·.1) a).symm⟩}
theorem T7:WN prog 22 1 8:={
 of:=by have ⟨c,d,a⟩:=yR.1 (by kernel_rfl:(prog.info? 2).map (λi=>(i.size,i.bytes,i.zero.map λz=>(z.cells.toList.all ak,z.cells.size)))=some (1,8,some (true,1)));have ⟨f,e,b⟩:=yR.1 (yH (·.2.2) a);exact ⟨2,c,f,Y,d,yH (·.1) a,yH (·.2.1) a,e,yH (·.1) b,(yH (·.2) b).trans (yH (·.1) a).symm⟩}
theorem QK (i:∀a g,qm prog a=some g->D a=some g) {f:ao->ae->Nat->Option (TV×ae)} (p:a≠6) (d:AA.tp a=some f):fj prog AA (λo m s l=>if o=a then f m s l else none) (fG prog Pl D E L (n+1)):=by
 replace d:Cn a=some f:=d;unfold Cn at d;have gt:∀{j b:Option (ao->ae->Nat->Option (TV×ae))} {c:Prop} [Decidable c],(if c then j else b)=some f->(c/\j=some f)\/(¬c/\b=some f):=by intro j b c _ h;split at h;rename_i k;exact .inl ⟨k,h⟩;rename_i k;exact .inr ⟨k,h⟩
 rcases gt d with ⟨rfl,e⟩|⟨_,d⟩;cases e;exact EI Y (i 25 _ rfl) (nA Jx O O (.inl rfl)) (λ_ _ _ _=>oS ..) (λ_ _ _ _ _ h=>rU h);rcases gt d with ⟨rfl,e⟩|⟨_,d⟩;cases e;exact EH Y (i 25 _ rfl) (nA Jx O O (.inr rfl));rcases gt d with ⟨rfl,e⟩|⟨_,d⟩;cases e;exact EI Y (i 56 _ rfl) (nA T7 O O (.inl rfl)) (λ_ _ _ _=>oS ..) (λ_ _ _ _ _ h=>rU h);rcases gt d with ⟨rfl,e⟩|⟨_,d⟩;cases e;exact EI Y (i 52 _ rfl) (nA T6 O O (.inl rfl)) (λ_ _ _ _=>oS ..) (λ_ _ _ _ _ h=>rU h);rcases gt d with ⟨rfl,e⟩|⟨_,d⟩;cases e;exact EH Y (i 242 _ rfl) OW;rcases gt d with ⟨rfl,e⟩|⟨_,d⟩;cases e;exact EH Y (i 225 _ rfl) (OZ Wy);rcases gt d with ⟨rfl,e⟩|⟨_,d⟩;cases e;exact EH Y (i 236 _ rfl) (OY Wy);rcases gt d with ⟨rfl,e⟩|⟨_,d⟩;cases e;exact EH Y (i 238 _ rfl) (OX Wy);rcases gt d with ⟨rfl,e⟩|⟨_,d⟩;cases e;refine EI Y (i 240 _ rfl) Kv (λ_ _ _ _=>rfl) (λm s l r q h=>?_);unfold nP at h;split at h;split at h;cases h;rfl;cases h;cases h;rcases gt d with ⟨rfl,e⟩|⟨_,d⟩;exact absurd rfl p;cases d
theorem Eo:∀K f,qm prog K=some f->da prog (λa b H=>if a=K then f b H else none):=by intro K f h;unfold qm at h;split at h;rename_i e;subst e;cases h;exact YQ;split at h;rename_i e;subst e;cases h;exact YP;split at h;rename_i e;subst e;cases h;exact YO;split at h;rename_i e;subst e;cases h;exact P5;split at h;rename_i e;subst e;cases h;exact P9;split at h;rename_i e;subst e;cases h;exact P8;split at h;rename_i e;subst e;cases h;exact P7;split at h;rename_i e;subst e;cases h;exact P6;cases h
end
end T
namespace T
open Go V Q
variable {a b c d e f g:Nat} {u v w:Value} {i j k:Int} {t:TypeId} {p:List Value} {q:Bool} {n:IntKind} {x y z:TV} {r s:List TO} {o:List TV}
def WJ:List UInt8:=[102,110,32,109,97,105,110,40,41,32,123,32,118,97,114,32,97,58,32,105,110,116,32,61,32,50,59,32,119,104,105,108,101,32,97,32,62,32,48,32,123,32,97,32,61,32,97,32,45,32,49,59,32,125,32,112,114,105,110,116,32,97,59,32,125]
def awV:TV:=.tu [.ag [.sl false [[U 1,I 1,I 1,I 18,I 0,S []],[U 4,I 1,I 1,I 17,I 0,S [109,97,105,110]],[U 14,I 0,I 0,I 0,I 0,S []],[U 6,I 1,I 11,I 15,I 0,S []],[U 7,I 1,I 13,I 2,I 0,S [97]],[U 15,I 1,I 20,I 0,I 0,S []],[U 21,I 1,I 26,I 0,I 2,S []],[U 10,I 1,I 29,I 9,I 0,S []],[U 31,I 1,I 37,I 2,I 10,S []],[U 26,I 1,I 35,I 0,I 0,S [97]],[U 21,I 1,I 39,I 0,I 0,S []],[U 6,I 1,I 41,I 5,I 0,S []],[U 8,I 1,I 43,I 4,I 0,S []],[U 26,I 1,I 43,I 0,I 0,S [97]],[U 31,I 1,I 49,I 2,I 2,S []],[U 26,I 1,I 47,I 0,I 0,S [97]],[U 21,I 1,I 51,I 0,I 1,S []],[U 12,I 1,I 56,I 1,I 0,S []],[U 26,I 1,I 62,I 0,I 0,S [97]]],.sl false [[I 0,I 0,I 0],[I 0,I 0,I 0],[I 0,I 0,I 0],[I 0,I 0,I 0],[I 1,I 0,I 0],[I 1,I 0,I 0],[I 1,I 0,I 0],[I 0,I 0,I 1],[I 2,I 0,I 0],[I 1,I 0,I 0],[I 1,I 0,I 0],[I 0,I 0,I 0],[I 0,I 0,I 2],[I 1,I 0,I 0],[I 1,I 0,I 0],[I 1,I 0,I 0],[I 1,I 0,I 0],[I 0,I 0,I 3],[I 1,I 0,I 0]],.sl false [[U 0,I 0],[U 1,I 0],[U 2,I 0],[U 3,I 0],[U 4,I 0],[U 5,I 0]],.sl false [],.sl false [],.sl false [[S [109,97,105,110],I 1,I 0,I 0,I 0,I 1,I 0,I 4]],.sl false [[I 1]],.sl false [[I 0,S [97],I 0,I 1,I 4]],.sl false [[I 0,I 4,I 1,I 13],[I 0,I 7,I 1,I 29],[I 0,I 12,I 1,I 43],[I 0,I 17,I 1,I 56]]],.ag [I 0,I 0,I 0]]
def awM:Tc:=λK c s a=>bif Nat.beq K 14 then (match c,s,a with
 | [.v (.string b)],[],0=>bif b.data.toList==WJ then some (awV,[]) else none
 | _,_,_=>none) else none
theorem aw1:lY prog awD (λ_ _ _ _=>none) 60 80 14 [S WJ] [] 0=some (awV,[]):=Y
theorem aw2:lY prog awD awM 60 80 6 [] [] 0=some (B true,[]):=Y
theorem MZ:∀K g s a p,awM K g s a=some p->∃m,tc prog AA Pl ng m K g s a=some p:=by
 intro K g s a p h;unfold awM at h;cases c:Nat.beq K 14 with
 | false=>rw [c] at h;cases h
 | true=>
  cases zU c;rw [c] at h;simp only [cond_true] at h;split at h;rename_i b;cases f:b.data.toList==WJ with
  | false=>rw [f] at h;cases h
  | true=>
   rw [f] at h;cases h;have e:b=⟨WJ.toArray⟩:=by
    have:=eq_of_beq f;cases b with
    | mk d=>cases d with
     | mk l=>simp only at this;rw [this]
   rw [e];exact tJ (λ_ _ _ _ _ h=>by cases h) 80 _ _ _ _ _ aw1
  cases h
theorem UR:∃n,tc prog AA Pl ng n 6 [] [] 0=some (B true,[]):=tJ MZ 80 _ _ _ _ _ aw2
def P4 (K:Nat):Bool:=gL K||Nat.beq K 6
theorem od (h:(gL a||Nat.beq a 6)):qm prog a=none:=by unfold qm;split;rename_i e;subst e;cases h;split;rename_i e;subst e;cases h;split;rename_i e;subst e;cases h;split;rename_i e;subst e;cases h;split;rename_i e;subst e;cases h;split;rename_i e;subst e;cases h;split;rename_i e;subst e;cases h;split;rename_i e;subst e;cases h;rfl
theorem mixed:prog.follows .mixedOrders:=Y
theorem Yq:St (λ_=>False) (λ_ _ _=>none) (λ_=>none) 0 [] (aI []) [] [] []:={
 tm:=λt=>.u
 ow:=λt i j b a n e _=>by cases i <;> cases j <;> simp [aI,eG,iG] at e
 ob:=λr c o h=>by cases r <;> simp [T.ob] at h
 lt:=λ_ _ h=>by cases h
 fA:=λ_ _ _ _ h=>by cases h
 mJ:=zC _
 xl:=λ_ h=>h.elim
 xo:=λ_ h=>h.elim}
theorem call6 (w:World) (h:V.Rel (λ_=>none) [] w):Calls prog 6 #[] w λe o=>∃v d a,e= .returned v/\V.VR d (.bool true) v/\V.Rel d a o/\V.Ext (λ_=>none) [] w d a o:=by
 have ⟨n,r⟩:=UR;have t:=qc (L:=n) (dp:=ng) (gL:=P4) (λK p=>by
   have l:(gL (real K)||Nat.beq (real K) 6):=by unfold ng at p;rcases Bool.or_eq_true_iff.1 p with i|i;rw [<-lM,i];rfl;rw [zU i];rfl
   exact ⟨od l,l,λq c b j=>(nC l b j).2⟩) (λK f m k b=>QK (λK g h=>h) (λe=>by subst e;cases k) b) n
 obtain ⟨v,a,E,F,y,z,_,_⟩:=t 6 [] [] 0 _ _ r Y _ _ _ [] [] (by
  have:(bif AA.rw 6 then 0 else ([]:ae).length)=0:=by cases AA.rw 6 <;> rfl
  rw [this];exact Yq) rfl
 have x:v= .bool true:=by have:=z.tm 0;have:=this;cases this;rfl
 subst x;have s:=tX (L:=n) mixed Eo (λK q c k b j=>(nC k b j).1) n;refine (s 6 [] [] _ a y Y _ w [] h .nil).mono ?_;rintro e o ⟨v,d,rfl,A,C,D⟩;exact ⟨v,d,a,rfl,A,C,D⟩
theorem LF:∀K f,sT prog K=some f->da prog (λa b H=>if a=K then f b H else none):=by intro K f h;unfold sT at h;split at h;rename_i e;subst e;cases h;exact H7 call6;exact Eo K f h
theorem GO (h:dp a):real a≠6:=by intro e;rw [lM,e] at h;cases h
theorem EM {Q:TV->Prop} (h:EP prog a o Q) (y:eD prog (real a)) {X:Nat->Prop} {A:aH} {C:Nat->Option Loc} {H:AH} (M:St X A C 0 H (aI o) [] [] p) (F:p.length=o.length) {k:au} {w:World} {s:aQ} (i:V.Rel k H w) (P:cd k p s):
  Calls prog (real a) s.toArray w λe t=>∃r v j g d l,Q r/\TR l (Mu X l [] []) d r v/\e= .returned j/\V.VR g v j/\V.Rel g d t/\V.Ext k H w g d t:=by
 obtain ⟨n,r,s',J,E,rfl⟩:=h [] 0;have N:=qc (L:=n) (iN:=sT prog) (dp:=dp) (gL:=gL) (λa m=>by
   have i:(gL (real a)||Nat.beq (real a) 6):=by rw [<-lM,m];rfl
   refine ⟨?_,by rw [<-lM];exact m,λD c b q=>(nC i b q).2⟩;unfold sT;rw [zO (GO m)];exact od i) (λa f b2 z b=>by
   by_cases x:a=6;subst x;have:f=iX:=by have:AA.tp 6=some iX:=Y;rw [this] at b;cases b;rfl
   subst this;exact EI Y rfl GU (λ_ _ _ _=>rfl) (λo b6 fl r s' h=>by unfold iX at h;split at h;cases h;rfl;cases h)
   refine QK (λa b1 h=>?_) x b;unfold sT;rw [zO];exact h;rintro rfl;cases h) n
 have ⟨v,d,l,c2,R,q2,_,_⟩:=N a o [] 0 _ _ J y X A C H p (by
  have:(bif AA.rw a then 0 else ([]:ae).length)=0:=by cases AA.rw a <;> rfl
  rw [this];exact M) F
 have K:=tX (L:=n) mixed (dp:=gL) LF (λa D c z b q=>(nC (by rw [z];rfl) b q).1) n;refine (K (real a) p H v d R y k w s i P).mono ?_;rintro e t ⟨j,g,rfl,r1,r2,r3⟩;exact ⟨r,v,j,g,d,l,E,q2.tm 0,rfl,r1,r2,r3⟩
end T
end Go.Proofs.YtglilpjokhgidaaGreatDoor
