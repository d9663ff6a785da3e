/- A part of TopRoom's proof. No condition. -/
import Derived.Test.YtglilpjokhgidaaGreatDoorD
import Derived.Test.YtglilpjokhgidaaGreatDoorProg
import Derived.WalkKit
import Derived.WalkSpells
import Derived.WalkLawsBesides
import Derived.Lib.Walk
import Derived.Lib.Builder
import Derived.Lib.UnsafeStr
import Derived.OwnWalk
import Derived.Shelf.RegionOpenPlain
import Derived.Lib.SliceRun
import Derived.Shelf.Strconv.Itoa3
set_option maxRecDepth 100000
set_option maxHeartbeats 4000000
set_option linter.unusedVariables false
set_option linter.unusedSimpArgs false
namespace Go.Proofs.YtglilpjokhgidaaGreatDoor
open Go.Proofs.Tryz (prog)
open Go.IntKind
namespace T
open Go V Q
variable {a b c d e f g:Nat} {u v w:Value} {i j k:Int} {t:TypeId} {p:List Value} {q:Bool} {n:IntKind} {x y z:TV} {r s:List TO} {o:List TV}
section
variable {N:List Nd} {S:SS} {M:List Mk} {J D E h:GS} {f a lo hi ns:Nat} {ks:aA} {res:Int} {A B:List IN}
theorem land_eq (h:jo (D.put i j k) E B) (a:D.fr<=D.ins.length) (y:IN):E.ins.set (E.fr+(D.ins.length-D.fr)) y=D.ins++y::B:=by
 have e:E.fr+(D.ins.length-D.fr)=D.ins.length:=by rw [h.fr];simp;omega
 rw [e,h.ins];simp [GS.put]
theorem EA (h:jo (D.put i j k) E B) (a:D.fr<=D.ins.length):E.ins[E.fr+(D.ins.length-D.fr)]? =some ⟨i,j,k⟩:=by
 have e:E.fr+(D.ins.length-D.fr)=D.ins.length:=by rw [h.fr];simp;omega
 rw [e,h.ins];simp [GS.put]
theorem lS (h:jo (D.put i j k) E B) (a:D.fr<=D.ins.length):E.ins.length-E.fr=D.ins.length-D.fr+1+B.length/\E.fr<=E.ins.length:=by rw [h.ins,h.fr];simp;omega
theorem Hw {pre:ae} (h:jo (D.put i j k) E B) (a:D.fr<=D.ins.length) (f:E.ins.length<100000000) (d:b<=pre.length):EN prog 88 [.p true (pre.length+1) 0,I ((D.ins.length-D.fr:Nat):Int)] (E.mem N S pre) b λr e=>r= .tu []/\e=({E with ins:=D.ins++⟨i,((D.ins.length-D.fr+1+B.length:Nat):Int),k⟩::B}:GS).mem N S pre:=by have c:=lS h a;have:=m88 (N:=N) (S:=S) c.2 O (EA h a) d;simp only [land_eq h a,c.1] at this;exact this
theorem jo.land {l:Int} (h:jo J D A) (a:jo (D.put i j l) E B):jo J {E with ins:=D.ins++⟨i,k,l⟩::B} (A++⟨i,k,l⟩::B):=by have d:=h.lo;have e:=h.hi;have b:=a.lo;have c:=a.hi;simp at b c;exact ⟨by simp only [h.ins,xA],a.fns.trans h.fns,a.fr.trans h.fr,a.tx,by simp only;omega,W⟩
theorem qL.ud (h:qL 37 N S M f b) (m:GI J (1+sz N b)):∃(a:GS) (X:List IN) (e:dj),kq (fS S f) J a X (some 0) e/\X.length<=4*(1+sz N b)/\(e=none\/e=some 0)/\(eO N b->e=none)/\
  ∀(c:ae) (d:Nat),d<=c.length->EN prog 37 [.p true (c.length+1) 0,I b] (J.mem N (SM S M) c) d λr n=>r= .tu []/\n=a.mem N (SM S M) c:=by
 obtain ⟨a,X,e,g,i,j,k,_,l⟩:=h J m;exact ⟨a,X,e,g,i,j,k,l⟩
theorem GI.of {a:GS} {X:List IN} (d:GI J b) (h:jo J a X) (k:X.length+4*c<=4*b):GI a c:=by
 have f:=d.fr;have g:=d.sl;have i:=d.il;have j:=h.hi;have e:a.ins.length=J.ins.length+X.length:=by rw [h.ins];simp
 exact ⟨by rw [h.fr];omega,h.tx,O,O⟩
theorem jo.AG {a:GS} {X:List IN} (h:jo J a X) (b x l:Int):jo J (a.put b x l) (X++[⟨b,x,l⟩]):=h.put _
section
variable (hY:YN N S M res f a ks)
include hY
theorem Px (r:(nd N a).kind=9) (h3:ks.length=2) (ih:∀k,a<k->k<N.length->k+1+sz N k<=a+1+sz N a->21<=(nd N k).kind->(nd N k).kind<=32->xj N S M f k) (ib:∀k,a<k->k<N.length->k+1+sz N k<=a+1+sz N a->(nd N k).kind=6->qL 37 N S M f k):qL 58 N S M f a:=by
 intro J b;have hN:=hY.wt.mP;have e:=hY.jz;unfold cu dC at e;simp [r] at e;have e:ax N ks=[101,98]:=by rcases e with h|h;exact h;have:=yC List.length h;simp [ax] at this;omega
 obtain ⟨g,i,rfl,P,R⟩:=lT e;have s:=hY.kc.all g Z;have t:=hY.kc.all i Z;have v:=aS P;have b6:=jd R;have ⟨i1,i2,i3,i4,i5⟩:=hY.kc.inv;have ⟨i6,_,_,_,i7⟩:=i5.inv;have i8:=i7.eE;have c7:(1+sz N g)+(1+sz N i)=sz N a:=by rw [i6,i1];omega
 have X:=gh.1 ((hY.rz.2 _ hY.kc).2.1 O O g Z);have H:GI (J.put 1 (aF M a).ai (nd N a).line) (1+sz N g):=b.put O ..;have ⟨D,A,a1,a2,a3⟩:=(ih g O s.2.1 s.2.2.2 v.1 v.2).Jy H;have a1:=a1 0;rw [X] at a1;have p0:=kq.pt (Γ:=fS S f) (x:=(aF M a).ai) (l:=(nd N a).line) b.fr b.tx;have j:=p0.trans a1;have p:GI (D.put 12 0 (nd N a).line) (1+sz N i):=b.of (j.ad.AG ..) W;have ⟨E,B,c4,c,b2,b3,b4,b5⟩:=(ib i O t.2.1 t.2.2.2 b6).ud p;have o:=a1.AT;have c5:D.ins.length+1<=9000000:=by have:=p.il;simp at this;omega
 have L:E.ins.length<100000000:=by have:=p.il;rw [c.ad.ins];simp at this ⊢;omega
 have c6:=lS c.ad o;have K:=fy j.ad b.fr;have c3:kq (fS S f) J {E with ins:=D.ins++⟨12,((D.ins.length-D.fr+1+B.length:Nat):Int),(nd N a).line⟩::B} ((⟨1,(aF M a).ai,(nd N a).line⟩::A)++⟨12,((D.ins.length-D.fr+1+B.length:Nat):Int),(nd N a).line⟩::B) (some 0) (some 0):=by refine ⟨jo.land j.ad c.ad,b.fr,?_⟩;have s1:=j.sg.mono (show D.strs.length<=E.strs.length from c.ad.lo);have w:=c.sg;rw [show (D.put 12 0 (nd N a).line).ins.length-(D.put 12 0 (nd N a).line).fr=D.ins.length-D.fr+1 by simp;omega] at w;have s3:=fQ.br (l:=(nd N a).line) w b3;have:=s1.app (by rw [<-K];exact s3);exact this
 refine ⟨_,_,_,c3,W,.inr rfl,λhs=>?_,.inr ⟨_,_,rfl,rfl⟩,λm n d=>?_⟩;exfalso;cases hs with
 | ret h=>omega
 | WA h F _ _=>have:=F.uniq hY.kc;simp at this
 | WS h _ _=>omega
 apply EW.o ud;have z:=aZ hY.lt;have C:=iT hY.mr hY.lt;have q:=ic (S:=SM S M) (pre:=m) (g:=J) (fl:=n) O hY.lt hY.nn hY.kc hY.le;have c0:=gP (S:=SM S M) (op:=1) (x:=(aF M a).ai) hY.lt b.fr (Zo b.il) d;have c1:=gP (S:=SM S M) (op:=12) (x:=0) hY.lt o O d;have y:=Hw (S:=SM S M) (N:=N) (pre:=m) c.ad o L d;simp at q;simp [Fk,GS.g1,GS.cs,CL.q q,C,CL.q c0,z,r,CL.q (a3 m n d),CL.q c1,CL.q (b5 m n d),CL.q y]
theorem KY (hk:(nd N a).kind=9) (h3:ks.length≠2) (ih:∀k,a<k->k<N.length->k+1+sz N k<=a+1+sz N a->21<=(nd N k).kind->(nd N k).kind<=32->xj N S M f k) (ib:∀k,a<k->k<N.length->k+1+sz N k<=a+1+sz N a->(nd N k).kind=6->qL 37 N S M f k):qL 58 N S M f a:=by
 intro J c;have hN:=hY.wt.mP;have n:=hY.jz;unfold cu dC at n;simp [hk] at n;have n:ax N ks=[101,98,98]:=by rcases n with d|d;have:=yC List.length d;simp [ax] at this;omega;exact d
 obtain ⟨o,t,v,rfl,e1,e6,f1⟩:=QR n;have c6:=hY.kc.all o Z;have c7:=hY.kc.all t Z;have c8:=hY.kc.all v Z;have c9:=aS e1;have f5:=jd e6;have f6:=jd f1;have ⟨i1,i2,i3,i4,i5⟩:=hY.kc.inv;have ⟨i6,_,_,_,i7⟩:=i5.inv;have ⟨i9,_,_,_,f7⟩:=i7.inv;have i8:=f7.eE;have g7:(1+sz N o)+(1+sz N t)+(1+sz N v)=sz N a:=by rw [i9,i6,i1];omega
 have f4:=gh.1 ((hY.rz.2 _ hY.kc).2.1 O O o Z);have d8:GI (J.put 1 (aF M a).ai (nd N a).line) (1+sz N o):=c.put O ..;have ⟨D,A,a1,a2,a3⟩:=(ih o O c6.2.1 c6.2.2.2 c9.1 c9.2).Jy d8;have a1:=a1 0;rw [f4] at a1;have p0:=kq.pt (Γ:=fS S f) (x:=(aF M a).ai) (l:=(nd N a).line) c.fr c.tx;have w:=p0.trans a1;have z:GI (D.put 12 0 (nd N a).line) (1+sz N t):=c.of (w.ad.AG ..) W;have ⟨E,B,e,m,b2,b3,b4,b5⟩:=(ib t O c7.2.1 c7.2.2.2 f5).ud z;have y:=a1.AT;have g5:D.ins.length+1<=9000000:=by have:=z.il;simp at this;omega
 have f2:=lS m.ad y;have g6:E.ins.length<9100000:=by have:=z.il;rw [m.ad.ins];simp at this ⊢;omega
 have b6:=fy w.ad c.fr;have bB:jo (D.put 12 0 (nd N a).line) (E.put 11 0 (nd N a).line) (B++[⟨11,0,(nd N a).line⟩]):=m.ad.AG ..;obtain ⟨j,d5⟩:∃j:Int,j=((D.ins.length-D.fr+1+(B++[(⟨11,0,(nd N a).line⟩:IN)]).length:Nat):Int):=⟨_,rfl⟩;obtain ⟨b,C⟩:∃b:GS,b={E with ins:=D.ins++⟨12,j,(nd N a).line⟩::B}:=⟨_,rfl⟩;have p:jo J b (([⟨1,(aF M a).ai,(nd N a).line⟩]++A)++⟨12,j,(nd N a).line⟩::B):=by rw [C];exact jo.land w.ad m.ad
 have e2:({E.put 11 0 (nd N a).line with ins:=D.ins++⟨12,j,(nd N a).line⟩::(B++[⟨11,0,(nd N a).line⟩])}:GS)=b.put 11 0 (nd N a).line:=by rw [C];simp [GS.put]
 have d7:b.fr<=b.ins.length:=by rw [p.fr,p.ins];have:=c.fr;simp;omega
 have f3:b.ins.length-b.fr=D.ins.length-D.fr+1+B.length:=by rw [fy p c.fr];simp at b6 ⊢;omega
 have X:GI (b.put 11 0 (nd N a).line) (1+sz N v):=c.of (p.AG ..) W;have ⟨h,q,e',c1,c2,K,c4,c5⟩:=(ib v O c8.2.1 c8.2.2.2 f6).ud X;have d9:h.ins.length<100000000:=by have:=X.il;rw [c1.ad.ins];simp at this ⊢;omega
 have f8:kq (fS S f) J {h with ins:=b.ins++⟨11,((b.ins.length-b.fr+1+q.length:Nat):Int),(nd N a).line⟩::q} ((([⟨1,(aF M a).ai,(nd N a).line⟩]++A)++⟨12,j,(nd N a).line⟩::B)++⟨11,((b.ins.length-b.fr+1+q.length:Nat):Int),(nd N a).line⟩::q) (some 0) (if e=none then e' else some 0):=by
  refine ⟨jo.land p c1.ad,c.fr,?_⟩;have f9:=c1.ad.lo;have g8:b.strs.length=E.strs.length:=by rw [C]
  have g4:=m.ad.lo;simp at f9 g4;have s1:=w.sg.mono (show D.strs.length<=h.strs.length by omega);have F:=m.sg.mono (show E.strs.length<=h.strs.length by omega);have H:=c1.sg;rw [show (D.put 12 0 (nd N a).line).ins.length-(D.put 12 0 (nd N a).line).fr=D.ins.length-D.fr+1 by simp;omega] at F;rw [show (b.put 11 0 (nd N a).line).ins.length-(b.put 11 0 (nd N a).line).fr=D.ins.length-D.fr+1+B.length+1 by simp;omega] at H;have hv:j=((D.ins.length-D.fr+1+B.length+1:Nat):Int):=by rw [d5];simp;omega
  rw [hv,f3,xA];apply s1.app;rw [<-b6];by_cases s:e=none;rw [zO s];exact fQ.br2 F H (.inl s);rw [zN s];have d6:e=some 0:=by rcases b3 with d|d;exact absurd d s;exact d
  exact fQ.br2 F (H.wk1 K) (.inr ⟨d6,rfl⟩)
 refine ⟨_,_,_,f8,W,?_,λhs=>?_,.inr ⟨_,_,rfl,rfl⟩,λi r g=>?_⟩;split;exact K;exact .inr rfl;cases hs with
 | ret d=>omega
 | WA d hc q1 q2=>have:=hc.uniq hY.kc;simp at this;obtain ⟨rfl,rfl,rfl⟩:=this;rw [zO (b4 q1)];exact c4 q2
 | WS d _ _=>omega
 apply EW.o ud;have ga:=aZ hY.lt;have gm:=iT hY.mr hY.lt;have L:=ic (S:=SM S M) (pre:=i) (g:=J) (fl:=r) O hY.lt hY.nn hY.kc hY.le;have c0:=gP (S:=SM S M) (op:=1) (x:=(aF M a).ai) hY.lt c.fr (Zo c.il) g;have d1:=gP (S:=SM S M) (op:=12) (x:=0) hY.lt y O g;have d2:=gP (S:=SM S M) (g:=E) (op:=11) (x:=0) (pre:=i) hY.lt f2.2 O g;have P:=Hw (S:=SM S M) (N:=N) (pre:=i) bB y W g;rw [<-d5,e2] at P;have R:=Hw (S:=SM S M) (N:=N) (pre:=i) c1.ad d7 d9 g;rw [show b.ins.length-b.fr=E.ins.length-E.fr by omega] at R;simp at L;rw [show b.ins.length-b.fr=E.ins.length-E.fr by omega];simp [Fk,GS.g1,GS.cs,CL.q L,gm,CL.q c0,ga,hk,CL.q (a3 i r g),CL.q d1,CL.q (b5 i r g),CL.q d2,CL.q P,CL.q (c5 i r g),CL.q R]
theorem L2 (t:(nd N a).kind=10) (ih:∀k,a<k->k<N.length->k+1+sz N k<=a+1+sz N a->21<=(nd N k).kind->(nd N k).kind<=32->xj N S M f k) (ib:∀k,a<k->k<N.length->k+1+sz N k<=a+1+sz N a->(nd N k).kind=6->qL 37 N S M f k):qL 58 N S M f a:=by
 intro J b;have hN:=hY.wt.mP;have m:=hY.jz;unfold cu dC at m;simp [t] at m;obtain ⟨g,h,rfl,X,b6⟩:=lT m;have v:=hY.kc.all g Z;have w:=hY.kc.all h Z;have z:=aS X;have c4:=jd b6;have ⟨i1,i2,i3,i4,i5⟩:=hY.kc.inv;have ⟨i6,_,_,_,i7⟩:=i5.inv;have i8:=i7.eE;have d4:(1+sz N g)+(1+sz N h)=sz N a:=by rw [i6,i1];omega
 have c3:=gh.1 ((hY.rz.2 _ hY.kc).2.1 O O g Z);have R:GI (J.put 1 (aF M a).ai (nd N a).line) (1+sz N g):=b.put O ..;have ⟨D,A,a1,a2,a3⟩:=(ih g O v.2.1 v.2.2.2 z.1 z.2).Jy R;have a1:=a1 0;rw [c3] at a1;have p0:=kq.pt (Γ:=fS S f) (x:=(aF M a).ai) (l:=(nd N a).line) b.fr b.tx;have o:=p0.trans a1;have n:GI (D.put 12 0 (nd N a).line) (1+sz N h):=b.of (o.ad.AG ..) W;have ⟨E,B,c7,e,b2,b3,b4,b5⟩:=(ib h O w.2.1 w.2.2.2 c4).ud n;have j:=a1.AT;have c8:D.ins.length+1<=9000000:=by have:=n.il;simp at this;omega
 have c2:=lS e.ad j;have c9:E.ins.length<9100000:=by have:=n.il;rw [e.ad.ins];simp at this ⊢;omega
 have s:=fy o.ad b.fr;obtain ⟨pp,y⟩:∃pp,pp=J.ins.length-J.fr:=⟨_,rfl⟩;have p:jo (D.put 12 0 (nd N a).line) (E.put 11 pp (nd N a).line) (B++[⟨11,pp,(nd N a).line⟩]):=e.ad.AG ..;have c5:kq (fS S f) J {E.put 11 pp (nd N a).line with ins:=D.ins++⟨12,((D.ins.length-D.fr+1+(B++[(⟨11,pp,(nd N a).line⟩:IN)]).length:Nat):Int),(nd N a).line⟩::(B++[⟨11,pp,(nd N a).line⟩])} (([⟨1,(aF M a).ai,(nd N a).line⟩]++A)++⟨12,((D.ins.length-D.fr+1+(B++[(⟨11,pp,(nd N a).line⟩:IN)]).length:Nat):Int),(nd N a).line⟩::(B++[⟨11,pp,(nd N a).line⟩])) (some 0) (some 0):=by refine ⟨jo.land o.ad p,b.fr,?_⟩;have c6:=e.ad.lo;simp at c6;have C:=a1.sg.mono (show D.strs.length<=E.strs.length by omega);have F:=e.sg;rw [show (D.put 12 0 (nd N a).line).ins.length-(D.put 12 0 (nd N a).line).fr=pp+1+A.length+1 by simp at s ⊢;omega] at F;rw [show (J.put 1 (aF M a).ai (nd N a).line).ins.length-(J.put 1 (aF M a).ai (nd N a).line).fr=pp+1 by simp;have:=b.fr;omega] at C;rw [<-y,show D.ins.length-D.fr+1+(B++[(⟨11,pp,(nd N a).line⟩:IN)]).length=pp+1+A.length+1+B.length+1 by simp at s ⊢;omega];have:=fQ.K3 (a:=(aF M a).ai) (l:=(nd N a).line) (l':=(nd N a).line) (l'':=(nd N a).line) C F b3;simpa using this
 refine ⟨_,_,_,c5,W,.inr rfl,λhs=>by have:=hs.kd;omega,.inr ⟨_,_,rfl,rfl⟩,λd i c=>?_⟩;apply EW.o ud;have L:=aZ hY.lt;have P:=iT hY.mr hY.lt;have q:=ic (S:=SM S M) (pre:=d) (g:=J) (fl:=i) O hY.lt hY.nn hY.kc hY.le;have c0:=gP (S:=SM S M) (op:=1) (x:=(aF M a).ai) hY.lt b.fr (Zo b.il) c;rw [<-y] at c0;have H:=gP (S:=SM S M) (op:=12) (x:=0) (pre:=d) hY.lt j O c;have K:=gP (S:=SM S M) (g:=E) (op:=11) (x:=pp) (pre:=d) hY.lt c2.2 O c;have r:=Hw (S:=SM S M) (N:=N) (pre:=d) p j W c;simp at q;simp [Fk,GS.g1,GS.cs,CL.q q,P,CL.q c0,L,t,CL.q (a3 d i c),CL.q H,CL.q (b5 d i c),CL.q K];simp at r;simp [CL.q r]
end
end
section
variable {N:List Nd} {S:SS} {M:List Mk} {E D J h:GS} {f a lo hi ns:Nat} {ks:aA} {res:Int} {A B:List IN}
theorem Mp:∀(ks:aA) (lo hi:Nat),Kc N lo hi ks->(∀k∈ks,qL 58 N S M f k)->∀E:GS,GI E (hi-lo)->∃(G:Nat->GS) (X:List IN),G 0=E/\jo E (G ks.length) X/\X.length<=4*(hi-lo)/\(X=[]\/∃x g,X=x::g/\x.op=1)/\
  (∀d,(d=none\/d=some 0)->∃e,(e=none\/e=some 0)/\(d=none->e=none)/\((∃k l,ks=l++[k]/\eO N k)->e=none)/\fQ (fS S f) (G ks.length).strs.length (E.ins.length-E.fr) X d e)/\
  ∀(j k:Nat),ks[j]? =some k->∀(a:ae) (c:Nat),c<=a.length->EN prog 58 [.p true (a.length+1) 0,I k] ((G j).mem N (SM S M) a) c λr o=>r= .tu []/\o=(G (j+1)).mem N (SM S M) a:=by
 intro ks;induction ks with
 | nil=>intro lo hi _ _ E i;exact ⟨λ_=>E,[],rfl,.nil i.tx,Z,.inl rfl,λd m=>⟨d,m,λh=>h,λ⟨k,l,h,_⟩=>by simp at h,.nil⟩,λj k h=>by simp at h⟩
 | cons k ks ih=>
  intro lo hi n t E i;obtain ⟨rfl,q1,q2,q3,y⟩:=n.inv;have:=y.le;have C:=t k (xS ..);have v:GI E ((1+sz N k)+(hi-(k+1+sz N k))):=i.le O;have ⟨D,X,e,a1,a2,a3,a4,a5,a6⟩:=C E (v.le O);have ⟨G,g,A,p,b2,b3,b4,b5⟩:=ih _ hi y (λk n=>t k (yU _ n)) D (a1.ad.gi v a2);refine ⟨λj=>match j with|0=>E|j+1=>G j,X++g,rfl,a1.ad.trans p,W,?_,λd m=>?_,λj k' h=>?_⟩;rcases a5 with h|⟨x,z,h,hx⟩;rw [h];exact b3;exact .inr ⟨x,z++g,by rw [h];rfl,hx⟩;obtain ⟨b,K,L,R,P⟩:∃b,(b=none\/b=some 0)/\(d=none->b=none)/\(eO N k->b=none)/\fQ (fS S f) D.strs.length (E.ins.length-E.fr) X d b:=by rcases m with rfl|rfl;exact ⟨none,.inl rfl,λ_=>rfl,λ_=>rfl,.dead⟩;exact ⟨e,a3,λh=>(by cases h),a4,a1.sg⟩
  have ⟨F,H,q,J,s⟩:=b4 b K;refine ⟨F,H,λh=>q (L h),λ⟨kk,l,h,w⟩=>?_,?_⟩;cases l with
  | nil=>simp at h;obtain ⟨rfl,rfl⟩:=h;exact q (R w)
  | cons b6 l=>simp at h;exact J ⟨kk,l,h.2,w⟩
  rw [fy a1.ad i.fr] at s;exact (P.mono p.lo).app s;cases j with
  | zero=>cases h;show ∀(a:ae) (c:Nat),c<=a.length->EN prog 58 [.p true (a.length+1) 0,I k] (E.mem N (SM S M) a) c λr o=>r= .tu []/\o=(G 0).mem N (SM S M) a;rw [A];exact a6
  | succ j=>exact b5 j k' (Zs h)
theorem H4 (h:bK i=115):7<=i/\i<=13:=by
 unfold bK at h;repeat' split at h
 all_goals omega
theorem n37 (b:YN N S M res f a ks) (c:(nd N a).kind=6) (F:∀k,a<k->k<N.length->k+1+sz N k<=a+1+sz N a->7<=(nd N k).kind->(nd N k).kind<=13->qL 58 N S M f k):qL 37 N S M f a:=by
 intro E p;have H:=b.wt.mP;have g:=b.jz;unfold cu dC at g;simp [c] at g;have D:=b.kc.all;obtain ⟨G,X,s,t,e3,e4,e5,v⟩:=Mp ks (a+1) _ b.kc (λk c=>by have n:=D k c;have o:=H4 (g _ (dx c));exact F k O n.2.1 n.2.2.2 o.1 o.2) E (p.le O)
 have ⟨e,w,_,x,y⟩:=e5 (some 0) (.inr rfl);refine ⟨G ks.length,X,e,⟨t,p.fr,y⟩,O,w,λi=>?_,e4,λd m A=>?_⟩;cases i with
 | ret h=>omega
 | WA h _ _ _=>omega
 | WS h z i=>exact x ⟨_,_,b.kc.uniq z,i⟩
 apply EW.o e37;have r:=ic (S:=SM S M) (pre:=d) (g:=E) (fl:=m) O b.lt b.nn b.kc b.le;have K:=b.kc.length_le;have L:=b.le;simp [b37,CL.q r];rw [<-s];refine LP.ind (λj:Nat=>ks.length-j) (λj=>j<=ks.length) (λj=>[.p true (d.length+1) 0,.sl false (ks.map bF),I ks.length,I j]) (λ_=>[]) (λj=>(G j).mem N (SM S M) d) 0 (λ_ _=>⟨rfl,rfl,rfl⟩) (λj J k c=>?_) 0 O;simp [Cm];apply ST.dc<;>intro h;have C:j<ks.length:=by omega
 obtain ⟨l,q⟩:∃l,ks[j]? =some l:=⟨_,zA C⟩;simp [q,CL.q (v j l q d m A),wn (j:=j) O];exact c (j+1) _ _ _ Z rfl rfl O O;have:j=ks.length:=by omega
 subst this;simp
theorem x58 (j:BK N S M res f lo hi):∀(n a:Nat),N.length-a<n->a<N.length->lo<=a->a+1+sz N a<=hi->(7<=(nd N a).kind->(nd N a).kind<=13->qL 58 N S M f a)/\((nd N a).kind=6->qL 37 N S M f a):=by
 intro n;induction n with
 | zero=>intro a h;omega
 | succ n q=>intro a h v t w;have ⟨ks,c⟩:=O7 j v t O;have ix:∀k,a<k->k<N.length->k+1+sz N k<=a+1+sz N a->21<=(nd N k).kind->(nd N k).kind<=32->xj N S M f k:=λk r i s d e=>x86 j _ k (yK _) i O O d e;have m:∀k,a<k->k<N.length->k+1+sz N k<=a+1+sz N a->(nd N k).kind=6->qL 37 N S M f k:=λk r i s d=>(q k O i O O).2 d;have g:=c.kc.all;have l:=λk b d e=>ix k (Zo (g k b)) (g k b).2.1 (g k b).2.2.2 d e;refine ⟨λx y=>?_,λb=>n37 c b λk r i s d e=>(q k O i O O).1 d e⟩;have b:(nd N a).kind=7\/(nd N a).kind=8\/(nd N a).kind=9\/(nd N a).kind=10\/(nd N a).kind=11\/(nd N a).kind=12\/(nd N a).kind=13:=O;rcases b with b|b|b|b|b|b|b;exact Pz c b l;exact Py c b (λk b d e=>Iu j (g k b).2.1 (Zo (g k b)) (Zo (g k b)) ⟨d,e⟩) ix;by_cases p:ks.length=2;exact Px c b p ix m;exact KY c b p ix m;exact L2 c b ix m;by_cases o:res=0;exact Hu c b o;exact L1 c b o l;exact L0 c b l;exact KZ c b (λk b d e=>(j.rz k (Zo (g k b)) (Zo (g k b))).1.2 d e) l
end
end T
namespace T
open Go V Q
variable {a b c d e f g:Nat} {u w:Value} {i j k:Int} {t:TypeId} {p:List Value} {q:Bool} {n:IntKind} {x y z:TV} {r s:List TO} {o:List TV}
theorem PK {b:Type} {Inv:Nat->b->Prop} {Step:Nat->b->b->Prop} {g0:b} (i:Inv 0 g0):∀n:Nat,(∀j,j<n->∀g,Inv j g->∃c,Step j g c/\Inv (j+1) c)->∃G:Nat->b,G 0=g0/\(∀j,j<=n->Inv j (G j))/\∀j,j<n->Step j (G j) (G (j+1)):=by
 intro n;induction n with
 | zero=>intro _;exact ⟨λ_=>g0,rfl,λj d=>by have:j=0:=O;subst this;exact i,λj d=>O⟩
 | succ n m=>
  intro h;have ⟨G,f,e,e3⟩:=m λj d=>h j O;have ⟨c,k,l⟩:=h n O _ (e n O);refine ⟨λj=>if j<=n then G j else c,by simp [f],λj d=>?_,λj d=>?_⟩;by_cases a:j<=n;simp [a,e j a];have:j=n+1:=by omega
  subst this;simp only [zN a];exact l;by_cases a:j<n;simp [show j<=n by omega,show j+1<=n by omega,e3 j a];have:j=n:=by omega
  subst this;simp only [zO (zE _),zN (show ¬j+1<=j by omega)];exact k
section
variable {N:List Nd} {S:SS} {M:List Mk} {K:aA} {g D E h:GS} {J a:Nat}
structure X0 (S:SS) (g:GS) (i:Nat) (YY9:List IN) (l:Int) (at_:Nat):Prop where
 en:g.fns[i]? =some ⟨at_,YY9.length+1,(aN S.fn i).params,(aN S.fn i).ah,if (aN S.fn i).result=0 then 0 else 1⟩
 has:∀q x,(YY9++[⟨26,0,l⟩])[q]? =some x->g.ins[at_+q]? =some x
 sg:fQ (fS S i) g.strs.length 0 (YY9++[⟨26,0,l⟩]) (some 0) none
 hd:YY9=[]\/∃x ZZ9,YY9=x::ZZ9/\x.op=1
theorem X0.mono {e:List IN} (h:X0 S g b e i c) (a:∃X,D.ins=g.ins++X) (d:∃F,D.fns=g.fns++F) (f:g.strs.length<=D.strs.length):X0 S D b e i c:=by obtain ⟨X,a⟩:=a;obtain ⟨F,d⟩:=d;exact ⟨by rw [d,zB (aa h.en)];exact h.en,λq x j=>by have:=h.has q x j;rw [a,zB (aa this)];exact this,h.sg.mono f,h.hd⟩
structure GV (N:List Nd) (S:SS) (K:aA) (j:Nat) (g:GS):Prop where
 tx:Bv g.tx g.strs.length
 sl:g.strs.length<=g.ins.length
 pos:∀k,K[j]? =some k->g.ins.length<=4*k
 all:g.ins.length<=4*N.length
 fl:g.fns.length=j
 fc:∀i,i<j->∃YY9 l at_,X0 S g i YY9 l at_
 ne:0<j->g.ins≠[]
theorem GS.P3 {pre:ae} {n:Nat}:(g.mem N S pre).set (pre.length+1) (.row (T.eQ (g.cs N S pre.length) 12 [I n]) 0)=({g with fr:=n}:GS).mem N S pre:=by simp [GS.mem,GS.rows,GS.cs]
theorem GS.Kz {F:List Ec}:(g.mem N S r).set (r.length+1) (.row (T.eQ (g.cs N S r.length) 10 [.sl true (F.map rT)]) 0)=({g with fns:=F}:GS).mem N S r:=by simp [GS.mem,GS.rows,GS.cs]
structure GStep (N:List Nd) (S:SS) (M:List Mk) (K:aA) (j:Nat) (g g':GS):Prop where
 ex:∃(nn b:Nat) (ks:aA) (D:GS),K[j]? =some nn/\(aN S.fn j).node=nn/\nn<N.length/\0<=(nd N nn).size/\nn+1+sz N nn<=N.length/\Kc N (nn+1) (nn+1+sz N nn) (ks++[b])/\D.fr=g.ins.length/\D.fr<=D.ins.length/\D.ins.length<9000000/\D.fns=g.fns/\
  g'={D.put 26 0 (nd N nn).line with fns:=g.fns++[⟨g.ins.length,((D.ins.length-D.fr+1:Nat):Int),(aN S.fn j).params,(aN S.fn j).ah,if (aN S.fn j).result=0 then 0 else 1⟩]}/\
  ∀(pre:ae) (fl:Nat),fl<=pre.length->EN prog 37 [.p true (pre.length+1) 0,I b] (({g with fr:=g.ins.length}:GS).mem N (SM S M) pre) fl λr s'=>r= .tu []/\s'=D.mem N (SM S M) pre
theorem EF (d:O1 N K S M) (k:b<K.length) (c:GV N S K b g):∃p,GStep N S M K b g p/\GV N S K (b+1) p:=by
 have ⟨ps,t,a,j,c1,c2,c3,c4,c5,c6,c7,F,E,b1⟩:=d.cg b k;have hN:=d.wt.mP;have s:=(d.wt.te.g K[b] O j.lt).1;have hm:=j.ks.all a Z;have C:BK N S M (aN S.fn b).result b a (a+1+sz N a):=⟨d.wt,d.mr,d.res.tg,F,E,rfl⟩;have J:=(x58 C _ a (yK _) hm.2.1 (zE _) (zE _)).2 j.bk;have c8:=c.pos K[b] (zA k);have b6:=d.res.kn K[b] (zV k);have P:GI {g with fr:=g.ins.length} (1+sz N a):=⟨zE _,c.tx,c.sl,by simp only;omega⟩;have ⟨D,X,e,a1,a2,a3,a4,a5,a6⟩:=J _ P;have f:D.ins=g.ins++X:=a1.ad.ins;have n:=a1.ad.fr;have H:D.ins.length-D.fr=X.length:=by rw [f,n];simp
 have c9:sz N a+2<=sz N K[b]:=by have r:=j.ks.sep;have y:=j.ks.all t Z;have z:=List.pairwise_append.1 r;have A:=List.pairwise_cons.1 z.2.1;have:=A.1 a Z;omega
 refine ⟨_,⟨K[b],a,ps++[t],D,zA k,c1,j.lt,s.nn,s.le,by simpa using j.ks,n,by rw [n,f];simp,by rw [f];have:=c.all;simp;omega,a1.ad.fns,rfl,a6⟩,⟨a1.ad.tx,?_,?_,?_,?_,?_,?_⟩⟩;have r:D.strs.length<=g.strs.length+X.length:=a1.ad.hi;have y:=c.sl;show D.strs.length<=(D.put 26 0 (nd N K[b]).line).ins.length;rw [rE,f,xC];omega;intro d1 o;have hs:=d.res.ks;have v:=aa o;have:=(List.pairwise_iff_getElem.1 hs) b (b+1) k v O;rw [zA v] at o;cases o;simp only [rE,f];simp;omega;simp only [rE,f];simp;omega;simp [c.fl];intro i hi;by_cases R:i<b;have ⟨w,b2,x,h⟩:=c.fc i R;exact ⟨w,b2,x,h.mono ⟨X++[⟨26,0,(nd N K[b]).line⟩],by simp [GS.put,f]⟩ ⟨_,rfl⟩ (by simp;exact a1.ad.lo)⟩;have:i=b:=by omega
 subst this;refine ⟨X,(nd N K[i]).line,g.ins.length,?_,?_,?_,a5⟩;simp only [zJ (show g.fns.length<=i by rw [c.fl];exact zE _),c.fl,wY];simp [H];intro q d2 hx;simp only [GS.put,f,xA];rw [zJ O,show g.ins.length+q-g.ins.length=q by omega];exact hx;have l:=a1.sg;simp at l;simp;by_cases m:e=none;rw [m] at l;exact l.app .dead;have L:e=some 0:=by rcases a3 with h|h;exact absurd h m;exact h
 rw [L] at l;refine l.app (fQ.end_ (.leave ?_));simp only [fS];refine decide_eq_false λh=>m (a4 (b1 h));intro _ h;simp [GS.put] at h
def GS.v (g:GS):TV:=.ag [.sl false (g.ins.map eX),.sl false (g.fns.map rT),.sl false (g.strs.map GZ)]
theorem R4 {S:SS} {j:Nat} (h:j<S.fn.length):S.fn[j]? =some (aN S.fn j):=getD_some h _
theorem M8 {fl:Nat} {l s:ae} {o:Bool} (F:List Ec) (x:Ec) (h:F.length<1000000):cq false 5 40 0 fl (.sl true (F.map rT)) (.sl o [rT x]) l s=some (.sl true ((F++[x]).map rT),l,s):=by have:=dP (fl:=fl) (l:=l) (s:=s) (o:=o) (b:=40) ecZ O O F [x] W;simpa using this
theorem m19 (d:O1 N K S M):∃g:GS,GV N S K K.length g/\EP prog 19 [(SM S M).q N] λr=>r=g.v:=by
 have ⟨G,P,i,e3⟩:=PK (g0:=⟨[],[],[],0, #[],0⟩) ⟨λe he=>by simp at he,Z,Z,Z,rfl,λd4 hi=>O,λh=>O⟩ K.length λj z g hg=>EF d z hg;refine ⟨G K.length,i _ (zE _),?_⟩;have hN:=d.wt.mP;have d1:K.length<=N.length+1:=by
  have c3:∀j (h:j<K.length),j<=K[j]:=by
   intro j;induction j with
   | zero=>intro _;omega
   | succ j ih=>intro h;have:=(List.pairwise_iff_getElem.1 d.res.ks) j (j+1) O h O;have:=ih O;omega
  by_cases c:K.length=0;omega;have:=c3 (K.length-1) O;have:=d.res.kn K[K.length-1] (zV _);omega
 have b1:=d.res.fl;refine EP.o e19 λs Q w=>?_;simp [b19,b1];have X:(G 0).mem N (SM S M) s=s++[TO.mp #[] 0,TO.row [TV.sl false (List.map bG N),TV.sl false (List.map ig M),TV.sl false (List.map dN S.ty),TV.sl false (List.map sU S.rc),TV.sl false (List.map pP S.fd),TV.sl false (List.map jw S.fn),TV.sl false (List.map bt S.sl),TV.sl false (List.map sd S.va),TV.sl false (List.map vG S.pt),N0,N0,N0,I 0,TV.mp s.length] 0]:=by rw [P];rfl
 rw [<-X];have ef:(λx:Fn=>jw x)=jw:=rfl;refine LP.ind (λj:Nat=>K.length-j) (λj=>j<=K.length) (λj=>[.p false 1 0,.p true (s.length+1) 0,.sl false (S.fn.map jw),I K.length,I j])
  (λ_=>[.row [TV.sl false (List.map bG N),TV.sl false (List.map ig M),TV.sl false (List.map dN S.ty),TV.sl false (List.map sU S.rc),TV.sl false (List.map pP S.fd),TV.sl false (List.map jw S.fn),TV.sl false (List.map bt S.sl),TV.sl false (List.map sd S.va),TV.sl false (List.map vG S.pt)] 0,.row [N0,N0,N0] 0])
  (λj=>(G j).mem N (SM S M) s) 2 (λ_ _=>⟨rfl,rfl,rfl⟩) (λj z d5 A=>?_) 0 (zZ _)
 simp [Cs];apply ST.dc<;>intro h;have b6:j<K.length:=by omega
 have ⟨a,b,f,D,q1,q2,E,q4,q5,F,q7,q8,q9,c6,c7,c8⟩:=(e3 j b6).ex;have l:=i j O;have d2:=l.all;obtain ⟨k,y⟩:∃k:GS,k={G j with fr:=(G j).ins.length}:=⟨_,rfl⟩;have p:=ic (S:=SM S M) (pre:=s) (g:=k) (fl:=s.length) O E q4 F q5;have q:=c8 s s.length (zE _);rw [<-y] at q;have J:=gP (S:=SM S M) (op:=26) (x:=0) (pre:=s) E q8 O (zE _);have L:=m39 (N:=N) (S:=SM S M) (pre:=s) (fl:=s.length) (g:=D.put 26 0 (nd N a).line) W W;have d3:f.length<1000000:=by have:=F.length_le;simp at this;omega
 have wk:i64.wrap (f.length:Int)=(f.length:Int):=bW O O;have c9:=zY O;have m:=GS.P3 (N:=N) (S:=SM S M) (g:=G j) (pre:=s) (n:=(G j).ins.length);rw [<-y] at m;simp only [GS.cs,T.eQ,List.set_cons_succ,List.set_cons_zero] at m;simp at p;simp [R4 (S:=S) (j:=j) O,GS.g1,GS.cs,yi,m,q2,CL.q p,wk];have gn:(List.map bF f++[[I (b:Int)]])[f.length]? =some [I (b:Int)]:=by rw [zJ Z];simp
 simp [CL.q q,CL.q J];simp [GS.g1,GS.cs,CL.q L];have c2:s.length+1<(GS.mem N (SM S M) s (D.put 26 0 (nd N a).line)).length:=by simp [GS.mem,GS.rows]
 have v:∀x,((GS.mem N (SM S M) s (D.put 26 0 (nd N a).line)).set (s.length+1) x)[s.length+1]? =some x:=λx=>zF c2;have b2:(G j).fns.length<1000000:=by rw [l.fl];omega
 have C:(D.put 26 0 (nd N a).line).fns=(G j).fns:=c6;have H:=wn (j:=j) O;have R:((D.ins.length+1-D.fr:Nat):Int)=((D.ins.length-D.fr+1:Nat):Int):=by congr 1;omega
 have t:∀r:Int,r=(if (aN S.fn j).result=0 then 0 else 1)->(GS.mem N (SM S M) s (D.put 26 0 (nd N a).line)).set (s.length+1) (.row (T.eQ ((D.put 26 0 (nd N a).line).cs N (SM S M) s.length) 10 [.sl true (((G j).fns++[(⟨D.fr,((D.ins.length+1-D.fr:Nat):Int),(aN S.fn j).params,(aN S.fn j).ah,r⟩:Ec)]).map rT)]) 0)=(G (j+1)).mem N (SM S M) s:=by intro r hr;rw [GS.Kz,c7,hr,R,q7]
 have o:=λ(r:Int) (c5:Bool) (c4 s':ae)=>M8 (fl:=s.length) (l:=c4) (s:=s') (o:=c5) (G j).fns ⟨D.fr,((D.ins.length+1-D.fr:Nat):Int),(aN S.fn j).params,(aN S.fn j).ah,r⟩ b2;simp at o;refine ST.de (λh e=>?_) λh e=>?_;simp [GS.g1,GS.cs,v,C,o,H];refine A (j+1) _ _ _ Z rfl ?_ O O;have:=t 0 (by rw [zO h]);simp [GS.cs,T.eQ] at this;exact this;simp [GS.g1,GS.cs,v,C,o,H];refine A (j+1) _ _ _ Z rfl ?_ O O;have:=t 1 (by rw [zN h]);simp [GS.cs,T.eQ] at this;exact this;have:j=K.length:=by omega
 subst this;have l:=i K.length (zE _);simp [Js,GS.g1,GS.cs];by_cases c:(G K.length).ins=[];simp [kV,c];apply w _;simp [GS.v,c];simp [kV,c,Gx (n0:=s.length) (id:=s.length+2) O,GS.g2 c,inZ];apply w _;simp [GS.v]
end
end T
namespace T
open Go V Q
variable {a b c d e f g:Nat} {u v w:Value} {i j k:Int} {t:TypeId} {p:List Value} {q:Bool} {n:IntKind} {x y z:TV} {r s:List TO} {o:List TV}
structure Sg where
 N:List Nd
 S:SS
 g:GS
 w1:List Int
 w2:List Int
 fuel:Nat
 zs:List Vl
structure Vm where
 H:Hp
 F:Fe
 time:Nat
 out:List UInt8
 ab:List Fm
 over:Bool
 ok:Int
 ot:Int
 ol:Int
structure Sn where
 l:Int
 r:Int
 y:Int
 n:Int
@[simp] def P2 (x:Sn):ao:=[U x.l,U x.r,I x.y,I x.n]
@[simp] def pR (c:UInt8):ao:=[.v (.int .u8 c.toNat)]
theorem WM (L:List UInt8):cS 0 1 (L.map pR):=bD (λx=>rfl) L
abbrev kN:Ro:=(0,0)
abbrev dL:Ro:=(6,0)
abbrev iP:Ro:=(10,0)
abbrev fj:Ro:=(11,0)
abbrev pH:Ro:=(12,0)
def oQ (A:Lay) (n:Nat):cD:=(List.range n).map λi=>[.p true (A.id (ep i)) 0]
def Vm.cells (X:Sg) (c b:Nat) (A:Lay) (V:Vm) (a d sv cv:TV):ao:=[.sl false (X.N.map bG),.sl false (X.S.ma.map ig),.sl false (X.S.ty.map dN),.sl false (X.S.rc.map sU),.sl false (X.S.fd.map pP),.sl false (X.S.fn.map jw),.sl false (X.S.sl.map bt),.sl false (X.S.va.map sd),.sl false (X.S.pt.map vG),
 .sl false (X.g.ins.map eX),.sl false (X.g.fns.map rT),.sl false (X.g.strs.map GZ),.sl false (X.w1.map bt),.sl false (X.w2.map bt),I X.fuel,I c,I b,.p true (A.id bY) 0,.p true (A.id lA) 0,I V.time,.sl true (V.out.map pR),a,B V.over,U V.ok,U V.ot,I V.ol,d,sv,cv]
structure VR (X:Sg) (room dm:Nat) (A:Lay) (s:ae) (V:Vm):Prop where
 hp:HR A s room V.H
 fd:FR A s V.F
 vm:A.al kN/\∃fv zv,s[A.id kN]? =some (.row (V.cells X room dm A fv zv (.m true (A.id iP) (A.az iP) 0 X.g.ins.length 4) (.m true (A.id fj) (A.az fj) 0 X.S.fn.length 1)) 0)/\SV A dL V.ab.length 1 fv/\mn A pH X.zs.length 4 zv
 fs:A.al dL->∃js,s[A.id dL]? =some (.aY (A.az dL) 1 (oQ A V.ab.length++js))
 fr:∀i f,V.ab[i]? =some f->pD A s i f
 se:A.al iP/\∃L:List Sn,L.length=X.g.ins.length/\s[A.id iP]? =some (.aY (A.az iP) 4 (L.map P2))
 ca:A.al fj/\∃L:List Int,L.length=X.S.fn.length/\s[A.id fj]? =some (.aY (A.az fj) 1 (L.map bt))
 ze:A.al pH->s[A.id pH]? =some (.aY (A.az pH) 4 (X.zs.map aw))
 ti:V.time<=X.fuel
 fu:X.fuel<=1000000000
 nf:V.ab.length<=dm
 lm:dm<=100000
def VQ (X:Sg) (e d c:Nat) (A:Lay) (s:ae) (V V':Vm) (b:ae):Prop:=∃a,VR X e d a b V'/\bQ c (λ_=>True) A a s b/\∀i,i<V.ab.length->a.id (ep i)=A.id (ep i)
section
variable {X:Sg} {D E fl:Nat} {A J:Lay} {h s' s'':ae} {V V' V'':Vm} {R:Ro->Prop}
theorem bQ.any (a:bQ fl R A J h s'):bQ fl (λ_=>True) A J h s':=a.mono λ_ _=>trivial
theorem vW {A J:Lay} (h:∀i,i<a->J.id (ep i)=A.id (ep i)):oQ J a=oQ A a:=by unfold oQ;refine List.map_congr_left λi b=>?_;rw [h i (wH.1 b)]
theorem VR.tY (b:VR X D E A h V) (a:O3 R A J h s') (p:¬R kN) (t:¬R dL) (q:¬R iP) (r:¬R fj) (s:¬R pH) (c4:HR J s' D V'.H) (P:FR J s' V'.F) (b6:∀i f,V'.ab[i]? =some f->pD J s' i f) (g:V'.ab.length=V.ab.length) (hid:∀i,i<V.ab.length->J.id (ep i)=A.id (ep i))
  (o:V'.time=V.time) (H:V'.out=V.out) (e3:V'.over=V.over) (e4:V'.ok=V.ok) (e5:V'.ot=V.ot) (K:V'.ol=V.ol):VR X D E J s' V':=by
 obtain ⟨a1,a2,a3⟩:=a.ag _ p;obtain ⟨j,k,b3⟩:=a.ag _ t;obtain ⟨c1,l,C⟩:=a.ag _ q;obtain ⟨m,n,F⟩:=a.ag _ r;obtain ⟨y,z2,z3⟩:=a.ag _ s;have M:=(a.fx bY (.inr (.inl rfl))).1;have N:=(a.fx lA (.inr (.inr rfl))).1;obtain ⟨x,fv,zv,v2,v3,v4⟩:=b.vm;obtain ⟨w,L,s2,s3⟩:=b.se;obtain ⟨v,z,k2,k3⟩:=b.ca;refine ⟨c4,P,⟨a3.trans x,fv,zv,?_,?_,?_⟩,λc=>?_,b6,⟨C.trans w,L,s2,by rw [c1,l,a.get _ w q];exact s3⟩,⟨F.trans v,z,k2,by rw [m,n,a.get _ v r];exact k3⟩,λc=>?_,by rw [o];exact b.ti,b.fu,by rw [g];exact b.nf,b.lm⟩;rw [a1,a.get _ x p,v2,c1,l,m,n];simp only [Vm.cells,M,N,o,H,e3,e4,e5,K];rcases v3 with ⟨d,e⟩|⟨d,e,x3⟩;exact .inl ⟨b3.trans d,by rw [g,j,k];exact e⟩;exact .inr ⟨b3.trans d,by rw [g];exact e,x3⟩;rcases v4 with ⟨d,e⟩|⟨d,e⟩;exact .inl ⟨z3.trans d,by rw [y,z2];exact e⟩;exact .inr ⟨z3.trans d,e⟩;rw [b3] at c;obtain ⟨js,hj⟩:=b.fs c;exact ⟨js,by rw [j,k,a.get _ c t,g,vW hid];exact hj⟩;rw [z3] at c;rw [y,z2,a.get _ c s];exact b.ze c
theorem VR.jq (g:VR X D E A h V) (o:dB fl A h) (r:bQ fl R A J h s') (j:¬R kN) (n:¬R dL) (k:¬R iP) (l:¬R fj) (m:¬R pH) (q:HR J s' D V'.H) (d:FR J s' V'.F) (e:∀i f,V'.ab[i]? =some f->pD J s' i f) (p:V'.ab.length=V.ab.length) (hid:∀i,i<V.ab.length->J.id (ep i)=A.id (ep i))
  (a:V'.time=V.time) (b:V'.out=V.out) (e3:V'.over=V.over) (e4:V'.ok=V.ok) (e5:V'.ot=V.ot) (c:V'.ol=V.ol):VR X D E J s' V':=g.tY (r.tY o) j n k l m q d e p hid a b e3 e4 e5 c
theorem VR.frame {n:Fm} (c:VR X D E A h V) (l:dB fl A h) (p:a<V.ab.length) (q:Ns fl A h a n s'):VQ X D E fl A h V {V with ab:=V.ab.set a n} s':=by
 obtain ⟨J,s,i,t⟩:=q;have d:∀(j k:Nat),(∀b,(j,k)≠ep b/\(j,k)≠kf b/\(j,k)≠dJ b)->¬By a (j,k):=λj k c e=>by rcases e with e|e|e;exact (c a).1 e;exact (c a).2.1 e;exact (c a).2.2 e
 have o:∀j,j≠a->∀r,By j r->¬By a r:=λj g r m e=>by rcases m with rfl|rfl|rfl <;> rcases e with e|e|e <;> simp at e <;> omega
 have hid:∀j,j<V.ab.length->J.id (ep j)=A.id (ep j):=λj _=>by by_cases e:j=a;rw [e];exact t;exact (i.ag _ (o j e _ (.inl rfl))).1
 refine ⟨J,c.jq l i (d _ _ λb=>by simp) (d _ _ λb=>by simp) (d _ _ λb=>by simp) (d _ _ λb=>by simp) (d _ _ λb=>by simp) (c.hp.jq l i λr m e=>by rcases e with rfl|rfl|rfl <;> simp [Rh] at m) (c.fd.jq l i (d _ _ λb=>by simp)) (λj f g=>?_) Z hid rfl rfl rfl rfl rfl rfl,i.any,hid⟩;simp only at g;by_cases e:j=a;subst e;rw [zF p] at g;cases g;exact s;rw [zD (wQ e)] at g;exact (c.fr j f g).jq l i (o j e)
theorem VR.heap {c:Hp} {b:Fe} (d:VR X D E A h V) (g:dB fl A h) (i:HR J s' D c) (k:FR J s' b) (a:bQ fl Bx A J h s'):VQ X D E fl A h V {V with H:=c,F:=b} s':=by have hid:∀j,J.id (ep j)=A.id (ep j):=λj=>(a.ag _ (by simp [Bx])).1;refine ⟨J,d.jq g a (by simp [Bx]) (by simp [Bx]) (by simp [Bx]) (by simp [Bx]) (by simp [Bx]) i k (λj f l=>(d.fr j f l).jq g a λr m e=>?_) rfl (λj _=>hid j) rfl rfl rfl rfl rfl rfl,a.any,λj _=>hid j⟩;rcases m with rfl|rfl|rfl <;> simp [Bx] at e
theorem VQ.trans (d:VQ X D E fl A h V V' s') (m:V.ab.length<=V'.ab.length) (k:∀J,VR X D E J s' V'->dB fl J s'->(∀i,i<V.ab.length->J.id (ep i)=A.id (ep i))->J.id kN=A.id kN/\J.id bY=A.id bY/\J.id lA=A.id lA->h.length<=s'.length->VQ X D E fl J s' V' V'' s''):VQ X D E fl A h V V'' s'':=by obtain ⟨J,e,a,b⟩:=d;obtain ⟨c,g,j,l⟩:=k J e a.ij b ⟨(a.fx kN (.inl rfl)).1,(a.fx bY (.inr (.inl rfl))).1,(a.fx lA (.inr (.inr rfl))).1⟩ a.le;exact ⟨c,g,a.trans j,λi f=>(l i O).trans (b i f)⟩
theorem VQ.refl (a:VR X D E A h V) (b:dB fl A h):VQ X D E fl A h V V h:=⟨A,a,.refl b,λ_ _=>rfl⟩
theorem VR.row (a:VR X D E A h V) (b:dB fl A h) (w:V'.H=V.H) (v:V'.F=V.F) (g:V'.ab=V.ab) (C:V'.time<=X.fuel)
  (z:SV A dL V.ab.length 1 x) (F:mn A pH X.zs.length 4 y):VR X D E A (h.set (A.id kN) (.row (V'.cells X D E A x y (.m true (A.id iP) (A.az iP) 0 X.g.ins.length 4) (.m true (A.id fj) (A.az fj) 0 X.S.fn.length 1)) 0)) V':=by
 obtain ⟨c,_⟩:=a.vm;have n:=bQ.set b c (o:=.row (V'.cells X D E A x y (.m true (A.id iP) (A.az iP) 0 X.g.ins.length 4) (.m true (A.id fj) (A.az fj) 0 X.S.fn.length 1)) 0);have K:∀(j k:Nat),j≠0->¬(j,k)=kN:=λj k P e=>by simp at e;omega
 obtain ⟨s,L,M,N⟩:=a.se;obtain ⟨q,t,H,J⟩:=a.ca;refine ⟨by rw [w];exact a.hp.jq b n λr l e=>by rw [e] at l;simp [Rh] at l,by rw [v];exact a.fd.jq b n (K _ _ O),⟨c,x,y,b.get_eq c,by rw [g];exact z,F⟩,λd=>?_,λi f p=>?_,⟨s,L,M,by rw [b.aX s c Z];exact N⟩,⟨q,t,H,by rw [b.aX q c Z];exact J⟩,λd=>by rw [b.aX d c Z];exact a.ze d,C,a.fu,by rw [g];exact a.nf,a.lm⟩;rw [b.aX d c Z,g];exact a.fs d;rw [g] at p;exact (a.fr i f p).jq b n λr l e=>by rcases l with m|m|m <;> rw [m] at e <;> simp at e
theorem VR.KE (a:VR X D E A h V) (b:dB fl A h) (d:V'.H=V.H) (c:V'.F=V.F) (e:V'.ab=V.ab) (g:V'.time<=X.fuel)
  (f:SV A dL V.ab.length 1 x) (i:mn A pH X.zs.length 4 y):VQ X D E fl A h V V' (h.set (A.id kN) (.row (V'.cells X D E A x y (.m true (A.id iP) (A.az iP) 0 X.g.ins.length 4) (.m true (A.id fj) (A.az fj) 0 X.S.fn.length 1)) 0)):=
 ⟨A,a.row b d c e g f i,(bQ.set b a.vm.1).any,λ_ _=>rfl⟩
theorem qa:prog.underlying 78=some (.slice 90):=Y
theorem m59 (b:VR X D E A h V) (p:V.ab.length=a+1):EN prog 59 [.p true (A.id kN) 0] h fl λr s'=>r= .p true (A.id (ep a)) 0/\s'=h:=by
 apply EN.o e59;have ⟨y,j,C,d,v,z⟩:=b.vm;have w:=yN b.nf b.lm;simp only [Vm.cells] at d;have n:j= .m true (A.id dL) (A.az dL) 0 (a+1) 1/\A.al dL:=by rcases v with ⟨i,c⟩|⟨_,c,_⟩;exact ⟨by rw [c,p],i⟩;omega
 obtain ⟨rfl,al⟩:=n;have ⟨s,g⟩:=b.fs al;have o:=λx=>fW (r:=true) (id:=A.id dL) (az:=A.az dL) (off:=0) (n:=a+1) (sz:=1) (l:=x) (s:=h) qa;have e:i64.wrap (((a+1:Nat):Int)-1)=(a:Int):=by rw [bW O O];omega
 have q:(oQ A V.ab.length++s)[a]? =some [.p true (A.id (ep a)) 0]:=by rw [zB (by simp [oQ];omega)];unfold oQ;rw [zK,xQ O];rfl
 obtain ⟨f,k⟩:∃f,V.ab[a]? =some f:=⟨_,zA O⟩;have m:=b.fr a f k;have ⟨_,_,t,_⟩:=m.row;simp at e;simp [b59,d,o,e,show (a:Int)<a+1 by omega,g,q,yj (aa t)]
end
theorem IM {P:aB} {t:aP} {k:IntKind} {a b:Int}:∃n:Int,cm P .or t (.v (.int k a)) (.v (.int k b))=some (.v (.int k n)):=⟨_,cy rfl rfl (Tr t k a b)⟩
def Vm.end_ (V:Vm) (k t l:Int):Vm:=if V.over then V else {V with over:=true,ok:=k,ot:=t,ol:=l}
section
variable {X:Sg} {D E fl:Nat} {A J:Lay} {h s' s'':ae} {V V' V'':Vm} {R:Ro->Prop}
theorem Zv {k t l:Int} (a:VR X D E A h V) (b:dB fl A h):EN prog 89 [.p true (A.id kN) 0,.ag [U k,U t,I l]] h fl λr s'=>r= .tu []/\VQ X D E fl A h V (V.end_ k t l) s':=by
 apply EW.o e89;have ⟨g,p,s,d,m,n⟩:=a.vm;have j:=b.lo _ g;have i:=λx=>b.get_eq (o:=x) g;have q:=d;simp only [Vm.cells] at d;cases c:V.over with
 | true=>
  simp [b89,d,c];have:V.end_ k t l=V:=by unfold Vm.end_;rw [zO c]
  rw [this];exact .refl a b
 | false=>
  have e:V.end_ k t l={V with over:=true,ok:=k,ot:=t,ol:=l}:=by unfold Vm.end_;rw [c];rfl
  have f:=a.KE (V':={V with over:=true,ok:=k,ot:=t,ol:=l}) b rfl rfl rfl a.ti m n;simp only [Vm.cells] at f;simp [b89,d,c,j,i,e];simpa using f
theorem a0l {k l:Int} (a:VR X D E A h V) (b:dB fl A h):EN prog 130 [.p true (A.id kN) 0,U k,I l] h fl λr s'=>r= .tu []/\VQ X D E fl A h V (V.end_ 2 k l) s':=by apply EW.o SK;have c:=Zv (k:=2) (t:=k) (l:=l) a b;simp [UE];refine CL.o c λr s' ⟨d,e⟩=>?_;subst d;simp;exact e
theorem pD.De {f f':Fm} {sv:TV} (b:pD A h a f) (d:dB fl A h) (i:f'.ah=f.ah) (g:f'.stack=f.stack) (k:mn A (kf a) f.ah.length 4 sv) (j:SV A (dJ a) f.stack.length 4 x):Ns fl A h a f' (h.set (A.id (ep a)) (.row (f'.cells sv x) 0)):=
 ⟨A,⟨b.al,⟨sv,x,d.get_eq b.al,by rw [i];exact k,by rw [g];exact j⟩,λc=>by rw [d.aX c b.al Z,i];exact b.sl c,λc=>by rw [d.aX c b.al Z,g];exact b.sk c,by rw [g];exact b.kl⟩,(bQ.set d b.al).mono λr e=>.inl e,rfl⟩
def Vm.ev (X:Sg) (V:Vm) (f:Fm) (n:Nat) (b stop:Int):Bool×Vm:=
 let a:={V with ab:=V.ab.set n {f with ai:=b}}
 if V.time=X.fuel then (false,a.end_ 3 0 0) else if (V.time:Int)=stop then (false,a) else (true,{a with time:=V.time+1})
theorem m60 {f:Fm} {ai stop:Int} (e:VR X D E A h V) (v:dB fl A h) (R:V.ab.length=a+1) (P:V.ab[a]? =some f):EN prog 60 [.p true (A.id kN) 0,I ai,I stop] h fl λr s'=>r=B (V.ev X f a ai stop).1/\VQ X D E fl A h V (V.ev X f a ai stop).2 s':=by
 apply EW.o e60;have c:=m59 (fl:=fl) e R;have s:=e.fr a f P;have ⟨sv,kv,J,r2,r3⟩:=s.row;have N:=v.lo _ s.al;have b1:=e.frame v O (s.De (f':={f with ai:=ai}) v rfl rfl r2 r3);have ⟨L,n,b,z⟩:=b1;have hid:=(b.fx kN (.inl rfl)).1;have ⟨K,fv,zv,d,v3,v4⟩:=n.vm;have F:=b.ij.lo _ K;have M:=λb2=>b.ij.get_eq (o:=b2) K;have c3:=e.ti;have b6:=e.fu;simp only [Fm.cells] at J;simp only [hid,Fm.cells] at d F M;have c4:=d;simp only [Vm.cells] at d;have w1:i64.wrap ((V.time:Int)+1)=(V.time:Int)+1:=bW O O;have w2:i64.wrap (V.time:Int)=(V.time:Int):=bW O O;simp [b60,CL.q c,J,N];by_cases q:V.time=X.fuel;have j:(V.time:Int)=X.fuel:=by omega
 have C:=Zv (k:=3) (t:=0) (l:=0) n b.ij;simp only [hid,Fm.cells] at C;simp [d,zM j];refine CL.o C λr s' ⟨k1,p,w,x,y⟩=>?_;subst k1;have ev:V.ev X f a ai stop=(false,({V with ab:=V.ab.set a {f with ai:=ai}}:Vm).end_ 3 0 0):=by unfold Vm.ev;simp only [zO q]
 rw [ev];simp;exact ⟨p,w,b.trans x,λi g=>(y i (Zs g)).trans (z i g)⟩;have j:¬(V.time:Int)=X.fuel:=by omega
 by_cases m:(V.time:Int)=stop;have ev:V.ev X f a ai stop=(false,{V with ab:=V.ab.set a {f with ai:=ai}}):=by unfold Vm.ev;simp only [zN q,zO m]
 rw [ev];simp [d,zC j,zM m];exact ⟨L,n,b,z⟩;have ev:V.ev X f a ai stop=(true,{V with ab:=V.ab.set a {f with ai:=ai},time:=V.time+1}):=by unfold Vm.ev;simp only [zN q,zN m]
 rw [ev];have H:=n.KE (V':={V with ab:=V.ab.set a {f with ai:=ai},time:=V.time+1}) b.ij rfl rfl rfl (by simp only;omega) v3 v4;simp only [Vm.cells,hid,Fm.cells] at H;simp [d,zC j,zC m,w1,F];have ⟨p,w,x,y⟩:=H;refine ⟨p,?_,b.trans ?_,λi g=>(y i (Zs g)).trans (z i g)⟩;simpa [Fm.cells] using w;simpa [Fm.cells] using x
end
structure ME where
 X:Sg
 room:Nat
 dm:Nat
 fl:Nat
 pv:Nat
 ph:Nat
 pd:Nat
 Fo:Nat->Option TO
structure MD (e:ME) (pf:Nat->Nat) (s:ae) (V:Vm) (A:Lay):Prop where
 vr:VR e.X e.room e.dm A s V
 ij:dB e.fl A s
 lf:e.fl<=s.length
 iv:A.id kN=e.pv
 ih:A.id bY=e.ph
 ie:A.id lA=e.pd
 fr:∀i,i<V.ab.length->A.id (ep i)=pf i
 fo:∀id o,e.Fo id=some o->s[id]? =some o/\∀r,A.al r->A.id r≠id
def MS (e:ME) (a:Nat->Nat) (s:ae) (V:Vm):Prop:=∃A,MD e a s V A
def Vm.top (V:Vm) (n:Nat) (f:Fm):Vm:={V with ab:=V.ab.set n f}
structure Vm.Is (V:Vm) (n:Nat) (f:Fm):Prop where
 len:V.ab.length=n+1
 get:V.ab[n]? =some f
section
variable {J:ME} {D:Nat->Nat} {E h:ae} {V V':Vm} {A:Lay} {n:Nat} {f:Fm} {a b:Vl}
theorem MD.R3 {b:Lay} (d:MD J D E V A) (i:bQ J.fl (λ_=>True) A b E h):∀a o,J.Fo a=some o->h[a]? =some o/\∀r,b.al r->b.id r≠a:=λa o k=>by obtain ⟨e,f⟩:=d.fo a o k;have m:=aa e;refine ⟨by rw [i.fr a m λr _ c=>f r c];exact e,λr c j=>?_⟩;rcases i.nw r c with ⟨g,l⟩|g;exact f r g (l▸j);omega
theorem MD.to' (d:MD J D E V A) (q:VQ J.X J.room J.dm J.fl A E V V' h):∃c,MS J c h V':=by obtain ⟨b,e,a,f⟩:=q;exact ⟨λi=>b.id (ep i),b,e,a.ij,a.lf d.lf,(a.fx kN (.inl rfl)).1.trans d.iv,(a.fx bY (.inr (.inl rfl))).1.trans d.ih,(a.fx lA (.inr (.inr rfl))).1.trans d.ie,λ_ _=>rfl,d.R3 a⟩
theorem MD.to (d:MD J D E V A) (q:VQ J.X J.room J.dm J.fl A E V V' h) (g:V'.ab.length<=V.ab.length):MS J D h V':=by obtain ⟨b,c,a,e⟩:=q;exact ⟨b,c,a.ij,a.lf d.lf,(a.fx kN (.inl rfl)).1.trans d.iv,(a.fx bY (.inr (.inl rfl))).1.trans d.ih,(a.fx lA (.inr (.inr rfl))).1.trans d.ie,λi f=>(e i O).trans (d.fr i O),d.R3 a⟩
theorem rS:(V.end_ i j k).ab.length=V.ab.length:=by unfold Vm.end_;split <;> rfl
theorem lD:(V.top n f).ab.length=V.ab.length:=by simp [Vm.top]
theorem Vm.Is.top (h:V.Is n f) {a:Fm}:(V.top n a).Is n a:=⟨by rw [lD];exact h.len,by simp [Vm.top,h.len]⟩
theorem Vm.Is.id (h:V.Is n f):V.top n f=V:=by
 have:V.ab.set n f=V.ab:=by apply xK λi=>?_;by_cases J:i=n;subst J;rw [zF (Zo h.len),h.get];rw [zD (wQ J)]
 unfold Vm.top;rw [this]
theorem aJ {a:Fm}:(V.top n f).top n a=V.top n a:=by simp [Vm.top]
theorem fq (d:MD J D E V A) (b:V.Is n f) {a:Fm} (q:Ns J.fl A E n a h):MS J D h (V.top n a):=
 d.to (d.vr.frame d.ij (Zo b.len) q) (by rw [lD];omega)
theorem MD.KL (d:MD J D E V A) (a:V.Is n f):A.id (ep n)=D n:=d.fr n (Zo a.len)
theorem v59 (b:MS J D E V) (a:V.Is n f):EN prog 59 [.p true J.pv 0] E J.fl λr h=>r= .p true (D n) 0/\h=E:=by have ⟨A,d⟩:=b;have c:=m59 (fl:=J.fl) d.vr a.len;rwa [d.iv,d.KL a] at c
theorem Gh (e:MS J D E V) (b:V.Is n f) (g:f.stack.length<1000000000000):EN prog 90 [.p true (D n) 0,.ag (aw a)] E J.fl λr h=>r= .tu []/\MS J D h (V.top n {f with stack:=f.stack++[a]}):=by have ⟨A,d⟩:=e;have c:=m90 (a:=a) (d.vr.fr n f b.get) d.ij d.lf g;rw [d.KL b] at c;exact c.mono λr h ⟨i,j⟩=>⟨i,fq d b j⟩
theorem v93 {l:List Vl} (e:MS J D E V) (b:V.Is n f) (g:f.stack=l++[a]):EN prog 93 [.p true (D n) 0] E J.fl λr h=>r= .ag (aw a)/\MS J D h (V.top n {f with stack:=l}):=by have ⟨A,d⟩:=e;have c:=m93 (d.vr.fr n f b.get) d.ij g;rw [d.KL b] at c;exact c.mono λr h ⟨i,j,_⟩=>⟨i,fq d b j⟩
theorem Xy {l:List Vl} {sv:TV} (e:MS J D E V) (b:V.Is n f) (i:f.stack=l++[a]) (g:E[D n]? =some (.row (f.cells sv x) 0)):EN prog 93 [.p true (D n) 0] E J.fl λr h=>r= .ag (aw a)/\MS J D h (V.top n {f with stack:=l})/\∃j,h[D n]? =some (.row (({f with stack:=l}:Fm).cells sv j) 0):=by have ⟨A,d⟩:=e;have c:=m93 (d.vr.fr n f b.get) d.ij i;rw [d.KL b] at c;exact c.mono λr h ⟨k,m,o⟩=>⟨k,fq d b m,o sv x g⟩
theorem Oi {l b:List Vl} (e:MS J D E V) (a:V.Is n f) (g:f.stack=l++b):EN prog 136 [.p true (D n) 0,I b.length] E J.fl λr h=>r= .sl false (b.map aw)/\MS J D h (V.top n {f with stack:=l}):=by have ⟨A,d⟩:=e;have c:=a0i (d.vr.fr n f a.get) d.ij g;rw [d.KL a] at c;exact c.mono λr h ⟨i,j⟩=>⟨i,fq d a j⟩
theorem v89 {k t l:Int} (a:MS J D E V):EN prog 89 [.p true J.pv 0,.ag [U k,U t,I l]] E J.fl λr h=>r= .tu []/\MS J D h (V.end_ k t l):=by have ⟨A,d⟩:=a;have c:=Zv (k:=k) (t:=t) (l:=l) d.vr d.ij;rw [d.iv] at c;exact c.mono λr h ⟨b,e⟩=>⟨b,d.to e (by rw [rS];exact zE _)⟩
theorem v130 {k l:Int} (a:MS J D E V):EN prog 130 [.p true J.pv 0,U k,I l] E J.fl λr h=>r= .tu []/\MS J D h (V.end_ 2 k l):=by have ⟨A,d⟩:=a;have c:=a0l (k:=k) (l:=l) d.vr d.ij;rw [d.iv] at c;exact c.mono λr h ⟨b,e⟩=>⟨b,d.to e (by rw [rS];exact zE _)⟩
theorem v60 {ai stop:Int} (b:MS J D E V) (a:V.Is n f):EN prog 60 [.p true J.pv 0,I ai,I stop] E J.fl λr h=>r=B (V.ev J.X f n ai stop).1/\MS J D h (V.ev J.X f n ai stop).2:=by have ⟨A,d⟩:=b;have c:=m60 (ai:=ai) (stop:=stop) d.vr d.ij a.len a.get;rw [d.iv] at c;refine c.mono λr h ⟨e,g⟩=>⟨e,d.to g ?_⟩;unfold Vm.ev;simp only;split;rw [rS];simp;split <;> simp
theorem Af {t l:Int} (g:MS J D E V) (j:V.Is n f) (m:f.stack.length<1000000000000):EN prog 134 [.p true J.pv 0,.p true (D n) 0,.ag (aw a),U t,I l] E J.fl λr h=>r= .tu []/\MS J D h (if t=0 then V.top n {f with stack:=f.stack++[a]} else V.end_ 2 t l):=by apply EW.o SI;have c:=Gh (a:=a) g j m;have i:=v130 (k:=t) (l:=l) g;by_cases b:t=0;subst b;simp at c;simp [Na];refine CL.o c λr h ⟨d,e⟩=>?_;subst d;simp;exact e;rw [zN b];simp [Na,zC b];refine CL.o i λr h ⟨d,e⟩=>?_;subst d;simp;exact e
theorem Vx {y:Bool} {l:Int} (g:MS J D E V) (j:V.Is n f) (m:f.stack.length<1000000000000):EN prog 92 [.p true J.pv 0,.p true (D n) 0,.ag (aw a),B y,I l] E J.fl λr h=>r= .tu []/\MS J D h (if y=true then V.top n {f with stack:=f.stack++[a]} else V.end_ 2 4 l):=by
 have c:=Gh (a:=a) g j m;have i:=v130 (k:=4) (l:=l) g;by_cases b:y;subst b;apply EW.o e92;simp at c;simp [b92];refine CL.o c λr h ⟨d,e⟩=>?_;subst d;simp;exact e;have b:y=false:=by simpa using b
 subst b;apply EW.o e92;simp [b92];refine CL.o i λr h ⟨d,e⟩=>?_;subst d;simp;exact e
theorem MD.seen {L:List Sn} (d:MD J D E V A) (q:L.length=J.X.g.ins.length):MS J D (E.set (A.id iP) (.aY (A.az iP) 4 (L.map P2))) V:=by
 have h:=d.vr;obtain ⟨a,F,K,M⟩:=h.se;have e:=bQ.set d.ij a (o:=.aY (A.az iP) 4 (L.map P2));have w:∀(j k:Nat),j≠10->¬(j,k)=iP:=λj k H J=>by simp at J;omega
 obtain ⟨m,p,C,x,y,z⟩:=h.vm;obtain ⟨l,n,t,v⟩:=h.ca;refine d.to ⟨A,⟨h.hp.jq d.ij e λr c J=>by rw [J] at c;simp [Rh] at c,h.fd.jq d.ij e (w _ _ O),⟨m,p,C,by rw [d.ij.aX m a Z];exact x,y,z⟩,λb=>?_,λi f s=>?_,⟨a,L,q,d.ij.get_eq a⟩,⟨l,n,t,by rw [d.ij.aX l a Z];exact v⟩,λb=>by rw [d.ij.aX b a Z];exact h.ze b,h.ti,h.fu,h.nf,h.lm⟩,e.any,λ_ _=>rfl⟩ (zE _);rw [d.ij.aX b a Z];exact h.fs b;exact (h.fr i f s).jq d.ij e λr c J=>by rcases c with g|g|g <;> rw [g] at J <;> simp at J
theorem v131 {k:Int} (N:MS J D E V) (q:c<J.X.g.ins.length) (X:0<=j) (hk:0<=k):EN prog 131 [.p true J.pv 0,I c,U j,U k] E J.fl λb1 h=>b1= .tu []/\MS J D h V:=by have ⟨A,d⟩:=N;apply EW.o SJ;have ⟨C,e,F,H⟩:=d.vr.se;have ⟨v1,fv,zv,n,v3,v4⟩:=d.vr.vm;simp only [Vm.cells,d.iv] at n;have g:=zA (l:=e) (i:=c) O;generalize e[c]=x at g;have r:=d.ij.lo _ C;have M:=λx=>d.ij.get_eq (o:=x) C;have ⟨y,f⟩:=IM (P:=prog) (t:=5) (k:=.u8) (a:=x.l) (b:=u8.wrap (1*2^(min j.toNat u8.bits)));have ⟨n2,s⟩:=IM (P:=prog) (t:=5) (k:=.u8) (a:=x.r) (b:=u8.wrap (1*2^(min k.toNat u8.bits)));have m:=v8 (P:=prog) (t:=5) (k:=.u8) (k':=.u8) (a:=1) X;have K:=v8 (P:=prog) (t:=5) (k:=.u8) (k':=.u8) (a:=1) (b:=k) hk;simp at f s m K;have v:=d.seen (L:=e.set c {x with l:=y}) (Zs F);have w:=d.seen (L:=e.set c {x with l:=y,r:=n2}) (Zs F);simp [yO] at v w;have R:∀z,((List.map P2 e).set c z)[c]? =some z:=λz=>zF W;by_cases p:k=0;subst p;simp [Nb,n,H,g,m,f,r,q];exact v;simp [Nb,n,H,g,m,K,f,s,r,zC p,q,M,R];exact w
theorem Gi {y:Bool} (t:MS J D E V) (g:c<J.X.g.ins.length):EN prog 135 [.p true J.pv 0,I c,B y] E J.fl λr h=>r= .tu []/\MS J D h V:=by
 have ⟨A,d⟩:=t;have ⟨p,a,q,s⟩:=d.vr.se;have ⟨z,v,H,f,C,F⟩:=d.vr.vm;simp only [Vm.cells,d.iv] at f;have e:=zA (l:=a) (i:=c) O;generalize a[c]=x at e;have j:=d.ij.lo _ p;have w:=λx=>d.ij.get_eq (o:=x) p;have k:=d.seen (L:=a.set c {x with y:=min (i64.wrap (x.y+1)) 1073741824}) (Zs q);have m:=d.seen (L:=a.set c {x with n:=min (i64.wrap (x.n+1)) 1073741824}) (Zs q);simp [yO] at k m;by_cases b:y;subst b;apply EW.o Mi;simp [N9,f,s,e,j,g];exact k;have b:y=false:=by simpa using b
 subst b;apply EW.o Mi;simp [N9,f,s,e,j,g];exact m
end
section
variable {J:ME} {D:Nat->Nat} {E s':ae} {V V':Vm} {A A':Lay} {n:Nat} {f:Fm} {a b:Vl} {H':Hp} {F':Fe}
theorem KF {r:Ro} (h:Rh r):Bx r:=⟨h.1,by have:=h.2;omega⟩
theorem MD.hf (d:MD J D E V A) (a:HR A' s' J.room H') (b:FR A' s' F') (c:bQ J.fl Bx A A' E s'):MS J D s' {V with H:=H',F:=F'}:=
 d.to (d.vr.heap d.ij a b c) (zE _)
theorem MD.h (d:MD J D E V A) (b:HR A' s' J.room H') (a:bQ J.fl Rh A A' E s'):MS J D s' {V with H:=H'}:=
 d.hf b (d.vr.fd.jq d.ij a (by simp [Rh])) (a.mono λ_=>KF)
def WY (J:ME) (D:Nat->Nat) (V:Vm) (H':Hp) (F':Fe) (w:Vl) (t:Int) (y:Bool) (a:Nat) (r:TV) (s':ae):Prop:=
 (a<=J.room/\r= .tu [.ag (aw w),U t,B y]/\MS J D s' {V with H:=H',F:=F'})\/(J.room<a/\r= .tu [.ag (aw vz),U 4,B true]/\MS J D s' V)
def NZ (J:ME) (D:Nat->Nat) (V:Vm) (H':Hp) (w:Vl) (a:Nat) (r:TV) (s':ae):Prop:=
 (a<=J.room/\r= .tu [.ag (aw w),B true]/\MS J D s' {V with H:=H'})\/(J.room<a/\r= .tu [.ag (aw vz),B false]/\MS J D s' V)
theorem MD.al (d:MD J D E V A) {w:Vl} (h:X2 V.H H' w c J.fl A E J.room x s'):NZ J D V H' w c x s':=by rcases h with ⟨a,b,A',e,f⟩|⟨a,b,A',e,f⟩;exact .inl ⟨a,b,d.h e f⟩;exact .inr ⟨a,b,d.h e f⟩
theorem XM (m:JX) (n:A6 V.H) (l:Int) (a b:Vl):∃(H':Hp) (w:Vl) (t:Int) (y:Bool) (j:Nat),0<=t/\t<=6/\∀(J:ME) (D:Nat->Nat) (E:ae) (V':Vm),V'.H=V.H->MS J D E V'->EN prog 133 [.p true J.ph 0,I l,.ag (aw a),.ag (aw b)] E J.fl (WY J D V' H' V'.F w t y j):=by have ⟨H',w,t,y,j,o,p,c⟩:=a0j m n l a b;refine ⟨H',w,t,y,j,o,p,λJ D E V' k ⟨A,d⟩=>?_⟩;have c:=c A E J.room J.fl (k▸d.vr.hp) d.ij d.lf;simp only [d.ih] at c;refine c.mono λr s' h=>?_;rcases h with ⟨e,f,A',g,i⟩|⟨e,f,A',g,i⟩;exact .inl ⟨e,f,d.h g i⟩;exact .inr ⟨e,f,by have:=d.h g i;rw [<-k] at this;exact this⟩
theorem XL (L:kB) (n:∀x∈V.F.ins,-9223372036854775808<=x) (k:Int) (e:List Vl) (a:1<=k) (b:k<=8) (o:e.length=(p6 k).length):∃(H':Hp) (F':Fe) (w:Vl) (t:Int) (y:Bool) (j:Nat),0<=t/\t<=6/\∀(J:ME) (D:Nat->Nat) (E:ae) (V':Vm),V'.H=V.H->V'.F=V.F->MS J D E V'->EN prog 137 [.p true J.ph 0,.p true J.pd 0,I k,.sl false (e.map aw)] E J.fl (WY J D V' H' F' w t y j):=by have ⟨H',F',w,t,y,j,p,q,c⟩:=a0h L V.H V.F n k e a b o;refine ⟨H',F',w,t,y,j,p,q,λJ D E V' l m ⟨A,d⟩=>?_⟩;have c:=c A E J.room J.fl (l▸d.vr.hp) (m▸d.vr.fd) d.ij d.lf;simp only [d.ih,d.ie] at c;refine c.mono λr s' h=>?_;rcases h with ⟨a,b,A',f,g,i⟩|⟨a,b,A',f,g,i⟩;exact .inl ⟨a,b,d.hf f g i⟩;exact .inr ⟨a,b,by have:=d.hf f g i;rw [<-l,<-m] at this;exact this⟩
theorem Oh (H:Hp) (v:Vl) (i:Int):∃(w:Vl) (t:Int),(t=0\/t=2\/t=3)/\∀(J:ME) (D:Nat->Nat) (E:ae) (V':Vm),V'.H=H->MS J D E V'->EN prog 140 [.p true J.ph 0,.ag (aw v),I i] E J.fl λr s'=>r= .tu [.ag (aw w),U t]/\s'=E:=by have ⟨w,t,b,c⟩:=Q6 H v i;refine ⟨w,t,b,λJ D E V' a ⟨A,d⟩=>?_⟩;have c:=c A E J.room J.fl (a▸d.vr.hp);simp only [d.ih] at c;exact c
theorem v141 (H:Hp) (v:Vl) (i:Int) (x:Vl):∃(H':Hp) (t:Int),(t=0\/t=2\/t=3)/\∀(J:ME) (D:Nat->Nat) (E:ae) (V':Vm),V'.H=H->MS J D E V'->EN prog 141 [.p true J.ph 0,.ag (aw v),I i,.ag (aw x)] E J.fl λr s'=>r=U t/\MS J D s' {V' with H:=H'}:=by have ⟨H',t,g,c⟩:=a0g H v i x;refine ⟨H',t,g,λJ D E V' f ⟨A,d⟩=>?_⟩;have c:=c A E J.room J.fl (f▸d.vr.hp) d.ij;simp only [d.ih] at c;exact c.mono λr s' ⟨a,A',b,e⟩=>⟨a,d.h b e⟩
theorem v91 (H:Hp) (b:aU) (f:b.size<=100000000):∃(H':Hp) (w:Vl) (a:Nat),∀(J:ME) (D:Nat->Nat) (E:ae) (V':Vm),V'.H=H->MS J D E V'->EN prog 91 [.p true J.ph 0,.v (.string b)] E J.fl (NZ J D V' H' w a):=by have ⟨H',w,a,c⟩:=m91 H b f;refine ⟨H',w,a,λJ D E V' e ⟨A,d⟩=>?_⟩;subst e;have c:=c A E J.room J.fl d.vr.hp d.ij d.lf;simp only [d.ih] at c;exact c.mono λr s' h=>d.al h
theorem XI (H:Hp) (b:Int) (n:Nat) (z:Vl) (g:0<=b) (f:n<=1000000):∃(H':Hp) (w:Vl) (a:Nat),∀(J:ME) (D:Nat->Nat) (E:ae) (V':Vm),V'.H=H->MS J D E V'->EN prog 186 [.p true J.ph 0,I b,I n,.ag (aw z)] E J.fl (NZ J D V' H' w a):=by have ⟨H',w,a,c⟩:=ZY H b n z g f;refine ⟨H',w,a,λJ D E V' e ⟨A,d⟩=>?_⟩;subst e;have c:=c A E J.room J.fl d.vr.hp d.ij d.lf;simp only [d.ih] at c;exact c.mono λr s' h=>d.al h
theorem XH (H:Hp) (b:Int) (e:List Vl) (m:0<=b) (l:e.length<=100000000):∃(H':Hp) (w:Vl) (a:Nat),∀(J:ME) (D:Nat->Nat) (E:ae) (x:TV) (V':Vm),V'.H=H->MS J D E V'->aO [] E x=some (e.map aw)->aW x->dA x=x->FP x=false->EN prog 187 [.p true J.ph 0,I b,x] E J.fl (NZ J D V' H' w a):=by have ⟨H',w,a,c⟩:=ZX H b e m l;refine ⟨H',w,a,λJ D E x V' k ⟨A,d⟩ f g i j=>?_⟩;subst k;have c:=c A E J.room J.fl x d.vr.hp d.ij d.lf f g i j;simp only [d.ih] at c;exact c.mono λr s' h=>d.al h
theorem MD.zv (d:MD J D E V A) {z:Vl} (e:J.X.zs[c]? =some z):∃(a:cD) (m:Nat),E[A.id pH]? =some (.aY (A.az pH) 4 a)/\a[c]? =some (aw z)/\c<m/\m=J.X.zs.length/\a=J.X.zs.map aw/\∃b sv cv,E[J.pv]? =some (.row (V.cells J.X J.room J.dm A b (.m true (A.id pH) (A.az pH) 0 m 4) sv cv) 0):=by obtain ⟨j,b,n,g,k,h⟩:=d.vr.vm;have f:=aa e;rcases h with ⟨i,rfl⟩|⟨_,l,_⟩;exact ⟨_,_,d.vr.ze i,by rw [zK,e];rfl,f,rfl,rfl,b,_,_,by rw [<-d.iv];exact g⟩;omega
theorem XK (X:Sg) (H:Hp) (e:Nat) (i:Int) (z:Vl) (p:X.zs[e]? =some z):∃(H':Hp) (w q:Vl) (t:Int) (a:Nat),(t=0\/t=2)/\∀(J:ME) (D:Nat->Nat) (E:ae) (V':Vm),J.X=X->V'.H=H->MS J D E V'->EN prog 142 [.p true J.pv 0,I e,I i] E J.fl λr s'=>(a<=J.room/\r= .tu [.ag (aw w),U t]/\MS J D s' {V' with H:=H'})\/(J.room<a/\r= .tu [.ag (aw q),U 4]/\MS J D s' V'):=by by_cases k:i<0;refine ⟨H,vz,vz,2,0,.inr rfl,λJ D E V' l b h=>?_⟩;subst b;apply EW.o Mg;simp [N6,zM k];exact ⟨⟨rfl,rfl,rfl,rfl⟩,h⟩;have ⟨H',w,a,c⟩:=XI H e (min i 65536).toNat z O O;refine ⟨H',w,vz,0,a,.inl rfl,λJ D E V' l b h=>?_⟩;have c:=c J D E V' b h;have ⟨A,d⟩:=h;subst l;have ⟨v,m,s,z2,z3,_,_,x,sv,cv,n⟩:=d.zv p;apply EW.o Mg;simp only [Vm.cells,d.ih] at n;rw [show (((min i 65536).toNat:Nat):Int)=min i 65536 by omega] at c;simp [N6,zC k,n,s,z2,z3];refine CL.o c λr s' o=>?_;rcases o with ⟨f,g,j⟩|⟨f,g,j⟩;subst g;simp;exact ⟨f,j⟩;subst g;simp;exact ⟨f,j⟩
theorem MD.mK (d:MD J D E V A) (t:ae):MD J D (E++t) V A:=by have a:bQ J.fl (λ_=>False) A A E (E++t):=bQ.mK d.ij t;refine ⟨d.vr.jq d.ij a (λh=>h) (λh=>h) (λh=>h) (λh=>h) (λh=>h) (d.vr.hp.jq d.ij a λ_ _ h=>h) (d.vr.fd.jq d.ij a λh=>h) (λi f b=>(d.vr.fr i f b).jq d.ij a λ_ _ h=>h) rfl (λ_ _=>rfl) rfl rfl rfl rfl rfl rfl,a.ij,a.lf d.lf,d.iv,d.ih,d.ie,d.fr,d.R3 a.any⟩
theorem MS.mK (h:MS J D E V) (t:ae):MS J D (E++t) V:=by obtain ⟨A,d⟩:=h;exact ⟨A,d.mK t⟩
def hZ (X:Sg) (r:Rc):List Vl:=((X.S.fd.take (r.fr.toNat+r.count.toNat)).drop r.fr.toNat).map λx=>(X.zs[x.type.toNat]?).getD vz
def Ga (E:ae):Nat->TV
 | 0=>.sl true []
 | i+1=>.m true E.length i 0 (i+1) 4
def Gd (E:ae) (a:List Vl):Nat->ae
 | 0=>E
 | i+1=>E++[.aY i 4 ((a.take (i+1)).map aw)]
theorem Gc (E:ae) (a:List Vl) (i:Nat):∃t,Gd E a i=E++t:=by
 cases i with
 | zero=>exact ⟨[],by simp [Gd]⟩
 | succ i=>exact ⟨_,rfl⟩
theorem GP {E:ae} {a:List Vl} {z:Vl} {o:Bool} (h:a[c]? =some z) (s:a.length<=1000000) (m:d<=E.length) (l:ae):cq true 4 32 2 d (Ga E c) (.sl o [aw z]) l (Gd E a c)=some (Ga E (c+1),l,Gd E a (c+1)):=by
 have r:=aa h;have e:fits (c+1) 32:=by unfold fits;exact decide_eq_true ⟨O,O⟩
 have g:a.take (c+1)=a.take c++[z]:=by rw [xJ,h];rfl
 have f:(a.take c).length=c:=W;cases c with
 | zero=>have:=fD (k:=true) (e:=4) (b:=32) (an:=2) (fl:=d) (l:=l) (s:=E) (y:=.sl o [aw z]) rfl;show cq true 4 32 2 d (.sl true []) (.sl o [aw z]) l E=_;rw [this,zO ⟨BT [z],e,O⟩,zN Z];simp only [df,Ga,Gd,g];simp
 | succ j=>
  have i:=zY m;show cq true 4 32 2 d (.m true E.length j 0 (j+1) 4) (.sl o [aw z]) l (E++[.aY j 4 ((a.take (j+1)).map aw)])=_;rw [kK rfl,zJ (zE _)];simp only [wY,List.getElem?_cons_zero,tR];have q:=BU [z];have n:j+1<=((a.take (j+1)).map aw).length:=by rw [yV,f];exact zE _
  rw [zO ⟨trivial,trivial,trivial,n,i,q,O,e⟩];have p:((a.take (j+1)).map aw).take (j+1)=(a.take (j+1)).map aw:=yE (by rw [yV,f];exact zE _);simp only [Ga,Gd,g,p];simp
theorem Ol:prog.underlying 29=some (.slice 215):=Y
theorem OV:mi prog 215=some 2:=Y
theorem v143 (X:Sg) (H:Hp) (g:Nat) (r:Rc) (hr:X.S.rc[g]? =some r) (h1:0<=r.fr) (h2:0<=r.count) (h3:r.fr+r.count<=X.S.fd.length) (c6:∀x∈X.S.fd,∃(t:Nat) (z:Vl),x.type=(t:Nat)/\X.zs[t]? =some z) (e2:X.S.fd.length<=1000000):∃(H':Hp) (w:Vl) (s:Nat),∀(J:ME) (D:Nat->Nat) (E:ae) (V':Vm),J.X=X->V'.H=H->MS J D E V'->EN prog 143 [.p true J.pv 0,I g] E J.fl (NZ J D V' H' w s):=by
 have f2:(hZ X r).length=r.count.toNat:=by simp [hZ];omega
 have ⟨H',w,s,c⟩:=XH H g (hZ X r) O O;refine ⟨H',w,s,λJ D E V' hX hV c5=>?_⟩;subst hX;have ⟨A,d⟩:=c5;have hb:∀t:ae,J.fl<=(E++t).length:=λt=>yN d.lf Z;apply EW.o SD;have ⟨v1,fv,zv,v2,v3,v4⟩:=d.vr.vm;simp only [Vm.cells,d.iv] at v2;have c9:=aa hr;obtain ⟨n,m,g1,L,g3⟩:∃(n:cD) (m:Nat),n=J.X.S.rc.map sU/\n[g]? =some (sU r)/\g<m/\m=n.length:=⟨_,_,rfl,by rw [zK,hr];rfl,by simpa using c9,rfl⟩;obtain ⟨a,N⟩:∃a:Nat,r.fr=a:=⟨r.fr.toNat,O⟩;obtain ⟨e,b1⟩:∃k:Nat,r.count=k:=⟨r.count.toNat,O⟩;obtain ⟨f,q⟩:∃f,f=(J.X.S.fd.take (a+e)).drop a:=⟨_,rfl⟩;have c7:f.length=e:=by rw [q];simp;omega
 have d3:hZ J.X r=f.map λx=>(J.X.zs[x.type.toNat]?).getD vz:=by unfold hZ;rw [N,b1,q];simp
 have b2:=λ(d6 t:ae)=>mq (l:=d6) (s:=t) (es:=J.X.S.fd.map pP) Ol OV (kE 0 a .i64) (kE _ (a+e) .i64) O W (km (k:=2) (λx=>rfl) _);rw [<-List.map_take,<-List.map_drop,<-q] at b2;have w1:i64.wrap ((a:Int)+e)=((a+e:Nat):Int):=by rw [bW O O];omega
 simp at L;simp [UC,v2,<-g1,L,N,b1];simp only [w1,b2];have R:(f.map pP).length=e:=by simpa using c7
 obtain ⟨l,M⟩:∃l,l=f.map pP:=⟨_,rfl⟩;rw [<-M] at R ⊢;simp [R];have c2:(hZ J.X r).length=e:=O;have d7:=LP.ind (P:=prog) (fl:=J.fl) (r:=RW (NZ J D V' H' w s)) (lv:=[0,1,4,6,30,31,32]) (b:=λk=>a7 (qV k)) (λi:Nat=>e-i) (λi=>i<=e) (λi=>[.p true J.pv 0,I g,.p false 0 0,Ga E i,.sl false l,I e,I i]) (λ_=>[TO.row [U 0,I 0,I 0,I 0] 0,TO.row [TV.v (Value.string r.name.val),I a,I e] 0]) (Gd E (hZ J.X r)) 2 (λi _=>⟨rfl,rfl,by cases i <;> rfl⟩) (λi hi k hk=>?_) 0 (zZ _);simpa [Ga,Gd] using d7;obtain ⟨t,v⟩:∃t,Gd E (hZ J.X r) i=E++t:=Gc _ _ _;have p:=d.mK t;have ⟨f4,d9,f7,c3,f5,f6⟩:=p.vr.vm;simp only [Vm.cells,p.iv] at c3;rw [v];simp [qV];refine ST.dc (λf1=>?_) λe6=>?_;have h:=zA (l:=f) (i:=i) O;generalize f[i]=x at h;have d5:l[i]? =some [TV.v (Value.string x.name.val),I x.type]:=by rw [M,zK,h];rfl
 have ⟨ty,z,b6,hz⟩:=c6 x (by rw [q] at h;exact yG (wM (zI h)));have d4:(hZ J.X r)[i]? =some z:=by rw [d3,zK,h];simp [b6,hz]
 have ⟨ZL,zm,z1,z2,z3,_,_,e1,f3,d8,c4⟩:=p.zv hz;simp only [Vm.cells] at c4;have K:=GP (o:=true) d4 O d.lf;rw [v] at K;have wi:i64.wrap ((i:Int)+1)=((i+1:Nat):Int):=by rw [bW O O];omega
 simp at K z2;simp [d5,c4,b6,z1,z2,z3,K];simp only [wi];refine hk (i+1) _ _ _ ?_ ?_ ?_ O O <;> rfl;have c8:i=e:=by omega
 have dd:MS J D (E++t) V':=⟨A,p⟩;have d1:aO [] (E++t) (Ga E i)=some ((hZ J.X r).map aw):=by
  rw [<-v,c8];cases e with
  | zero=>have:=zL c2;rw [this];rfl
  | succ j=>show aO [] (E++[.aY j 4 (((hZ J.X r).take (j+1)).map aw)]) (.m true E.length j 0 (j+1) 4)=_;rw [fX,zN O,zJ (zE _)];have h5:((hZ J.X r).map aw).take (j+1)=(hZ J.X r).map aw:=yE (by rw [yV];omega);simp [h5,c2]
 simp [DJ,c3,d.ih];have d2:aO [] (E++t) (dA (Ga E i))=some ((hZ J.X r).map aw):=by rw [<-d1];cases i <;> rfl
 have c:=c J D (E++t) (dA (Ga E i)) V' hV dd d2 (by cases i <;> rfl) (by cases i <;> rfl) (by cases i <;> rfl);refine CL.of c (by cases i <;> rfl) λr s' hq=>?_;rcases hq with ⟨y,C,F⟩|⟨y,C,F⟩;subst C;simp;exact .inl ⟨y,rfl,F⟩;subst C;simp;exact .inr ⟨y,rfl,F⟩
end
def JU (X:Sg):Prop:=∀(H:Hp) (v:Vl),A6 H->∃res:Option aU,(∀b,res=some b->b.size<=100000000)/\∀(e:ME) (a:Nat->Nat) (s:ae) (V':Vm),e.X=X->V'.H=H->MS e a s V'->EN prog 188 [X.S.q X.N,.p true e.ph 0,.ag (aw v)] s e.fl λr c=>r= .tu [.v (.string (res.getD ⟨#[]⟩)),B res.isSome]/\MS e a c V'
section
variable {J:ME} {D:Nat->Nat} {s h:ae} {V V':Vm} {A E:Lay} {n:Nat} {f:Fm} {a b:Vl} {H':Hp} {F':Fe}
theorem MD.row (d:MD J D s V A) (c:V'.H=V.H) (b:V'.F=V.F) (a:V'.ab=V.ab) (e:V'.time<=J.X.fuel) (f:SV A dL V.ab.length 1 x) (g:mn A pH J.X.zs.length 4 y):MS J D (s.set J.pv (.row (V'.cells J.X J.room J.dm A x y (.m true (A.id iP) (A.az iP) 0 J.X.g.ins.length 4) (.m true (A.id fj) (A.az fj) 0 J.X.S.fn.length 1)) 0)) V':=by have:=d.vr.KE d.ij c b a e f g;rw [d.iv] at this;exact d.to this (by rw [a];exact zE _)
theorem yo {fl:Nat} {a b:List UInt8} {y:TV} {l s:ae} (h:aO l s y=some (b.map pR)) (d:a.length+b.length<=1000000000):cq false 1 1 0 fl (.sl true (a.map pR)) y l s=some (.sl true ((a++b).map pR),l,s):=by
 rw [Kr h];have c:fits ((a.map pR).length+(b.map pR).length) 1:=by unfold fits;exact decide_eq_true ⟨W,W⟩
 rw [zO ⟨WM b,WM a,c,O⟩,xW];split;rename_i h;rw [h];rfl
theorem XJ (X:Sg) (N:JU X) (V:Vm) (M:A6 V.H) (x:V.out.length<=65536) (v:Vl):∃(y:Bool) (o:List UInt8),(V.out++o).length<=65536/\(y=false->o=[])/\∀(J:ME) (D:Nat->Nat) (s:ae) (V':Vm),J.X=X->V'.H=V.H->V'.out=V.out->MS J D s V'->EN prog 144 [.p true J.pv 0,.ag (aw v)] s J.fl λr h=>r=B y/\MS J D h {V' with out:=V.out++o}:=by
 have ⟨res,b1,c⟩:=N V.H v M;cases res with
 | none=>refine ⟨false,[],by simpa using x,λ_=>rfl,λJ D s V' g k f e=>?_⟩;have c:=c J D s V' g k e;subst g;have ⟨A,d⟩:=e;have ⟨v1,K,zv,m,v3,v4⟩:=d.vr.vm;simp only [Vm.cells,d.iv,d.ih] at m;apply EW.o Mf;simp [N5,m];refine CL.o c λr h ⟨w,n⟩=>?_;subst w;simp;rw [<-f];exact n
 | some t=>
  have ht:=b1 t rfl;have C:∀(J:ME) (D:Nat->Nat) (s:ae) (V':Vm) (Q:jy),J.X=X->V'.H=V.H->V'.out=V.out->MS J D s V'->
    (∀h,MS J D h V'->t.size+V.out.length≥65536->Q (B false) h)->(∀h,t.size+V.out.length<65536->MS J D h {V' with out:=V.out++(t.data.toList++[10])}->Q (B true) h)->
    EN prog 144 [.p true J.pv 0,.ag (aw v)] s J.fl Q:=by
   intro J D s V' Q g k f e k1 k2;have c:=c J D s V' g k e;subst g;have ⟨A,d⟩:=e;have ⟨v1,K,zv,m,v3,v4⟩:=d.vr.vm;simp only [Vm.cells,d.iv,d.ih] at m;apply EW.o Mf;simp [N5,m];refine CL.o c λr h ⟨w,n⟩=>?_;subst w;have b2:=n;have ⟨E,i⟩:=n;have ⟨b6,c5,c6,p,c2,c3⟩:=i.vr.vm;have q:=i.row (V':={V' with out:=V.out++(t.data.toList++[10])}) rfl rfl rfl i.vr.ti c2 c3;simp only [Vm.cells,i.iv,i.ih] at p q;have w1:i64.wrap (t.size:Int)=t.size:=bW O O;have w2:i64.wrap (65536-(V.out.length:Int))=65536-(V.out.length:Int):=bW O O;simp [p,f,w2];have P:=i.iv▸i.ij.lo _ b6;have R:=aa p;have L:=λc4:TO=>zF (a:=c4) R;apply ST.mk<;>intro e;simp;apply k1 _ b2;have:=yB e;omega;have h':=of_decide_eq_false e;have z:t.data.toList.length=t.size:=xX;have F:=λl s=>yo (fl:=J.fl) (a:=V.out) (b:=t.data.toList) (y:=.v (.string t)) (l:=l) (s:=s) (by simp [aO]) O;have H:=λ(o:Bool) l s=>yo (fl:=J.fl) (a:=V.out++t.data.toList) (b:=[10]) (y:=.sl o [[U 10]]) (l:=l) (s:=s) rfl W;simp at F H q;simp [p,f,P,L,F,H];apply k2 _ O;simpa using q
  by_cases hl:t.size+V.out.length≥65536;refine ⟨false,[],by simpa using x,λ_=>rfl,λJ D s V' g k f e=>C J D s V' _ g k f e (λh j _=>⟨rfl,?_⟩) λh j _=>absurd j O⟩;rw [<-f];simpa using j;refine ⟨true,t.data.toList++[10],?_,(λe=>by cases e),λJ D s V' g k f e=>C J D s V' _ g k f e (λh _ j=>absurd j O) λh _ j=>⟨rfl,j⟩⟩;have z:t.data.toList.length=t.size:=xX;rw [xC,xC,z];simp;omega
end
def MQ (c a:Nat) (b:ao) (bs:List UInt8):ao:=(b.set a (.p true c a)).set (a+1) (.sl true (bs.map pR))
structure Ir (s:ae) (id off z:Nat) (cs:ao) (bs:List UInt8):Prop where
 get:s[id]? =some (.row cs z)
 ad:cs[off]? =some (.v (.pointer none))\/cs[off]? =some (.p true id off)
 bf:cs[off+1]? =some (.sl true (bs.map pR))
 mark:pN z off
section
variable {J:ae} {id E fl D:Nat} {h:ao} {bs:List UInt8}
theorem IE (a:Ir J id E D h bs) (f:fl<=id):lI id E J fl=some (J.set id (.row (h.set E (.p true id E)) D)):=by
 have d:=zY f;have j:=aa a.get;unfold lI;simp only [a.get,a.mark,d,and_self,if_true];rcases a.ad with b|b;simp only [b,eQ];have g:=aa b;simp only [b,and_self,if_true];have c:h.set E (.p true id E)=h:=xK λi=>by by_cases e:i=E;subst e;rw [zF g,b];rw [zD (wQ e)]
 rw [c];congr 1;exact (xK λi=>by by_cases e:i=id;subst e;rw [zF j,a.get];rw [zD (wQ e)])
theorem IP (a:Ir J id E D h bs) (f:fl<=id) (b:List UInt8) (i:bs.length+b.length<=1000000000):sR id E (b.map pR) (J.set id (.row (h.set E (.p true id E)) D)) fl=some (J.set id (.row (MQ id E h (bs++b)) D)):=by
 have e:=zY f;have g:=aa a.get;have c:(h.set E (.p true id E))[E+1]? =some (.sl true (bs.map pR)):=by rw [zD O];exact a.bf
 have d:fits ((bs.map pR).length+(b.map pR).length) 1:=by unfold fits;exact decide_eq_true ⟨W,W⟩
 unfold sR;rw [zF g];simp only [c];rw [zO ⟨a.mark,WM b,WM bs,d,e⟩,wA,<-List.map_append];rfl
theorem Zz (a:Ir J id E D h bs):EN prog 235 [.p true id E] J fl λr b=>r=I bs.length/\b=J:=by apply EN.o Rf;simp [TA,a.get,<-dT,a.bf]
theorem PW (b:Ir J id E D h bs) (j:bs≠[]) (g:fl<=id) (i:bs.length<=1000000000):EN prog 225 [.p true id E] J fl λr l=>r= .v (.string ⟨bs.toArray⟩)/\l=J.set id (.row (h.set (E+1) (.sl false (bs.map pR))) D):=by
 refine Ends.iQ (f:=sC) Y Y ?_ ⟨rfl,rfl⟩;have d:=zY g;have e:∀bs:List UInt8,Kn (bs.map pR)=some bs:=λbs=>by
  induction bs with
  | nil=>rfl
  | cons a L k=>have:=a.toNat_lt;simp only [yY,pR,Kn,k,zH];rw [zO ⟨O,O⟩];simp
 have e:=e bs;have c:=b.bf;unfold sC;cases bs with
 | nil=>exact absurd rfl j
 | cons a L=>simp at c e;simp only [b.get,c];rw [zO ⟨b.mark,d,by simp at i ⊢;omega⟩,e];rfl
theorem PV (a:Ir J id E D h bs) (t:aU) (b:fl<=id) (e:bs.length+t.size<=1000000000):EN prog 236 [.p true id E,.v (.string t)] J fl λr c=>r= .tu [I t.size,.v .nilIface]/\c=J.set id (.row (MQ id E h (bs++t.data.toList)) D):=by refine Ends.iQ (f:=yh) Y Y ?_ ⟨rfl,rfl⟩;have d:=IP a b t.data.toList (by have:t.data.toList.length=t.size:=xX;omega);show (lI id E J fl).bind _=_;rw [IE a b];show (sR id E (t.data.toList.map pR) _ fl).map _=_;rw [d];rfl
theorem PO (a:Ir J id E D h bs) (c:Nat) (g:c<256) (b:fl<=id) (i:bs.length+1<=1000000000):EN prog 238 [.p true id E,U c] J fl λr j=>r= .v .nilIface/\j=J.set id (.row (MQ id E h (bs++[UInt8.ofNat c])) D):=by
 refine Ends.iQ (f:=yg) Y Y ?_ ⟨rfl,rfl⟩;have d:=IP a b [UInt8.ofNat c] (Zs i);have e: [UInt8.ofNat c].map pR=[[U c]]:=by simp [Nat.mod_eq_of_lt g]
 rw [e] at d;show (lI id E J fl).bind _=_;rw [IE a b];show (sR id E [[U c]] _ fl).map _=_;rw [d];rfl
end
theorem Ko {P:aB} {t:aP} {k:IntKind} {a b:Int}:cm P .and t (.v (.int k a)) (.v (.int k b))=some (.v (.int k (k.wrap (BitVec.ofInt k.bits a&&& BitVec.ofInt k.bits b).toNat))):=cy rfl rfl (Fi t k a b)
theorem Vg (n:Int):0<=u8.wrap (BitVec.ofInt u8.bits n&&& BitVec.ofInt u8.bits 15).toNat/\u8.wrap (BitVec.ofInt u8.bits n&&& BitVec.ofInt u8.bits 15).toNat<=15:=by
 have h:(BitVec.ofInt u8.bits n&&& BitVec.ofInt u8.bits 15).toNat<=15:=by
  rw [BitVec.toNat_and];apply yN Nat.and_le_right
  decide
 generalize (BitVec.ofInt u8.bits n&&& BitVec.ofInt u8.bits 15).toNat=m at h;have:=w8 (x:=(m:Int)) O O;rw [this];omega
theorem v7 {a:cD}:bJ prog 77 9 (.sl q a) r s=(cO a).map λbs=>.v (.string ⟨bs.toArray⟩):=by have b:prog.underlying 77=some (.slice 5):=Y;have c:prog.underlying 9=some .string:=Y;have d:prog.underlying 5=some (.int .u8):=Y;unfold bJ;simp
theorem Zy (n:Nat) (X:n<256):∃t:aU,t.size<=4/\EP prog 237 [U n] (· = .v (.string t)):=by
 by_cases f:(n:Int)=34;refine ⟨⟨#[92,34]⟩,by decide,EP.o w6 λs Q c=>?_⟩;simp [tN,f,v7,cO];exact c _ rfl;by_cases g:(n:Int)=92;refine ⟨⟨#[92,92]⟩,by decide,EP.o w6 λs Q c=>?_⟩;simp [tN,g,v7,cO];exact c _ rfl;by_cases h:(n:Int)=10;refine ⟨⟨#[92,110]⟩,by decide,EP.o w6 λs Q c=>?_⟩;simp [tN,h];exact c _ rfl;by_cases i:(n:Int)=9;refine ⟨⟨#[92,116]⟩,by decide,EP.o w6 λs Q c=>?_⟩;simp [tN,i];exact c _ rfl;by_cases j:(n:Int)<32\/(126:Int)<n;obtain ⟨x,C⟩:∃x:Int,x=(n:Int).fdiv (2^4):=⟨_,rfl⟩;have M:0<=x/\x<=15:=by rw [C,Int.fdiv_eq_ediv_of_nonneg _ O];omega
 have L:min (Int.toNat 4) u8.bits=4:=Y;have q:=D0 (P:=prog) (t:=5) (k:=.u8) (k':=.u64) (a:=n) (b:=4) O;rw [L,<-C] at q;have F:u8.wrap (x+1)=x+1:=w8 O O;obtain ⟨y,E⟩:∃y,y=u8.wrap (BitVec.ofInt u8.bits n&&& BitVec.ofInt u8.bits 15).toNat:=⟨_,rfl⟩;have N:=E▸Vg n;have r:=Ko (P:=prog) (t:=5) (k:=.u8) (a:=n) (b:=15);rw [<-E] at r;have H:u8.wrap (y+1)=y+1:=w8 O O;obtain ⟨D,A⟩:∃D:aU,D=⟨#[48,49,50,51,52,53,54,55,56,57,97,98,99,100,101,102]⟩:=⟨_,rfl⟩;have R:D.size=16:=by rw [A];decide
 have o:=λ(l s:ae)=>Ak (k:=.u8) (k':=.u8) (hi:=x+1) (b:=D) (l:=l) (s:=s) M.1 O O;have p:=λ(l s:ae)=>Ak (k:=.u8) (k':=.u8) (lo:=y) (hi:=y+1) (b:=D) (l:=l) (s:=s) N.1 O O;have z1:(D.extract x.toNat (x+1).toNat).size<=1:=by rw [xO];omega
 have z2:(D.extract y.toNat (y+1).toNat).size<=1:=by rw [xO];omega
 generalize D.extract x.toNat (x+1).toNat=d at*;generalize D.extract y.toNat (y+1).toNat=w at*;rw [A] at o p;have J:(⟨#[92,120]⟩:aU).size=2:=by decide
 have c1:=jc (P:=prog) (t:=9) ⟨#[92,120]⟩ d O;have K:((⟨#[92,120]⟩:aU)++d).size=2+d.size:=by rw [xB,J]
 have v:=jc (P:=prog) (t:=9) (⟨#[92,120]⟩++d) w O;refine ⟨⟨#[92,120]⟩++d++w,by rw [xB,K];omega,EP.o w6 λs Q c=>?_⟩;have z:=c _ rfl;by_cases m:(n:Int)<32;simp [tN,zC f,zC g,zC h,zC i,zM m,q,r,F,H,o,p,c1,v];exact z;simp [tN,zC f,zC g,zC h,zC i,zC m,zM (j.resolve_left m),q,r,F,H,o,p,c1,v];exact z;refine ⟨⟨#[UInt8.ofNat n]⟩,by show (1:Nat)<=4;omega,EP.o w6 λs Q c=>?_⟩;have a3:=λe=>j (.inl e);have a4:=λe=>j (.inr e);simp [tN,zC f,zC g,zC h,zC i,zC a3,zC a4,v7,cO];exact c _ rfl
theorem JB:∃f:Nat->aU,∀n,n<256->(f n).size<=4/\EP prog 237 [U n] (· = .v (.string (f n))):=by
 have h:∀n:Nat,∃t:aU,n<256->t.size<=4/\EP prog 237 [U n] (· = .v (.string t)):=λn=>by by_cases a:n<256;have ⟨t,b⟩:=Zy n a;exact ⟨t,λ_=>b⟩;exact ⟨⟨#[]⟩,λh=>absurd h a⟩
 exact ⟨λn=>Classical.choose (h n),λn a=>Classical.choose_spec (h n) a⟩
theorem ZC (b:aU) (A:b.size<=100000000):∃n:Int,EP prog 231 [.v (.string b)] (· =I n):=by
 have ⟨f,a⟩:=JB;obtain ⟨g,e⟩:∃g:Nat->Nat,g=λj=>(f (b.data.toList.getD j 0).toNat).size:=⟨_,rfl⟩;obtain ⟨q,r,t,v⟩:∃q:Nat->Nat,q 0=2/\(∀j,q (j+1)=q j+g j)/\∀j,q j<=2+4*j:=by
  refine ⟨λj=>Nat.rec 2 (λj x=>x+g j) j,rfl,λj=>rfl,λj=>?_⟩;induction j with
  | zero=>exact zE 2
  | succ j w=>
   have:g j<=4:=by rw [e];exact (a _ (UInt8.toNat_lt _)).1
   simp only at w ⊢;omega
 refine ⟨q b.size,EP.o Rj λs Q l=>?_⟩;simp [TD];rw [show (2:Int)=((q 0:Nat):Int) by rw [r];rfl];refine LP.ind (λx:Nat=>b.size-x) (λx=>x<=b.size) (λx=>[.v (.string b),I (q x),I b.size,I x]) (λ_=>[]) (λ_=>s) 0 (λ_ _=>⟨rfl,rfl,rfl⟩) (λj C k p=>?_) 0 (zZ _);simp [uq];apply ST.dc<;>intro h;have c1:=(a (b.data.toList.getD j 0).toNat (UInt8.toNat_lt _)).2;have y:=wn (j:=j) O;have D:=v j;have E:q (j+1)=q j+(f (b.data.toList.getD j 0).toNat).size:=by rw [t,e]
 have z:=(a (b.data.toList.getD j 0).toNat (UInt8.toNat_lt _)).1;have d:=sI (k:=.i64) (m:=(j:Int)) (b:=b) ⟨O,O⟩;rw [show ((j:Int)).toNat=j by omega] at d;have i:i64.wrap ((q j:Int)+((f (b.data.toList.getD j 0).toNat).size:Nat))=((q (j+1):Nat):Int):=by rw [bW O O];omega
 obtain ⟨c,o⟩:∃c:Nat,c=(b.data.toList.getD j 0).toNat:=⟨_,rfl⟩;rw [<-o] at d c1 i;simp [d,CP.q c1,i,y];refine p (j+1) _ _ _ Z rfl rfl O (by show b.size-(j+1)<b.size-j;omega);have:j=b.size:=by omega
 subst this;simp [Dn];exact l _ rfl
theorem ZB (b:aU) (hb:b.size<=100000000):∃t:aU,(0<t.size/\t.size<=4*b.size+2)/\EP prog 232 [.v (.string b)] (· = .v (.string t)):=by
 have ⟨f,l⟩:=JB;obtain ⟨g,v⟩:∃g:Nat->List UInt8,g=λj=>(f (b.data.toList.getD j 0).toNat).data.toList:=⟨_,rfl⟩;have K:∀j,(g j).length<=4:=λj=>by rw [v];have:=(l (b.data.toList.getD j 0).toNat (UInt8.toNat_lt _)).1;simpa using this
 obtain ⟨q,N,P,n⟩:∃q:Nat->List UInt8,q 0=[34]/\(∀j,q (j+1)=q j++g j)/\∀j,(q j).length<=1+4*j:=by
  refine ⟨λj=>Nat.rec [34] (λj x=>x++g j) j,rfl,λj=>rfl,λj=>?_⟩;induction j with
  | zero=>exact zE 1
  | succ j R=>have:=K j;simp at R ⊢;omega
 refine ⟨⟨(q b.size++[34]).toArray⟩,?_,EP.o Ri λs Q H=>?_⟩;have:=n b.size;show 0<(q b.size++[34]).toArray.size/\(q b.size++[34]).toArray.size<=_;simp;omega;have gp:=λx:TO=>(by simp:(s++[x])[s.length]? =some x);have sp:=λx y:TO=>(by simp:(s++[x]).set s.length y=s++[y]);have A:Ir (s++[.row FY 1000339]) s.length 0 1000339 FY []:=⟨gp _,.inl rfl,rfl,Y⟩;obtain ⟨C,k⟩:∃C:List UInt8->ao,C=λbs=>[.p true s.length 0,.sl true (bs.map pR)]:=⟨_,rfl⟩;have bl:∀bs,Ir (s++[.row (C bs) 1000339]) s.length 0 1000339 (C bs) bs:=λbs=>⟨gp _,.inr (by rw [k];rfl),by rw [k];rfl,Y⟩;have p:∀bs a,MQ s.length 0 (C bs) a=C a:=λbs a=>by rw [k];rfl
 have D:∀a,MQ s.length 0 FY a=C a:=λa=>by rw [k];rfl
 simp [TC];refine CL.o (PO A 34 O (zE _) Z) λr z ⟨e,i⟩=>?_;subst e;subst i;rw [sp,D];simp;rw [show (C ([]++[UInt8.ofNat 34]))=C (q 0) by rw [N];rfl];refine LP.ind (lv:=[0,3,7,8]) (λx:Nat=>b.size-x) (λx=>x<=b.size) (λx=>[.v (.string b),.p true s.length 0,I b.size,I x]) (λ_=>[]) (λx=>s++[.row (C (q x)) 1000339]) 0 (λ_ _=>⟨rfl,rfl,rfl⟩) (λj hj b1 L=>?_) 0 (zZ _);simp [um];apply ST.dc<;>intro h;have c1:=(l (b.data.toList.getD j 0).toNat (UInt8.toNat_lt _)).2;have X:=wn (j:=j) O;have M:=n j;have F:=(l (b.data.toList.getD j 0).toNat (UInt8.toNat_lt _)).1;have o:=sI (k:=.i64) (m:=(j:Int)) (b:=b) ⟨O,O⟩;have w:q (j+1)=q j++(f (b.data.toList.getD j 0).toNat).data.toList:=by rw [P,v]
 rw [show ((j:Int)).toNat=j by omega] at o;obtain ⟨c,J⟩:∃c:Nat,c=(b.data.toList.getD j 0).toNat:=⟨_,rfl⟩;rw [<-J] at o c1 w F;have d:=PV (bl (q j)) (f c) (zE s.length) O;rw [sp,p,<-w] at d;simp [o,CP.q c1];refine CL.o d λr z ⟨e,i⟩=>?_;subst e;subst i;simp [X];refine L (j+1) _ _ _ Z rfl rfl O (by show b.size-(j+1)<b.size-j;omega);have:j=b.size:=by omega
 subst this;have M:=n b.size;have d:=PO (bl (q b.size)) 34 O (zE s.length) O;rw [sp,p] at d;have E:=PW (bl (q b.size++[UInt8.ofNat 34])) Z (zE _) W;simp [Dm];refine CL.o d λr z ⟨e,i⟩=>?_;subst e;subst i;simp [CL.q E];exact H _ rfl
@[simp] theorem Wv (h:a≠11):AK 1000341 a 1:=by
 unfold AK;rw [show Nat.ble 1000341 999999=false from rfl,show gy 1000341=some (341,10,14) by simp [gy]];simp;by_cases b:a<=11;have:Nat.ble (10+2) (a+1)=false:=by
  cases e:Nat.ble (10+2) (a+1) with
  | false=>rfl
  | true=>have:=yR e;omega
 rw [this];simp;have:Nat.ble a (10+1)=false:=by
  cases e:Nat.ble a (10+1) with
  | false=>rfl
  | true=>have:=yR e;omega
 rw [this];simp
@[simp] theorem WU {d e f g h i j k l m:TV}:pT 1000341 [x,y,z,d,e,f,g,h,i,j,k,.sl q [],l,m]:=Y
structure PZ where
 out:List UInt8
 ad:Bool
 mp:Array MapEntry
 cl:Nat
 fL:Bool
def PZ.put (st:PZ) (t:aU):PZ:=if st.fL=true\/65536<st.out.length+t.size then {st with fL:=true} else {st with out:=st.out++t.data.toList,ad:=true}
section
variable {N:List Nd} {S:SS} {hp:TV} {pre:ae} {st:PZ} {fl:Nat}
def PC (N:List Nd) (S:SS) (hp:TV) (b:Nat) (st:PZ):ao:=[.sl false (N.map bG),.sl false (S.ma.map ig),.sl false (S.ty.map dN),.sl false (S.rc.map sU),.sl false (S.fd.map pP),.sl false (S.fn.map jw),.sl false (S.sl.map bt),.sl false (S.va.map sd),.sl false (S.pt.map vG),hp,if st.ad=true then .p true (b+1) 10 else .v (.pointer none),.sl true (st.out.map pR),.mp b,B st.fL]
def PM (N:List Nd) (S:SS) (hp:TV) (pre:ae) (st:PZ):ae:=pre++[.mp st.mp st.cl,.row (PC N S hp pre.length st) 1000341]
theorem WZ:(PM N S hp pre st)[pre.length]? =some (.mp st.mp st.cl):=by rw [PM,gp0];rfl
theorem mU:(PM N S hp pre st)[pre.length+1]? =some (.row (PC N S hp pre.length st) 1000341):=by rw [PM,gp];rfl
theorem Im {st':PZ} (a:st'.mp=st.mp) (b:st'.cl=st.cl):(PM N S hp pre st).set (pre.length+1) (.row (PC N S hp pre.length st') 1000341)=PM N S hp pre st':=by rw [PM,sp];simp [PM,a,b]
theorem PMb:Ir (PM N S hp pre st) (pre.length+1) 10 1000341 (PC N S hp pre.length st) st.out:=⟨mU,by unfold PC;cases st.ad <;> simp,by unfold PC;rfl,Y⟩
theorem PMl {a:List UInt8}:MQ (pre.length+1) 10 (PC N S hp pre.length st) a=PC N S hp pre.length {st with out:=a,ad:=true}:=by unfold MQ PC;simp
theorem vO (k:fl<=pre.length) (t:aU) (l:st.out.length<=65536) (m:t.size<=500000000):EN prog 230 [.p true (pre.length+1) 0,.v (.string t)] (PM N S hp pre st) fl λr d=>r= .tu []/\d=PM N S hp pre (st.put t):=by
 have c:Nat.ble fl (pre.length+1):=zY O;apply EW.o Rk;cases a:st.fL with
 | true=>
  have e:st.put t=st:=by unfold PZ.put;rw [zO (.inl a)];cases st;simp only at a;subst a;rfl
  rw [e];have j:PC N S hp pre.length st=PC N S hp pre.length {st with fL:=true}:=by cases st;simp only at a;subst a;rfl
  have:=Im (N:=N) (S:=S) (hp:=hp) (pre:=pre) (st':=st) rfl rfl;simp only [PC,a] at this;simp [MU,mU,PC,a,c];exact this
 | false=>
  have c1:=Zz (fl:=fl) (PMb (N:=N) (S:=S) (hp:=hp) (pre:=pre) (st:=st));have b:=λh=>PV (fl:=fl) (PMb (N:=N) (S:=S) (hp:=hp) (pre:=pre) (st:=st)) t O h;rw [PMl] at b;have w:i64.wrap (65536-(st.out.length:Int))=65536-(st.out.length:Int):=bW O O;simp [MU,mU,PC,a,CL.q c1,w];apply ST.mk<;>intro h;have f:=yB h;have e:st.put t={st with fL:=true}:=by unfold PZ.put;rw [zO (.inr O)]
  have:=Im (N:=N) (S:=S) (hp:=hp) (pre:=pre) (st:=st) (st':={st with fL:=true}) rfl rfl;simp only [PC] at this;rw [e];simp [mU,PC,a,c];exact this;have f:=of_decide_eq_false h;have e:st.put t={st with out:=st.out++t.data.toList,ad:=true}:=by unfold PZ.put;rw [zN (by rw [a];simp;omega)]
  rw [e];simp;refine CL.o (b O) λr d ⟨g,i⟩=>?_;subst g;subst i;simp;exact Im rfl rfl
end
def AV (e:MapEntry):Int:=match e.key with
 | .int _ n=>n
 | _=>0
def KI (L:List MapEntry):Prop:=∀e∈L,∃(a:Int) (b:Nat),e.key= .int .i64 a/\e.val= .int .i64 b/\b<=100000000
def sj (L:List MapEntry) (a:Int):Bool:=L.all λe=> !decide (AV e=a)
theorem R6 (a:Int):∀(L:List MapEntry) (i:Nat),KI L->(sj L a=true->Instr.findNow (.int .i64) (.int .i64 a) L i=some none)/\(sj L a=false->∃j,∃e∈L,Instr.findNow (.int .i64) (.int .i64 a) L i=some (some (j,e.val))):=by
 intro L;induction L with
 | nil=>intro i _;exact ⟨λ_=>rfl,λh=>by simp [sj] at h⟩
 | cons e L r=>
  intro i h;have ⟨b,k,d,s,_⟩:=h e (xS ..);have o:AV e=b:=by unfold AV;rw [d]
  have g:=r (i+1) λx q=>h x (yU _ q);have p:sj (e::L) a=(!decide (b=a)&&sj L a):=by simp [sj,o]
  rw [p];by_cases f:a=b;subst f;have c:Instr.sameNow (.int .i64) (.int .i64 a) e.key=some true:=by rw [d];simp [Instr.sameNow]
  refine ⟨λh=>by simp at h,λ_=>⟨i,e,xS ..,by simp only [Instr.findNow,c]⟩⟩;have c:Instr.sameNow (.int .i64) (.int .i64 a) e.key=some false:=by rw [d];simp [Instr.sameNow,f]
  have n:decide (b=a)=false:=decide_eq_false λe=>f e.symm;rw [n];refine ⟨λh=>?_,λh=>?_⟩;simp only [Instr.findNow,c];exact g.1 (Zs h);have ⟨j,x,l,m⟩:=g.2 (Zs h);exact ⟨j,x,yU _ l,by simp only [Instr.findNow,c];exact m⟩
def uc (n:Nat) (L:List MapEntry):Nat:=((List.range n).map λ(i:Nat)=>if sj L ((i:Int)+1)=true then 1 else 0).sum
theorem Kv {b:Type} (f g:b->Nat) (L:List b) (h:∀x∈L,f x<=g x):(L.map f).sum<=(L.map g).sum:=by
 induction L with
 | nil=>simp
 | cons a L d=>have e:=h a (xS ..);have i:=d λx c=>h x (yU _ c);simp;omega
theorem Ku {d:Type} (f g:d->Nat) (L:List d) (h:∀x∈L,f x<=g x) {y:d} (b:y∈L) (k:f y<g y):(L.map f).sum<(L.map g).sum:=by
 induction L with
 | nil=>cases b
 | cons a L e=>have i:=h a (xS ..);have j:=Kv f g L λx c=>h x (yU _ c);rcases yQ.1 b with rfl|b;simp;omega;have:=e (λx c=>h x (yU _ c)) b;simp;omega
theorem xu (L:List MapEntry) (e:MapEntry) (a:Int):sj (L++[e]) a=(sj L a&& !decide (AV e=a)):=by simp [sj]
theorem Er {L:List MapEntry} {e:MapEntry} (c:b<a) (d:AV e=(b:Int)+1) (f:sj L ((b:Int)+1)):uc a (L++[e])<uc a L:=by refine Ku _ _ _ (λx _=>?_) (wH.2 c) ?_;rw [xu];cases sj L ((x:Int)+1) <;> simp;split <;> omega;rw [xu,f,d];simp
theorem Hv (n:Nat):uc n []=n:=by
 unfold uc;induction n with
 | zero=>rfl
 | succ n a=>rw [wD,xW,List.sum_append,a];simp [sj]
def CK (a:Int):Option TO->ek
 | some (.mp b _)=>match Instr.findNow (.int .i64) (.int .i64 a) b.toList 0 with
  | some (some (_,v))=>some (.tu [c1 v,B true])
  | some none=>some (.tu [I 0,B false])
  | none=>none
 | _=>none
theorem CM (a:Int) (b:Nat) (l s:ae):FM prog 336 true (.mp b) (I a) l s=CK a s[b]? :=by have c:prog.underlying 336=some (.map 2 3):=Y;have d:prog.underlying 2=some (.int .i64):=Y;have e:(prog.info? 3).bind (·.zero)=some (.int .i64 0):=Y;unfold FM;rw [c];simp;unfold sG CK;simp;rcases s[b]? with _|o;rfl;cases o <;> rfl
def Gv (a:Int) (k:Int) (d c:Nat) (l s:ae):Option TO->Option (ae×ae)
 | some (.mp b cl)=>if Nat.ble d c=true then match Instr.findNow (.int .i64) (.int .i64 a) b.toList 0 with
   | some (some (i,_))=>if Instr.sameBits 10000 (((b[i]?).map (·.key)).getD (.int .i64 a)) (.int .i64 a)=true then some (l,s.set c (.mp (b.modify i λe=>{e with key:=.int .i64 a,val:=.int .i64 k}) cl)) else none
   | some none=>some (l,s.set c (.mp (b.push {key:=.int .i64 a,val:=.int .i64 k,born:=cl}) (cl+1)))
   | none=>none
  else none
 | _=>none
theorem PG (a:Int) (k:Int) (b c:Nat) (l s:ae):Q.L3 prog 336 c (.mp b) (I a) (I k) l s=Gv a k c b l s s[b]? :=by have d:prog.underlying 336=some (.map 2 3):=Y;have e:prog.underlying 2=some (.int .i64):=Y;unfold Q.L3;rw [d];simp;unfold Ai Gv;simp only [T.ob,cond_true,keyed,ak,wr,put,true_and];rcases s[b]? with _|o;rfl;cases o <;> rfl
theorem Ki {l:ae} {b:Array MapEntry} {cl:Nat} (h:r[a]? =some (.mp b cl)):eP prog 336 (.mp a) l r=some (I (b.size:Nat)):=by have c:prog.underlying 336=some (.map 2 3):=Y;unfold eP;rw [c];simp only [T.ob,cond_true,h]
structure PZ.OK (n:Nat) (st:PZ):Prop where
 ki:KI st.mp.toList
 out:st.out.length<=65536
 sz:st.mp.size+uc n st.mp.toList<=n
structure PZ.Le (n:Nat) (st st':PZ):Prop where
 mu:uc n st'.mp.toList<=uc n st.mp.toList
 lg:st.fL->st'=st
section
variable {n:Nat} {st D E:PZ}
theorem PZ.Le.refl (st:PZ):PZ.Le n st st:=⟨zE _,λ_=>rfl⟩
theorem PZ.Le.trans (h:PZ.Le n st D) (a:PZ.Le n D E):PZ.Le n st E:=⟨yN a.mu h.mu,λe=>by have:=h.lg e;subst this;exact a.lg e⟩
theorem sV {t:aU} (h:st.fL):st.put t=st:=by unfold PZ.put;rw [zO (.inl h)];cases st;simp only at h;subst h;rfl
theorem mF {t:aU}:(st.put t).mp=st.mp:=by unfold PZ.put;split <;> rfl
theorem PZ.OK.put {t:aU} (h:PZ.OK n st):PZ.OK n (st.put t):=by refine ⟨by rw [mF];exact h.ki,?_,by rw [mF];exact h.sz⟩;have:=h.out;unfold PZ.put;split;exact this;rename_i a;have b:t.data.toList.length=t.size:=xX;simp;omega
theorem PZ.Le.put {t:aU}:PZ.Le n st (st.put t):=⟨by rw [mF];exact zE _,sV⟩
theorem rD {t:aU} (h:0<t.size) (a:(st.put t).fL=false):(st.put t).out≠[]:=by unfold PZ.put at a ⊢;split at a;cases a;rename_i b;rw [zN b];have c:t.data.toList.length=t.size:=xX;intro e;have:=yC List.length e;simp only [xC,c,List.length_nil] at this;omega
theorem PZ.OK.lng (h:PZ.OK n st):PZ.OK n {st with fL:=true}:=⟨h.ki,h.out,h.sz⟩
theorem PZ.Le.lng:PZ.Le n st {st with fL:=true}:=⟨zE _,λh=>by cases st;simp only at h;subst h;rfl⟩
end
section
variable {N:List Nd} {S:SS} {H:Hp} {st:PZ}
def Io (A:Lay) (a:ae):Prop:=∀r,A.al r->A.id r<a.length
def VS (N:List Nd) (S:SS) (H:Hp) (K:Nat) (st:PZ) (v:Vl) (b:PZ):Prop:=PZ.OK H.aD.length b/\PZ.Le H.aD.length st b/\(b.fL=false->b.out≠[])/\∀(A:Lay) (a:ae) (d c:Nat),HR A a d H->Io A a->c<=a.length->EN prog K [.p true (a.length+1) 0,.ag (aw v)] (PM N S (.p true (A.id bY) 0) a st) c λr e=>r= .tu []/\e=PM N S (.p true (A.id bY) 0) a b
theorem qw {A:Lay} {hp:TV} (h:HR A r a H) (c:Io A r):HR A (PM N S hp r st) a H:=h.tY (λh=>h) ⟨λ_ _=>⟨rfl,rfl,rfl⟩,λd b _=>zB (c d b),λ_ _=>⟨rfl,rfl⟩⟩ λ_ _=>.inl λh=>h
theorem ZE (L:kB) (hH:A6 H) (C:PZ.OK H.aD.length st) (v:Vl) (P:v.k=6\/v.k=7->∃l,VS N S H 233 st v l):∃l,VS N S H 224 st v l:=by
 have o:∀t:aU,0<t.size->t.size<=500000000->(∀(A:Lay) (a:ae) (f d:Nat),HR A a f H->Io A a->d<=a.length->∀Q:jy,(CL prog 230 [.p true (a.length+1) 0,.v (.string t)] d (λ_=>rt (X:=Xc prog d (RW Q)) (.tu [])) [.row (aw v) 0] (PM N S (.p true (A.id bY) 0) a st))->EN prog 224 [.p true (a.length+1) 0,.ag (aw v)] (PM N S (.p true (A.id bY) 0) a st) d Q)->∃l,VS N S H 224 st v l:=λt hp ht b2=>by refine ⟨st.put t,C.put,.put,rD hp,λA a f d h g i=>b2 A a f d h g i _ ?_⟩;refine CL.o (vO i t C.out ht) λr R ⟨q,s⟩=>?_;subst q;subst s;simp
 by_cases j:v.k=1;have ⟨t,w,c⟩:=L.tx v.n (v.ok j);refine o t (Kf (v.ok j) c) O λA a f d h g i Q e=>EW.o oT ?_;simp at e;simp [p7,zM j,CP.q c];exact e;by_cases k:v.k=2;have ⟨t,w,c⟩:=PY (!decide (v.n=0));refine o t w.1 O λA a f d h g i Q e=>EW.o oT ?_;simp at e c;simp [p7,zM k,zC j];simp [CP.q c];exact e;by_cases m:v.k=4;have ⟨t,w,c⟩:=L.gx v.re v.im;refine o t (LV c) O λA a f d h g i Q e=>EW.o oT ?_;simp at e;simp [p7,zM m,zC j,zC k,CP.q c];exact e;by_cases n:v.k=5;refine o ⟨#[110,105,108]⟩ (by decide) (by decide) λA a f d h g i Q e=>EW.o oT ?_;simp at e;simp [p7,zM n,zC j,zC k,zC m];exact e;by_cases p:v.k=3;have c1:=λ(A:Lay) (a:ae) (f d:Nat) (h:HR A a f H) (g:Io A a)=>AQ (fl:=d) (v:=v) (qw (N:=N) (S:=S) (st:=st) (hp:=.p true (A.id bY) 0) h g);simp at c1;cases y:H.text v with
 | none=>refine o ⟨#[63]⟩ (by decide) (by decide) λA a f d h g i Q e=>EW.o oT ?_;have c1:=c1 A a f d h g;rw [y] at c1;simp at e;simp [p7,zM p,zC j,zC k,zC m,zC n,mU,PC,CL.q c1];exact e
 | some b=>have hb:=Hp.ny hH y;have ⟨b6,K⟩:=ZC b O;have ⟨t,w,c3⟩:=ZB b O;by_cases M:65536<b6;refine ⟨{st with fL:=true},C.lng,.lng,(λh=>by cases h),λA a f d h g i=>EW.o oT ?_⟩;have b1:Nat.ble d (a.length+1):=zY O;have c1:=c1 A a f d h g;rw [y] at c1;have:=Im (N:=N) (S:=S) (hp:=.p true (A.id bY) 0) (pre:=a) (st:=st) (st':={st with fL:=true}) rfl rfl;simp only [PC] at this;simp [p7,zM p,zC j,zC k,zC m,zC n,mU,PC,CL.q c1,CP.q K,zM M,b1];exact this;refine o t w.1 O λA a f d h g i Q e=>EW.o oT ?_;have c1:=c1 A a f d h g;rw [y] at c1;simp at e;simp [p7,zM p,zC j,zC k,zC m,zC n,mU,PC,CL.q c1,CP.q K,zC M,CP.q c3];exact e
 by_cases x:v.k=7;have ⟨l,E,F,D,J⟩:=P (.inr x);refine ⟨l,E,F,D,λA a f d h g i=>EW.o oT ?_⟩;have c:=J A a f d h g i;simp at c;simp [p7,zM x,zC j,zC k,zC p,zC m,zC n];refine CL.o c λr R ⟨q,s⟩=>?_;subst q;subst s;simp;by_cases z:v.k=6;have ⟨l,E,F,D,J⟩:=P (.inl z);refine ⟨l,E,F,D,λA a f d h g i=>EW.o oT ?_⟩;have c:=J A a f d h g i;simp at c;simp [p7,zM z,zC x,zC j,zC k,zC p,zC m,zC n];refine CL.o c λr R ⟨q,s⟩=>?_;subst q;subst s;simp;refine o ⟨#[63]⟩ (by decide) (by decide) λA a f d h g i Q e=>EW.o oT ?_;simp at e;simp [p7,zC z,zC x,zC j,zC k,zC p,zC m,zC n];exact e
end
theorem Ou {L:List Fd} {l s:ae} {a b:Nat} (h:a<=b) (c:b<=L.length):aK prog 29 (some (I a)) (some (I b)) none l s (.sl false (L.map pP))=some (.sl false (((L.take b).drop a).map pP)):=by rw [mq (el:=215) Y Y (kE 0 a .i64) (kE _ b .i64) h (Zs c) (km (k:=2) (λx=>rfl) L)];simp
theorem LQ {P:aB} {b:jy} {A:TV->RA (Xc P a b)} {f:(TV->RA (Xc P a b))->RA (Xc P a b)} (I:dM) (c:∀v r s,I v r s->PR (A v r s)) (d:∀j:dM,(∀v r s,I v r s->j v r s)->f j r s):jn (X:=Xc P a b) A f r s:=d A c
theorem Zk:∀(k a:Nat),a<10^(k+1)->Lib.nDigits a<=k+1:=by
 intro k;induction k with
 | zero=>intro a h;rw [Lib.nDigits_small (Zs h)];exact zE _
 | succ k c=>intro a h;by_cases b:a<10;rw [Lib.nDigits_small b];omega;rw [Lib.nDigits_big b];have:=c (a/10) (by rw [Nat.pow_succ] at h;omega);omega
def QU (b:Int):aU:=⟨(Lib.itoa b).toArray⟩
theorem EB (h:a<=100000000):(QU a).size<=9:=by show (Lib.itoa a).toArray.size<=9;unfold Lib.itoa;rw [zN O,Lib.decDigits_eq];have:=Zk 8 ((a:Int).toNat) O;simpa using this
theorem Zx (h:a<=100000000):EP prog 240 [I a] (· = .v (.string (QU a))):=λs b=>by refine Ends.iQ (f:=nR) Y Y ?_ ⟨rfl,rfl⟩;show (if 0<=(a:Int)/\(a:Int)<1000000000 then some (TV.v (.string ⟨(Lib.itoa a).toArray⟩),s) else none)=_;rw [zO O];rfl
section
variable {N:List Nd} {S:SS} {H:Hp} {st:PZ}
theorem OU {v:Vl} (g:v.k=6\/v.k=7) (h:(H.sz v).2=0):∃(i:Nat) (o:Ob),H.at v=some i/\H.aD[i]? =some o/\o.kind=v.k/\v.n=(i:Int)+1/\H.sz v=((o.bA.length:Int),0)/\H.of v=o.of:=by
 have b:¬v.k=3:=O;unfold Hp.sz at h;rw [zN (λe=>b e.1)] at h;cases a:H.at v with
 | none=>rw [a] at h;simp at h
 | some i=>have ⟨o,c,d,f⟩:=Hp.iA a;refine ⟨i,o,rfl,c,d,f,?_,?_⟩;unfold Hp.sz;rw [zN (λe=>b e.1),a];simp [c,b];unfold Hp.of;rw [a];simp [c]
theorem Vj {m:Array MapEntry}:(PM N S x r st).set r.length (.mp m a)=PM N S x r {st with mp:=m,cl:=a}:=by simp [PM,PC]
def NN (S:SS) (a:Int):Option (List Fd)->aU
 | some _=>((S.rc.map λr=>r.name.1).getD a.toNat ⟨#[]⟩)++⟨#[123]⟩
 | none=>⟨#[91]⟩
def WK:Option (List Fd)->aU
 | some _=>⟨#[125]⟩
 | none=>⟨#[93]⟩
def Nu:Option (List Fd)->TV
 | some f=>.sl false (f.map pP)
 | none=>.sl true []
theorem vg {a b:aU} (h:0<a.size):0<(a++b).size:=by rw [xB];omega
def M4:Fd:=⟨dn,0⟩
def PZ.pr (F:Option (List Fd)) (i:Nat) (st:PZ):PZ:=match F with
 | some F=>(if 0<i then st.put ⟨#[44,32]⟩ else st).put ((F.getD i M4).name.1++⟨#[58,32]⟩)
 | none=>if 0<i then st.put ⟨#[44,32]⟩ else st
theorem PZ.OK.pr {n i:Nat} {F:Option (List Fd)} (h:PZ.OK n st):PZ.OK n (st.pr F i):=by
 have a:PZ.OK n (if 0<i then st.put ⟨#[44,32]⟩ else st):=by split;exact h.put;exact h
 unfold PZ.pr;split;exact a.put;exact a
theorem PZ.Le.pr {n i:Nat} {F:Option (List Fd)}:PZ.Le n st (st.pr F i):=by
 have a:PZ.Le n st (if 0<i then st.put ⟨#[44,32]⟩ else st):=by split;exact .put;exact .refl _
 unfold PZ.pr;split;exact a.trans .put;exact a
theorem Hm (K:∀c,PZ.OK H.aD.length c->uc H.aD.length c.mp.toList<a->∀v,∃R,VS N S H 224 c v R) (F:Option (List Fd)) (w:Nat->Vl) (c:PZ) (C:PZ.OK H.aD.length c) (t:uc H.aD.length c.mp.toList<a):
  ∃g:Nat->PZ,g 0=c/\(∀i,PZ.OK H.aD.length (g i))/\(∀i,PZ.Le H.aD.length c (g i))/\(∀i,VS N S H 224 ((g i).pr F i) (w i) (g (i+1)))/\∀i,((g i).pr F i).fL->∀j,i<j->g j=(g i).pr F i:=by
 have r:∀(s:PZ) (v:Vl),∃m:PZ,PZ.OK H.aD.length s->uc H.aD.length s.mp.toList<a->VS N S H 224 s v m:=λs v=>by by_cases h:PZ.OK H.aD.length s/\uc H.aD.length s.mp.toList<a;have ⟨m,J⟩:=K s h.1 h.2 v;exact ⟨m,λ_ _=>J⟩;exact ⟨s,λz b=>absurd ⟨z,b⟩ h⟩
 have D:=λs v=>Classical.choose_spec (r s v);obtain ⟨G,q⟩:∃G:PZ->Vl->PZ,∀s v,PZ.OK H.aD.length s->uc H.aD.length s.mp.toList<a->VS N S H 224 s v (G s v):=⟨λs v=>Classical.choose (r s v),D⟩;obtain ⟨g,o,p⟩:∃g:Nat->PZ,g 0=c/\∀i,g (i+1)=G ((g i).pr F i) (w i):=⟨λi=>Nat.rec c (λi x=>G (x.pr F i) (w i)) i,rfl,λ_=>rfl⟩;have k:∀i,PZ.OK H.aD.length (g i)/\PZ.Le H.aD.length c (g i):=by
  intro i;induction i with
  | zero=>rw [o];exact ⟨C,.refl _⟩
  | succ i y=>have f:=y.2.trans (PZ.Le.pr (F:=F) (i:=i));have ⟨M,P,_⟩:=q ((g i).pr F i) (w i) y.1.pr (wU f.mu t);rw [p];exact ⟨M,f.trans P⟩
 have l:∀i,VS N S H 224 ((g i).pr F i) (w i) (g (i+1)):=λi=>by have f:=(k i).2.trans (PZ.Le.pr (F:=F) (i:=i));rw [p];exact q _ _ (k i).1.pr (wU f.mu t)
 refine ⟨g,o,λi=>(k i).1,λi=>(k i).2,l,λi d j X=>?_⟩;induction j with
 | zero=>omega
 | succ j L=>
  by_cases E:j=i;subst E;exact (l j).2.1.lg d;have e:=L O;have A:(g j).pr F j=(g i).pr F i:=by rw [e];exact (PZ.Le.pr (n:=0)).lg d
  rw [<-A] at d ⊢;exact (l j).2.1.lg d
theorem ZA (i3:kB) (hH:A6 H) (hr:∀r∈S.rc,0<=r.fr/\0<=r.count/\r.fr+r.count<=S.fd.length) (i5:S.fd.length<=1000000) (hn:H.aD.length<=1000000) (J:PZ.OK H.aD.length st) (ih:∀q,PZ.OK H.aD.length q->uc H.aD.length q.mp.toList<uc H.aD.length st.mp.toList->∀v,∃z,VS N S H 224 q v z) (v:Vl) (hk:v.k=6\/v.k=7):∃z,VS N S H 233 st v z:=by
 have c1:=λ(A:Lay) (a:ae) (m b:Nat) (h:HR A a m H) (p:Io A a)=>AP (fl:=b) (v:=v) (qw (N:=N) (S:=S) (st:=st) (hp:=.p true (A.id bY) 0) h p);have w:=λ(A:Lay) (a:ae) (m b:Nat) (h:HR A a m H) (p:Io A a)=>PN (fl:=b) (v:=v) (qw (N:=N) (S:=S) (st:=st) (hp:=.p true (A.id bY) 0) h p);simp at c1 w;have h3:¬v.k=3:=O;have pt:∀t:aU,0<t.size->t.size<=500000000->(∀(A:Lay) (a:ae) (m b:Nat),HR A a m H->Io A a->b<=a.length->∀(Q:jy),(∀l,CL prog 230 [.p true (a.length+1) 0,.v (.string t)] b (λ_=>rt (X:=Xc prog b (RW Q)) (.tu [])) l (PM N S (.p true (A.id bY) 0) a st))->EN prog 233 [.p true (a.length+1) 0,.ag (aw v)] (PM N S (.p true (A.id bY) 0) a st) b Q)->∃z,VS N S H 233 st v z:=λt hp ht g7=>by refine ⟨st.put t,J.put,.put,rD hp,λA a m b h p C=>g7 A a m b h p C _ λl=>?_⟩;refine CL.o (vO C t J.out ht) λr n ⟨k,d⟩=>?_;subst k;subst d;simp
 have h9:(H.sz v).2=0\/((H.sz v).2=3/\¬(H.sz v).2=0):=by unfold Hp.sz;rw [zN (λe=>h3 e.1)];split;split;exact .inl rfl;exact .inr ⟨rfl,Z⟩;exact .inr ⟨rfl,Z⟩
 rcases h9 with hz|⟨hz,j3⟩;rotate_left;refine pt ⟨#[63]⟩ (by decide) (by decide) λA a m b h p C Q D=>EW.o EU ?_;have c1:=c1 A a m b h p;simp at D;simp [s5,mU,PC,CL.q c1,hz];exact D _;cases hl:st.fL with
 | true=>refine pt ⟨#[63]⟩ (by decide) (by decide) λA a m b h p C Q D=>EW.o EU ?_;have c1:=c1 A a m b h p;simp at D;simp [s5,mU,PC,CL.q c1,hz,hl];exact D _
 | false=>
 have ⟨i,o,a1,a2,a3,a4,a5,a6⟩:=OU hk hz;have g8:=aa a2;have d7:=λh=>hk.resolve_left h;by_cases f2:v.k=6/\(o.of<0\/(S.rc.length:Int)<=o.of\/∃r,S.rc[o.of.toNat]? =some r/\¬r.count=(o.bA.length:Int));have ⟨c,K⟩:=f2;refine pt ⟨#[63]⟩ (by decide) (by decide) λA a m b h p C Q D=>EW.o EU ?_;have c1:=c1 A a m b h p;have w:=w A a m b h p;rw [a5] at c1;rw [a6] at w;simp at D;rcases K with K|K|⟨r,K,g5⟩;simp [s5,mU,PC,CL.q c1,hl,zM c,CL.q w,zM K];exact D _;by_cases c3:o.of<0;simp [s5,mU,PC,CL.q c1,hl,zM c,CL.q w,zM c3];exact D _;simp [s5,mU,PC,CL.q c1,hl,zM c,CL.q w,zC c3,zM K];exact D _;have M:=aa K;by_cases c3:o.of<0;simp [s5,mU,PC,CL.q c1,hl,zM c,CL.q w,zM c3];exact D _;simp [s5,mU,PC,CL.q c1,hl,zM c,CL.q w,zC c3,show ¬(S.rc.length:Int)<=o.of by omega,show 0<=o.of by omega,K,zC g5];exact D _;obtain ⟨F,d3,d4⟩:∃F:Option (List Fd),(v.k=6->∃r,0<=o.of/\S.rc[o.of.toNat]? =some r/\r.count=(o.bA.length:Int)/\F=some ((S.fd.take (r.fr+r.count).toNat).drop r.fr.toNat))/\(v.k=7->F=none):=by by_cases c:v.k=6;have K:=λh=>f2 ⟨c,h⟩;have M:o.of.toNat<S.rc.length:=O;have hg:=zA M;refine ⟨_,λ_=>⟨_,O,hg,?_,rfl⟩,λh=>O⟩;by_cases hc:(S.rc[o.of.toNat]).count=(o.bA.length:Int);exact hc;exact absurd (.inr (.inr ⟨_,hg,hc⟩)) K;exact ⟨none,λh=>absurd h c,λ_=>rfl⟩
 have fI:=R6 v.n st.mp.toList 0 J.ki;obtain ⟨z,k1,k2,k0,kn,ku⟩:∃z,PZ.OK H.aD.length z/\PZ.Le H.aD.length st z/\(z.fL=false->z.out≠[])/\(sj st.mp.toList v.n=false->∃(b6 j:Nat),b6<=100000000/\Instr.findNow (.int .i64) (.int .i64 v.n) st.mp.toList 0=some (some (j,.int .i64 b6))/\z=st.put (⟨#[35]⟩++QU b6))/\
   (sj st.mp.toList v.n=true->∃(q:PZ) (g:Nat->PZ) (c6:Nat->Vl),q={st with mp:=st.mp.push {key:=.int .i64 v.n,val:=.int .i64 ((st.mp.size+1:Nat):Int),born:=st.cl},cl:=st.cl+1}/\PZ.OK H.aD.length q/\(∀(j:Nat),∃t:Int,∀(A:Lay) (s:ae) (m b:Nat),HR A s m H->EN prog 140 [.p true (A.id bY) 0,.ag (aw v),I j] s b λr n=>r= .tu [.ag (aw (c6 j)),U t]/\n=s)/\
    g 0=q.put (NN S o.of F)/\(∀i,PZ.OK H.aD.length (g i))/\(∀i,VS N S H 224 ((g i).pr F i) (c6 i) (g (i+1)))/\(∀i,((g i).pr F i).fL->∀j,i<j->g j=(g i).pr F i)/\z=(g o.bA.length).put (WK F)):=by
  cases hu:sj st.mp.toList v.n with
  | false=>have ⟨j,e,he,d5⟩:=fI.2 hu;have ⟨i4,b6,k,d,q3⟩:=J.ki e he;exact ⟨_,J.put,.put,rD (vg (by decide)),λ_=>⟨b6,j,q3,by rw [d5,d],rfl⟩,λh=>by cases h⟩
  | true=>
   obtain ⟨e,he⟩:∃e:MapEntry,e={key:=.int .i64 v.n,val:=.int .i64 ((st.mp.size+1:Nat):Int),born:=st.cl}:=⟨_,rfl⟩;obtain ⟨q,h2⟩:∃q:PZ,q={st with mp:=st.mp.push e,cl:=st.cl+1}:=⟨_,rfl⟩;have g6:AV e=(i:Int)+1:=by rw [he,<-a4];rfl
   have f4:q.mp.toList=st.mp.toList++[e]:=by rw [h2];simp
   have M:=Er g8 g6 (by rw [<-a4];exact hu);rw [<-f4] at M;have h8:=J.sz;have f1:PZ.OK H.aD.length q:=by
    refine ⟨λx hx=>?_,by rw [h2];exact J.out,?_⟩;rw [f4] at hx;rcases xH.1 hx with hx|hx;exact J.ki x hx;rw [List.mem_singleton] at hx;rw [hx,he];exact ⟨_,_,rfl,rfl,O⟩;have:q.mp.size=st.mp.size+1:=by rw [h2];simp
    omega
   have hw:=λj:Nat=>Q6 H v j;obtain ⟨c6,hw⟩:∃c6:Nat->Vl,∀j:Nat,∃t:Int,∀(A:Lay) (s:ae) (m b:Nat),HR A s m H->EN prog 140 [.p true (A.id bY) 0,.ag (aw v),I j] s b λr n=>r= .tu [.ag (aw (c6 j)),U t]/\n=s:=
    ⟨λj=>Classical.choose (hw j),λj=>by have ⟨t,_,h⟩:=Classical.choose_spec (hw j);exact ⟨t,h⟩⟩
   obtain ⟨R,c5⟩:∃R:aU,R=(NN S o.of F):=⟨_,rfl⟩;have ⟨g,g0,g1,g2,g3,g4⟩:=Hm ih F c6 (q.put R) f1.put (by rw [mF];exact M);refine ⟨_,(g1 _).put,⟨?_,λh=>by rw [hl] at h;cases h⟩,rD (by cases F;exact (by decide:0<(⟨#[93]⟩:aU).size);exact (by decide:0<(⟨#[125]⟩:aU).size)),(λh=>by cases h),λ_=>⟨q,g,c6,by rw [h2,he],f1,hw,by rw [g0,c5],g1,g3,g4,rfl⟩⟩;rw [mF];apply yN (g2 _).mu;rw [mF];omega
 refine ⟨z,k1,k2,k0,λA a m b h p C=>EW.o EU ?_⟩;have c1:=c1 A a m b h p;have w:=w A a m b h p;rw [a5] at c1;rw [a6] at w;simp [-dH,s5,mU,PC,CL.q c1,hl];refine LQ (λi2 l n=>n=PM N S (.p true (A.id bY) 0) a st/\(l=[.row (aw v) 0]\/∃x,l=[.row (aw v) 0,.row x 0])/\i2=Nu F) ?_ ?_
 ·rintro _ l _ ⟨rfl,c4,rfl⟩;have hR:=qw (N:=N) (S:=S) (st:=st) (hp:=.p true (A.id bY) 0) h p;have c3:=zY C;cases hu:sj st.mp.toList v.n with
  | false=>
   have ⟨b6,j,b1,E,b3⟩:=kn hu;have e1:(⟨#[35]⟩:aU).size=1:=by decide
   have hz:=EB b1;have tc:=jc (P:=prog) (t:=9) ⟨#[35]⟩ (QU b6) O;have cp:=vO (N:=N) (S:=S) (hp:=.p true (A.id bY) 0) (st:=st) C (⟨#[35]⟩++QU b6) J.out (by rw [xB];omega);rw [<-b3] at cp;rcases c4 with rfl|⟨x,rfl⟩;all_goals
    simp [mU,WZ,PC,CM,CK,E,T.c1,CP.q (Zx b1),tc];refine CL.o cp λr n ⟨k,d⟩=>?_;subst k;subst d;simp
  | true=>
   have ⟨q,g,c6,h2,f9,hw,g0,g1,g3,g4,f5⟩:=ku hu;have d5:=fI.1 hu;have h8:=J.sz;have e1:((st.mp.size+1:Nat):Int)=(st.mp.size:Int)+1:=O;rw [e1] at h2;have w1:i64.wrap ((st.mp.size:Int)+1)=(st.mp.size:Int)+1:=bW O O;have tm:=λ(l:ae)=>Ki (l:=l) (WZ (N:=N) (S:=S) (hp:=.p true (A.id bY) 0) (pre:=a) (st:=st));have R2:=qw (N:=N) (S:=S) (st:=q) (hp:=.p true (A.id bY) 0) h p;have w:=PN (fl:=b) (v:=v) R2;rw [a6] at w;simp at w;obtain ⟨R,c5⟩:∃R:aU,R=(NN S o.of F):=⟨_,rfl⟩;rw [<-c5] at g0;have Ml:(⟨#[123]⟩:aU).size=1:=by decide
   have h5:R.size<=500000000:=by
    rw [c5];cases F with
    | none=>exact (by decide:(⟨#[91]⟩:aU).size<=500000000)
    | some f=>
     have hg:((S.rc.map λr:Rc=>r.name.1).getD o.of.toNat (⟨#[]⟩:aU)).size<=100000:=by rw [zG,zK];rcases D:S.rc[o.of.toNat]? with _|i1;exact (by decide:(⟨#[]⟩:aU).size<=100000);exact i1.name.2
     rw [NN,xB];omega
   have d2:=vO (N:=N) (S:=S) (hp:=.p true (A.id bY) 0) (st:=q) C R f9.out h5;rw [<-g0] at d2;have gE:∀i,i<o.bA.length->((g i).pr F i).fL->(g i).pr F i=z:=λi p L=>by rw [f5,g4 i L _ p,sV L]
   have f7:=λ(i:Nat) (s:PZ) (h1:s.out.length<=65536)=>vO (N:=N) (S:=S) (hp:=.p true (A.id bY) 0) (st:=s) C (WK F) h1 (by cases F;exact (by decide:(⟨#[93]⟩:aU).size<=500000000);exact (by decide:(⟨#[125]⟩:aU).size<=500000000));have f6:=λ(s:PZ) (h1:s.out.length<=65536)=>vO (N:=N) (S:=S) (hp:=.p true (A.id bY) 0) (st:=s) C ⟨#[44,32]⟩ h1 (by decide);have lp:∀(l:ae),(l=[.row (aw v) 0]\/∃x,l=[.row (aw v) 0,.row x 0])->LP prog b (RW λr n=>r= .tu []/\n=PM N S (.p true (A.id bY) 0) a z) [0,3,6,140,141] (λd8=>Q.a5 (nN d8)) [.p true (a.length+1) 0,.p false 0 0,Nu F,I o.bA.length,I 0] l (PM N S (.p true (A.id bY) 0) a (g 0)):=by
    intro l c4;have j1:=h.K5 a2;have h4:0<l.length:=by rcases c4 with rfl|⟨x,rfl⟩ <;> simp
    have l0:∀t:ae,fw (l++t) 0=some (.row (aw v) 0):=λt=>by rcases c4 with rfl|⟨x,rfl⟩ <;> rfl
    have d1:fw l 0=some (.row (aw v) 0):=by rcases c4 with rfl|⟨x,rfl⟩ <;> rfl
    have l1:∀x:TO,fw (l++[x]) l.length=some x:=λx=>by rw [<-dT];simp
    have l2:∀x y:TO,(l++[x]).set l.length y=l++[y]:=λx y=>Z;clear c4;refine LP.ind (lv:=[0,3,6,140,141]) (b:=λd8=>Q.a5 (nN d8)) (λx:Nat=>o.bA.length-x) (λx=>x<=o.bA.length) (λx=>[.p true (a.length+1) 0,.p false 0 0,Nu F,I o.bA.length,I x]) (λ_=>l) (λx=>PM N S (.p true (A.id bY) 0) a (g x)) l.length (λ_ _=>⟨rfl,rfl,by cases F <;> simp [Nu,h4]⟩) (λi i7 d8 hk=>?_) 0 (zZ _);simp [-dH,nN];apply ST.dc<;>intro M;have wi:=wn (j:=i) O;refine eD (λl' n=>l'.take l.length=l/\n=PM N S (.p true (A.id bY) 0) a (g (i+1))) ?_ ?_;rintro l' _ ⟨g9,rfl⟩;simp [wi];exact hk (i+1) _ _ _ Z g9 rfl O (by show o.bA.length-(i+1)<o.bA.length-i;omega);intro j4 d9;obtain ⟨s1,c9⟩:∃s1,s1=if 0<i then (g i).put ⟨#[44,32]⟩ else g i:=⟨_,rfl⟩
    have h7:PZ.OK H.aD.length s1:=by rw [c9];split;exact (g1 i).put;exact g1 i
    obtain ⟨y,hy⟩:∃y,y=(g i).pr F i:=⟨_,rfl⟩;have j2:=hy▸(g1 i).pr;have ⟨t,c8⟩:=hw i;have c8:=c8 A _ m b (qw (N:=N) (S:=S) (st:=y) (hp:=.p true (A.id bY) 0) h p);have Bd:=(g3 i).2.2.2 A a m b h p C;have gE:=gE i M;rw [<-hy] at Bd gE;simp at c8 Bd;simp [-dH];refine eD (λl' n=>l'=l/\n=PM N S (.p true (A.id bY) 0) a s1) ?_ ?_;rintro _ _ ⟨rfl,rfl⟩;by_cases c:v.k=6;have ⟨r,b1,E,b3,b4⟩:=d3 c;have ⟨r1,r2,r3⟩:=hr r (zI E);obtain ⟨f,f3⟩:∃f,f=(S.fd.take (r.fr+r.count).toNat).drop r.fr.toNat:=⟨_,rfl⟩;have i6:f.length=o.bA.length:=by rw [f3,List.length_drop,wG];omega
    rw [<-f3] at b4;have fg:f[i]? =some (f.getD i M4):=getD_some O _;have e2:(⟨#[58,32]⟩:aU).size=2:=by decide
    have i9:=(f.getD i M4).name.2;have tc:=jc (P:=prog) (t:=9) (f.getD i M4).name.1 ⟨#[58,32]⟩ O;have ey:s1.put ((f.getD i M4).name.1++⟨#[58,32]⟩)=y:=by rw [c9,hy,b4];rfl
    have cn:=vO (N:=N) (S:=S) (hp:=.p true (A.id bY) 0) (st:=s1) C ((f.getD i M4).name.1++⟨#[58,32]⟩) h7.out (by rw [xB];omega);rw [ey] at cn;generalize f.getD i M4=nm at*;simp [d1,zM c,b4,Nu,fg,tc];refine CL.o cn λr n ⟨k,d⟩=>?_;subst k;subst d;simp [d1,mU,PC];refine CL.o c8 λr n ⟨k,d⟩=>?_;subst k;subst d;cases L:y.fL with
    | true=>simp [l1,l2,mU,PC,L];rw [gE L]
    | false=>simp [l1,l2,mU,PC,L];refine CL.o Bd λr n ⟨k,d⟩=>?_;subst k;subst d;simp;exact d9 _ _ ⟨Z,rfl⟩
    have ey:s1=y:=by rw [c9,hy,d4 (d7 c)];rfl
    rw [ey];simp [d1,zC c,mU,PC];refine CL.o c8 λr n ⟨k,d⟩=>?_;subst k;subst d;cases L:y.fL with
    | true=>simp [l1,l2,mU,PC,L];rw [gE L]
    | false=>simp [l1,l2,mU,PC,L];refine CL.o Bd λr n ⟨k,d⟩=>?_;subst k;subst d;simp;exact d9 _ _ ⟨Z,rfl⟩
    intro j5 e6;by_cases d6:0<i;have cc:=f6 _ (g1 i).out;have es:(g i).put ⟨#[44,32]⟩=s1:=by rw [c9,zO d6]
    rw [es] at cc;simp [zM d6];refine CL.o cc λr n ⟨k,d⟩=>?_;subst k;subst d;simp;exact e6 _ _ ⟨rfl,rfl⟩;have es:g i=s1:=by rw [c9,zN d6]
    simp [zC d6];exact e6 _ _ ⟨rfl,by rw [es]⟩;have:i=o.bA.length:=by omega
    subst this;have c7:=f7 0 _ (g1 o.bA.length).out;rw [<-f5] at c7;by_cases c:v.k=6;have ⟨_,_,_,_,b4⟩:=d3 c;rw [b4,WK] at c7;simp [vl,d1,zM c];refine CL.o c7 λr n ⟨k,d⟩=>?_;subst k;subst d;simp;rw [d4 (d7 c),WK] at c7;simp [vl,d1,zC c];refine CL.o c7 λr n ⟨k,d⟩=>?_;subst k;subst d;simp
   by_cases c:v.k=6
   ·have ⟨r,b1,E,b3,b4⟩:=d3 c;rw [b4] at c5;have f8:R=r.name.1++⟨#[123]⟩:=by rw [c5];simp [NN,zK,E]
    have tc:=jc (P:=prog) (t:=9) r.name.1 ⟨#[123]⟩ (Zo r.name.2);rw [<-f8] at tc;rcases c4 with rfl|⟨x,rfl⟩;all_goals
     simp [mU,WZ,PC,CM,CK,PG,Gv,d5,c3,tm,w1,Vj,<-h2,zM c,CL.q w,E,zM b1,tc];refine CL.o d2 λr n ⟨k,d⟩=>?_;subst k;subst d;simp;first|exact lp _ (.inl rfl)|exact lp _ (.inr ⟨_,rfl⟩)
   ·rw [d4 (d7 c)] at c5;rw [c5,NN] at d2;rcases c4 with rfl|⟨x,rfl⟩;all_goals
     simp [mU,WZ,PC,CM,CK,PG,Gv,d5,c3,tm,w1,Vj,<-h2,zC c];refine CL.o d2 λr n ⟨k,d⟩=>?_;subst k;subst d;simp;first|exact lp _ (.inl rfl)|exact lp _ (.inr ⟨_,rfl⟩)
 intro j hj;by_cases c:v.k=6;have ⟨r,b1,E,b3,b4⟩:=d3 c;have ⟨r1,r2,r3⟩:=hr r (zI E);have M:=aa E;have w1:i64.wrap (r.fr+r.count)=r.fr+r.count:=bW O O;have ts:=λ(l s:ae)=>Ou (L:=S.fd) (l:=l) (s:=s) (a:=r.fr.toNat) (b:=(r.fr+r.count).toNat) O O;rw [show ((r.fr.toNat:Nat):Int)=r.fr by omega,show (((r.fr+r.count).toNat:Nat):Int)=r.fr+r.count by omega] at ts;rw [b3] at w1 ts b4;simp [zM c,CL.q w,zC (show ¬o.of<0 by omega),mU,PC,show ¬(S.rc.length:Int)<=o.of by omega,b1,E,b3,w1,ts];exact hj _ _ _ ⟨rfl,.inr ⟨_,rfl⟩,by rw [b4];simp [Nu]⟩;simp [zC c];exact hj _ _ _ ⟨rfl,.inl rfl,by rw [d4 (d7 c)];rfl⟩
end
theorem Yy:mi prog 90=some 1:=Y
theorem YE {bp n id az:Nat} {l s:ae} (a:bp<=n):aK prog 78 none (some (I bp)) none l s (.m true id az 0 n 1)=some (.m true id az 0 bp 1):=by unfold aK;simp only [qa,Yy,zR,BB,pE];rw [zO (show (0:Int)<=bp by omega)];simp;simp [a]
section
variable {J:ME} {D:Nat->Nat} {s h:ae} {V V':Vm} {A E:Lay} {n:Nat} {f:Fm} {a b:Vl} {H':Hp} {F':Fe}
def Vm.left (V:Vm) (n:Nat):Vm:=if n=0 then ({V with ab:=V.ab.take n}:Vm).end_ 1 0 0 else {V with ab:=V.ab.take n}
theorem MD.left (d:MD J D s V A) (z:V.Is n f) (P:mn A pH J.X.zs.length 4 x) (al:A.al dL):MS J D (s.set J.pv (.row (Vm.cells J.X J.room J.dm A {V with ab:=V.ab.take n} (.m true (A.id dL) (A.az dL) 0 n 1) x (.m true (A.id iP) (A.az iP) 0 J.X.g.ins.length 4) (.m true (A.id fj) (A.az fj) 0 J.X.S.fn.length 1)) 0)) {V with ab:=V.ab.take n}:=by
 have h:=d.vr;have E:=z.len;obtain ⟨a,_⟩:=h.vm;obtain ⟨v,y,M,N⟩:=h.se;obtain ⟨t,w,H,K⟩:=h.ca;have c:=bQ.set d.ij a (o:=.row (Vm.cells J.X J.room J.dm A {V with ab:=V.ab.take n} (.m true (A.id dL) (A.az dL) 0 n 1) x (.m true (A.id iP) (A.az iP) 0 J.X.g.ins.length 4) (.m true (A.id fj) (A.az fj) 0 J.X.S.fn.length 1)) 0);have L:∀(j k:Nat),j≠0->¬(j,k)=kN:=λj k p J=>by simp at J;omega
 have g:(V.ab.take n).length=n:=W;rw [d.iv] at c;have q:VQ J.X J.room J.dm J.fl A s V {V with ab:=V.ab.take n} _:=⟨A,⟨h.hp.jq d.ij c λr e J=>by rw [J] at e;simp [Rh] at e,h.fd.jq d.ij c (L _ _ O),⟨a,.m true (A.id dL) (A.az dL) 0 n 1,x,by rw [<-d.iv];exact d.ij.get_eq a,.inl ⟨al,by rw [g]⟩,P⟩,λm=>?_,λi f b=>?_,⟨v,y,M,by rw [<-d.iv,d.ij.aX v a Z];exact N⟩,⟨t,w,H,by rw [<-d.iv,d.ij.aX t a Z];exact K⟩,λm=>by rw [<-d.iv,d.ij.aX m a Z];exact h.ze m,h.ti,h.fu,yN (by rw [g];omega) h.nf,h.lm⟩,c.any,λ_ _=>rfl⟩;exact d.to q (by rw [g];omega);obtain ⟨F,p⟩:=h.fs al;refine ⟨[.p true (A.id (ep n)) 0]::F,?_⟩;rw [<-d.iv,d.ij.aX al a Z,p,g,E];simp [oQ,wD];have C:V.ab[i]? =some f:=by simp only at b;rw [zU] at b;split at b;exact b;cases b
 exact (h.fr i f C).jq d.ij c λr e J=>by rcases e with l|l|l <;> rw [l] at J <;> simp at J
theorem v138 (C:MS J D s V) (p:V.Is n f):EN prog 138 [.p true J.pv 0] s J.fl λr h=>r= .tu []/\MS J D h (V.left n):=by
 have ⟨A,d⟩:=C;apply EW.o SF;have ⟨M,z,zv,g,N,P⟩:=d.vr.vm;have H:=p.len;have R:=yN d.vr.nf d.vr.lm;have F:z= .m true (A.id dL) (A.az dL) 0 (n+1) 1/\A.al dL:=by rcases N with ⟨b,m⟩|⟨_,m,_⟩;exact ⟨by rw [m,H],b⟩;omega
 obtain ⟨rfl,al⟩:=F;have i:=d.left p P al;simp only [Vm.cells,d.iv] at g i;have q:=d.iv▸d.ij.lo _ M;have o:=λx:TO=>zF (a:=x) (aa g);have v:=λx t=>fW (r:=true) (id:=A.id dL) (az:=A.az dL) (off:=0) (n:=n+1) (sz:=1) (l:=x) (s:=t) qa;have w:=λx t=>fW (r:=true) (id:=A.id dL) (az:=A.az dL) (off:=0) (n:=n) (sz:=1) (l:=x) (s:=t) qa;have j:i64.wrap (((n+1:Nat):Int)-1)=(n:Int):=by rw [bW O O];omega
 have y:=λx t=>YE (bp:=n) (n:=n+1) (id:=A.id dL) (az:=A.az dL) (l:=x) (s:=t) O;have X:i64.wrap (n:Int)=n:=bW O O;simp at j;by_cases e:n=0;have E:(n:Int)=0:=by omega
 have c:=v89 (k:=1) (t:=0) (l:=0) i;simp [N7,g,v,j,y,q,o,w,zM e];have b:V.left n=({V with ab:=V.ab.take n}:Vm).end_ 1 0 0:=by unfold Vm.left;rw [zO e]
 rw [b];refine CL.o c λr h ⟨K,L⟩=>?_;subst K;simp;exact L;have E:¬(n:Int)=0:=by omega
 simp [N7,g,v,j,y,q,o,w,zC e];have b:V.left n={V with ab:=V.ab.take n}:=by unfold Vm.left;rw [zN e]
 rw [b];exact i
theorem GG:cm prog .eql 91 (.v (.pointer none)) (.v (.pointer none))=some (B true):=Y
theorem v139 (e:MS J D s V) (b:V.Is n f) (i:f.stack.length<1000000000000):EN prog 139 [.p true J.pv 0,.ag (aw a)] s J.fl λr h=>r= .tu []/\MS J D h (V.top n {f with stack:=f.stack++[a]}):=by have c1:=v59 e b;have g:=Gh (a:=a) e b i;have ⟨A,d⟩:=e;have ⟨sv,l,c,_⟩:=(d.vr.fr n f b.get).row;rw [d.KL b] at c;simp only [Fm.cells] at c;simp at g;apply EW.o SE;simp [UD,CL.q c1,c,GG];refine CL.o g λr h ⟨j,k⟩=>?_;subst j;simp;exact k
end
section
variable {fl:Nat} {R:Ro->Prop} {A D:Lay} {J E:ae} {r h:Ro} {o:TO}
theorem dB.drop (c:dB fl A J):dB fl (A.drop h) J:=by
 have b:∀r,(A.drop h).al r->A.al r:=λr a=>by simp only [Lay.drop] at a;split at a;cases a;exact a
 exact ⟨λr d a f e=>c.ij r d (b r a) (b d f) e,λr a=>c.lt r (b r a),λr a=>c.lo r (b r a)⟩
theorem bQ.drop (b:dB fl A J) (d:¬xn h):bQ fl (· =h) A (A.drop h) J J:=
 ⟨λr c=>⟨rfl,rfl,zN c⟩,λ_ _ _=>rfl,zE _,b.drop,λr a=>.inl ⟨by
  simp only [Lay.drop] at a;split at a;cases a;exact a,rfl⟩,λr a=>⟨rfl,by
  have e:r≠h:=λe=>d (e▸a);simp [Lay.drop,e]⟩⟩
def Lay.vL (A:Lay) (h:Ro) (n v:Nat):Lay:={id:=λr=>if r=h then n else A.id r,az:=λr=>if r=h then v else A.az r,al:=λr=>if r=h then true else A.al r}
theorem bQ.vL (f:dB fl A J) (e:fl<=J.length) (g:¬xn h):bQ fl (· =h) A (A.vL h J.length a) J (J++[o]):=by have b:=bQ.new (o:=o) f e g;have c:=b.ij;refine ⟨λr d=>⟨zN d,zN d,zN d⟩,b.fr,b.le,⟨c.ij,c.lt,c.lo⟩,b.nw,b.fx⟩
end
section
variable {J:ME} {D:Nat->Nat} {E h s':ae} {V V':Vm} {A A1 A':Lay} {n:Nat} {f:Fm} {a b:Vl} {H':Hp} {F':Fe}
theorem MD.free {R:Ro->Prop} (d:MD J D E V A) (a:bQ J.fl R A A' E s') (g:∀r,R r->∃n,V.ab.length<=n/\By n r):MD J D s' V A':=by
 have b:∀(j k:Nat),j≠7->j≠8->j≠9->¬R (j,k):=λj k o p q h=>by obtain ⟨n,_,h⟩:=g _ h;rcases h with h|h|h <;> simp at h <;> omega
 have m:∀i,i<V.ab.length->∀r,By i r->¬R r:=λi c r e h=>by obtain ⟨n,s,h⟩:=g _ h;rcases e with rfl|rfl|rfl <;> rcases h with h|h|h <;> simp at h <;> omega
 have hid:=λi c=>(a.ag _ (m i c _ (.inl rfl))).1;refine ⟨d.vr.jq d.ij a (b _ _ O O O) (b _ _ O O O) (b _ _ O O O) (b _ _ O O O) (b _ _ O O O) (d.vr.hp.jq d.ij a λr e=>by obtain ⟨j,k⟩:=r;exact b _ _ (by have:=e.2;simp only at this;omega) (by have:=e.2;simp only at this;omega) (by have:=e.2;simp only at this;omega)) (d.vr.fd.jq d.ij a (b _ _ O O O)) (λi f l=>(d.vr.fr i f l).jq d.ij a (m i (aa l))) rfl hid rfl rfl rfl rfl rfl rfl,a.ij,a.lf d.lf,(a.ag _ (b _ _ O O O)).1.trans d.iv,(a.fx bY (.inr (.inl rfl))).1.trans d.ih,(a.fx lA (.inr (.inr rfl))).1.trans d.ie,λi c=>(hid i c).trans (d.fr i c),d.R3 a.any⟩
theorem MD.slot (d:MD J D E V A) (e:bQ J.fl (· =kf V.ab.length) A A1 E h) (l:f.stack=[]) {sv:TV} (v:mn A1 (kf V.ab.length) f.ah.length 4 sv) (t:A1.al (kf V.ab.length)->h[A1.id (kf V.ab.length)]? =some (.aY (A1.az (kf V.ab.length)) 4 (f.ah.map aw))):
  ∃a,MD J D (h++[.row (f.cells sv (.sl true [])) 0]) V a/\pD a (h++[.row (f.cells sv (.sl true [])) 0]) V.ab.length f/\a.id (ep V.ab.length)=h.length/\∀j k,j≠7->j≠8->j≠9->a.id (j,k)=A.id (j,k)/\a.az (j,k)=A.az (j,k)/\a.al (j,k)=A.al (j,k):=by
 have m:∀k,¬xn (kf k)/\¬xn (dJ k)/\¬xn (ep k):=λk=>⟨by simp [xn],by simp [xn],by simp [xn]⟩;generalize C:V.ab.length=n at*;have u2:=bQ.drop e.ij (m n).2.1;have u3:=bQ.new (o:=TO.row (f.cells sv (.sl true [])) 0) u2.ij (e.lf d.lf) (m n).2.2;have p:bQ J.fl (By n) A _ E _:=((e.mono λr J=>.inr (.inl J)).trans (u2.mono λr J=>.inr (.inr J))).trans (u3.mono λr J=>.inl J);refine ⟨_,d.free p λr s=>⟨n,O,s⟩,?_,by simp [Lay.new],λj k x y z=>?_⟩;refine ⟨by simp [Lay.new],⟨sv,.sl true [],?_,?_,.inr ⟨by simp [Lay.new,Lay.drop],by simp [l],rfl⟩⟩,λc=>?_,λc=>by simp [Lay.new,Lay.drop] at c,by simp [l]⟩;rw [show ((A1.drop (dJ n)).new (ep n) h.length).id (ep n)=h.length by simp [Lay.new],zJ (zE _)];simp;rcases v with ⟨g,i⟩|⟨g,i,w⟩;exact .inl ⟨by simp [Lay.new,Lay.drop,g],by rw [i];simp [Lay.new,Lay.drop]⟩;exact .inr ⟨by simp [Lay.new,Lay.drop,g],i,w⟩;have q:A1.al (kf n):=by simpa [Lay.new,Lay.drop] using c
 have:=t q;simp only [Lay.new,Lay.drop];simp;rw [zB (aa this)];exact this;have:¬By n (j,k):=λb=>by rcases b with b|b|b <;> simp at b <;> omega
 exact p.ag _ this
theorem MD.push (d:MD J D E V A) (F:pD A E V.ab.length f) (hl:V.ab.length<J.dm) (b:bQ J.fl (λr=>r=kN\/r=dL) A A' E s') (v4:mn A pH J.X.zs.length 4 x) (al:A'.al dL)
  (z:s'[J.pv]? =some (.row (Vm.cells J.X J.room J.dm A {V with ab:=V.ab++[f]} (.m true (A'.id dL) (A'.az dL) 0 (V.ab.length+1) 1) x (.m true (A.id iP) (A.az iP) 0 J.X.g.ins.length 4) (.m true (A.id fj) (A.az fj) 0 J.X.S.fn.length 1)) 0))
  (C:s'[A'.id dL]? =some (.aY (A'.az dL) 1 (oQ A V.ab.length++[[.p true (A.id (ep V.ab.length)) 0]]))):∃P,MS J P s' {V with ab:=V.ab++[f]}:=by
 have a:=d.vr;obtain ⟨v1,_⟩:=a.vm;obtain ⟨h,w,R,X⟩:=a.se;obtain ⟨t,v,M,N⟩:=a.ca;have c:∀(j k:Nat),j≠0->j≠6->¬((j,k)=kN\/(j,k)=dL):=λj k h0 h6 a=>by rcases a with a|a <;> simp at a <;> omega
 have n:∀i,∀r,By i r->¬(r=kN\/r=dL):=λi r l a=>by rcases l with rfl|rfl|rfl <;> rcases a with a|a <;> simp at a
 have hid:=λi=>(b.ag _ (n i _ (.inl rfl))).1;have s:=(b.fx kN (.inl rfl));have L:=(b.fx bY (.inr (.inl rfl))).1;have K:=(b.fx lA (.inr (.inr rfl))).1;have ce:=b.ag iP (c _ _ O O);have g:=b.ag fj (c _ _ O O);have cz:=b.ag pH (c _ _ O O);have q:VQ J.X J.room J.dm J.fl A E V {V with ab:=V.ab++[f]} s':=⟨A',⟨a.hp.jq d.ij b λr l=>by obtain ⟨j,k⟩:=r;exact c _ _ (by have:=l.1;simp only at this;omega) (by have:=l.2;simp only at this;omega),a.fd.jq d.ij b (c _ _ O O),⟨s.2.trans v1,.m true (A'.id dL) (A'.az dL) 0 (V.ab.length+1) 1,x,?_,.inl ⟨al,Z⟩,?_⟩,λ_=>⟨[],?_⟩,λi y e=>?_,⟨ce.2.2.trans h,w,R,by rw [ce.1,ce.2.1,b.get d.ij h (c _ _ O O)];exact X⟩,⟨g.2.2.trans t,v,M,by rw [g.1,g.2.1,b.get d.ij t (c _ _ O O)];exact N⟩,λm=>?_,a.ti,a.fu,W,a.lm⟩,b.any,λi _=>hid i⟩
 exact d.to' q;rw [s.1,d.iv,z,ce.1,ce.2.1,g.1,g.2.1];simp only [Vm.cells,L,K];rcases v4 with ⟨o,p⟩|⟨o,p⟩;exact .inl ⟨cz.2.2.trans o,by rw [cz.1,cz.2.1];exact p⟩;exact .inr ⟨cz.2.2.trans o,p⟩;rw [C,List.append_nil];simp;rw [vW λi _=>hid i];simp [oQ,wD];simp only at e;by_cases H:i<V.ab.length;rw [zB H] at e;exact (a.fr i y e).jq d.ij b (n i);have:i=V.ab.length:=by have:=aa e;simp at this;omega
 subst this;simp at e;subst e;exact F.jq d.ij b (n _);rw [cz.2.2] at m;rw [cz.1,cz.2.1,b.get d.ij m (c _ _ O O)];exact a.ze m
theorem MD.P8 (d:MD J D E V A) (c:pD A E V.ab.length f) (e:V.ab.length<J.dm) (al:A.al dL) (j:mn A pH J.X.zs.length 4 x):∃h,MS J h ((E.set (A.id dL) (.aY (A.az dL+1) 1 (oQ A V.ab.length++[[.p true (A.id (ep V.ab.length)) 0]]))).set J.pv (.row (Vm.cells J.X J.room J.dm A {V with ab:=V.ab++[f]} (.m true (A.id dL) (A.az dL+1) 0 (V.ab.length+1) 1) x (.m true (A.id iP) (A.az iP) 0 J.X.g.ins.length 4) (.m true (A.id fj) (A.az fj) 0 J.X.S.fn.length 1)) 0)) {V with ab:=V.ab++[f]}:=by
 obtain ⟨a,_⟩:=d.vr.vm;have b:=bQ.bump d.ij al (o:=TO.aY (A.az dL+1) 1 (oQ A V.ab.length++[[.p true (A.id (ep V.ab.length)) 0]]));have u2:=bQ.set b.ij a (o:=TO.row (Vm.cells J.X J.room J.dm A {V with ab:=V.ab++[f]} (.m true (A.id dL) (A.az dL+1) 0 (V.ab.length+1) 1) x (.m true (A.id iP) (A.az iP) 0 J.X.g.ins.length 4) (.m true (A.id fj) (A.az fj) 0 J.X.S.fn.length 1)) 0);rw [show (A.bump dL).id kN=J.pv from d.iv] at u2;have i:=(b.mono (R':=λr=>r=kN\/r=dL) λr J=>.inr J).trans (u2.mono λr J=>.inl J);have g:=d.iv▸d.ij.lt _ a;refine d.push c e i j al ?_ ?_;rw [zF (by simp;exact g)];first|rfl|simp [Lay.bump]
 show (List.set _ J.pv _)[A.id dL]? =_;rw [zD (by rw [<-d.iv];exact d.ij.ne a al Z),zF (d.ij.lt _ al)];first|rfl|simp [Lay.bump]
theorem MD.P7 (d:MD J D E V A) (c:pD A E V.ab.length f) (e:V.ab.length<J.dm) (j:mn A pH J.X.zs.length 4 x):∃g,MS J g ((E++[TO.aY 0 1 (oQ A V.ab.length++[[.p true (A.id (ep V.ab.length)) 0]])]).set J.pv (.row (Vm.cells J.X J.room J.dm A {V with ab:=V.ab++[f]} (.m true E.length 0 0 (V.ab.length+1) 1) x (.m true (A.id iP) (A.az iP) 0 J.X.g.ins.length 4) (.m true (A.id fj) (A.az fj) 0 J.X.S.fn.length 1)) 0)) {V with ab:=V.ab++[f]}:=by
 obtain ⟨b,_⟩:=d.vr.vm;have a:=bQ.new (r0:=dL) d.ij d.lf (by simp [xn]) (o:=TO.aY 0 1 (oQ A V.ab.length++[[.p true (A.id (ep V.ab.length)) 0]]));have i:(A.new dL E.length).al kN:=by simp [Lay.new,b]
 have u2:=bQ.set a.ij i (o:=TO.row (Vm.cells J.X J.room J.dm A {V with ab:=V.ab++[f]} (.m true E.length 0 0 (V.ab.length+1) 1) x (.m true (A.id iP) (A.az iP) 0 J.X.g.ins.length 4) (.m true (A.id fj) (A.az fj) 0 J.X.S.fn.length 1)) 0);rw [show (A.new dL E.length).id kN=J.pv by simp [Lay.new,d.iv]] at u2;have h:=(a.mono (R':=λr=>r=kN\/r=dL) λr J=>.inr J).trans (u2.mono λr J=>.inl J);have k:=d.iv▸d.ij.lt _ b;refine d.push c e h j (by simp [Lay.new]) ?_ ?_;rw [zF W];simp [Lay.new];rw [show (A.new dL E.length).id dL=E.length by simp [Lay.new],zD O,zJ (zE _)];simp [Lay.new]
theorem MD.calls {L:List Int} (d:MD J D E V A) (t:L.length=J.X.S.fn.length):MD J D (E.set (A.id fj) (.aY (A.az fj) 1 (L.map bt))) V A/\∀i f,pD A E i f->pD A (E.set (A.id fj) (.aY (A.az fj) 1 (L.map bt))) i f:=by
 have a:=d.vr;obtain ⟨h,q,w,x⟩:=a.se;obtain ⟨b,H,M,N⟩:=a.ca;have c:=bQ.set d.ij b (o:=TO.aY (A.az fj) 1 (L.map bt));have v:∀(j k:Nat),j≠11->¬(j,k)=fj:=λj k K J=>by simp at J;omega
 obtain ⟨p,s,F,y,z,C⟩:=a.vm;have n:∀i f,pD A E i f->pD A (E.set (A.id fj) (.aY (A.az fj) 1 (L.map bt))) i f:=λi f m=>m.jq d.ij c λr g J=>by rcases g with l|l|l <;> rw [l] at J <;> simp at J
 refine ⟨⟨⟨a.hp.jq d.ij c λr g J=>by rw [J] at g;simp [Rh] at g,a.fd.jq d.ij c (v _ _ O),⟨p,s,F,by rw [d.ij.aX p b Z];exact y,z,C⟩,λe=>?_,λi f m=>n i f (a.fr i f m),⟨h,q,w,by rw [d.ij.aX h b Z];exact x⟩,⟨b,L,t,d.ij.get_eq b⟩,λe=>by rw [d.ij.aX e b Z];exact a.ze e,a.ti,a.fu,a.nf,a.lm⟩,c.ij,c.lf d.lf,d.iv,d.ih,d.ie,d.fr,d.R3 c.any⟩,n⟩;rw [d.ij.aX e b Z];exact a.fs e
end
def Gb (s:ae) (c:Nat):Nat->TV
 | 0=>.sl true []
 | i+1=>.m true s.length (i+1-c) 0 (i+1) 4
def FL (s:ae) (a:List Vl) (c:Nat):Nat->ae
 | 0=>s
 | i+1=>s++[.aY (i+1-c) 4 ((a.take (i+1)).map aw)]
theorem Ge (s:ae) (a:List Vl) (c i:Nat):∃t,FL s a c i=s++t:=by
 cases i with
 | zero=>exact ⟨[],by simp [FL]⟩
 | succ i=>exact ⟨_,rfl⟩
theorem GQ {f:List Vl} {z:Vl} {o:Bool} (m:f[a]? =some z) (C:f.length<=1000000000000) (q:d<=r.length) (w:1<=c) (x:c<=a\/(a=0/\c=1)) (l:ae):cq true 4 32 2 d (Gb r c a) (.sl o [aw z]) l (FL r f c a)=some (Gb r c (a+1),l,FL r f c (a+1)):=by
 have A:=aa m;have g:fits (a+1) 32:=by unfold fits;exact decide_eq_true ⟨O,O⟩
 have i:f.take (a+1)=f.take a++[z]:=by rw [xJ,m];rfl
 have h:(f.take a).length=a:=W;cases a with
 | zero=>have p:c=1:=O;subst p;have:=fD (k:=true) (e:=4) (b:=32) (an:=2) (fl:=d) (l:=l) (s:=r) (y:=.sl o [aw z]) rfl;show cq true 4 32 2 d (.sl true []) (.sl o [aw z]) l r=_;rw [this,zO ⟨BT [z],g,O⟩,zN Z];simp only [df,Gb,FL,i];simp
 | succ j=>
  have n:=zY q;show cq true 4 32 2 d (.m true r.length (j+1-c) 0 (j+1) 4) (.sl o [aw z]) l (r++[.aY (j+1-c) 4 ((f.take (j+1)).map aw)])=_;rw [kK rfl,zJ (zE _)];simp only [wY,List.getElem?_cons_zero,tR];have v:=BU [z];have s:j+1<=((f.take (j+1)).map aw).length:=by rw [yV,h];exact zE _
  rw [zO ⟨trivial,trivial,trivial,s,n,v,O,g⟩];have t:((f.take (j+1)).map aw).take (j+1)=(f.take (j+1)).map aw:=yE (by rw [yV,h];exact zE _);simp only [Gb,FL,i,t];simp;omega
theorem YG {e d y z:TO} (g:a≠b) (f:a≠c) (rc:b≠c):(((r.set a e).set b y).set a d).set c z=((r.set c z).set b y).set a d:=by rw [List.set_comm e y g,wA,List.set_comm d z f,List.set_comm y z rc]
theorem P4 {g c y z:TO} (f:a≠b) (e:a<r.length) (d:b<r.length):(((r.set a g)++[y]).set a c).set b z=((r.set b z)++[y]).set a c:=by rw [<-List.set_append_left _ _ e,wA,List.set_comm c z f,List.set_append_left _ _ d]
def lL (X:Sg) (a:Fn) (b:List Vl):List Vl:=b++((X.S.sl.take (a.at_.toNat+a.ah.toNat)).drop (a.at_.toNat+b.length)).map λt=>(X.zs[t.toNat]?).getD vz
section
variable {J:ME} {D:Nat->Nat} {E h:ae} {V V':Vm} {A A':Lay} {n:Nat} {f:Fm} {a b:Vl} {H':Hp} {F':Fe}
theorem BA {e:Fn} {args:List Vl} {o:Bool} (K:MS J D E V) (f6:J.X.S.fn[c]? =some e) {a0:Nat} (ha:e.at_=a0) (hm:e.ah=d) (hk:args.length<=d) (l5:a0+d<=J.X.S.sl.length) (j2:∀x∈J.X.S.sl,∃(t:Nat) (z:Vl),x=(t:Nat)/\J.X.zs[t]? =some z) (k8:J.X.S.sl.length<=99000000000) (f7:V.ab.length<J.dm):
  EN prog 35 [.p true J.pv 0,I c,.sl o (args.map aw)] E J.fl λr h=>∃v,MS J v h {V with ab:=V.ab++[⟨c,0,0,lL J.X e args,[]⟩]}:=by
 have ⟨A,p⟩:=K;have c8:(lL J.X e args).length=d:=by simp [lL,ha,hm];omega
 apply EW.o e35;have ⟨v1,fv,zv,v2,v3,v4⟩:=p.vr.vm;have l8:=v2;simp only [Vm.cells,p.iv] at v2;obtain ⟨RL,rm,g1,g2,g3⟩:∃(RL:cD) (d:Nat),RL=J.X.S.fn.map jw/\RL[c]? =some (jw e)/\d=RL.length:=⟨_,_,rfl,by rw [zK,f6];rfl,rfl⟩;simp at g2;obtain ⟨m,h8,k9⟩:∃m:Nat,1<=m/\m=max args.length 1:=⟨_,O,rfl⟩;have h4:EN prog 2025 [.sl false (args.map aw)] E J.fl λr h=>r=Gb E m args.length/\h=FL E (lL J.X e args) m args.length:=by
  refine (JE rfl O).mono λr h hq=>?_;rcases hq with ⟨R,X,q3⟩|⟨R,X,q3⟩;subst R;exact ⟨X,q3⟩;have l6:args.length≠0:=λJ=>R (zL J);obtain ⟨j,M⟩:∃j,args.length=j+1:=⟨args.length-1,O⟩;have h9:j+1-m=0:=O;have j4:(lL J.X e args).take (j+1)=args:=by rw [lL,xT O,yE O]
  rw [M];simp only [Gb,FL,h9,j4];rw [X,q3,M];exact ⟨rfl,rfl⟩
 simp [b35,v2,<-g1,g2,ha,hm];refine CL.o h4 λr h ⟨R,X⟩=>?_;subst R;subst X;simp;have j6:=LP.ind (P:=prog) (fl:=J.fl) (r:=RW λr h=>∃v,MS J v h {V with ab:=V.ab++[⟨c,0,0,lL J.X e args,[]⟩]}) (lv:=[0,1,7,8,9]) (b:=λg4=>a5 (y7 g4)) (λi:Nat=>d-i) (λi=>args.length<=i/\i<=d) (λi=>[.p true J.pv 0,I c,.p false 0 0,Gb E m i,I i]) (λ_=>[TO.row [.v (.string e.name.1),I e.node,I e.params,I e.result,I a0,I d,I e.first,I e.jk] 0]) (FL E (lL J.X e args) m) 1 (λi _=>⟨rfl,rfl,by cases i <;> rfl⟩) (λi hi g4 hk=>?_) args.length ⟨zE _,hk⟩;simpa using j6;have ⟨i2,l3⟩:=hi;have ⟨t,ht⟩:=Ge E (lL J.X e args) m i;have k:=p.mK t;rw [ht];obtain ⟨SL,d8⟩:∃SL,SL=J.X.S.sl.map bt:=⟨_,rfl⟩;simp [y7];refine ST.dc (λl4=>?_) λl2=>?_;have hx:=zA (l:=J.X.S.sl) (i:=a0+i) O;generalize J.X.S.sl[a0+i]=x at hx;have f9:SL[a0+i]? =some [I x]:=by rw [d8,zK,hx];rfl
 have ⟨ty,z,f8,hz⟩:=j2 x (zI hx);have j5:(lL J.X e args)[i]? =some z:=by unfold lL;rw [zJ i2,zK,yP,ha,hm,zU,zO W];simp;rw [show a0+args.length+(i-args.length)=a0+i by omega,hx];simp [f8,hz]
 have ⟨ZL,zm,z1,z2,z3,_,_,k6,l7,k4,s⟩:=k.zv hz;simp only [Vm.cells,<-d8] at s;have q:=GQ (o:=true) j5 O p.lf h8 O;rw [ht] at q;have wi:i64.wrap ((i:Int)+1)=((i+1:Nat):Int):=by rw [bW O O];omega
 obtain ⟨j0,i5⟩:∃j,j=a0+i:=⟨_,rfl⟩;have wa:i64.wrap ((a0:Int)+i)=(j0:Int):=by rw [bW O O];omega
 rw [<-i5] at f9;simp at q z2;simp [s];simp only [wa];simp [f9,f8,z1,z2,z3,q];simp only [wi];refine hk (i+1) _ _ _ ?_ ?_ ?_ ⟨O,O⟩ O <;> rfl;have i4:i=d:=by omega
 subst i4;obtain ⟨h1,d9,e1,e2,e3,e4⟩:∃x,x=Gb E m i/\ce x=[x]/\aW x/\cI (jB x)/\jB (jB x)=jB x:=⟨_,rfl,by cases i <;> rfl,by cases i <;> rfl,by cases i <;> rfl,by cases i <;> rfl⟩;rw [<-d9];obtain ⟨g,c7⟩:∃g,g=E++t:=⟨_,rfl⟩;have i9:J.pv<g.length:=by rw [c7];have:=aa v2;simp;omega
 have s:=k.vr.vm;rw [<-c7] at s ⊢ k;have ⟨_,k5,j9,s,j7,j8⟩:=s;simp only [Vm.cells,k.iv] at s;have hb:=p.iv▸p.ij.lo _ v1;have g5:∀y:TO,(g++[y])[J.pv]? =g[J.pv]? :=λy=>zB i9;have gs:=λx y:TO=>zF (l:=g++[y]) (i:=J.pv) (a:=x) W;have k7:=λ(L:ae) (x:TO) (K:J.pv<L.length)=>zF (a:=x) K;have ⟨k1,L',k2,H⟩:=k.vr.ca;obtain ⟨b1,b6⟩:∃b1,b1=L'.map bt:=⟨_,rfl⟩;rw [<-b6] at H;have f5:=aa f6;have f1:=zA (l:=L') (i:=c) O;generalize L'[c]=cx at f1;have f2:b1[c]? =some [I cx]:=by rw [b6,zK,f1];rfl
 have c9:J.pv≠A.id fj:=by rw [<-k.iv];exact k.ij.ne k.vr.vm.1 k1 Z
 have c1:∀(L:ae) (y:TO),(L.set J.pv y)[A.id fj]? =L[A.id fj]? :=λL y=>zD c9;have c2:∀(y:TO),(g++[y])[A.id fj]? =g[A.id fj]? :=λy=>zB (aa H);have e6:=k.ij.lo _ k1;have h5:∃w,bQ J.fl (· =kf V.ab.length) A w E g/\mn w (kf V.ab.length) (lL J.X e args).length 4 (jB h1)/\(w.al (kf V.ab.length)=true->g[w.id (kf V.ab.length)]? =some (.aY (w.az (kf V.ab.length)) 4 ((lL J.X e args).map aw))):=by
  rw [d9,c7,<-ht];cases i with
  | zero=>exact ⟨A.drop (kf V.ab.length),bQ.drop p.ij (by simp [xn]),.inr ⟨by simp [Lay.drop],c8,true,rfl⟩,λK=>by simp [Lay.drop] at K⟩
  | succ j=>refine ⟨A.vL (kf V.ab.length) E.length (j+1-m),bQ.vL p.ij p.lf (by simp [xn]),.inl ⟨by simp [Lay.vL],?_⟩,λ_=>?_⟩;simp [Lay.vL,c8,Gb];simp [Lay.vL,FL];exact yE (by rw [yV,c8];exact zE _)
 have ⟨w,u1,j3,j1⟩:=h5;have ⟨A3,d3,f3,i3,C⟩:=p.slot (f:=⟨c,0,0,lL J.X e args,[]⟩) u1 rfl j3 j1;have ⟨d4,f4⟩:=d3.calls (L:=L'.set c (i64.wrap (cx+1))) (Zs k2);have ff:=f4 _ _ f3;have d6:=C 6 0 O O O;have d1:=C 11 0 O O O;have d5:=C 10 0 O O O;have b2:=C 12 0 O O O;have d7:=C 1 0 O O O;have d2:=C 5 0 O O O;have g9:mn A3 pH J.X.zs.length 4 j9:=by rcases j8 with ⟨x1,x2⟩|⟨x1,x2⟩;exact .inl ⟨b2.2.2.trans x1,by rw [x2,b2.1,b2.2.1]⟩;exact .inr ⟨b2.2.2.trans x1,x2⟩
 rcases j7 with ⟨al,rfl⟩|⟨al,i7,rfl⟩;have ⟨js,M⟩:=k.vr.fs al;have i6:=aa M;have gj:∀x y:TO,((g++[y]).set J.pv x)[A.id dL]? =g[A.id dL]? :=λx y=>by rw [zD (by rw [<-k.iv];exact k.ij.ne k.vr.vm.1 al Z),zB i6]
 have q:=λ(r0:TO) (E:ae)=>kK (e:=1) (b:=8) (an:=2) (fl:=J.fl) (l:=[r0,.aY 0 1 [[.p true g.length 0]]]) (s:=E) (id:=A.id dL) (az:=A.az dL) (n:=V.ab.length) (sz:=1) (y:=.m false 1 0 0 1 1) (news:=[[.p true g.length 0]]) (by simp [jY]);have c6:fits (V.ab.length+1) 8:=by have:=k.vr.lm;unfold fits;exact decide_eq_true ⟨O,O⟩
 have h7:=k.ij.lo _ al;have g8:A.id dL≠J.pv:=by rw [<-k.iv];exact (k.ij.ne k.vr.vm.1 al Z).symm
 have c3:∀(L:ae) (y:TO),(L.set (A.id dL) y)[J.pv]? =L[J.pv]? :=λL y=>zD g8;have c4:∀(L:ae) (y:TO),(L.set (A.id dL) y)[A.id fj]? =L[A.id fj]? :=λL y=>zD (k.ij.ne al k1 Z);have h3:∀(F x y z:TO),((((g++[F]).set J.pv x).set (A.id dL) y).set J.pv z)[J.pv]? =some z:=λF x y z=>zF W;simp [Dl,e1,e2,e3,e4,g5,s,hb,gs,q,gj,M,h7,c6,oQ,c1,c2,c3,c4,H,f2,e6,h3,f5];have h2:=d6.2.2.trans al;have ⟨v,N⟩:=d4.P8 ff f7 h2 g9;refine ⟨v,?_⟩;have i1:=vW λi hi=>(d3.fr i hi).trans (p.fr i hi).symm;simp only [Vm.cells,Fm.cells,d6,d1,d5,d7,d2,i3,i1] at N;rw [YG g8.symm c9 (k.ij.ne al k1 Z),b6];simpa [yO,oQ] using N;have h6:=zL i7;have q:=λ(r0:TO) (E:ae)=>fD (k:=true) (e:=1) (b:=8) (an:=2) (fl:=J.fl) (l:=[r0,.aY 0 1 [[.p true g.length 0]]]) (s:=E) (y:=.m false 1 0 0 1 1) (news:=[[.p true g.length 0]]) (by simp [jY]);have c6:fits 1 8:=by decide
 have hz:T.cS 2 1 [[.p true g.length 0]]:=rfl;simp only [List.length_cons,List.length_nil,yM,c6,hz] at q;simp [df] at q;have g6:∀(F x y z:TO),((((g++[F]).set J.pv x)++[y]).set J.pv z)[J.pv]? =some z:=λF x y z=>zF W;have g7:∀(F x y:TO),(((g++[F]).set J.pv x)++[y])[J.pv]? =some x:=λF x y=>by rw [zB W,zF W]
 have c5:∀(F x y:TO),(((g++[F]).set J.pv x)++[y])[A.id fj]? =some (.aY (A.az fj) 1 b1):=λF x y=>by rw [zB (by have:=aa H;simp;omega),c1,c2,H]
 simp [Dl,e1,e2,e3,e4,g5,s,hb,q,c1,c5,f2,e6,g6,g7,f5];have ⟨v,N⟩:=d4.P7 ff f7 g9;refine ⟨v,?_⟩;simp only [Vm.cells,Fm.cells,d1,d5,d7,d2,i3] at N;rw [P4 c9 W (by have:=aa H;simp;omega),b6];simpa [yO,oQ,h6] using N
end
def PQ (e:ME) (h:Nat->Nat) (a:Vm) (n:Nat) (d:Fm) (c:Hp) (b:Fe) (w:Vl) (t:Int) (g:Nat) (f:Int) (i:ae):Prop:=
 (g<=e.room/\MS e h i (if t=0 then {a.top n {d with stack:=d.stack++[w]} with H:=c,F:=b} else ({a with H:=c,F:=b}:Vm).end_ 2 t f))\/(e.room<g/\MS e h i (a.end_ 2 4 f))
section
variable {J:ME} {D:Nat->Nat} {s E:ae} {V V':Vm} {A A':Lay} {n at_:Nat} {f:Fm} {a b:Vl} {H':Hp} {F':Fe} {l:List Vl} {x:IN}
theorem Is.h (h:V.Is n f):({V with H:=H',F:=F'}:Vm).Is n f:=⟨h.len,h.get⟩
theorem Xw (i:JX) (V:Vm) (n:Nat) (f:Fm) (l:List Vl) (a:Vl) (x:IN) (b:V.Is n f) (o:f.stack=l++[a]) (m:l.length<1000000000000) (p:x.op=9):∃w:Vl,∀(J:ME) (D:Nat->Nat) (s:ae) (at_:Nat),at_<J.X.g.ins.length->MS J D s V->EN prog 94 [.p true J.pv 0,.p true (D n) 0,.ag (eX x),I at_] s J.fl λr E=>r= .tu []/\MS J D E (V.top n {f with stack:=l++[w]}):=by have ⟨w,y,c⟩:=a0k i x.a a;refine ⟨w,λJ D s at_ j h=>EW.o e94 ?_⟩;have c1:=v93 h b o;simp [b94,p];refine CL.o c1 λr E ⟨q,t⟩=>?_;subst q;have e:=v131 (k:=0) t j a.k0 O;simp;refine CL.o e λr E ⟨v,z⟩=>?_;subst v;simp at c;simp [CP.q c];have g:=Gh (a:=w) z b.top m;refine CL.o g λr E ⟨A,d⟩=>?_;subst A;simp;rw [aJ] at d;exact d
theorem Jw {w:Vl} {line:Int} (h:WY J D V H' F' w i q c y E) (k:V.Is n f) (l:f.stack.length<1000000000000):
  ∃(o:Vl) (m:Int) (p:Bool),y= .tu [.ag (aw o),U m,B p]/\EN prog 134 [.p true J.pv 0,.p true (D n) 0,.ag (aw o),U m,I line] E J.fl λy E=>y= .tu []/\PQ J D V n f H' F' w i c line E:=by
 rcases h with ⟨d,e,g⟩|⟨d,e,g⟩;refine ⟨w,i,q,e,(Af g (Is.h k) l).mono λy E ⟨j,a⟩=>⟨j,.inl ⟨d,?_⟩⟩⟩;split;rename_i b;rw [zO b] at a;exact a;rename_i b;rw [zN b] at a;exact a;refine ⟨vz,4,true,e,(Af g k l).mono λy E ⟨j,a⟩=>⟨j,.inr ⟨d,?_⟩⟩⟩;rw [zN O] at a;exact a
theorem Xx (p:JX) (V:Vm) (n:Nat) (f:Fm) (l:List Vl) (a b:Vl) (x:IN) (e:V.Is n f) (q:A6 V.H) (C:f.stack=l++[a,b]) (y:l.length<1000000000000) (F:x.op=10):∃(H':Hp) (w:Vl) (t:Int) (g:Nat),∀(J:ME) (D:Nat->Nat) (s:ae) (at_:Nat),at_<J.X.g.ins.length->MS J D s V->EN prog 94 [.p true J.pv 0,.p true (D n) 0,.ag (eX x),I at_] s J.fl λr E=>r= .tu []/\PQ J D (V.top n {f with stack:=l}) n {f with stack:=l} H' V.F w t g x.line E:=by have ⟨H',w,t,b1,g,t0,t1,c⟩:=XM p q x.a a b;refine ⟨H',w,t,g,λJ D s at_ v h=>EW.o e94 ?_⟩;have c1:=v93 (l:=l++[a]) (a:=b) h e (by rw [C];simp);simp [b94,F];refine CL.o c1 λr E ⟨H,K⟩=>?_;subst H;simp;have o:=v93 K e.top rfl;refine CL.o o λr E ⟨L,j⟩=>?_;subst L;rw [aJ] at j;simp;refine CL.o (v131 j v a.k0 b.k0) λr E ⟨M,k⟩=>?_;subst M;have N:=k;have ⟨A,d⟩:=k;have ⟨v1,fv,zv,m,v3,v4⟩:=d.vr.vm;simp only [Vm.cells,d.iv,d.ih] at m;simp [m];refine CL.o (c J D _ (V.top n {f with stack:=l}) rfl N) λr E z=>?_;obtain ⟨w1,t1,y1,X,i⟩:=Jw z e.top y;subst X;simp at i;simp;refine CL.o i λr E ⟨P,R⟩=>?_;subst P;simp;exact R
end
section
variable {J:ME} {D:Nat->Nat} {E h:ae} {V V':Vm} {A A':Lay} {n at_:Nat} {f:Fm} {a b:Vl} {H':Hp} {F':Fe} {l:List Vl} {x:IN}
theorem MD.oP (d:MD J D E V A) (c:V.Is n f):∃sv b,E[D n]? =some (.row (f.cells sv b) 0)/\J.fl<=D n/\mn A (kf n) f.ah.length 4 sv/\SV A (dJ n) f.stack.length 4 b/\∀a:Fm,a.ah=f.ah->a.stack=f.stack->MS J D (E.set (D n) (.row (a.cells sv b) 0)) (V.top n a):=by have e:=d.vr.fr n f c.get;obtain ⟨sv,b,l,h,i⟩:=e.row;have g:=d.KL c;refine ⟨sv,b,g▸l,g▸d.ij.lo _ e.al,h,i,λa j k=>?_⟩;have q:=e.De d.ij j k h i;rw [g] at q;exact fq d c q
theorem Xv (i:MS J D E V) (j:V.Is n f) (l:x.op=11) (k:x.a=c):EN prog 95 [.p true J.pv 0,.p true (D n) 0,.ag (eX x),I at_] E J.fl λr h=>r= .tu []/\MS J D h (V.top n {f with pc:=c}):=by have ⟨A,d⟩:=i;have ⟨sv,m,a,e,_,_,g⟩:=d.oP j;have b:=g {f with pc:=c} rfl rfl;simp only [Fm.cells] at a b;apply EW.o NT;simp [JO,l,k,a,e];exact b
theorem Od (z:MS J D E V) (o:V.Is n f) (C:f.stack=l++[a]) (q:at_<J.X.g.ins.length) (s:x.op=12) (p:x.a=c):EN prog 95 [.p true J.pv 0,.p true (D n) 0,.ag (eX x),I at_] E J.fl λr h=>r= .tu []/\MS J D h (V.top n (if a.n=0 then {f with stack:=l,pc:=c} else {f with stack:=l})):=by have c1:=v93 z o C;by_cases b:a.n=0;rw [zO b];apply EW.o NT;simp [JO,s,p];refine CL.o c1 λr h ⟨g,i⟩=>?_;subst g;have e:=Gi (y:=true) i q;simp [zM b];refine CL.o e λr h ⟨j,k⟩=>?_;subst j;have ⟨A,d⟩:=k;have ⟨sv,F,m,v,_,_,w⟩:=d.oP o.top;have t:=w {f with stack:=l,pc:=c} rfl rfl;simp only [Fm.cells,aJ] at m t;simp [m,v];exact t;rw [zN b];apply EW.o NT;simp [JO,s,p];refine CL.o c1 λr h ⟨g,i⟩=>?_;subst g;have e:=Gi (y:=false) i q;simp [zC b];refine CL.o e λr h ⟨j,k⟩=>?_;subst j;simp;exact k
theorem Oe (R:MS J D E V) (o:V.Is n f) (y:f.stack=l++[a]) (hl:at_<J.X.g.ins.length) (b:x.op=13\/x.op=14) (t:x.a=c):∃b2:Bool,b2=decide ((a.n=0)=(x.op=13))/\EN prog 95 [.p true J.pv 0,.p true (D n) 0,.ag (eX x),I at_] E J.fl λr h=>r= .tu []/\MS J D h (V.top n (if b2=true then {f with pc:=c} else {f with stack:=l})):=by
 have hp:=R;have ⟨A,d⟩:=R;have ⟨sv,q,g,N,_,r3,P⟩:=d.oP o;have c5:f.stack.length=l.length+1:=by rw [y];simp
 have X:=d.vr.fr n f o.get;have c4:=X.kl;simp only [Fm.cells] at g;rcases r3 with ⟨al,rfl⟩|⟨al,e0,rfl⟩;have ⟨js,s⟩:=X.sk al;have z:i64.wrap ((f.stack.length:Int)-1)=(l.length:Int):=by rw [bW O O];omega
 have v:=λx=>fW (r:=true) (id:=A.id (dJ n)) (az:=A.az (dJ n)) (off:=0) (n:=f.stack.length) (sz:=4) (l:=x) (s:=E) gW;have p:(f.stack.map aw++js)[l.length]? =some (aw a):=by rw [y];simp
 simp at p;have w:(l.length:Int)<f.stack.length:=O;by_cases e:(a.n=0)=(x.op=13);refine ⟨true,by simp [e],?_⟩;have m:=Gi (y:=true) hp hl;have M:∀h,MS J D h V->∃sv q,h[D n]? =some (.row [I f.fn,I f.pc,I f.ai,sv,q,.v (.pointer none),I 0,.sl true []] 0)/\J.fl<=D n/\MS J D (h.set (D n) (.row [I f.fn,I c,I f.ai,sv,q,.v (.pointer none),I 0,.sl true []] 0)) (V.top n {f with pc:=c}):=λh ⟨A',d'⟩=>by have ⟨sv,q,g,N,_,_,P⟩:=d'.oP o;have b1:=P {f with pc:=c} rfl rfl;simp only [Fm.cells] at g b1;exact ⟨sv,q,g,N,b1⟩
 apply EW.o NT;rcases b with b|b;have i:a.n=0:=by rw [b] at e;simpa using e
 simp [JO,b,t,g,v,z,w,s,p,i];refine CL.o m λr h ⟨j,k⟩=>?_;subst j;have ⟨c3,b6,C,F,H⟩:=M h k;simp [C,F];exact H;have i:¬a.n=0:=by rw [b] at e;simpa using e
 simp [JO,b,t,g,v,z,w,s,p,zC i];refine CL.o m λr h ⟨j,k⟩=>?_;subst j;have ⟨c3,b6,C,F,H⟩:=M h k;simp [C,F];exact H;refine ⟨false,by simp [e],?_⟩;have m:=Gi (y:=false) hp hl;apply EW.o NT;rcases b with b|b;have i:¬a.n=0:=by rw [b] at e;simpa using e
 simp [JO,b,t,g,v,z,w,s,p,zC i];refine CL.o m λr h ⟨j,k⟩=>?_;subst j;simp;refine CL.o (v93 k o y) λr h ⟨K,L⟩=>?_;subst K;simp;exact L;have i:a.n=0:=by rw [b] at e;simpa using e
 simp [JO,b,t,g,v,z,w,s,p,zM i];refine CL.o m λr h ⟨j,k⟩=>?_;subst j;simp;refine CL.o (v93 k o y) λr h ⟨K,L⟩=>?_;subst K;simp;exact L;omega
end
@[simp] theorem a1L (r:Bool) (i o:Nat):uZ (.p r i o) (.p r i o):=by simp [uZ,nV]
@[simp] theorem a1N (k:IntKind) (i:Int):uZ (.v (.int k i)) (.v (.int k i)):=by simp [uZ,nV,kx]
theorem mC {a:Type} (L:List a) (n:Nat) (x:a):(L.set n x).take n=L.take n:=by apply xK;intro i;rw [zU,zU];split;rw [zD O];rfl
section
variable {J:ME} {D:Nat->Nat} {E h:ae} {V V':Vm} {A A':Lay} {n at_:Nat} {f:Fm} {a b:Vl} {H':Hp} {F':Fe} {l xs:List Vl} {x:IN}
theorem MS.row (h:MS J D E V):∃(A:Lay) (a b:TV),E[J.pv]? =some (.row (V.cells J.X J.room J.dm A a b (.m true (A.id iP) (A.az iP) 0 J.X.g.ins.length 4) (.m true (A.id fj) (A.az fj) 0 J.X.S.fn.length 1)) 0)/\A.id bY=J.ph/\A.id lA=J.pd/\SV A dL V.ab.length 1 a/\V.ab.length<=J.dm/\J.dm<=100000:=by obtain ⟨A,d⟩:=h;obtain ⟨f,a,b,c,e,g⟩:=d.vr.vm;exact ⟨A,a,b,by rw [<-d.iv];exact c,d.ih,d.ie,e,d.vr.nf,d.vr.lm⟩
theorem Xs {a:Fn} {e:Ec} (o:MS J D E V) (y:V.Is n f) (X:f.stack=l++xs) (hx:x.op=19) (z:x.a=c) (H:J.X.g.fns[c]? =some e) (R:e.params=xs.length) (K:J.X.S.fn[c]? =some a) {a0:Nat} (C:a.at_=a0) (N:a.ah=d) (L:xs.length<=d) (P:a0+d<=J.X.S.sl.length) (b1:∀x∈J.X.S.sl,∃(t:Nat) (b2:Vl),x=(t:Nat)/\J.X.zs[t]? =some b2) (F:J.X.S.sl.length<=99000000000):
  EN prog 96 [.p true J.pv 0,.p true (D n) 0,.ag (eX x)] E J.fl λr h=>r= .tu []/\((V.ab.length<J.dm/\∃i,MS J i h {V with ab:=V.ab.set n {f with stack:=l}++[⟨c,0,0,lL J.X a xs,[]⟩]})\/(J.dm<=V.ab.length/\MS J D h ((V.top n {f with stack:=l}).end_ 2 5 x.line))):=by
 have c1:=Oi o y X;have ⟨A,fv,zv,s,i1,i2,v3,v4,v5⟩:=o.row;simp only [Vm.cells] at s;obtain ⟨b,p⟩:∃b,b=J.X.g.fns.map rT:=⟨_,rfl⟩;have q:b[c]? =some (rT e):=by rw [p,zK,H];rfl
 simp at q;apply EW.o NS;simp [JN,hx,z,s,<-p,q,R];refine CL.o c1 λr h ⟨q1,j⟩=>?_;subst q1;have ⟨A',m,b6,v,j1,j2,w,w4,w5⟩:=j.row;simp only [Vm.cells] at v;rw [lD] at w w4;have M:∀x:ae,eP prog 78 m x h=some (I (V.ab.length:Nat))/\eP prog 78 (bw m) x h=some (I (V.ab.length:Nat)):=λx=>w.eP qa;simp [v,M];by_cases hE:V.ab.length=J.dm;have g:(V.ab.length:Int)=J.dm:=by omega
 simp [zM g];refine CL.o (v130 j) λr h ⟨q3,k⟩=>?_;subst q3;simp;exact .inr ⟨O,k⟩;have g:¬(V.ab.length:Int)=J.dm:=by omega
 simp [zC g];refine CL.o (BA j K C N L P b1 F (by rw [lD];omega)) λr h ⟨i,k⟩=>?_;simp;exact .inl ⟨O,i,k⟩
theorem Xu (b1:kB) (V:Vm) (n:Nat) (f:Fm) (l xs:List Vl) (x:IN) (hI:V.Is n f) (hF:∀x∈V.F.ins,-9223372036854775808<=x) (hs:f.stack=l++xs) (K:l.length<1000000000000) (M:x.op=20) (h1:1<=x.a) (h2:x.a<=8) (hl:xs.length=(p6 x.a).length):∃(H':Hp) (F':Fe) (w:Vl) (t:Int) (C:Nat),∀(J:ME) (D:Nat->Nat) (E:ae),MS J D E V->EN prog 96 [.p true J.pv 0,.p true (D n) 0,.ag (eX x)] E J.fl λr h=>r= .tu []/\PQ J D (V.top n {f with stack:=l}) n {f with stack:=l} H' F' w t C x.line h:=by
 have ⟨H',F',w,t,b6,C,t0,R,c⟩:=XL b1 hF x.a xs h1 h2 hl;refine ⟨H',F',w,t,C,λJ D E a=>EW.o NS ?_⟩;have c1:=Oi a hI hs;have ⟨A,g,j,k,N,P,v3,v4,v5⟩:=a.row;simp only [Vm.cells,N,P] at k;have L:(xs.length:Int)=if x.a=7 then 0 else if x.a=5 then 2 else 1:=by rw [hl];unfold p6;rcases (by omega:x.a=1\/x.a=2\/x.a=3\/x.a=4\/x.a=5\/x.a=6\/x.a=7\/x.a=8) with a|a|a|a|a|a|a|a <;> rw [a] <;> rfl
 have F:=λb2 (K:(xs.length:Int)=b2)=>K▸c1;have H:∀h,MS J D h (V.top n {f with stack:=l})->∃(A:Lay) (g j:TV),h[J.pv]? =some (.row ((V.top n {f with stack:=l}).cells J.X J.room J.dm A g j (.m true (A.id iP) (A.az iP) 0 J.X.g.ins.length 4) (.m true (A.id fj) (A.az fj) 0 J.X.S.fn.length 1)) 0)/\A.id bY=J.ph/\A.id lA=J.pd:=λh a=>by have ⟨A,g,j,k,N,P,_⟩:=a.row;exact ⟨A,g,j,k,N,P⟩
 have X:∀{r h},WY J D (V.top n {f with stack:=l}) H' F' w t b6 C r h->_:=λ{r h} i=>Jw (line:=x.line) i hI.top K;rcases (by omega:x.a=7\/x.a=5\/(¬x.a=7/\¬x.a=5)) with o|m|⟨o,m⟩;have c1:=F 0 (by rw [L,zO o]);simp [JN,M,k,zM o];refine CL.o c1 λr h ⟨s,d⟩=>?_;subst s;have ⟨A,g,j,e,p,q⟩:=H h d;simp only [Vm.cells,p,q] at e;simp [e];refine CL.o (c J D _ (V.top n {f with stack:=l}) rfl rfl d) λr h i=>?_;have ⟨w1,R,y1,z,b⟩:=X i;subst z;simp at b;simp;refine CL.o b λr h ⟨v,y⟩=>?_;subst v;simp;exact y;have c1:=F 2 (by rw [L,zN O,zO m]);simp [JN,M,k,zM m,zC (show ¬x.a=7 by omega)];refine CL.o c1 λr h ⟨s,d⟩=>?_;subst s;have ⟨A,g,j,e,p,q⟩:=H h d;simp only [Vm.cells,p,q] at e;simp [e];refine CL.o (c J D _ (V.top n {f with stack:=l}) rfl rfl d) λr h i=>?_;have ⟨w1,R,y1,z,b⟩:=X i;subst z;simp at b;simp;refine CL.o b λr h ⟨v,y⟩=>?_;subst v;simp;exact y;have c1:=F 1 (by rw [L,zN o,zN m]);simp [JN,M,k,zC m,zC o];refine CL.o c1 λr h ⟨s,d⟩=>?_;subst s;have ⟨A,g,j,e,p,q⟩:=H h d;simp only [Vm.cells,p,q] at e;simp [e];refine CL.o (c J D _ (V.top n {f with stack:=l}) rfl rfl d) λr h i=>?_;have ⟨w1,R,y1,z,b⟩:=X i;subst z;simp at b;simp;refine CL.o b λr h ⟨v,y⟩=>?_;subst v;simp;exact y
theorem Xr {b:Fm} (j:MS J D E V) (d:V.Is n f) (q:V.over=false) (s:f.stack=l++[a]) (t:x.op=25) (p:n=c+1) (m:V.ab[c]? =some b) (o:b.stack.length<1000000000000):EN prog 96 [.p true J.pv 0,.p true (D n) 0,.ag (eX x)] E J.fl λr h=>r= .tu []/\MS J D h {V with ab:=(V.ab.take n).set c {b with stack:=b.stack++[a]}}:=by
 subst p;have c1:=v93 j d s;apply EW.o NS;simp [JN,t];refine CL.o c1 λr h ⟨v,w⟩=>?_;subst v;simp;refine CL.o (v138 w d.top) λr h ⟨y,e⟩=>?_;subst y;have i:(V.top (c+1) {f with stack:=l}).left (c+1)={V with ab:=V.ab.take (c+1)}:=by unfold Vm.left;rw [zN O];simp [Vm.top,mC]
 rw [i] at e;have ⟨A,F,M,g,K,L,_⟩:=e.row;simp only [Vm.cells,q] at g;simp [g];have H:=d.len;have k:({V with ab:=V.ab.take (c+1)}:Vm).Is c b:=⟨W,by simp only;rw [zU,zO O];exact m⟩;refine CL.o (v139 e k o) λr h ⟨z,C⟩=>?_;subst z;simp;exact C
theorem Oa (g:MS J D E V) (c:V.Is 0 f) (i:V.over=false) (j:f.stack=l++[a]) (k:x.op=25):EN prog 96 [.p true J.pv 0,.p true (D 0) 0,.ag (eX x)] E J.fl λr h=>r= .tu []/\MS J D h {V with ab:=[],over:=true,ok:=1,ot:=0,ol:=0}:=by
 have c1:=v93 g c j;apply EW.o NS;simp [JN,k];refine CL.o c1 λr h ⟨m,n⟩=>?_;subst m;simp;refine CL.o (v138 n c.top) λr h ⟨o,b⟩=>?_;subst o;have e:(V.top 0 {f with stack:=l}).left 0={V with ab:=[],over:=true,ok:=1,ot:=0,ol:=0}:=by unfold Vm.left Vm.end_;rw [zO rfl];simp [Vm.top,i]
 rw [e] at b;have ⟨A,p,t,d,q,s,_⟩:=b.row;simp only [Vm.cells] at d;simp [d];exact b
theorem Oc (a:MS J D E V) (b:V.Is n f) (c:x.op=26):EN prog 96 [.p true J.pv 0,.p true (D n) 0,.ag (eX x)] E J.fl λr h=>r= .tu []/\MS J D h (V.left n):=by apply EW.o NS;simp [JN,c];refine CL.o (v138 a b) λr h ⟨d,e⟩=>?_;subst d;simp;exact e
end
def PT (a:Vm) (n:Nat) (b:Fm) (w:Vl) (t c:Int):Vm:=if t=0 then a.top n {b with stack:=b.stack++[w]} else a.end_ 2 t c
def ET (a:Vm) (t b:Int):Vm:=if t=0 then a else a.end_ 2 t b
section
variable {J:ME} {D:Nat->Nat} {E h:ae} {V V':Vm} {A A':Lay} {n at_:Nat} {f:Fm} {a b:Vl} {H':Hp} {F':Fe} {l xs:List Vl} {x:IN}
theorem Xo (V:Vm) (n:Nat) (f:Fm) (l:List Vl) (a b:Vl) (x:IN) (e:V.Is n f) (o:f.stack=l++[a,b]) (m:l.length<1000000000000) (p:x.op=15):∃(w:Vl) (t:Int),∀(J:ME) (D:Nat->Nat) (E:ae),MS J D E V->EN prog 97 [.p true J.pv 0,.p true (D n) 0,.ag (eX x)] E J.fl λr h=>r= .tu []/\MS J D h (PT (V.top n {f with stack:=l}) n {f with stack:=l} w t x.line):=by have ⟨w,t,L,c⟩:=Oh V.H a b.n;refine ⟨w,t,λJ D E k=>EW.o BH ?_⟩;simp [BM,p];refine CL.o (v93 (l:=l++[a]) (a:=b) k e (by rw [o];simp)) λr h ⟨v,y⟩=>?_;subst v;simp;refine CL.o (v93 y e.top rfl) λr h ⟨z,d⟩=>?_;subst z;rw [aJ] at d;have ⟨A,K,M,j,q,s,_⟩:=d.row;simp only [Vm.cells,q,s] at j;simp [j];refine CL.o (c J D _ (V.top n {f with stack:=l}) rfl d) λr h ⟨C,F⟩=>?_;subst C;subst F;have g:=Af (a:=w) (t:=t) (l:=x.line) d e.top m;simp at g;simp;refine CL.o g λr h ⟨H,i⟩=>?_;subst H;simp;rw [aJ] at i;unfold PT;rw [aJ];exact i
theorem Xp (V:Vm) (n:Nat) (f:Fm) (l:List Vl) (a:Vl) (x:IN) (g:V.Is n f) (p:f.stack=l++[a]) (o:l.length<1000000000000) (q:x.op=17):∃(w:Vl) (t:Int),∀(J:ME) (D:Nat->Nat) (E:ae),MS J D E V->EN prog 97 [.p true J.pv 0,.p true (D n) 0,.ag (eX x)] E J.fl λr h=>r= .tu []/\MS J D h (PT (V.top n {f with stack:=l}) n {f with stack:=l} w t x.line):=by have ⟨w,t,M,c⟩:=Oh V.H a x.a;refine ⟨w,t,λJ D E e=>EW.o BH ?_⟩;have ⟨A,m,L,j,s,v,_⟩:=e.row;simp only [Vm.cells,s,v] at j;simp [BM,q,j];refine CL.o (v93 e g p) λr h ⟨C,b⟩=>?_;subst C;have ⟨A,m,L,k,y,z,_⟩:=b.row;simp only [Vm.cells,y,z] at k;simp [k];refine CL.o (c J D _ (V.top n {f with stack:=l}) rfl b) λr h ⟨F,H⟩=>?_;subst F;subst H;have d:=Af (a:=w) (t:=t) (l:=x.line) b g.top o;simp at d;simp;refine CL.o d λr h ⟨K,i⟩=>?_;subst K;simp;rw [aJ] at i;unfold PT;rw [aJ];exact i
theorem Xl (V:Vm) (n:Nat) (f:Fm) (l:List Vl) (a b c:Vl) (x:IN) (e:V.Is n f) (C:f.stack=l++[a,b,c]) (F:x.op=16):∃(H':Hp) (t:Int),∀(J:ME) (D:Nat->Nat) (E:ae),MS J D E V->EN prog 97 [.p true J.pv 0,.p true (D n) 0,.ag (eX x)] E J.fl λr h=>r= .tu []/\MS J D h (ET {V.top n {f with stack:=l} with H:=H'} t x.line):=by have ⟨H',t,P,y⟩:=v141 V.H a b.n c;refine ⟨H',t,λJ D E z=>?_⟩;by_cases j:t=0;apply EW.o BH;simp [BM,F];refine CL.o (v93 (l:=l++[a,b]) (a:=c) z e (by rw [C];simp)) λr h ⟨o,p⟩=>?_;subst o;simp;refine CL.o (v93 (l:=l++[a]) (a:=b) p e.top Z) λr h ⟨q,g⟩=>?_;subst q;rw [aJ] at g;simp;refine CL.o (v93 g e.top rfl) λr h ⟨s,d⟩=>?_;subst s;rw [aJ] at d;have ⟨A,K,N,i,k,m,_⟩:=d.row;simp only [Vm.cells,k,m] at i;simp [i];refine CL.o (y J D _ (V.top n {f with stack:=l}) rfl d) λr h ⟨v,w⟩=>?_;subst v;simp [zM j];rw [ET,zO j];exact w;apply EW.o BH;simp [BM,F];refine CL.o (v93 (l:=l++[a,b]) (a:=c) z e (by rw [C];simp)) λr h ⟨o,p⟩=>?_;subst o;simp;refine CL.o (v93 (l:=l++[a]) (a:=b) p e.top Z) λr h ⟨q,g⟩=>?_;subst q;rw [aJ] at g;simp;refine CL.o (v93 g e.top rfl) λr h ⟨s,d⟩=>?_;subst s;rw [aJ] at d;have ⟨A,K,N,i,k,m,_⟩:=d.row;simp only [Vm.cells,k,m] at i;simp [i];refine CL.o (y J D _ (V.top n {f with stack:=l}) rfl d) λr h ⟨v,w⟩=>?_;subst v;simp [zC j];refine CL.o (v130 w) λr h ⟨M,L⟩=>?_;subst M;simp;rw [ET,zN j];exact L
theorem Xk (V:Vm) (n:Nat) (f:Fm) (l:List Vl) (a c:Vl) (x:IN) (g:V.Is n f) (w:f.stack=l++[a,c]) (y:x.op=18):∃(H':Hp) (t:Int),∀(J:ME) (D:Nat->Nat) (E:ae),MS J D E V->EN prog 97 [.p true J.pv 0,.p true (D n) 0,.ag (eX x)] E J.fl λr h=>r= .tu []/\MS J D h (ET {V.top n {f with stack:=l} with H:=H'} t x.line):=by have ⟨H',t,L,s⟩:=v141 V.H a x.a c;refine ⟨H',t,λJ D E v=>?_⟩;by_cases e:t=0;apply EW.o BH;simp [BM,y];refine CL.o (v93 (l:=l++[a]) (a:=c) v g (by rw [w];simp)) λr h ⟨k,m⟩=>?_;subst k;simp;refine CL.o (v93 m g.top rfl) λr h ⟨o,b⟩=>?_;subst o;rw [aJ] at b;have ⟨A,z,K,d,i,j,_⟩:=b.row;simp only [Vm.cells,i,j] at d;simp [d];refine CL.o (s J D _ (V.top n {f with stack:=l}) rfl b) λr h ⟨p,q⟩=>?_;subst p;simp [zM e];rw [ET,zO e];exact q;apply EW.o BH;simp [BM,y];refine CL.o (v93 (l:=l++[a]) (a:=c) v g (by rw [w];simp)) λr h ⟨k,m⟩=>?_;subst k;simp;refine CL.o (v93 m g.top rfl) λr h ⟨o,b⟩=>?_;subst o;rw [aJ] at b;have ⟨A,z,K,d,i,j,_⟩:=b.row;simp only [Vm.cells,i,j] at d;simp [d];refine CL.o (s J D _ (V.top n {f with stack:=l}) rfl b) λr h ⟨p,q⟩=>?_;subst p;simp [zC e];refine CL.o (v130 q) λr h ⟨F,C⟩=>?_;subst F;simp;rw [ET,zN e];exact C
theorem Xn (X:Sg) (V:Vm) (n:Nat) (f:Fm) (l:List Vl) (a:Vl) (x:IN) (m:Nat) (z:Vl) (e:V.Is n f) (A:f.stack=l++[a]) (p:l.length<1000000000000) (C:x.op=21) (v:x.a=m) (F:X.zs[m]? =some z):∃(H':Hp) (w:Vl) (t:Int) (k:Nat),∀(J:ME) (D:Nat->Nat) (E:ae),J.X=X->MS J D E V->EN prog 97 [.p true J.pv 0,.p true (D n) 0,.ag (eX x)] E J.fl λr h=>r= .tu []/\PQ J D (V.top n {f with stack:=l}) n {f with stack:=l} H' V.F w t k x.line h:=by have ⟨H',w,L,t,k,M,c⟩:=XK X V.H m a.n z F;refine ⟨H',w,t,k,λJ D E s q=>EW.o BH ?_⟩;simp [BM,C,v];refine CL.o (v93 q e A) λr h ⟨H,K⟩=>?_;subst H;simp;refine CL.o (c J D _ (V.top n {f with stack:=l}) s rfl K) λr h y=>?_;rcases y with ⟨g,i,j⟩|⟨g,i,j⟩;subst i;have b:=Af (a:=w) (t:=t) (l:=x.line) j (Is.h e.top) p;simp at b;simp;refine CL.o b λr h ⟨o,d⟩=>?_;subst o;simp;exact .inl ⟨g,d⟩;subst i;have b:=Af (a:=L) (t:=4) (l:=x.line) j e.top p;simp only [aw] at b;simp;refine CL.o b λr h ⟨o,d⟩=>?_;subst o;simp;rw [zN O] at d;exact .inr ⟨g,d⟩
theorem Xm (X:Sg) (V:Vm) (n:Nat) (f:Fm) (x:IN) (j:Nat) (r:Rc) (o:V.Is n f) (p:f.stack.length<1000000000000) (N:x.op=22) (F:x.a=j) (M:X.S.rc[j]? =some r) (s:0<=r.fr) (v:0<=r.count) (A:r.fr+r.count<=X.S.fd.length) (H:∀x∈X.S.fd,∃(t:Nat) (z:Vl),x.type=(t:Nat)/\X.zs[t]? =some z) (K:X.S.fd.length<=1000000):∃(H':Hp) (w:Vl) (i:Nat),∀(J:ME) (D:Nat->Nat) (E:ae),J.X=X->MS J D E V->EN prog 97 [.p true J.pv 0,.p true (D n) 0,.ag (eX x)] E J.fl λr h=>r= .tu []/\PQ J D V n f H' V.F w 0 i x.line h:=by have ⟨H',w,i,c⟩:=v143 X V.H j r M s v A H K;refine ⟨H',w,i,λJ D E C q=>EW.o BH ?_⟩;simp [BM,N,F];refine CL.o (c J D _ V C rfl q) λr h L=>?_;rcases L with ⟨d,e,g⟩|⟨d,e,g⟩;subst e;have b:=Vx (a:=w) (y:=true) (l:=x.line) g (Is.h o) p;simp at b;simp;refine CL.o b λr h ⟨k,m⟩=>?_;subst k;simp;exact .inl ⟨d,m⟩;subst e;have b:=Vx (a:=vz) (y:=false) (l:=x.line) g o p;simp at b;simp;refine CL.o b λr h ⟨k,m⟩=>?_;subst k;simp;exact .inr ⟨d,m⟩
theorem Xj (X:Sg) (v:JU X) (V:Vm) (n:Nat) (f:Fm) (l:List Vl) (a:Vl) (x:IN) (j:V.Is n f) (t:A6 V.H) (z:V.out.length<=65536) (k:f.stack=l++[a]) (m:x.op=23):∃(y:Bool) (o:List UInt8),(V.out++o).length<=65536/\∀(J:ME) (D:Nat->Nat) (E:ae),J.X=X->MS J D E V->EN prog 97 [.p true J.pv 0,.p true (D n) 0,.ag (eX x)] E J.fl λr h=>r= .tu []/\MS J D h (ET {V.top n {f with stack:=l} with out:=V.out++o} (if y=true then 0 else 4) x.line):=by
 have ⟨y,o,s,F,c⟩:=XJ X v V t z a;refine ⟨y,o,s,λJ D E w i=>?_⟩;have p:=λh q=>c J D h (V.top n {f with stack:=l}) w rfl rfl q;cases y with
 | true=>apply EW.o BH;simp [BM,m];refine CL.o (v93 i j k) λr h ⟨b,d⟩=>?_;subst b;simp;refine CL.o (p _ d) λr h ⟨e,g⟩=>?_;subst e;simp;exact g
 | false=>apply EW.o BH;simp [BM,m];refine CL.o (v93 i j k) λr h ⟨b,d⟩=>?_;subst b;simp;refine CL.o (p _ d) λr h ⟨e,g⟩=>?_;subst e;simp;refine CL.o (v130 g) λr h ⟨C,A⟩=>?_;subst C;simp;exact A
theorem Xq (b:MS J D E V) (c:V.Is n f) (d:f.stack=l++[a]) (e:x.op=24):EN prog 97 [.p true J.pv 0,.p true (D n) 0,.ag (eX x)] E J.fl λr h=>r= .tu []/\MS J D h (V.top n {f with stack:=l}):=by apply EW.o BH;simp [BM,e];refine CL.o (v93 b c d) λr h ⟨g,i⟩=>?_;subst g;simp;exact i
end
@[simp] theorem a1M (r:Bool) (i v o n z:Nat):uZ (.m r i v o n z) (.m r i v o n z):=by simp [uZ,nV]
section
variable {J:ME} {D:Nat->Nat} {E h:ae} {V V':Vm} {A A':Lay} {n at_:Nat} {f:Fm} {a b:Vl} {H':Hp} {F':Fe} {l xs:List Vl} {x:IN} {P:ae->Prop}
theorem Of (a:x.op=9\/x.op=10) (b:EN prog 94 [.p true J.pv 0,.p true (D n) 0,.ag (eX x),I at_] E J.fl λr h=>r= .tu []/\P h):EN prog 61 [.p true J.pv 0,.p true (D n) 0,.ag (eX x),I at_] E J.fl λr h=>r= .tu []/\P h:=by
 apply EW.o BJ;rcases a with a|a <;>
 ·simp only [eX,a] at b;simp [BN,a];refine CL.o b λr h ⟨c,d⟩=>?_;subst c;simp;exact d
theorem BW (a:x.op=11\/x.op=12\/x.op=13\/x.op=14) (b:EN prog 95 [.p true J.pv 0,.p true (D n) 0,.ag (eX x),I at_] E J.fl λr h=>r= .tu []/\P h):EN prog 61 [.p true J.pv 0,.p true (D n) 0,.ag (eX x),I at_] E J.fl λr h=>r= .tu []/\P h:=by
 apply EW.o BJ;rcases a with a|a|a|a <;>
 ·simp only [eX,a] at b;simp [BN,a];refine CL.o b λr h ⟨c,d⟩=>?_;subst c;simp;exact d
theorem Ae (a:x.op=19\/x.op=20\/x.op=25\/x.op=26) (b:EN prog 96 [.p true J.pv 0,.p true (D n) 0,.ag (eX x)] E J.fl λr h=>r= .tu []/\P h):EN prog 61 [.p true J.pv 0,.p true (D n) 0,.ag (eX x),I at_] E J.fl λr h=>r= .tu []/\P h:=by
 apply EW.o BJ;rcases a with a|a|a|a <;>
 ·simp only [eX,a] at b;simp [BN,a];refine CL.o b λr h ⟨c,d⟩=>?_;subst c;simp;exact d
theorem si (a:x.op=15\/x.op=16\/x.op=17\/x.op=18\/x.op=21\/x.op=22\/x.op=23\/x.op=24) (b:EN prog 97 [.p true J.pv 0,.p true (D n) 0,.ag (eX x)] E J.fl λr h=>r= .tu []/\P h):EN prog 61 [.p true J.pv 0,.p true (D n) 0,.ag (eX x),I at_] E J.fl λr h=>r= .tu []/\P h:=by
 apply EW.o BJ;rcases a with a|a|a|a|a|a|a|a <;>
 ·simp only [eX,a] at b;simp [BN,a];refine CL.o b λr h ⟨c,d⟩=>?_;subst c;simp;exact d
def Bz (k n c b:Int) (h:0<=k) (a:k=1->-9223372036854775808<=n):Vl:=⟨k,n,c,b,h,a⟩
theorem XD (V:Vm) (n:Nat) (f:Fm) (x:IN) (i:V.Is n f) (j:f.stack.length<1000000000000) (b:x.op=2\/x.op=3\/x.op=4\/x.op=6) (k:x.op=2->-9223372036854775808<=x.a):∃w:Vl,∀(J:ME) (D:Nat->Nat) (E:ae) (at_:Nat),MS J D E V->EN prog 61 [.p true J.pv 0,.p true (D n) 0,.ag (eX x),I at_] E J.fl λr h=>r= .tu []/\MS J D h (V.top n {f with stack:=f.stack++[w]}):=by rcases b with b|b|b|b;refine ⟨Bz 1 x.a 0 0 O (λ_=>k b),λJ D E at_ d=>EW.o BJ ?_⟩;have c:=Gh (a:=Bz 1 x.a 0 0 O (λ_=>k b)) d i j;simp [Bz] at c;simp [BN,b];refine CL.o c λr h ⟨e,g⟩=>?_;subst e;simp;exact g;refine ⟨Bz 2 x.a 0 0 O O,λJ D E at_ d=>EW.o BJ ?_⟩;have c:=Gh (a:=Bz 2 x.a 0 0 O O) d i j;simp [Bz] at c;simp [BN,b];refine CL.o c λr h ⟨e,g⟩=>?_;subst e;simp;exact g;refine ⟨Bz 4 0 0 x.a O O,λJ D E at_ d=>EW.o BJ ?_⟩;have c:=Gh (a:=Bz 4 0 0 x.a O O) d i j;simp [Bz] at c;simp [BN,b];refine CL.o c λr h ⟨e,g⟩=>?_;subst e;simp;exact g;refine ⟨Bz 5 0 0 0 O O,λJ D E at_ d=>EW.o BJ ?_⟩;have c:=Gh (a:=Bz 5 0 0 0 O O) d i j;simp [Bz] at c;simp [BN,b];refine CL.o c λr h ⟨e,g⟩=>?_;subst e;simp;exact g
theorem XA (V:Vm) (n:Nat) (f:Fm) (x:IN) (i:Nat) (b:Tx) (s:V.Is n f) (v:f.stack.length<1000000000000) (L:x.op=5) (C:x.a=i):∃(H':Hp) (w:Vl) (m:Nat),∀(J:ME) (D:Nat->Nat) (E:ae) (at_:Nat),J.X.g.strs[i]? =some b->MS J D E V->EN prog 61 [.p true J.pv 0,.p true (D n) 0,.ag (eX x),I at_] E J.fl λr h=>r= .tu []/\PQ J D V n f H' V.F w 0 m x.line h:=by
 have ⟨H',w,m,c⟩:=v91 V.H b.1 (Zo b.2);refine ⟨H',w,m,λJ D E at_ F q=>EW.o BJ ?_⟩;have ⟨A,P,R,z,M,N,_⟩:=q.row;obtain ⟨e,t⟩:∃e,e=J.X.g.strs.map GZ:=⟨_,rfl⟩;have H:e[i]? =some [.v (.string b.1)]:=by rw [t,zK,F];rfl
 simp only [Vm.cells,M,N,<-t] at z;simp [BN,L,C,z,H];refine CL.o (c J D _ V rfl q) λr h K=>?_;rcases K with ⟨g,j,k⟩|⟨g,j,k⟩;subst j;have d:=Vx (a:=w) (y:=true) (l:=x.line) k (Is.h s) v;simp at d;simp;refine CL.o d λr h ⟨o,p⟩=>?_;subst o;simp;exact .inl ⟨g,p⟩;subst j;have d:=Vx (a:=vz) (y:=false) (l:=x.line) k s v;simp at d;simp;refine CL.o d λr h ⟨o,p⟩=>?_;subst o;simp;exact .inr ⟨g,p⟩
theorem XB (l:MS J D E V) (g:V.Is n f) (v:f.stack.length<1000000000000) (w:x.op=7) (t:x.a=c) (p:f.ah[c]? =some a):EN prog 61 [.p true J.pv 0,.p true (D n) 0,.ag (eX x),I at_] E J.fl λr h=>r= .tu []/\MS J D h (V.top n {f with stack:=f.stack++[a]}):=by have i:=Gh (a:=a) l g v;have ⟨A,d⟩:=l;have ⟨sv,H,e,F,s,_,_⟩:=d.oP g;have o:=aa p;simp only [Fm.cells] at e;rcases s with ⟨al,rfl⟩|⟨_,C,_⟩;have k:=(d.vr.fr n f g.get).sl al;obtain ⟨b,m,q,j,e3⟩:∃(b:cD) (m:Nat),b=f.ah.map aw/\b[c]? =some (aw a)/\m=f.ah.length:=⟨_,_,rfl,by rw [zK,p];rfl,rfl⟩;rw [<-q] at k;rw [<-e3] at e o;simp at j i;apply EW.o BJ;simp [BN,w,t,e,o,k,j];refine CL.o i λr h ⟨y,z⟩=>?_;subst y;simp;exact z;omega
theorem MD.R1 (d:MD J D E V A) (b:V.Is n f) (al:A.al (kf n)) (l:c<f.ah.length):MS J D (E.set (A.id (kf n)) (.aY (A.az (kf n)) 4 ((f.ah.map aw).set c (aw a)))) (V.top n {f with ah:=f.ah.set c a}):=by have h:=d.vr.fr n f b.get;obtain ⟨sv,g,i,j,k⟩:=h.row;refine fq d b ⟨A,⟨h.al,⟨sv,g,?_,by simpa using j,k⟩,λ_=>?_,λe=>?_,h.kl⟩,(bQ.set d.ij al).mono λr J=>.inr (.inl J),rfl⟩;rw [d.ij.aX h.al al Z];exact i;rw [d.ij.get_eq al,yO];rw [d.ij.aX e al Z];exact h.sk e
theorem Xz (s:MS J D E V) (b:V.Is n f) (M:f.stack=l++[a]) (N:x.op=8) (K:x.a=c) (p:c<f.ah.length):EN prog 61 [.p true J.pv 0,.p true (D n) 0,.ag (eX x),I at_] E J.fl λr h=>r= .tu []/\MS J D h (V.top n {f with stack:=l,ah:=f.ah.set c a}):=by
 have H:=s;have ⟨A,d⟩:=s;have ⟨sv,kv,m,X,F,_,_⟩:=d.oP b;have y:=Xy H b M m;simp only [Fm.cells] at m;have b1:dY (bw sv)=bw sv/\uZ (bw sv) (bw sv):=by
  rcases F with ⟨_,rfl⟩|⟨_,_,c2,rfl⟩;exact ⟨rfl,by simp [uZ,nV]⟩;have:f.ah.length=0:=by assumption
  omega
 apply EW.o BJ;simp [BN,N,K,m];refine CL.o y λr h ⟨P,R,b2,q⟩=>?_;subst P;have ⟨A',e⟩:=R;have ⟨c3,b6,i,k2,w,_,_⟩:=e.oP b.top;simp only [Fm.cells] at i q;rw [q] at i;simp only [xP,TO.row.injEq,List.cons.injEq] at i;have g:=i.1.2.2.2.1;subst g;simp only at w;rcases w with ⟨al,rfl⟩|⟨_,C,_⟩;have o:=(e.vr.fr n _ b.top.get).sl al;simp only at o;have L:=e.ij.lo _ al;have j:=e.R1 b.top al p (a:=a);simp only [aJ] at j;obtain ⟨k,g⟩:∃(k:cD),k=f.ah.map aw:=⟨_,rfl⟩;have v:=zA p;generalize f.ah[c]=z at v;have t:k[c]? =some (aw z):=by rw [g,zK,v];rfl
 rw [<-g] at o j;simp at j t ⊢;simp [q,p,o,t,L];exact j;have:=C;omega
theorem XE {g:Ec} {a0:Nat} {stop:Int} (b:MS J D E V) (a:V.Is n f) (z:J.X.g.fns[f.fn]? =some g) (y:g.at_=a0) (p:J.X.g.ins[a0+f.pc]? =some x) (hb:J.X.g.ins.length<=100000000) (F:x.op=1) (K:V.time≠J.X.fuel) (H:(V.time:Int)≠stop):
  EN prog 40 [.p true J.pv 0,I stop] E J.fl λr h=>r=B true/\MS J D h {V with ab:=V.ab.set n {f with ai:=x.a,pc:=f.pc+1},time:=V.time+1}:=by
 have c0:=v59 b a;have c1:=v60 (ai:=x.a) (stop:=stop) b a;have L:V.ev J.X f n x.a stop=(true,{V with ab:=V.ab.set n {f with ai:=x.a},time:=V.time+1}):=by unfold Vm.ev;simp only [zN K,zN H]
 rw [L] at c1;have ⟨A,fv,zv,t,i1,i2,_⟩:=b.row;have ⟨A,d⟩:=b;have ⟨sv,kv,i,g2,g3,_,_⟩:=d.oP a;have b1:=aa p;obtain ⟨c,k⟩:∃c,c=J.X.g.fns.map rT:=⟨_,rfl⟩;have m:c[f.fn]? =some (rT g):=by rw [k,zK,z];rfl
 obtain ⟨e,l⟩:∃e,e=J.X.g.ins.map eX:=⟨_,rfl⟩;obtain ⟨j,C⟩:∃j,j=a0+f.pc:=⟨_,rfl⟩;have o:e[j]? =some (eX x):=by rw [l,zK,C,p];rfl
 have X:i64.wrap ((a0:Int)+f.pc)=(j:Int):=by rw [bW O O];omega
 have wp:i64.wrap ((f.pc:Int)+1)=((f.pc+1:Nat):Int):=by rw [bW O O];omega
 simp only [Vm.cells,<-k,<-l] at t;simp only [Fm.cells] at i;simp at m o;apply EW.o WH;simp [WW,CL.q c0,t,i,m,y];simp only [X];simp [o,F];refine CL.o c1 λr h ⟨P,R⟩=>?_;subst P;have w:({V with ab:=V.ab.set n {f with ai:=x.a},time:=V.time+1}:Vm).Is n {f with ai:=x.a}:=⟨by simp [a.len],by simp [a.len]⟩;have ⟨A',v⟩:=R;have ⟨b6,b2,q,M,_,_,N⟩:=v.oP w;have s:=N {f with ai:=x.a,pc:=f.pc+1} rfl rfl;simp only [Fm.cells,Vm.top,wA] at q s;simp [q,M];simp only [wp];exact s
theorem Og {e:Ec} {a0:Nat} {stop:Int} (a:MS J D E V) (i:V.Is n f) (v:J.X.g.fns[f.fn]? =some e) (t:e.at_=a0) (q:J.X.g.ins[a0+f.pc]? =some x) (P:J.X.g.ins.length<=100000000) (y:x.op=1) (z:V.time=J.X.fuel\/(V.time:Int)=stop):
  EN prog 40 [.p true J.pv 0,I stop] E J.fl λr h=>r=B false/\MS J D h (V.ev J.X f n x.a stop).2:=by
 have c0:=v59 a i;have c1:=v60 (ai:=x.a) (stop:=stop) a i;have C:(V.ev J.X f n x.a stop).1=false:=by unfold Vm.ev;by_cases g:V.time=J.X.fuel;simp only [zO g];simp only [zN g,zO (z.resolve_left g)]
 rw [C] at c1;have ⟨A,L,zv,s,X,i2,_⟩:=a.row;have ⟨A,d⟩:=a;have ⟨sv,kv,k,M,N,_,_⟩:=d.oP i;have R:=aa q;obtain ⟨b,l⟩:∃b,b=J.X.g.fns.map rT:=⟨_,rfl⟩;have o:b[f.fn]? =some (rT e):=by rw [l,zK,v];rfl
 obtain ⟨c,m⟩:∃c,c=J.X.g.ins.map eX:=⟨_,rfl⟩;obtain ⟨j,w⟩:∃j,j=a0+f.pc:=⟨_,rfl⟩;have p:c[j]? =some (eX x):=by rw [m,zK,w,q];rfl
 have K:i64.wrap ((a0:Int)+f.pc)=(j:Int):=by rw [bW O O];omega
 simp only [Vm.cells,<-l,<-m] at s;simp only [Fm.cells] at k;simp at o p;apply EW.o WH;simp [WW,CL.q c0,s,k,o,t];simp only [K];simp [p,y];refine CL.o c1 λr h ⟨F,H⟩=>?_;subst F;simp;exact H
theorem XF {e:Ec} {a0:Nat} {stop:Int} (i:MS J D E V) (l:V.Is n f) (z:J.X.g.fns[f.fn]? =some e) (y:e.at_=a0) (s:J.X.g.ins[a0+f.pc]? =some x) (X:J.X.g.ins.length<=100000000) (F:x.op≠1)
  (C:∀h,MS J D h (V.top n {f with pc:=f.pc+1})->EN prog 61 [.p true J.pv 0,.p true (D n) 0,.ag (eX x),I (a0+f.pc:Nat)] h J.fl λr h=>r= .tu []/\P h):
  EN prog 40 [.p true J.pv 0,I stop] E J.fl λr h=>r=B true/\P h:=by
 have c0:=v59 i l;have ⟨A,N,zv,t,i1,i2,_⟩:=i.row;have ⟨A,d⟩:=i;have ⟨sv,kv,g,v,R,_,w⟩:=d.oP l;have a:=C _ (w {f with pc:=f.pc+1} rfl rfl);have b1:=aa s;obtain ⟨b,k⟩:∃b,b=J.X.g.fns.map rT:=⟨_,rfl⟩;have o:b[f.fn]? =some (rT e):=by rw [k,zK,z];rfl
 obtain ⟨c,m⟩:∃c,c=J.X.g.ins.map eX:=⟨_,rfl⟩;obtain ⟨j,q⟩:∃j,j=a0+f.pc:=⟨_,rfl⟩;have p:c[j]? =some (eX x):=by rw [m,zK,q,s];rfl
 have L:i64.wrap ((a0:Int)+f.pc)=(j:Int):=by rw [bW O O];omega
 have M:i64.wrap ((f.pc:Int)+1)=((f.pc+1:Nat):Int):=by rw [bW O O];omega
 rw [<-q] at a;simp only [Vm.cells,<-k,<-m] at t;simp only [Fm.cells] at g a;simp at o p a;apply EW.o WH;simp [WW,CL.q c0,t,g,o,y];simp only [L];simp [p,zC F,g,v];simp only [M];refine CL.o a λr h ⟨H,K⟩=>?_;subst H;simp;exact K
end
structure uf (X:Sg):Prop where
 fns:∀i,i<X.S.fn.length->∃(ec:Ec) (a0:Nat) (C:List IN) (fn:Fn) (b0 m p:Nat),X.S.fn[i]? =some fn/\X.g.fns[i]? =some ec/\ec.at_=a0/\ec.len=C.length/\(∀q x,C[q]? =some x->X.g.ins[a0+q]? =some x)/\fQ (fS X.S i) X.g.strs.length 0 C (some 0) none/\(∃l,C.getLast?=some ⟨26,0,l⟩)/\(∃y,C.head?=some y/\(y.op=1\/C.length=1))/\fn.at_=b0/\fn.ah=m/\fn.params=p/\ec.params=p/\p<=m/\b0+m<=X.S.sl.length
 sl:∀x∈X.S.sl,∃(t:Nat) (z:Vl),x=(t:Nat)/\X.zs[t]? =some z
 sb:X.S.sl.length<=99000000000
 fd:∀x∈X.S.fd,∃(t:Nat) (z:Vl),x.type=(t:Nat)/\X.zs[t]? =some z
 fb:X.S.fd.length<=1000000
 rc:∀r∈X.S.rc,0<=r.fr/\0<=r.count/\r.fr+r.count<=X.S.fd.length
 zl:X.zs.length=X.S.ty.length
 il:X.g.ins.length<=9000000
 fu:X.fuel<=400
def FG (X:Sg) (f:Fm) (b:Nat):Prop:=∃(a:Ec) (a0:Nat) (C:List IN) (D:Nat->dj),f.fn<X.S.fn.length/\X.g.fns[f.fn]? =some a/\a.at_=a0/\a.len=C.length/\(∀q x,C[q]? =some x->X.g.ins[a0+q]? =some x)/\Ik (fS X.S f.fn) X.g.strs.length (λq=>C[q]?) D 0 C.length/\D C.length=none/\D f.pc=some (f.stack.length+b)/\f.pc<=C.length/\f.ah.length=(fS X.S f.fn).ah
def mf (X:Sg) (f:Fm):Nat:=match X.g.fns[f.fn]? with
 | some a=>if (X.g.ins[a.at_.toNat+f.pc]?).map IN.op=some 1 then 1 else 4*(a.len.toNat-f.pc)-1
 | none=>0
def mu (X:Sg) (V:Vm):Nat:=(X.fuel-V.time)*(4*X.g.ins.length+1)+(V.ab.map (mf X)).sum
structure VI (X:Sg) (V:Vm):Prop where
 ov:V.over=false
 ne:V.ab≠[]
 top:∀n f,V.Is n f->FG X f 0
 low:∀(i:Nat) (f g:Fm),V.ab[i]? =some f->V.ab[i+1]? =some g->FG X f (bif ((X.S.fn[g.fn]?).map λy=>decide (y.result≠0))==some true then 1 else 0)
 sk:∀(i:Nat) (f:Fm),V.ab[i]? =some f->f.stack.length+mu X V<=100000000000
 out:V.out.length<=65536
section
variable {X:Sg} {V V':Vm} {J f' g:Fm} {n b:Nat} {D:IN}
theorem nz (L:aA) (n a y:Nat) (h:L[n]? =some a):(L.set n y).sum+a=L.sum+y:=by
 induction L generalizing n with
 | nil=>simp at h
 | cons b L c=>
  cases n with
  | zero=>simp at h;subst h;simp;omega
  | succ n=>simp at h;have:=c n h;simp;omega
theorem VI.is (h:VI X V):∃n J,V.Is n J:=by obtain ⟨J,a⟩:∃J,V.ab[V.ab.length-1]? =some J:=⟨_,zA (Zo (List.length_pos_iff.2 h.ne))⟩;exact ⟨V.ab.length-1,J,by have:=List.length_pos_iff.2 h.ne;omega,a⟩
theorem VI.set (h:VI X V) (g:V.Is n J) (d:V'.ab=V.ab.set n f') (m:V'.over=false) (p:V'.out.length<=65536) (q:f'.fn=J.fn) (r:FG X f' 0) (w:mu X V'<=mu X V) (x:f'.stack.length+mu X V'<=J.stack.length+mu X V):VI X V':=by
 have k:=g.len;refine ⟨m,λe=>?_,λt v j=>?_,λi f l a c=>?_,λi f a=>?_,p⟩;have:=yC List.length e;rw [d] at this;simp at this;rw [this] at k;simp at k;have:t=n:=by have:=j.len;rw [d] at this;simp at this;omega
 subst this;have:=j.get;rw [d,zF O] at this;cases this;exact r;rw [d] at a c;have s:=aa c;simp at s;rw [zD O] at a;by_cases e:i+1=n;subst e;rw [zF O] at c;cases c;rw [q];exact h.low i f J a g.get;rw [zD O] at c;exact h.low i f l a c;rw [d] at a;by_cases e:i=n;subst e;rw [zF O] at a;cases a;have:=h.sk _ _ g.get;omega;rw [zD O] at a;have:=h.sk _ _ a;omega
theorem Es (c:V.Is n J) (a:V'.ab=V.ab.set n f') (b:V'.time=V.time):mu X V'+mf X J=mu X V+mf X f':=by unfold mu;rw [a,b,yO];have:=nz (V.ab.map (mf X)) n (mf X J) (mf X f') (by rw [zK,c.get];rfl);omega
theorem za (c:V.Is n J) (a:V'.ab=V.ab.set n f') (b:V'.time=V.time+1) (d:V.time<X.fuel):mu X V'+mf X J+(4*X.g.ins.length+1)=mu X V+mf X f':=by unfold mu;rw [a,b,yO];have:=nz (V.ab.map (mf X)) n (mf X J) (mf X f') (by rw [zK,c.get];rfl);have e:X.fuel-V.time=(X.fuel-(V.time+1))+1:=O;rw [e,wX];omega
theorem VI.run (h:VI X V) (b:V.Is n J) (a:V'.ab=V.ab.set n f') (c:V'.time=V.time) (d:V'.over=false) (e:V'.out.length<=65536) (f:f'.fn=J.fn) (g:FG X f' 0) (i:mf X f'<mf X J) (k:f'.stack.length<=J.stack.length+1):VI X V'/\mu X V'<mu X V:=by have j:=Es (X:=X) b a c;exact ⟨h.set b a d e f g O O,O⟩
theorem VI.call (h:VI X V) (d:V.Is n J) (c:V'.ab=V.ab.set n f'++[g]) (o:V'.time=V.time) (p:V'.over=false) (q:V'.out.length<=65536) (t:FG X g 0) (r:FG X f' (bif ((X.S.fn[g.fn]?).map λy=>decide (y.result≠0))==some true then 1 else 0)) (s:f'.fn=J.fn) (F:mf X f'+mf X g<mf X J) (K:f'.stack.length<=J.stack.length+1) (x:g.stack=[]):VI X V'/\mu X V'<mu X V:=by
 have H:mu X V'+mf X J=mu X V+mf X f'+mf X g:=by unfold mu;rw [c,o,xW,yO,List.sum_append];have:=nz (V.ab.map (mf X)) n (mf X J) (mf X f') (by rw [zK,d.get];rfl);simp;omega
 have E:=d.len;have z:mu X V'<mu X V:=O;have j:(V.ab.set n f').length=n+1:=W;refine ⟨⟨p,λe=>by rw [c] at e;simp at e,λC D l=>?_,λi f m a b=>?_,λi f a=>?_,q⟩,z⟩;have A:C=n+1:=by have:=l.len;rw [c] at this;simp at this;omega
 have:=l.get;rw [c,zJ O,j,A] at this;simp at this;subst this;exact t;rw [c] at a b;have w:=aa b;simp at w;by_cases e:i=n;subst e;rw [zB O,zF O] at a;rw [zJ O,j] at b;simp at b;cases a;subst b;exact r;rw [zB O,zD O] at a;rw [zB O] at b;by_cases k:i+1=n;rw [k,zF O] at b;cases b;rw [s];exact h.low i f J a (by rw [k];exact d.get);rw [zD O] at b;exact h.low i f m a b;rw [c] at a;have v:=aa a;simp at v;by_cases e:i=n+1;subst e;rw [zJ O,j] at a;simp at a;subst a;rw [x];have:=h.sk _ _ d.get;simp;omega;rw [zB O] at a;by_cases e:i=n;subst e;rw [zF O] at a;cases a;have:=h.sk _ _ d.get;omega;rw [zD O] at a;have:=h.sk _ _ a;omega
theorem VI.ret {d:Fm} {m:Nat} (h:VI X V) (j:V.Is (m+1) J) (g:V.ab[m]? =some d) (f:V'.ab=(V.ab.take (m+1)).set m f') (q:V'.time=V.time) (r:V'.over=false) (s:V'.out.length<=65536) (t:f'.fn=d.fn) (v:FG X f' 0) (D:mf X f'=mf X d) (F:0<mf X J) (H:f'.stack.length<=d.stack.length+1):VI X V'/\mu X V'<mu X V:=by
 have l:=j.len;have n:(V.ab.take (m+1)).length=m+1:=W;have z:V.ab=V.ab.take (m+1)++[J]:=by apply xK;intro i;by_cases e:i<m+1;rw [zB O,zU,zO e];rw [zJ O,n];by_cases o:i=m+1;subst o;simp;exact j.get;rw [yI O,yI W]
 have E:mu X V'+mf X J=mu X V:=by
  have a:(V.ab.map (mf X)).sum=((V.ab.take (m+1)).map (mf X)).sum+mf X J:=by
   conv=>lhs;rw [z]
   simp
  unfold mu;rw [f,q,yO,a];have:=nz ((V.ab.take (m+1)).map (mf X)) m (mf X d) (mf X f') (by rw [zK,zU,zO O,g];rfl);omega
 have x:mu X V'<mu X V:=O;have tk:∀i b,(V.ab.take (m+1))[i]? =some b->V.ab[i]? =some b:=λi b e=>by rw [zU] at e;split at e;exact e;cases e
 refine ⟨⟨r,λe=>by have:=yC List.length e;rw [f] at this;simp at this;rw [this] at l;simp at l,λA C k=>?_,λi b p a c=>?_,λi b a=>?_,s⟩,x⟩;have y:A=m:=by have:=k.len;rw [f] at this;simp at this;omega
 have:=k.get;rw [f,y,zF O] at this;cases this;exact v;rw [f] at a c;have w:=aa c;rw [xI,n] at w;rw [zD O] at a;by_cases e:i+1=m;subst e;rw [zF O] at c;cases c;rw [t];exact h.low i b d (tk _ _ a) g;rw [zD O] at c;exact h.low i b p (tk _ _ a) (tk _ _ c);rw [f] at a;by_cases e:i=m;subst e;rw [zF O] at a;cases a;have:=h.sk _ _ g;omega;rw [zD O] at a;have:=h.sk _ _ (tk _ _ a);omega
end
structure SO where
 V1:Vm
 tv:Nat
 FN:Bool
 bad:Vm
def SQ (e:ME) (V:Vm) (o:SO) (b:ae):Prop:=(o.tv<=e.room/\(o.FN=true->V.ab.length<e.dm)/\∃a,MS e a b o.V1)\/((e.room<o.tv\/(o.FN=true/\e.dm<=V.ab.length))/\∃a,MS e a b o.bad)
def Ip (V a:Vm):Prop:=a.over=true/\a.ok=2/\(a.ot=4\/a.ot=5)/\a.out=V.out/\a.time=V.time
structure BO (X:Sg) (stop:Int) (V:Vm) (b:Bool) (o:SO):Prop where
 bad:0<o.tv\/o.FN->Ip V o.bad
 out:V.out<+:o.V1.out
 time:V.time<=o.V1.time
 nx:o.V1.over\/VI X o.V1
 mu:b->o.V1.over\/mu X o.V1<mu X V
 st:b=false->o.tv=0/\o.FN=false
 run:∀(e:ME) (pf:Nat->Nat) (s:ae),e.X=X->MS e pf s V->EN prog 40 [.p true e.pv 0,I stop] s e.fl λr s'=>r=B b/\SQ e V o s'
structure iH (X:Sg) (f:Fm) (ec:Ec) (a0:Nat) (C:List IN) (D:Nat->dj) (x:IN):Prop where
 fn:f.fn<X.S.fn.length
 en:X.g.fns[f.fn]? =some ec
 at_:ec.at_=a0
 len:ec.len=C.length
 has:∀q x,C[q]? =some x->X.g.ins[a0+q]? =some x
 sg:Ik (fS X.S f.fn) X.g.strs.length (λq=>C[q]?) D 0 C.length
 de:D C.length=none
 sl:f.ah.length=(fS X.S f.fn).ah
 x:C[f.pc]? =some x
section
variable {X:Sg} {V V':Vm} {J f' E:Fm} {n b a0 h k:Nat} {x:IN} {ec:Ec} {C:List IN} {D:Nat->dj} {stop:Int}
theorem iH.of (a:FG X J 0):∃ec a0 C D x,iH X J ec a0 C D x/\Good (fS X.S J.fn) X.g.strs.length D (JT (λh=>C[h]?) 0 C.length J.pc) J.pc J.stack.length x:=by
 obtain ⟨ec,a0,C,D,e,g,i,j,k,c,d,b,o,f⟩:=a;have l:J.pc<C.length:=by
  rcases zX J.pc C.length with a|a;exact a;have:J.pc=C.length:=by omega
  rw [this,d] at b;cases b
 obtain ⟨x,m,n⟩:=c J.pc (zZ _) l;exact ⟨ec,a0,C,D,x,⟨e,g,i,j,k,c,d,f,m⟩,n _ b⟩
theorem iH.lt (c:iH X J ec a0 C D x) (b:D h=some k) (d:h<=C.length):h<C.length:=by
 rcases zX h C.length with a|a;exact a;have:h=C.length:=by omega
 rw [this,c.de] at b;cases b
theorem iH.fg (a:iH X J ec a0 C D x) (i:D h=some k) (g:h<=C.length) (c:f'.fn=J.fn) (d:f'.pc=h) (e:f'.ah.length=J.ah.length) (f:f'.stack.length+b=k):FG X f' b:=
 ⟨ec,a0,C,D,c▸a.fn,c▸a.en,a.at_,a.len,a.has,c▸a.sg,a.de,by rw [d,i,f],d▸g,by rw [e,c];exact a.sl⟩
theorem iH.Zt (h:iH X J ec a0 C D x) (a:x.op≠1):mf X J=4*(C.length-J.pc)-1:=by have:=h.has _ _ h.x;unfold mf;simp only [h.en,h.at_,h.len,yW,this,zH];rw [zN (Zs a)]
theorem iH.Zq (a:iH X J ec a0 C D x) (l:x.op≠1) (j:D h=some k) (g:h<=C.length) (e:f'.fn=J.fn) (f:f'.pc=h) (b:J.pc<h\/∃y,C[h]? =some y/\y.op=1):mf X f'<mf X J/\(h=J.pc+1->mf X f'+4<=mf X J):=by have c:=a.lt j g;have o:=aa a.x;rw [a.Zt l];have m:=a.has _ _ (zA c);unfold mf;rw [e,f];simp only [a.en,a.at_,a.len,yW,m,zH];split;refine ⟨O,λ_=>O⟩;rename_i i;rcases b with b|⟨y,d,n⟩;exact ⟨O,λ_=>O⟩;rw [zA c] at d;cases d;exact absurd (by rw [n]) i
theorem lK {c:Type} {L:List c} (h:L.length=a+1):∃l b,L=l++[b]/\l.length=a:=by refine ⟨L.take a,L[a],?_,W⟩;have:=wL a L;rw [yL O,List.drop_of_length_le O] at this;exact this.symm
theorem yq {c:Type} {L:List c} {n:Nat} (h:L.length=a+n):∃l b,L=l++b/\l.length=a/\b.length=n:=
 ⟨L.take a,L.drop a,(wL a L).symm,W,W⟩
theorem Db {i:Type} {L:List i} (h:L.length=a+2):∃l c b,L=l++[c,b]/\l.length=a:=by
 have ⟨l,g,d,e,f⟩:=yq h;match g,f with
 | [c,b],_=>exact ⟨l,c,b,d,e⟩
theorem P1 {j:Type} {L:List j} (h:L.length=a+3):∃l d b c,L=l++[d,b,c]/\l.length=a:=by
 have ⟨l,i,e,f,g⟩:=yq h;match i,g with
 | [d,b,c],_=>exact ⟨l,d,b,c,e,f⟩
theorem vf (q:uf X) (y:VI X V) (m:V.Is n J) (h:iH X J ec a0 C D x) (v:x.op≠1) (o:SO) (j:0<o.tv\/o.FN->Ip V o.bad) (k:V.out<+:o.V1.out) (w:o.V1.time=V.time) (f:o.V1.over\/VI X o.V1/\T.mu X o.V1<T.mu X V)
  (l:∀(e:ME) (a:Nat->Nat) (s:ae) (d:Nat),e.X=X->d<e.X.g.ins.length->MS e a s (V.top n {J with pc:=J.pc+1})->EN prog 61 [.p true e.pv 0,.p true (a n) 0,.ag (eX x),I d] s e.fl λr c=>r= .tu []/\SQ e V o c):∃b o,BO X stop V b o:=by
 refine ⟨true,o,j,k,O,f.imp_right And.left,λ_=>f.imp_right And.right,(λh=>by cases h),λe a s t p=>?_⟩;have g:=h.has _ _ h.x;subst t;exact XF p m h.en h.at_ g (Zo q.il) v λc i=>l e a c _ rfl (aa g) i
theorem SQ.of {e:ME} {b:Nat->Nat} {a:Vm} (h:MS e b r a):SQ e V ⟨a,0,false,a⟩ r:=.inl ⟨zZ _,(λh=>by cases h),b,h⟩
theorem dV (q:uf X) (p:VI X V) (l:V.Is n J) (h:iH X J ec a0 C D x) (w:x.op≠1) (a:Vm) (j:a.over\/VI X a/\T.mu X a<T.mu X V) (g:V.out<+:a.out) (i:a.time=V.time)
  (k:∀(e:ME) (c:Nat->Nat) (s:ae) (d:Nat),e.X=X->d<e.X.g.ins.length->MS e c s (V.top n {J with pc:=J.pc+1})->EN prog 61 [.p true e.pv 0,.p true (c n) 0,.ag (eX x),I d] s e.fl λr f=>r= .tu []/\MS e c f a):∃b o,BO X stop V b o:=
 vf q p l h w ⟨a,0,false,a⟩ (λh=>by simp at h) g i j λe c s d t v m=>(k e c s d t v m).mono λr f ⟨y,z⟩=>⟨y,.of z⟩
theorem lY {k:Int}:(V.end_ k i j).over:=by unfold Vm.end_;split;assumption;rfl
theorem nH {k:Int}:(V.end_ k i j).out=V.out:=by unfold Vm.end_;split <;> rfl
theorem lX {k:Int}:(V.end_ k i j).time=V.time:=by unfold Vm.end_;split <;> rfl
theorem tJ (c:V.over=false) (d:i=4\/i=5) (a:V.out=V'.out) (b:V.time=V'.time):Ip V' (V.end_ 2 i j):=by unfold Vm.end_;rw [zN (by rw [c];simp)];exact ⟨rfl,rfl,d,a,b⟩
end
section
variable {X:Sg} {V V':Vm} {J f' E f0:Fm} {n h a0 q k:Nat} {x:IN} {ec:Ec} {C:List IN} {D:Nat->dj} {stop:Int} {l:List Vl}
theorem bC (L:List UInt8):L<+:L:=⟨[],Z⟩
theorem iH.go (h:iH X J ec a0 C D x) (g:VI X V) (f:V.Is n J) (i:x.op≠1) (d:D (J.pc+1)=some k) (b:f'.fn=J.fn) (c:f'.pc=J.pc+1) (e:f'.ah.length=J.ah.length) (q:f'.stack.length=k) (r:k<=J.stack.length+1) {a:Vm} (j:a.ab=V.ab.set n f') (l:a.time=V.time) (o:a.over=false) (p:a.out.length<=65536):VI X a/\T.mu X a<T.mu X V:=by have s:=aa h.x;have m:=h.Zq i d O b c (.inl O);exact g.run f j l o p b (h.fg d O b c e O) m.1 O
theorem iH.jump (h:iH X J ec a0 C D x) (i:VI X V) (g:V.Is n J) (j:x.op≠1) (e:D q=some k) (c:JT (λq=>C[q]?) 0 C.length J.pc q) (b:f'.fn=J.fn) (d:f'.pc=q) (f:f'.ah.length=J.ah.length) (s:f'.stack.length=k) (t:k<=J.stack.length+1) {a:Vm} (l:a.ab=V.ab.set n f') (o:a.time=V.time) (p:a.over=false) (r:a.out.length<=65536):VI X a/\T.mu X a<T.mu X V:=by have m:=h.Zq j e c.2.1 b d c.2.2;exact i.run g l o p r b (h.fg e c.2.1 b d f O) m.1 O
theorem kL (M:uf X) (b:VI X V) (m:V.Is n J) (d:iH X J ec a0 C D x) (o:x.op≠1) (K:D (J.pc+1)=some k) (v:f0.fn=J.fn) (y:f0.pc=J.pc+1) (z:f0.ah.length=J.ah.length) (A:f0.stack.length+1=k) (R:k<=J.stack.length+1) (g:Hp) (f:Fe) (w:Vl) (t:Int) (p:Nat) (l:Int)
  (E:∀(e:ME) (a:Nat->Nat) (s:ae) (c:Nat),e.X=X->c<e.X.g.ins.length->MS e a s (V.top n {J with pc:=J.pc+1})->EN prog 61 [.p true e.pv 0,.p true (a n) 0,.ag (eX x),I c] s e.fl λr q=>r= .tu []/\PQ e a (V.top n f0) n f0 g f w t p l q):∃h b1,BO X stop V h b1:=by
 refine vf M b m d o ⟨if t=0 then {(V.top n f0).top n {f0 with stack:=f0.stack++[w]} with H:=g,F:=f} else ({V.top n f0 with H:=g,F:=f}:Vm).end_ 2 t l,p,false,(V.top n f0).end_ 2 4 l⟩ (λ_=>tJ b.ov (.inl rfl) rfl rfl) ?_ ?_ ?_ λe a s c N P L=>(E e a s c N P L).mono λr q ⟨q1,q2⟩=>⟨q1,?_⟩;simp only;split;exact bC _;rw [nH];exact bC _;simp only;split;rfl;rw [lX];rfl;simp only;split;refine .inr (d.go b m o K (f':={f0 with stack:=f0.stack++[w]}) v y z (Zs A) R ?_ rfl b.ov b.out);simp [Vm.top];exact .inl lY;rcases q2 with ⟨i,j⟩|⟨i,j⟩;exact .inl ⟨i,(λd=>by cases d),a,j⟩;exact .inr ⟨.inl i,a,j⟩
theorem ve (A:uf X) (i:VI X V) (g:V.Is n J) (f:iH X J ec a0 C D x) (j:x.op≠1) (z:D (J.pc+1)=some k) (p:f0.fn=J.fn) (q:f0.pc=J.pc+1) (v:f0.ah.length=J.ah.length) (w:f0.stack.length=k) (E:k<=J.stack.length+1) (a:Vm) (t l:Int) (H:a.ab=V.ab.set n f0) (c:a.time=V.time) (K:a.over=false) (L:a.out.length<=65536) (m:V.out<+:a.out)
  (y:∀(e:ME) (b:Nat->Nat) (s:ae) (d:Nat),e.X=X->d<e.X.g.ins.length->MS e b s (V.top n {J with pc:=J.pc+1})->EN prog 61 [.p true e.pv 0,.p true (b n) 0,.ag (eX x),I d] s e.fl λr F=>r= .tu []/\MS e b F (ET a t l)):∃h o,BO X stop V h o:=by
 refine dV A i g f j (ET a t l) ?_ ?_ ?_ y;unfold ET;split;exact .inr (f.go i g j z p q v w E H c K L);exact .inl lY;unfold ET;split;exact m;rw [nH];exact m;unfold ET;split;exact c;rw [lX];exact c
theorem FG.push (h:FG X J 1) (a:f'.fn=J.fn) (b:f'.pc=J.pc) (r:f'.ah=J.ah) (g:f'.stack.length=J.stack.length+1):FG X f' 0:=by obtain ⟨f,e,c,d,i,j,k,l,m,n,o,p,q,s⟩:=h;exact ⟨f,e,c,d,a▸i,a▸j,k,l,m,a▸n,o,by rw [b,p,g],b▸q,by simp_all⟩
theorem iH.mfb (h:iH X J ec a0 C D x) (a:f'.fn=J.fn):mf X f'<=4*X.g.ins.length:=by
 have c:C.length<=X.g.ins.length:=by by_cases b:C.length=0;omega;have:=aa (h.has _ _ (zA (show C.length-1<C.length by omega)));omega
 have d:=aa h.x;unfold mf;rw [a];simp only [h.en,h.len,yW];split <;> omega
theorem GY (z:uf X) (c9:kB) (hS:JU X) (f:VI X V) (hw:∃(e:ME) (o:Nat->Nat) (s:ae),e.X=X/\MS e o s V) (stop:Int):∃h c2,BO X stop V h c2:=by
 have ⟨n,J,j⟩:=f.is;have ⟨ec,a0,C,D,x,b,hg⟩:=iH.of (f.top n J j);have hH:A6 V.H:=by have ⟨e,o,s,_,f1,d⟩:=hw;exact d.vr.hp.hok
 have hF:∀x∈V.F.ins,-9223372036854775808<=x:=by have ⟨e,o,s,_,f1,d⟩:=hw;exact d.vr.fd.iv
 have i7:=f.sk n J j.get;have h9:=z.il;have d7:=b.has _ _ b.x;have P:=f.ov;have M:(V.top n {J with pc:=J.pc+1}).Is n {J with pc:=J.pc+1}:=j.top;have i6:=aa b.x;generalize b1:J.stack.length=dd at hg;cases hg with
 | @ai d a l t=>
  have i9:V.time<=X.fuel:=by have ⟨e,o,s,y,f1,d⟩:=hw;rw [<-y];exact d.vr.ti
  have fg:∀f',f'.fn=J.fn->f'.pc=J.pc+1->f'.ah=J.ah->f'.stack=J.stack->FG X f' 0:=λf' h1 h2 h3 h4=>b.fg t O h1 h2 (Zr h3) (by rw [h4];omega);have d9:∀h (b6:Vm),(∀e (o:Nat->Nat) (s:ae),e.X=X->MS e o s V->EN prog 40 [.p true e.pv 0,I stop] s e.fl λr R=>r=B h/\MS e o R b6)->∀e (o:Nat->Nat) (s:ae),e.X=X->MS e o s V->EN prog 40 [.p true e.pv 0,I stop] s e.fl λr R=>r=B h/\SQ e V ⟨b6,0,false,b6⟩ R:=λh b6 hr e o s y g=>(hr e o s y g).mono λr R ⟨K,p⟩=>⟨K,.of p⟩;have nb:∀b6,0<(⟨b6,0,false,b6⟩:SO).tv\/(⟨b6,0,false,b6⟩:SO).FN->Ip V b6:=λb6 b=>by simp at b
  by_cases h1:V.time=X.fuel;have c8:(V.ev X J n a stop).2=({V with ab:=V.ab.set n {J with ai:=a}}:Vm).end_ 3 0 0:=by unfold Vm.ev;simp only [zO h1]
  refine ⟨false,⟨(V.ev X J n a stop).2,0,false,(V.ev X J n a stop).2⟩,nb _,?_,?_,.inl ?_,(λb=>by cases b),λ_=>⟨rfl,rfl⟩,d9 _ _ λe o s y g=>?_⟩;rw [c8,nH];exact bC _;rw [c8,lX];grind;rw [c8];exact lY;subst y;exact Og g j b.en b.at_ d7 O rfl (.inl h1);by_cases h2:(V.time:Int)=stop;have c8:(V.ev X J n a stop).2={V with ab:=V.ab.set n {J with ai:=a}}:=by unfold Vm.ev;simp only [zN h1,zO h2]
  refine ⟨false,⟨(V.ev X J n a stop).2,0,false,(V.ev X J n a stop).2⟩,nb _,?_,?_,.inr ?_,(λb=>by cases b),λ_=>⟨rfl,rfl⟩,d9 _ _ λe o s y g=>?_⟩
  simp_all
  simp_all
  rw [c8];have f2:=Es (X:=X) (V':={V with ab:=V.ab.set n {J with ai:=a}}) j rfl rfl;have i3:mf X {J with ai:=a}=mf X J:=rfl;refine VI.set (V':={V with ab:=V.ab.set n {J with ai:=a}}) f j rfl P f.out rfl ?_ O (by simp only;omega);have ⟨d4,f5,C',D',k1,k2,k3,k4,k5,k6,k7,k8,k9,g9⟩:=f.top n J j;exact ⟨d4,f5,C',D',k1,k2,k3,k4,k5,k6,k7,k8,k9,g9⟩;subst y;exact Og g j b.en b.at_ d7 O rfl (.inr h2);refine ⟨true,⟨{V with ab:=V.ab.set n {J with ai:=a,pc:=J.pc+1},time:=V.time+1},0,false,_⟩,nb _,bC _,Nat.le_succ _,?_,λ_=>?_,(λb=>by cases b),d9 _ _ λe o s y g=>?_⟩;have f2:=za (X:=X) (V':={V with ab:=V.ab.set n {J with ai:=a,pc:=J.pc+1},time:=V.time+1}) j rfl rfl O;have hb:=b.mfb (f':={J with ai:=a,pc:=J.pc+1}) rfl;exact .inr (VI.set (V':={V with ab:=V.ab.set n {J with ai:=a,pc:=J.pc+1},time:=V.time+1}) f j rfl P f.out rfl (fg _ rfl rfl rfl rfl) O (by simp only;omega));have f2:=za (X:=X) (V':={V with ab:=V.ab.set n {J with ai:=a,pc:=J.pc+1},time:=V.time+1}) j rfl rfl O;have hb:=b.mfb (f':={J with ai:=a,pc:=J.pc+1}) rfl
  grind
  subst y;exact XE g j b.en b.at_ d7 O rfl h1 h2
 | @lit d c2 a l ho g2 t=>have ⟨w,c⟩:=XD (V.top n {J with pc:=J.pc+1}) n {J with pc:=J.pc+1} ⟨c2,a,l⟩ M (by simp only;omega) ho g2;refine dV z f j b (by simp only;omega) (V.top n {J with pc:=J.pc+1,stack:=J.stack++[w]}) (.inr (b.go (f':={J with pc:=J.pc+1,stack:=J.stack++[w]}) f j (by simp only;omega) t rfl rfl rfl W O rfl rfl P f.out)) (bC _) rfl λe o s L y A g=>(c e o s L g).mono λr R ⟨K,p⟩=>⟨K,?_⟩;rw [aJ] at p;exact p
 | @str d a l h0 hl t=>obtain ⟨i,rfl⟩:∃i:Nat,a=i:=⟨a.toNat,O⟩;have hb:=zA (l:=X.g.strs) (i:=i) O;have ⟨H',w,c5,c⟩:=XA (V.top n {J with pc:=J.pc+1}) n {J with pc:=J.pc+1} ⟨5,i,l⟩ i X.g.strs[i] M (by simp only;omega) rfl rfl;exact kL z f j b Z t (f0:={J with pc:=J.pc+1}) rfl rfl rfl (by simp only;omega) O H' V.F w 0 c5 l λe o s L y A g=>c e o s L (by grind) g
 | @load d a l h0 hl t=>
  obtain ⟨i,rfl⟩:∃i:Nat,a=i:=⟨a.toNat,O⟩;have f3:i<J.ah.length:=by rw [b.sl];omega
  have hv:=zA f3;generalize J.ah[i]=v at hv;refine dV z f j b Z (V.top n {J with pc:=J.pc+1,stack:=J.stack++[v]}) (.inr (b.go (f':={J with pc:=J.pc+1,stack:=J.stack++[v]}) f j Z t rfl rfl rfl W O rfl rfl P f.out)) (bC _) rfl λe o s L y A g=>(XB g M (by simp only;omega) rfl rfl hv).mono λr R ⟨K,p⟩=>⟨K,?_⟩;rw [aJ] at p;exact p
 | @store d a l h0 hl t=>obtain ⟨i,rfl⟩:∃i:Nat,a=i:=⟨a.toNat,O⟩;have ⟨k,v,F,N⟩:=lK b1;refine dV z f j b Z (V.top n {J with pc:=J.pc+1,stack:=k,ah:=J.ah.set i v}) (.inr (b.go (f':={J with pc:=J.pc+1,stack:=k,ah:=J.ah.set i v}) f j Z t rfl rfl Z N O rfl rfl P f.out)) (bC _) rfl λe o s L y A g=>(Xz g M F rfl rfl (by simp only;rw [b.sl];omega)).mono λr R ⟨K,p⟩=>⟨K,?_⟩;rw [aJ] at p;exact p
 | @un d a l t=>have ⟨k,v,F,N⟩:=lK b1;have ⟨w,c⟩:=Xw c9.cx (V.top n {J with pc:=J.pc+1}) n {J with pc:=J.pc+1} k v ⟨9,a,l⟩ M F O rfl;refine dV z f j b Z (V.top n {J with pc:=J.pc+1,stack:=k++[w]}) (.inr (b.go (f':={J with pc:=J.pc+1,stack:=k++[w]}) f j Z t rfl rfl rfl W O rfl rfl P f.out)) (bC _) rfl λe o s L y A g=>(Of (.inl rfl) (c e o s L A g)).mono λr R ⟨K,p⟩=>⟨K,?_⟩;rw [aJ] at p;exact p
 | @bin d a l t=>have ⟨k,v,v',F,N⟩:=Db b1;have ⟨H',w,b2,c5,c⟩:=Xx c9.cx (V.top n {J with pc:=J.pc+1}) n {J with pc:=J.pc+1} k v v' ⟨10,a,l⟩ M hH F O rfl;refine kL z f j b Z t (f0:={J with pc:=J.pc+1,stack:=k}) rfl rfl rfl (by simp only;omega) O H' V.F w b2 c5 l λe o s L y A g=>Of (.inr rfl) ?_;have:=c e o s L A g;rwa [aJ] at this
 | @jump d a l t ht=>refine dV z f j b Z (V.top n {J with pc:=a}) (.inr (b.jump (f':={J with pc:=a}) f j Z t ht rfl rfl rfl b1 O rfl rfl P f.out)) (bC _) rfl λe o s L y A g=>(BW (.inl rfl) (Xv g M rfl rfl)).mono λr R ⟨K,p⟩=>⟨K,?_⟩;rw [aJ] at p;exact p
 | @B4 d a l t d5 ht=>have ⟨k,v,F,N⟩:=lK b1;by_cases h0:v.n=0;refine dV z f j b Z (V.top n {J with stack:=k,pc:=a}) (.inr (b.jump (f':={J with stack:=k,pc:=a}) f j Z d5 ht rfl rfl rfl N O rfl rfl P f.out)) (bC _) rfl λe o s L y A g=>(BW Z (Od g M F A rfl rfl)).mono λr R ⟨K,p⟩=>⟨K,?_⟩;rw [zO h0,aJ] at p;exact p;refine dV z f j b Z (V.top n {J with pc:=J.pc+1,stack:=k}) (.inr (b.go (f':={J with pc:=J.pc+1,stack:=k}) f j Z t rfl rfl rfl N O rfl rfl P f.out)) (bC _) rfl λe o s L y A g=>(BW Z (Od g M F A rfl rfl)).mono λr R ⟨K,p⟩=>⟨K,?_⟩;rw [zN h0,aJ] at p;exact p
 | @qD d a c2 l ho t d5 ht=>have ⟨k,v,F,N⟩:=lK b1;by_cases h0:(v.n=0)=(c2=13);refine dV z f j b (by simp only;omega) (V.top n {J with pc:=a}) (.inr (b.jump (f':={J with pc:=a}) f j (by simp only;omega) d5 ht rfl rfl rfl b1 O rfl rfl P f.out)) (bC _) rfl λe o s L y A g=>?_;have ⟨c3,hy,c⟩:=Oe (x:=⟨c2,a,l⟩) g M F A ho rfl;refine (BW (by simp only;omega) c).mono λr R ⟨K,p⟩=>⟨K,?_⟩;rw [hy,decide_eq_true h0,zO rfl,aJ] at p;exact p;refine dV z f j b (by simp only;omega) (V.top n {J with pc:=J.pc+1,stack:=k}) (.inr (b.go (f':={J with pc:=J.pc+1,stack:=k}) f j (by simp only;omega) t rfl rfl rfl N O rfl rfl P f.out)) (bC _) rfl λe o s L y A g=>?_;have ⟨c3,hy,c⟩:=Oe (x:=⟨c2,a,l⟩) g M F A ho rfl;refine (BW (by simp only;omega) c).mono λr R ⟨K,p⟩=>⟨K,?_⟩;rw [hy,decide_eq_false h0,zN Z,aJ] at p;exact p
 | @index d a l t=>have ⟨k,v,v',F,N⟩:=Db b1;have ⟨w,b2,c⟩:=Xo (V.top n {J with pc:=J.pc+1}) n {J with pc:=J.pc+1} k v v' ⟨15,a,l⟩ M F O rfl;refine kL z f j b Z t (f0:={J with pc:=J.pc+1,stack:=k}) rfl rfl rfl (by simp only;omega) O V.H V.F w b2 0 l λe o s L y A g=>si Z ((c e o s g).mono λr R ⟨K,p⟩=>⟨K,.inl ⟨zZ _,?_⟩⟩);rw [aJ] at p;exact p
 | @put d a l t=>have ⟨k,v,v',h6,F,N⟩:=P1 b1;have ⟨H',b2,c⟩:=Xl (V.top n {J with pc:=J.pc+1}) n {J with pc:=J.pc+1} k v v' h6 ⟨16,a,l⟩ M F rfl;refine ve z f j b Z t (f0:={J with pc:=J.pc+1,stack:=k}) rfl rfl rfl N O {V.top n {J with pc:=J.pc+1,stack:=k} with H:=H'} b2 l rfl rfl P f.out (bC _) λe o s L y A g=>si Z ?_;have:=c e o s g;rwa [aJ] at this
 | @field d a l t=>have ⟨k,v,F,N⟩:=lK b1;have ⟨w,b2,c⟩:=Xp (V.top n {J with pc:=J.pc+1}) n {J with pc:=J.pc+1} k v ⟨17,a,l⟩ M F O rfl;refine kL z f j b Z t (f0:={J with pc:=J.pc+1,stack:=k}) rfl rfl rfl (by simp only;omega) O V.H V.F w b2 0 l λe o s L y A g=>si Z ((c e o s g).mono λr R ⟨K,p⟩=>⟨K,.inl ⟨zZ _,?_⟩⟩);rw [aJ] at p;exact p
 | @Ha d a l t=>have ⟨k,v,v',F,N⟩:=Db b1;have ⟨H',b2,c⟩:=Xk (V.top n {J with pc:=J.pc+1}) n {J with pc:=J.pc+1} k v v' ⟨18,a,l⟩ M F rfl;refine ve z f j b Z t (f0:={J with pc:=J.pc+1,stack:=k}) rfl rfl rfl N O {V.top n {J with pc:=J.pc+1,stack:=k} with H:=H'} b2 l rfl rfl P f.out (bC _) λe o s L y A g=>si Z ?_;have:=c e o s g;rwa [aJ] at this
 | @call d a n' r l hf t=>
  have c7:(X.S.fn.map λJ=>(J.params.toNat,decide (J.result≠0)))[a]? =some (n',r):=hf;have A:a<X.S.fn.length:=by simpa using aa c7
  have ⟨d4,a1,C',c6,b0,m,j1,e1,e2,e3,e4,e5,e6,⟨lz,e7⟩,⟨c3,e8,e9⟩,FQ,BL,Mm,NV,NU,zj⟩:=z.fns a A;rw [zK,e1] at c7;simp only [zH,xP,Prod.mk.injEq,Mm,yW] at c7;have ⟨hp,hr⟩:=c7;have ⟨k,xs,F,N,f4⟩:=yq b1;have f3:(lL X c6 xs).length=m:=by simp [lL,FQ,BL];omega
  have h8:aN X.S.fn a=c6:=by have:=getD_some (d:=(⟨dn,0,0,0,0,0,0,0⟩:Fn)) A;rw [e1] at this;exact (yD this).symm
  have hg:FG X ⟨a,0,0,lL X c6 xs,[]⟩ 0:=by
   have ⟨_,D',d1,d2,d3⟩:=e6 (λq=>C'[q]?) λi x hx=>by simpa using hx
   rw [yM] at d2 d3;exact ⟨d4,a1,C',D',A,e2,e3,e4,e5,d3,d2,d1,zZ _,by simp only [fS];simp_all⟩
  have i4:mf X ⟨a,0,0,lL X c6 xs,[]⟩<=3:=by
   have h0:C'[0]? =some c3:=by rw [<-List.head?_eq_getElem?];exact e8
   have:=e5 0 c3 h0;unfold mf;simp only [e2,e3,e4,yW,this,zH];split;omega;rename_i i5;rcases e9 with e9|e9
   simp_all
   rw [e9];omega
  have f6:(bif ((X.S.fn[a]?).map λc3=>decide (c3.result≠0))==some true then 1 else 0:Nat)=bif r then 1 else 0:=by rw [e1,<-hr];simp only [zH];cases decide (c6.result≠0) <;> rfl
  have g1:=b.Zq (f':={J with pc:=J.pc+1,stack:=k}) Z t O rfl rfl (.inl O);have i2:=g1.2 rfl;have f9:FG X {J with pc:=J.pc+1,stack:=k} (bif ((X.S.fn[a]?).map λc3=>decide (c3.result≠0))==some true then 1 else 0):=by rw [f6];exact b.fg t O rfl rfl rfl (by simp only;omega)
  have g7:=f.call j (f':={J with pc:=J.pc+1,stack:=k}) (g:=⟨a,0,0,lL X c6 xs,[]⟩) (V':={V with ab:=V.ab.set n {J with pc:=J.pc+1,stack:=k}++[⟨a,0,0,lL X c6 xs,[]⟩]}) rfl rfl P f.out hg f9 rfl O (by simp only;omega) rfl;refine vf z f j b Z ⟨{V with ab:=V.ab.set n {J with pc:=J.pc+1,stack:=k}++[⟨a,0,0,lL X c6 xs,[]⟩]},0,true,(V.top n {J with pc:=J.pc+1,stack:=k}).end_ 2 5 l⟩ (λ_=>tJ P (.inr rfl) rfl rfl) (bC _) rfl (.inr g7) λe o s L y h7 g=>?_;subst y;refine (Ae Z (Xs (x:=⟨19,a,l⟩) g M F rfl rfl e2 O e1 FQ BL O zj z.sl z.sb)).mono λr R ⟨K,p⟩=>⟨K,?_⟩;simp only [lD,aJ] at p;rcases p with ⟨k1,h5,k2⟩|⟨k1,k2⟩;refine .inl ⟨zZ _,λ_=>k1,h5,?_⟩;simp only [Vm.top,wA] at k2;exact k2;exact .inr ⟨.inr ⟨rfl,k1⟩,o,k2⟩
 | @built d a l h0 hl t=>
  have ⟨k,xs,F,N,f4⟩:=yq b1;have f7:(bar a:Nat)=(p6 a).length:=by unfold bar p6;rcases (by omega:a=1\/a=2\/a=3\/a=4\/a=5\/a=6\/a=7\/a=8) with b|b|b|b|b|b|b|b <;> rw [b] <;> rfl
  have ⟨H',F',w,b2,c5,c⟩:=Xu c9 (V.top n {J with pc:=J.pc+1}) n {J with pc:=J.pc+1} k xs ⟨20,a,l⟩ M hF F O rfl h0 hl (f4.trans f7);refine kL z f j b Z t (f0:={J with pc:=J.pc+1,stack:=k}) rfl rfl rfl (by simp only;omega) O H' F' w b2 c5 l λe o s L y A g=>Ae Z ?_;have:=c e o s g;rwa [aJ] at this
 | @list d a l h0 hl t=>
  obtain ⟨i,rfl⟩:∃i:Nat,a=i:=⟨a.toNat,O⟩;have ⟨k,v,F,N⟩:=lK b1;have g8:i<X.zs.length:=by rw [z.zl];have:(fS X.S J.fn).ty=X.S.ty.length:=rfl;omega
  have hz:=zA g8;have ⟨H',w,b2,c5,c⟩:=Xn X (V.top n {J with pc:=J.pc+1}) n {J with pc:=J.pc+1} k v ⟨21,i,l⟩ i _ M F O rfl rfl hz;refine kL z f j b Z t (f0:={J with pc:=J.pc+1,stack:=k}) rfl rfl rfl (by simp only;omega) O H' V.F w b2 c5 l λe o s L y A g=>si Z ?_;have:=c e o s y g;rwa [aJ] at this
 | @mk d a l h0 hl t=>
  obtain ⟨i,rfl⟩:∃i:Nat,a=i:=⟨a.toNat,O⟩;have g5:i<X.S.rc.length:=by have:(fS X.S J.fn).rc=X.S.rc.length:=rfl;omega
  have hr:=zA g5;have ⟨r1,r2,r3⟩:=z.rc _ (zI hr);have ⟨H',w,c5,c⟩:=Xm X (V.top n {J with pc:=J.pc+1}) n {J with pc:=J.pc+1} ⟨22,i,l⟩ i _ M (by simp only;omega) rfl rfl hr r1 r2 r3 z.fd z.fb;exact kL z f j b Z t (f0:={J with pc:=J.pc+1}) rfl rfl rfl (by simp only;omega) O H' V.F w 0 c5 l λe o s L y A g=>si Z (c e o s y g)
 | @print d a l t=>have ⟨k,v,F,N⟩:=lK b1;have ⟨c3,c2,ho,c⟩:=Xj X hS (V.top n {J with pc:=J.pc+1}) n {J with pc:=J.pc+1} k v ⟨23,a,l⟩ M hH f.out F rfl;refine ve z f j b Z t (f0:={J with pc:=J.pc+1,stack:=k}) rfl rfl rfl N O {V.top n {J with pc:=J.pc+1,stack:=k} with out:=V.out++c2} (if c3=true then 0 else 4) l rfl rfl P ho ⟨c2,rfl⟩ λe o s L y A g=>si Z ?_;have:=c e o s y g;rwa [aJ] at this
 | @pop d a l t=>have ⟨k,v,F,N⟩:=lK b1;refine dV z f j b Z (V.top n {J with pc:=J.pc+1,stack:=k}) (.inr (b.go (f':={J with pc:=J.pc+1,stack:=k}) f j Z t rfl rfl rfl N O rfl rfl P f.out)) (bC _) rfl λe o s L y A g=>(si Z (Xq g M F rfl)).mono λr R ⟨K,p⟩=>⟨K,?_⟩;rw [aJ] at p;exact p
 | @ret d a l hr=>
  have ⟨k,v,F,N⟩:=lK b1;have g3:=b.Zt Z;cases n with
  | zero=>exact dV z f j b Z {V with ab:=[],over:=true,ok:=1,ot:=0,ol:=0} (.inl rfl) (bC _) rfl λe o s L y A g=>Ae Z (Oa (V:=V.top 0 {J with pc:=J.pc+1}) g M P F rfl)
  | succ m=>
   have c4:=zA (l:=V.ab) (i:=m) (Zo j.len);generalize V.ab[m]'(by grind)=f0 at c4;have i1:=f.sk _ _ c4;have hl:=f.low m f0 J c4 j.get;have c7:X.S.fn[J.fn]? =some (aN X.S.fn J.fn):=getD_some b.fn _;have d8:decide ((aN X.S.fn J.fn).result≠0):=hr;rw [c7] at hl;simp only [zH,d8] at hl;have d6:FG X {f0 with stack:=f0.stack++[v]} 0:=FG.push hl rfl rfl rfl Z;have g4:=aa b.x;refine dV z f j b Z {V with ab:=(V.ab.take (m+1)).set m {f0 with stack:=f0.stack++[v]}} (.inr (f.ret j c4 rfl rfl P f.out rfl d6 rfl O Z)) (bC _) rfl λe o s L y A g=>?_;have f8:(V.top (m+1) {J with pc:=J.pc+1}).ab[m]? =some f0:=by simp only [Vm.top];rw [zD O];exact c4
   refine (Ae Z (Xr g M P F rfl rfl f8 O)).mono λr R ⟨K,p⟩=>⟨K,?_⟩;simp only [Vm.top,mC] at p;exact p
 | @leave d a l hr=>
  have g3:=b.Zt Z;cases n with
  | zero=>refine dV z f j b Z ((V.top 0 {J with pc:=J.pc+1}).left 0) (.inl ?_) ?_ ?_ λe o s L y A g=>Ae Z (Oc g M rfl);unfold Vm.left;rw [zO rfl];exact lY;unfold Vm.left;rw [zO rfl,nH];exact bC _;unfold Vm.left;rw [zO rfl,lX];rfl
  | succ m=>
   have c4:=zA (l:=V.ab) (i:=m) (Zo j.len);generalize V.ab[m]'(by grind)=f0 at c4;have hl:=f.low m f0 J c4 j.get;have c7:X.S.fn[J.fn]? =some (aN X.S.fn J.fn):=getD_some b.fn _;have d8:decide ((aN X.S.fn J.fn).result≠0)=false:=hr;rw [c7] at hl;simp only [zH,d8] at hl;have d6:=hl;have g4:=aa b.x;have g6:(V.ab.take (m+1)).set m f0=V.ab.take (m+1):=by
    apply xK;intro i;by_cases e:i=m
    grind
    grind
   refine dV z f j b Z {V with ab:=V.ab.take (m+1)} (.inr (f.ret j c4 (V':={V with ab:=V.ab.take (m+1)}) g6.symm rfl P f.out rfl d6 rfl O O)) (bC _) rfl λe o s L y A g=>(Ae Z (Oc g M rfl)).mono λr R ⟨K,p⟩=>⟨K,?_⟩;unfold Vm.left at p;rw [zN O] at p;simp only [Vm.top,mC] at p;exact p
end
open Classical in
noncomputable def pF (X:Sg) (stop:Int) (V:Vm):Bool×SO:=if h:∃p:Bool×SO,BO X stop V p.1 p.2 then h.choose else (false,⟨V,0,false,V⟩)
theorem Kw {X:Sg} {stop:Int} {V:Vm} (h:∃b o,BO X stop V b o):BO X stop V (pF X stop V).1 (pF X stop V).2:=by have ⟨b,o,h⟩:=h;have:∃p:Bool×SO,BO X stop V p.1 p.2:=⟨(b,o),h⟩;unfold pF;rw [dif_pos this];exact this.choose_spec
inductive pU (X:Sg) (stop:Int) (room dm:Nat):Vm->Vm->Prop
 | over {V:Vm} (h:V.over):pU X stop room dm V V
 | stop {V:Vm} (h:V.over=false) (hst:BO X stop V (pF X stop V).1 (pF X stop V).2) (hb:(pF X stop V).1=false):pU X stop room dm V (pF X stop V).2.V1
 | bad {V:Vm} (h:V.over=false) (hst:BO X stop V (pF X stop V).1 (pF X stop V).2) (hb:(pF X stop V).1) (hn:room<(pF X stop V).2.tv\/((pF X stop V).2.FN=true/\dm<=V.ab.length)):pU X stop room dm V (pF X stop V).2.bad
 | step {V E:Vm} (h:V.over=false) (hst:BO X stop V (pF X stop V).1 (pF X stop V).2) (hb:(pF X stop V).1) (hn:(pF X stop V).2.tv<=room) (hs:(pF X stop V).2.FN->V.ab.length<dm) (hr:pU X stop room dm (pF X stop V).2.V1 E):pU X stop room dm V E
section
variable {X:Sg} {V V' D:Vm} {stop:Int} {E J h lim':Nat}
theorem Om (K:uf X) (L:kB) (F:JU X) {e:ME} {z:Nat->Nat} (w:e.X=X) (h:MS e z r V) (H:V.over\/VI X V):EN prog 20 [.p true e.pv 0,I stop] r e.fl λC m=>C= .tu []/\∃d E,pU X stop e.room e.dm V E/\MS e d m E/\(E.over=true\/VI X E):=by
 apply EW.o e20;simp [b20];refine LP.ind (λx:Vm×ae=>if x.1.over=true then 0 else mu X x.1+1) (λx=>(∃d,MS e d x.2 x.1)/\(x.1.over=true\/VI X x.1)/\∀E,pU X stop e.room e.dm x.1 E->pU X stop e.room e.dm V E) (λ_=>[.p true e.pv 0,I stop]) (λ_=>[]) (λx=>x.2) 0 (λ_ _=>⟨rfl,rfl,rfl⟩) (λx R b2 y=>?_) (V,r) ⟨⟨z,h⟩,H,λ_ h=>h⟩;have ⟨g,D⟩:=x;have ⟨⟨s,i⟩,v,j⟩:=R;simp only at i v j;have ⟨b1,fv,zv,t,i1,i2,v3,v4,v5⟩:=i.row;simp only [Vm.cells] at t;cases b:g.over with
 | true=>simp [yb,t,b];exact ⟨s,g,j _ (.over b),i,.inl b⟩
 | false=>
  have J:=v.resolve_left (by rw [b];simp);have c:=Kw (GY K L F J ⟨e,s,D,w,i⟩ stop);have N:=c.run e s D w i;simp [yb,t,b];refine CL.o N λC m ⟨l,A⟩=>?_;cases f:(pF X stop g).1 with
  | false=>rw [f] at l;subst l;have ⟨M,P⟩:=c.st f;simp;rcases A with ⟨_,_,d,p⟩|⟨a,_⟩;exact ⟨d,_,j _ (.stop b c f),p,c.nx⟩;rw [M,P] at a;rcases a with a|⟨a,_⟩;omega;cases a
  | true=>
   rw [f] at l;subst l;simp;rcases A with ⟨a,p,d,q⟩|⟨a,d,q⟩;refine y ((pF X stop g).2.V1,m) _ _ _ rfl rfl rfl ⟨⟨d,q⟩,c.nx,λE n=>j _ (.step b c f a p n)⟩ ?_;simp only [b];rcases c.mu f with o|o;rw [zO o,zN Z];omega;split;simp;simp;exact o;have k:=c.bad (by rcases a with a|⟨a,_⟩;exact .inl O;exact .inr a);refine y ((pF X stop g).2.bad,m) _ _ _ rfl rfl rfl ⟨⟨d,q⟩,.inl k.1,λE n=>j _ ?_⟩ ?_;cases n with
   | over _=>exact .bad b c f a
   | stop h=>rw [k.1] at h;cases h
   | bad h=>rw [k.1] at h;cases h
   | step h=>rw [k.1] at h;cases h
   simp only [b];rw [zO k.1,zN Z];omega
theorem pU.grow (h:pU X stop E J V D):V.out<+:D.out/\V.time<=D.time:=by
 induction h with
 | over _=>exact ⟨⟨[],Z⟩,zE _⟩
 | stop _ a _=>exact ⟨a.out,a.time⟩
 | bad _ a _ b=>have c:=a.bad (by rcases b with b|⟨b,_⟩;exact .inl O;exact .inr b);rw [c.2.2.2.1,c.2.2.2.2];exact ⟨⟨[],Z⟩,zE _⟩
 | step _ a _ _ _ _ d=>exact ⟨a.out.trans d.1,yN a.time d.2⟩
def Rel (E a:Vm):Prop:=E=a\/(E.over=true/\E.ok=2/\(E.ot=4\/E.ot=5)/\E.out<+:a.out/\E.time<=a.time)
theorem pU.rel {k i:Vm} (a:pU X stop E J V k) (g:pU X stop h lim' V i) (s:E<=h) (r:J<=lim'):Rel k i:=by
 induction a generalizing i with
 | over c=>
  cases g with
  | over _=>exact .inl rfl
  | stop a=>rw [c] at a;cases a
  | bad a=>rw [c] at a;cases a
  | step a=>rw [c] at a;cases a
 | stop c j d=>
  cases g with
  | over a=>rw [c] at a;cases a
  | stop a=>exact .inl rfl
  | bad a _ b=>rw [d] at b;cases b
  | step a _ b=>rw [d] at b;cases b
 | bad c j d f=>have e:=j.bad (by rcases f with f|⟨f,_⟩;exact .inl O;exact .inr f);have m:=g.grow;exact .inr ⟨e.1,e.2.1,e.2.2.1,by rw [e.2.2.2.1];exact m.1,by rw [e.2.2.2.2];exact m.2⟩
 | step c j d f p t q=>
  cases g with
  | over a=>rw [c] at a;cases a
  | stop a _ b=>rw [d] at b;cases b
  | bad a _ b n=>rcases n with n|⟨o,l⟩;omega;have:=p o;omega
  | step a _ _ _ _ l=>exact q l
theorem pU.fix {b:Vm} (h:pU X stop E J V b) (a:V.over):b=V:=by
 cases h with
 | over _=>rfl
 | stop h=>rw [a] at h;cases h
 | bad h=>rw [a] at h;cases h
 | step h=>rw [a] at h;cases h
theorem pU.YI {d e b c:Vm} (a:Rel d e) (f:pU X i E J d b) (g:pU X i h lim' e c) (q:E<=h) (p:J<=lim'):Rel b c:=by rcases a with a|⟨j,l,m,n,o⟩;subst a;exact f.rel g q p;have:=f.fix j;subst this;have k:=g.grow;exact .inr ⟨j,l,m,n.trans k.1,yN o k.2⟩
end
theorem least {P:Nat->Prop} (h:∃i,P i):∃i,P i/\∀j,j<i->¬P j:=by
 have ⟨i,d⟩:=h;induction i using Nat.strongRecOn with
 | ind i g=>by_cases a:∃j,j<i/\P j;have ⟨j,b,c⟩:=a;exact g j b c;exact ⟨i,d,λj e f=>a ⟨j,e,f⟩⟩
theorem Iy:prog.underlying 27=some (.slice 156):=Y
section
variable {T U:List Ty} {D:Nat}
def On (T:List Ty) (x:Ty) (i:Nat):Prop:=∃t,T[i]? =some t/\x.kind=t.kind/\x.of=t.of
theorem a0n (T:List Ty) (x:Ty) (D:T.length<=1000000000000):∃n:Int,EP prog 127 [.sl false (T.map dN),.ag (dN x)] (· =I n):=by
 have q:∀n:Int,(∀i,On T x i->(∀j,j<i->¬On T x j)->n=i)->((∀i,¬On T x i)->n= -1)->EP prog 127 [.sl false (T.map dN),.ag (dN x)] (· =I n):=by
  intro n a g;refine EP.o SN λs Q o=>?_;simp [UF];refine LP.ind (λi:Nat=>T.length-i) (λi=>i<=T.length/\∀j,j<i->¬On T x j) (λi=>[.sl false (T.map dN),.p false 0 0,I T.length,I i]) (λ_=>[.row [U x.kind,I x.of] 0]) (λ_=>s) 1 (λ_ _=>⟨rfl,rfl,rfl⟩) (λi v k y=>?_) 0 ⟨zZ _,λj w=>O⟩;have ⟨F,m⟩:=v;simp [uG];refine ST.dc (λz=>?_) λE=>?_;have f:=zA z;generalize T[i]=t at f;have C:i64.wrap ((i:Int)+1)=((i+1:Nat):Int):=by rw [bW O O];omega
  have A:=D3 x.kind x.of t.kind t.of;simp [f,A];apply ST.mk<;>intro c;simp at c;simp;exact o _ (by rw [a i ⟨t,f,c⟩ m]);simp;simp only [C];refine y (i+1) _ _ _ rfl rfl rfl ⟨O,λj w=>?_⟩ O;by_cases e:j=i;subst e;intro d;have ⟨J,b,l,r⟩:=d;rw [f] at b;cases b;simp [l,r] at c;exact m j O;simp [DK];apply o _;rw [g λi d=>?_];by_cases H:i<T.length;exact m i O d;have ⟨t,h,_⟩:=d;have:=aa h;omega
 by_cases p:∃i,On T x i;have ⟨i,a,g⟩:=least p;refine ⟨i,q i (λj b l=>?_) λh=>absurd a (h i)⟩;rcases xV i j with h|h|h;exact absurd a (l i h);rw [h];exact absurd b (g j h);exact ⟨-1,q _ (λi h _=>absurd ⟨i,h⟩ p) λ_=>rfl⟩
theorem m84 (T:List Ty) (k:Int) (g:T.length<=1000000000000):∃b:Bool,EP prog 84 [.sl false (T.map dN),I k] (· =B b):=by by_cases c:0<k;by_cases d:k<T.length;by_cases e:k=5;refine ⟨false,EP.o B8 λs Q a=>?_⟩;simp [Tw,e];have f:(5:Int)<T.length:=O;simp [zM f];exact a _ rfl;refine ⟨true,EP.o B8 λs Q a=>?_⟩;simp [Tw,zM c,zM d,zC e];exact a _ rfl;refine ⟨false,EP.o B8 λs Q a=>?_⟩;simp [Tw,zM c,zC d];exact a _ rfl;refine ⟨false,EP.o B8 λs Q a=>?_⟩;simp [Tw,zC c];exact a _ rfl
theorem m85 (T:List Ty) (x:Ty) (d:T.length<=1000000000000):∃b:Bool,EP prog 85 [.sl false (T.map dN),.ag (dN x)] (· =B b):=by have ⟨n,c⟩:=a0n T x d;refine ⟨decide (0<=n),EP.o BI λs Q a=>?_⟩;simp at c;simp [b85,CP.q c];exact a _ rfl
def gH (r:Nat):List Ty:=[⟨0,0⟩,⟨1,0⟩,⟨2,0⟩,⟨3,0⟩,⟨4,0⟩,⟨5,0⟩]++(List.range (min r 100)).map λ(i:Nat)=>⟨6,i⟩
theorem sO (K:List Ty) (x:Ty) {fl:Nat} {l s:ae} {o:Bool} (h:K.length<=1000000):cq false 2 16 0 fl (.sl true (K.map dN)) (.sl o [dN x]) l s=some (.sl true ((K++[x]).map dN),l,s):=by have:=lH (fl:=fl) (l:=l) (s:=s) (o:=o) K [x] W;simpa using this
theorem m82 (r:Nat):EP prog 82 [I r] (· = .sl false ((gH r).map dN)):=by
 refine EP.o e82 λs Q q=>?_;simp [b82];refine LP.ind (λi:Nat=>6-i) (λi=>i<=6) (λi=>[I r,.sl true (((List.range i).map λ(k:Nat)=>(⟨k,0⟩:Ty)).map dN),I i]) (λ_=>[]) (λ_=>s) 0 (λi _=>⟨rfl,rfl,rfl⟩) (λi v k g=>?_) 0 (zZ _);obtain ⟨K,d⟩:∃K,K=(List.range i).map λ(k:Nat)=>(⟨k,0⟩:Ty):=⟨_,rfl⟩;have p:K.length=i:=by simp [d]
 rw [<-d];simp [C1];refine ST.dc (λy=>?_) λt=>?_;have a:=λf l s=>sO (fl:=f) (l:=l) (s:=s) (o:=true) K ⟨i,0⟩ O;simp at a;have w8:u8.wrap (i:Int)=(i:Int):=by rcases (by omega:i=0\/i=1\/i=2\/i=3\/i=4\/i=5) with h|h|h|h|h|h <;> rw [h] <;> rfl
 simp [w8,a,wn (j:=i) O];refine g (i+1) _ _ _ ?_ rfl rfl O O;simp [wD,d];have w:i=6:=by omega
 subst w;simp [IY];have z:min (r:Int) 100=((min r 100:Nat):Int):=O;obtain ⟨m,n⟩:∃m,m=min r 100:=⟨_,rfl⟩;rw [z,<-n];have A:=LP.ind (P:=prog) (fl:=s.length) (r:=RP Q s) (lv:=[3,18,19]) (b:=λk=>a3 (xx k)) (λi:Nat=>m-i) (λi=>i<=m) (λi=>[.sl true ((K++(List.range i).map λ(k:Nat)=>(⟨6,k⟩:Ty)).map dN),I m,I i]) (λ_=>[]) (λ_=>s) 0 (λi _=>⟨rfl,rfl,rfl⟩) (λi v k g=>?_) 0 (zZ _);simpa using A;obtain ⟨c,e⟩:∃c,c=K++(List.range i).map λ(k:Nat)=>(⟨6,k⟩:Ty):=⟨_,rfl⟩;have C:c.length=6+i:=by simp [e,p]
 rw [<-e];simp [xx];refine ST.dc (λy=>?_) λt=>?_;have a:=λf l s=>sO (fl:=f) (l:=l) (s:=s) (o:=true) c ⟨6,i⟩ O;simp at a;simp [a,wn (j:=i) O];refine g (i+1) _ _ _ ?_ rfl rfl O O;simp [wD,e];have x:i=m:=by omega
 subst x;simp [IZ];apply q _;rw [e,d,n];simp [gH,wD]
theorem m83 (T U:List Ty) (D:T.length<=1000000000000) (E:U.length<=1000000000000):∃b:Bool,EP prog 83 [.sl false (T.map dN),.sl false (U.map dN)] (· =B b):=by
 by_cases w:T.length=U.length;have q:∀b,(b=true↔∀(i:Nat) (x y:Ty),T[i]? =some x->U[i]? =some y->x.kind=y.kind/\x.of=y.of)->EP prog 83 [.sl false (T.map dN),.sl false (U.map dN)] (· =B b):=by
  intro b n;refine EP.o e83 λs Q d=>?_;simp [JP,w];refine LP.ind (λi:Nat=>U.length-i) (λi=>i<=U.length/\∀j,j<i->∀x y,T[j]? =some x->U[j]? =some y->x.kind=y.kind/\x.of=y.of) (λi=>[.sl false (T.map dN),.sl false (U.map dN),I U.length,I i]) (λ_=>[]) (λ_=>s) 0 (λ_ _=>⟨rfl,rfl,rfl⟩) (λi r k v=>?_) 0 ⟨zZ _,λj t=>O⟩;have ⟨H,p⟩:=r;simp [BZ];refine ST.dc (λJ=>?_) λF=>?_;have f:=zA (l:=T) (i:=i) O;generalize T[i]'O=x at f;have g:=zA O;generalize U[i]=y at g;have A:=D1 x.kind x.of y.kind y.of;have C:i64.wrap ((i:Int)+1)=((i+1:Nat):Int):=by rw [bW O O];omega
  simp [f,g,A];apply ST.mk<;>intro m;simp;apply d _;have:b=false:=by
   cases b with
   | false=>rfl
   | true=>have:=n.1 rfl i x y f g;simp [this] at m
  rw [this];simp;simp only [C];refine v (i+1) _ _ _ rfl rfl rfl ⟨O,λj t=>?_⟩ O;by_cases e:j=i;subst e;intro K L c a;rw [f] at c;cases c;rw [g] at a;cases a;simpa using m;exact p j O;simp [IX];apply d _;have:=n.2 λj x y c a=>p j (Zo (aa a)) x y c a;rw [this]
 by_cases o:∀(i:Nat) (x y:Ty),T[i]? =some x->U[i]? =some y->x.kind=y.kind/\x.of=y.of;exact ⟨true,q _ ⟨λ_=>o,λ_=>rfl⟩⟩;exact ⟨false,q _ ⟨(λh=>by cases h),λh=>absurd h o⟩⟩;refine ⟨false,EP.o e83 λs Q d=>?_⟩;have z:¬(T.length:Int)=U.length:=O;simp [JP,zC z];exact d _ rfl
theorem Ov {T:List Ty} {l s:ae} {a b:Nat} (h:a<=b) (c:b<=T.length):aK prog 27 (some (I a)) (some (I b)) none l s (.sl false (T.map dN))=some (.sl false (((T.take b).drop a).map dN)):=by rw [mq Iy Y (kE 0 a .i64) (kE _ b .i64) h (Zs c) (km (k:=2) (λx=>rfl) T)];simp
theorem Cz {T:List Ty} {l s:ae} {b:Nat} (a:b<=T.length):aK prog 27 none (some (I b)) none l s (.sl false (T.map dN))=some (.sl false ((T.take b).map dN)):=by rw [mq Iy Y (OT 0) (kE _ b .i64) (zZ _) (Zs a) (km (k:=2) (λx=>rfl) T)];simp
theorem m57 (T:List Ty) (hT:T.length<=99000000000):∃b:Bool,EP prog 57 [.sl false (T.map dN)] (· =B b):=by
 have ⟨r,d9,b1⟩:=least (P:=λr=>∀t,T[r+6]? =some t->t.kind≠6) ⟨T.length,λt h=>by have:=aa h;omega⟩;have f4:r<=T.length:=by rcases zX T.length r with h|h;exact absurd (λt v=>by have:=aa v;omega) (b1 T.length h);exact h
 have ⟨JP,y⟩:=m83 (T.take (gH r).length) (gH r) W (by simp [gH];omega);have d4:(gH r).length=6+min r 100:=by simp [gH];omega
 have d1:=λj=>m84 (T.take j) (fe T j).of W;have d2:=λj=>m85 ((T.take j).drop (gH r).length) (fe T j) W;have ⟨c2,c9⟩:=Classical.axiomOfChoice d1;have ⟨c3,c4⟩:=Classical.axiomOfChoice d2;obtain ⟨q,d5⟩:∃q:Nat->Bool,∀j,q j=(decide ((fe T j).kind≠7)|| !c2 j||c3 j):=⟨_,λ_=>rfl⟩;have c7:∀b,(b=true↔¬100<r/\¬T.length<(gH r).length/\JP/\∀j,(gH r).length<=j->j<T.length->q j=false)->EP prog 57 [.sl false (T.map dN)] (· =B b):=by
  intro b M;have C:∀Q:TV->Prop,(∀c8,c8=B b->Q c8)->(100<r\/T.length<(gH r).length\/JP=false\/∃j,(gH r).length<=j/\j<T.length/\q j)->Q (B false):=by
   intro Q p d8;apply p _;have:b=false:=by
    cases b with
    | false=>rfl
    | true=>have ⟨n,o,w,L⟩:=M.1 rfl;rcases d8 with h|h|h|⟨j,h5,x,d⟩;exact absurd h n;exact absurd h o;rw [h] at w;cases w;rw [L j h5 x] at d;cases d
   rw [this]
  refine EP.o e57 λs Q p=>?_;simp [b57];refine LP.ind (λi:Nat=>r-i) (λi=>i<=r) (λi=>[.sl false (T.map dN),I i]) (λ_=>[]) (λ_=>s) 0 (λ_ _=>⟨rfl,rfl,rfl⟩) (λi hi b2 R=>?_) 0 (zZ _);have z:i64.wrap ((i:Int)+6)=((i+6:Nat):Int):=by rw [bW O O];omega
  have w1:i64.wrap ((i:Int)+1)=((i+1:Nat):Int):=by rw [bW O O];omega
  obtain ⟨F,N⟩:∃j,j=i+6:=⟨_,rfl⟩;rw [<-N] at z;have stop:∀t,T[F]? =some t->t.kind≠6->i=r:=λt n o=>by rcases zX i r with h|h;exact absurd (λt' v=>by rw [<-N,n] at v;cases v;exact o) (b1 i h);omega
  have ex:i=r->ql (X:=PX prog s Q) (.sl false (T.map dN)) (I i) [] s:=by
   intro d6;subst d6;obtain ⟨c,d3⟩:∃c,c=gH i:=⟨_,rfl⟩;have A:=m82 i;rw [<-d3] at A d4 y C M c4;rw [wW] at y;by_cases n:100<i;have D:(100:Int)<i:=by omega
   simp [ql,CP.q A,zM D];exact C Q p (.inl n);have D:¬(100:Int)<i:=by omega
   by_cases o:T.length<c.length;have H:(T.length:Int)<c.length:=by omega
   simp [ql,CP.q A,zC D,zM H];exact C Q p (.inr (.inl o));have H:¬(T.length:Int)<c.length:=by omega
   have ts:=λl s=>Cz (T:=T) (l:=l) (s:=s) (b:=c.length) O;cases J:JP with
   | false=>rw [J] at y;simp [ql,CP.q A,zC D,zC H,ts,CP.q y];exact C Q p (.inr (.inr (.inl J)))
   | true=>
    rw [J] at y;simp [ql,CP.q A,zC D,zC H,ts,CP.q y];have e1:=LP.ind (P:=prog) (fl:=s.length) (r:=RP Q s) (lv:=[0,4,5]) (b:=λb2=>a3 (y6 b2)) (λj:Nat=>T.length-j) (λj=>c.length<=j/\j<=T.length/\∀k,c.length<=k->k<j->q k=false) (λj=>[.sl false (T.map dN),.sl false (c.map dN),I j]) (λ_=>[]) (λ_=>s) 0 (λ_ _=>⟨rfl,rfl,rfl⟩) (λj hj b2 R=>?_) c.length ⟨zE _,O,λk n o=>O⟩;simpa using e1;have ⟨c5,f2,c6⟩:=hj;have e6:6<=c.length:=O;simp [y6];refine ST.dc (λE=>?_) λf1=>?_;have f:=iZ E;have wj:i64.wrap ((j:Int)+1)=((j+1:Nat):Int):=by rw [bW O O];omega
    have B8:=c9 j;have BI:=c4 j;have g:=d5 j;generalize fe T j=e2 at f B8 BI g;have K:=λl s=>Cz (l:=l) (s:=s) (b:=j) O;have b6:=λl s=>Ov (l:=l) (s:=s) (a:=c.length) (b:=j) c5 O;rw [wW] at B8;rw [List.map_drop,wW] at BI;simp at K b6;simp at BI;have bad:=λh=>C Q p (.inr (.inr (.inr ⟨j,c5,E,h⟩)));by_cases d:e2.kind=7;cases hf:c2 j with
    | false=>rw [hf] at B8 g;simp [f,d,K,CP.q B8];exact bad (by rw [g];simp)
    | true=>
     rw [hf] at B8 g;cases hg:c3 j with
     | true=>rw [hg] at BI g;rw [d] at BI;simp [f,d,K,b6,CP.q B8,CP.q BI];exact bad (by rw [g];simp)
     | false=>rw [hg] at BI g;rw [d] at BI;simp [f,d,K,b6,CP.q B8,CP.q BI];simp only [wj];refine R (j+1) _ _ _ rfl rfl rfl ⟨O,O,λk w L=>?_⟩ O;by_cases e:k=j;subst e;rw [g,d];rfl;exact c6 k w O
    simp [f,zC d];exact bad (by rw [g];simp [d]);simp [Jg];apply p _;have:=M.2 ⟨n,o,J,λk w L=>c6 k w O⟩;rw [this]
  obtain ⟨m,hm⟩:∃m,T.length=m:=⟨_,rfl⟩;by_cases E:F<m;have f:=zA (l:=T) (i:=F) O;generalize T[F]'O=t at f;by_cases x:t.kind=6;have f3:i≠r:=λe=>d9 t (by rw [<-e,<-N];exact f) x;simp [sq,hm,z];simp only [decide_eq_true E];simp [z,f,x,w1];exact R (i+1) _ _ _ rfl rfl rfl O O;simp [sq,hm,z];simp only [decide_eq_true E];simp [z,f,zC x];exact ex (stop t f x);have d7:¬(F:Int)<m:=by omega
  simp [sq,hm,z,zC d7];apply ex;rcases zX i r with h|h;exact absurd (λt' v=>by have:=aa v;omega) (b1 i h);omega
 by_cases hc:¬100<r/\¬T.length<(gH r).length/\JP/\∀j,(gH r).length<=j->j<T.length->q j=false;exact ⟨true,c7 _ ⟨λ_=>hc,λ_=>rfl⟩⟩;exact ⟨false,c7 _ ⟨(λh=>by cases h),λh=>absurd h hc⟩⟩
theorem m32 (T:List Ty) (j:T.length<=99000000000) (e:TG T D) (t:Nat) (f:t<T.length):∃z:Vl,EP prog 32 [.sl false (T.map dN),I t] (· = .ag (aw z)):=by
 have ⟨b,c⟩:=m57 T j;cases b with
 | false=>refine ⟨vz,EP.o e32 λs Q d=>?_⟩;simp [b32,CP.q c];exact d _ rfl
 | true=>
  have g:=iZ f;have k:0<=(fe T t).kind/\(fe T t).kind<=7:=by rcases zX t 6 with h|h;have:=e.base t h;omega;rcases e.ok t f h with ⟨a,_⟩|⟨a,_⟩ <;> omega
  generalize fe T t=x at g k;obtain ⟨m,l⟩:∃m,T.length=m:=⟨_,rfl⟩;have a:¬(t:Int)<0:=O;have n:¬(m:Int)<=t:=O;have i:¬m<=t:=O;refine ⟨⟨min x.kind 5,0,0,0,O,λ_=>O⟩,EP.o e32 λs Q d=>?_⟩;simp [b32,CP.q c,l,zC a];simp only [decide_eq_false i];simp [g];exact d _ rfl
end
abbrev f34:TV:=.v (.func (.func 34) #[] #[])
theorem OF:IG prog f34=some 34:=Y
@[simp ↓] theorem a3y {b:jy} {k:TV->RA (Xc prog a b)}:dy (X:=Xc prog a b) 0 f34 o k r s=af (X:=Xc prog a b) 34 o k r s:=by unfold dy;rw [show IG (Xc prog a b).P f34=some 34 from OF];rfl
theorem m34 (f:Fn):∃b:Bool,EP prog 34 [.ag (jw f)] (· =B b):=by refine ⟨decide (f.name.1=⟨#[109,97,105,110]⟩),EP.o e34 λs Q a=>?_⟩;simp [b34];exact a _ rfl
theorem EJ {F:List Fn} {i:Nat} (h:i<F.length):F[i]? =some (aN F i):=getD_some h _
theorem m33 (F:List Fn) (E:F.length<=1000000000):∃n:Int,n<F.length/\EP prog 33 [.sl false (F.map jw),f34] (· =I n):=by
 have ⟨g,y⟩:=Classical.axiomOfChoice m34;have q:∀n:Int,(∀i,i<F.length->g (aN F i)->(∀j,j<i->¬g (aN F j))->n=i)->((∀i,i<F.length->¬g (aN F i))->n= -1)->EP prog 33 [.sl false (F.map jw),f34] (· =I n):=by
  intro n a d;refine EP.o e33 λs Q l=>?_;simp [b33];refine LP.ind (λi:Nat=>F.length-i) (λi=>i<=F.length/\∀j,j<i->¬g (aN F j)) (λi=>[.sl false (F.map jw),f34,I F.length,I i]) (λ_=>[]) (λ_=>s) 0 (λ_ _=>⟨rfl,rfl,rfl⟩) (λi z k C=>?_) 0 ⟨zZ _,λj A=>O⟩;have ⟨J,f⟩:=z;simp [Co];refine ST.dc (λo=>?_) λH=>?_;have p:=EJ o;have c:=y (aN F i);have D:i64.wrap ((i:Int)+1)=((i+1:Nat):Int):=by rw [bW O O];omega
  simp at c;cases b:g (aN F i) with
  | true=>rw [b] at c;simp [p,CP.q c];exact l _ (by rw [a i o b f])
  | false=>rw [b] at c;simp [p,CP.q c];simp only [D];refine C (i+1) _ _ _ rfl rfl rfl ⟨O,λj A=>?_⟩ O;by_cases e:j=i;subst e;rw [b];simp;exact f j O
  simp [Jn];apply l _;rw [d λi K=>f i O]
 by_cases m:∃i,i<F.length/\g (aN F i);have ⟨i,⟨t,a⟩,d⟩:=least m;refine ⟨i,O,q i (λj x v w=>?_) λh=>absurd a (h i t)⟩;rcases xV i j with h|h|h;exact absurd a (w i h);rw [h];exact absurd ⟨x,v⟩ (d j h);exact ⟨-1,O,q _ (λi h r _=>absurd ⟨i,h,r⟩ m) λ_=>rfl⟩
section
variable {s:ae} {fl:Nat}
theorem JI (L:List Int):cS 0 1 (L.map bt):=bD (λx=>rfl) L
theorem m56 (L:List Int) (a:L.length<=100000000):EN prog 56 [.sl false (L.map bt)] s fl λr d=>r= .sl false (L.map bt)/\d=s:=by
 cases L with
 | nil=>exact Ends.iQ (f:=bI 1 8 0) Y Y (by simp [bI,FP]) ⟨rfl,rfl⟩
 | cons v L=>
  have b:fits (L.length+1) 8:=by unfold fits;exact decide_eq_true ⟨by simp at a;omega,by simp at a;omega⟩
  refine Ends.iQ (f:=bI 1 8 0) Y Y ?_ ⟨rfl,rfl⟩;unfold bI;have c:=JI (v::L);simp only [Aw,FP,xD,if_false,yY] at c ⊢;rw [fD rfl];simp [JI L,b,df]
theorem m30 (L D:List Int) (e:L.length<=100000000) (d:D.length<=100000000) (g:fl<=s.length):EN prog 30 [.sl false (L.map bt),.sl false (D.map bt),I 0,I 0] s fl λr f=>r= .p true s.length 0/\f=s++[.row [.sl false (L.map bt),.sl false (D.map bt),I 0,I 0] 0]:=by apply EW.o e30;have c1:=m56 (s:=s) (fl:=fl) L e;have a:=m56 (s:=s) (fl:=fl) D d;have b:min 0 (L.length:Int)=0:=O;have c:min 0 (D.length:Int)=0:=O;simp [b30,CL.q c1,CL.q a,b,c]
theorem m31 (n:Nat) (f:n<=65536) (e:fl<=s.length):EN prog 31 [I n] s fl λr c=>r= .tu [.p true s.length 0,I 0]/\c=s++[.row [I n,I 0,.sl true []] 0]:=by apply EW.o e31;have a:¬(n:Int)<0:=O;have b:¬(65536:Int)<n:=O;have d:¬65536<n:=O;simp [b31,zC a,zC b]
def lR (b k:Nat):Lay:={id:=λr=>if r=kN then b+3 else if r=bY then b+4 else if r=lA then b+2 else if r=iP then b else if r=fj then b+1 else b+5,az:=λr=>if r=pH then k-1 else 0,al:=λr=>if r=kN\/r=bY\/r=lA\/r=iP\/r=fj\/r=pH then true else false}
def Sg.V0 (X:Sg) (a:Bool):Vm:={H:=⟨0,[]⟩,F:=⟨X.w1,X.w2,0,0⟩,time:=0,out:=[],ab:=[],over:=a,ok:=0,ot:=0,ol:=0}
theorem nmd {X:Sg} (j:Bool) (z:0<X.zs.length) (d:a<=1000000) (t:b<=100000) (q:X.fuel<=1000000000) (n:X.w1.length<=1000000) (p:X.w2.length<=1000000) (v:∀x∈X.w1,-9223372036854775808<=x) (A:fl<=s.length) (w:Nat->Nat):MS ⟨X,a,b,fl,s.length+3,s.length+4,s.length+2,λg=>s[g]?⟩ w
  (s++[.aY 0 4 ((List.replicate X.g.ins.length (⟨0,0,0,0⟩:Sn)).map P2),.aY 0 1 ((List.replicate X.S.fn.length (0:Int)).map bt),.row [.sl false (X.w1.map bt),.sl false (X.w2.map bt),I 0,I 0] 0,
   .row ((X.V0 j).cells X a b (lR s.length X.zs.length) (.sl true []) (.m true (s.length+5) (X.zs.length-1) 0 X.zs.length 4) (.m true s.length 0 0 X.g.ins.length 4) (.m true (s.length+1) 0 0 X.S.fn.length 1)) 0,
   .row [I a,I 0,.sl true []] 0,.aY (X.zs.length-1) 4 (X.zs.map aw)]) (X.V0 j):=by
 have c:∀r,(lR s.length X.zs.length).al r->r=kN\/r=bY\/r=lA\/r=iP\/r=fj\/r=pH:=λr h=>by simp only [lR] at h;split at h;assumption;cases h
 have gt:∀(k:Nat) (L:ae),(s++L)[s.length+k]? =L[k]? :=λk L=>by rw [zJ O,show s.length+k-s.length=k by omega]
 have l:∀(L:ae),(s++L)[s.length]? =L[0]? :=λL=>gt 0 L;refine ⟨lR s.length X.zs.length,⟨⟨⟨by rfl,.sl true [],?_,.inr ⟨rfl,rfl,rfl⟩⟩,(λh=>by simp [lR] at h),(λi o h=>by simp [Sg.V0] at h),(λi o h=>by simp [Sg.V0] at h),λi _=>⟨by simp [lR],λ_=>by simp [lR]⟩,d,zZ _,rfl,(λo h=>by simp [Sg.V0] at h)⟩,⟨by rfl,?_,zZ _,zZ _,n,p,v⟩,⟨by rfl,.sl true [],.m true (s.length+5) (X.zs.length-1) 0 X.zs.length 4,?_,.inr ⟨rfl,rfl,rfl⟩,.inl ⟨by rfl,by rfl⟩⟩,(λh=>by simp [lR] at h),(λi f h=>by simp [Sg.V0] at h),⟨by rfl,List.replicate X.g.ins.length ⟨0,0,0,0⟩,Z,?_⟩,⟨by rfl,List.replicate X.S.fn.length 0,Z,?_⟩,λ_=>?_,zZ _,q,zZ _,t⟩,⟨λr y h m e=>?_,λr h=>?_,λr h=>?_⟩,W,by rfl,by rfl,by rfl,(λi h=>by simp [Sg.V0] at h),λg o h=>⟨?_,λr d=>?_⟩⟩;show (s++_)[s.length+4]? =_;rw [gt];rfl;show (s++_)[s.length+2]? =_;rw [gt];rfl;show (s++_)[s.length+3]? =_;rw [gt];rfl;show (s++_)[s.length]? =_;rw [l];rfl;show (s++_)[s.length+1]? =_;rw [gt];rfl;show (s++_)[s.length+5]? =_;rw [gt];simp [lR];rcases c r h with rfl|rfl|rfl|rfl|rfl|rfl <;> rcases c y m with rfl|rfl|rfl|rfl|rfl|rfl <;> first|rfl|(simp [lR] at e;done)|(simp [lR] at e;omega)
 rcases c r h with rfl|rfl|rfl|rfl|rfl|rfl <;> simp [lR];rcases c r h with rfl|rfl|rfl|rfl|rfl|rfl <;> simp [lR] <;> omega;simp only at h ⊢;rw [zB (aa h)];exact h;have:=aa h;rcases c r d with rfl|rfl|rfl|rfl|rfl|rfl <;> simp [lR] <;> omega
end
def Sg.Vi (X:Sg) (n:Int):Vm:=if n<0 then X.V0 true else {X.V0 false with ab:=[⟨n.toNat,0,0,lL X (aN X.S.fn n.toNat) [],[]⟩]}
section
variable {J:ae} {fl:Nat}
theorem PH {J:ae} (b:a<=100000000):Q.Et 2 4 24 [U 0,U 0,I 0,I 0] (I a) (I a) r J=some (.m true J.length 0 0 a 4,r,J++[.aY 0 4 (List.replicate a [U 0,U 0,I 0,I 0])]):=by unfold Q.Et;simp;unfold mW;show (if _ then _ else none)=_;rw [zO ⟨O,O,O,λh=>O,rfl,rfl⟩];simp [df,mj]
theorem Zm {J:ae} (b:a<=100000000):Q.Et 2 1 8 [I 0] (I a) (I a) r J=some (.m true J.length 0 0 a 1,r,J++[.aY 0 1 (List.replicate a [I 0])]):=by unfold Q.Et;simp;unfold mW;show (if _ then _ else none)=_;rw [zO ⟨O,O,O,λh=>O,rfl,rfl⟩];simp [df,mj]
def Pp (b:Nat):Nat->TV
 | 0=>.sl true []
 | j+1=>.m true (b+5) j 0 (j+1) 4
def Pq (X:Sg) (a b:Nat) (J:ae) (j:Nat):ae:=J++([.aY 0 4 (List.replicate X.g.ins.length [U 0,U 0,I 0,I 0]),.aY 0 1 (List.replicate X.S.fn.length [I 0]),.row [.sl false (X.w1.map bt),.sl false (X.w2.map bt),I 0,I 0] 0,.row [TV.sl false (List.map bG X.N),TV.sl false (List.map ig X.S.ma),TV.sl false (List.map dN X.S.ty),TV.sl false (List.map sU X.S.rc),TV.sl false (List.map pP X.S.fd),TV.sl false (List.map jw X.S.fn),TV.sl false (List.map bt X.S.sl),TV.sl false (List.map sd X.S.va),TV.sl false (List.map vG X.S.pt),TV.sl false (List.map eX X.g.ins),TV.sl false (List.map rT X.g.fns),TV.sl false (List.map GZ X.g.strs),TV.sl false (List.map bt X.w1),TV.sl false (List.map bt X.w2),I X.fuel,I a,I b,TV.p true (J.length+4) 0,TV.p true (J.length+2) 0,I 0,TV.sl true [],TV.sl true [],B false,U 0,U 0,I 0,(Pp J.length j),TV.m true J.length 0 0 X.g.ins.length 4,TV.m true (J.length+1) 0 0 X.S.fn.length 1] 0,.row [I a,I 0,.sl true []] 0]++match j with
 | 0=>[]
 | j+1=>[.aY j 4 ((X.zs.take (j+1)).map aw)])
theorem m18 {X:Sg} {dm:Nat} (w:X.zs.length=X.S.ty.length) (n:0<X.zs.length) (d9:X.zs.length<=99000000000) (hr:a<=65536) (c8:0<dm) (hl:dm<=100000) (b1:X.fuel<=1000000000) (K:X.w1.length<=1000000) (L:X.w2.length<=1000000) (hv:∀x∈X.w1,-9223372036854775808<=x) (hi:X.g.ins.length<=100000000) (c7:X.S.fn.length<=100000000) (R:fl<=J.length)
  (hz:∀(t:Nat) (z:Vl),X.zs[t]? =some z->EP prog 32 [.sl false (X.S.ty.map dN),I t] (· = .ag (aw z))) (hn:i<X.S.fn.length) (M:EP prog 33 [.sl false (X.S.fn.map jw),f34] (· =I i))
  (d2:∀x∈X.S.sl,∃(t:Nat) (z:Vl),x=(t:Nat)/\X.zs[t]? =some z) (c4:X.S.sl.length<=99000000000) (c6:∀d,d<X.S.fn.length->∃a0 m:Nat,(aN X.S.fn d).at_=a0/\(aN X.S.fn d).ah=m/\a0+m<=X.S.sl.length):
  EN prog 18 [X.S.q X.N,X.g.v,.ag [.sl false (X.w1.map bt),.sl false (X.w2.map bt),I X.fuel,I a,I dm]] J fl λr c=>r= .p true (J.length+3) 0/\∃g,MS ⟨X,a,dm,fl,J.length+3,J.length+4,J.length+2,λA=>J[A]?⟩ g c (X.Vi i):=by
 apply EW.o e18;have E:=m30 (s:=J++[.aY 0 4 (List.replicate X.g.ins.length [U 0,U 0,I 0,I 0])]++[.aY 0 1 (List.replicate X.S.fn.length [I 0])]) (fl:=fl) X.w1 X.w2 O O W;simp at E;simp [b18,GS.v,PH hi,Zm c7,CL.q E];refine CL.o (m31 a hr W) λr c ⟨q1,q2⟩=>?_;subst q1;subst q2;have p:fl<=J.length+3:=O;simp [p];have c3:=LP.ind (P:=prog) (fl:=fl) (r:=RW λr c=>r= .p true (J.length+3) 0/\∃g,MS ⟨X,a,dm,fl,J.length+3,J.length+4,J.length+2,λA=>J[A]?⟩ g c (X.Vi i)) (lv:=[3,7,39,40]) (b:=λc2=>a4 (sr c2)) (λj:Nat=>X.zs.length-j) (λj=>j<=X.zs.length) (λj=>[.p false 0 0,.p true (J.length+3) 0,I X.S.ty.length,I j])
  (λ_=>[.row [TV.sl false (List.map bG X.N),TV.sl false (List.map ig X.S.ma),TV.sl false (List.map dN X.S.ty),TV.sl false (List.map sU X.S.rc),TV.sl false (List.map pP X.S.fd),TV.sl false (List.map jw X.S.fn),TV.sl false (List.map bt X.S.sl),TV.sl false (List.map sd X.S.va),TV.sl false (List.map vG X.S.pt)] 0,.row [TV.sl false (List.map eX X.g.ins),TV.sl false (List.map rT X.g.fns),TV.sl false (List.map GZ X.g.strs)] 0,.row [TV.sl false (List.map bt X.w1),TV.sl false (List.map bt X.w2),I X.fuel,I a,I dm] 0])
  (Pq X a dm J) 3 (λ_ _=>⟨rfl,rfl,rfl⟩) (λj hj c2 hk=>?_) 0 (zZ _)
 simp at c3;exact c3;cases j with
 | zero=>
  have f:=zA n;generalize X.zs[0]=z at f;have Mq:=hz 0 z f;have k:=λl c=>fD (k:=true) (e:=4) (b:=32) (an:=2) (fl:=fl) (l:=l) (s:=c) (y:=.sl true [aw z]) rfl;have s:fits 1 32:=by decide
  have N:=BT [z];simp [df,s] at k;simp only [Pq,Pp];simp at Mq;simp [sr,p,<-w,n,CP.q Mq,k];refine hk 1 _ _ _ ?_ rfl ?_ O O;rw [w];rfl;have v:X.zs.take 1=[z]:=by
   match hX:X.zs,f with
   | d6::d5,h=>simp at h;rw [h];rfl
  simp [Pq,Pp,v]
 | succ j=>
  simp only [Pq,Pp];simp [sr,<-w];refine ST.dc (λd8=>?_) λd7=>?_;have c9:j+1<X.zs.length:=by omega
  have d1:j+1<=min (j+1) X.zs.length:=O;have f:=zA c9;generalize X.zs[j+1]=z at f;have Mq:=hz _ z f;simp at Mq;have wj:i64.wrap ((j:Int)+1+1)=((j+2:Nat):Int):=by rw [bW O O];omega
  have s:fits (j+1+1) 32:=by unfold fits;exact decide_eq_true ⟨O,O⟩
  have k:=λl c=>kK (e:=4) (b:=32) (an:=2) (fl:=fl) (l:=l) (s:=c) (id:=J.length+5) (az:=j) (n:=j+1) (sz:=4) (y:=.sl true [aw z]) rfl;have c5:fl<=J.length+5:=O;have N:=BU [z];simp at k N;simp [p,CP.q Mq,k,c5,s,zM d1];refine hk (j+2) _ _ _ ?_ rfl ?_ O O;rw [wj];have v:X.zs.take (j+2)=X.zs.take (j+1)++[z]:=by rw [xJ,f];rfl
  simp [Pq,Pp,v,List.take_take];have b2:j+1=X.zs.length:=by omega
  have C:=nmd (s:=J) (fl:=fl) false n (show a<=1000000 by omega) hl b1 K L hv R (λ_=>0);simp at C;simp [<-b2] at C;have D:=nmd (s:=J) (fl:=fl) true n (show a<=1000000 by omega) hl b1 K L hv R (λ_=>0);simp at D;simp [<-b2] at D;have b6:List.take (j+1) (List.map aw X.zs)=List.map aw X.zs:=yE (by rw [yV];omega);by_cases q:i<0;simp [Dw,p,CP.q M,zM q,b6];refine ⟨λ_=>0,?_⟩;unfold Sg.Vi;rw [zO q];exact D;obtain ⟨d,rfl⟩:∃d:Nat,i=d:=⟨i.toNat,O⟩;have ⟨a0,m,f1,f2,f3⟩:=c6 d O;have H:=BA (args:=[]) (o:=false) C (EJ (F:=X.S.fn) (i:=d) O) f1 f2 (zZ _) f3 d2 c4 c8;simp at H;simp [Dw,CP.q M,zC q,b6];have d3:List.take (j+1) X.zs=X.zs:=yE O;simp only [d3,List.cons_append,List.nil_append];refine CL.o H λr c ⟨g,d4⟩=>?_;simp;refine ⟨g,?_⟩;unfold Sg.Vi;rw [zN q];exact d4
end
section
variable {J:ME} {D:Nat->Nat} {E h:ae} {V V':Vm} {A A':Lay} {X:Sg} {fl:Nat}
theorem MD.move (d:MD J D E V A) (a:∀r,A.al r->h[A.id r]? =E[A.id r]?) (j:∀b o,J.Fo b=some o->h[b]? =some o):MD J D h V A:=by
 have lt:∀r,A.al r->A.id r<h.length:=λr g=>by obtain ⟨o,m⟩:∃o,E[A.id r]? =some o:=⟨_,zA (d.ij.lt r g)⟩;exact aa ((a r g).trans m)
 have c:O3 (λ_=>False) A A E h:=⟨λ_ _=>⟨rfl,rfl,rfl⟩,λr k _=>a r k,λ_ _=>⟨rfl,rfl⟩⟩;exact ⟨d.vr.tY c (λa=>a) (λa=>a) (λa=>a) (λa=>a) (λa=>a) (d.vr.hp.tY (λa=>a) c λ_ _=>.inl λa=>a) (d.vr.fd.tY c λa=>a) (λi f l=>(d.vr.fr i f l).tY c λ_ _ a=>a) rfl (λ_ _=>rfl) rfl rfl rfl rfl rfl rfl,⟨d.ij.ij,lt,d.ij.lo⟩,yN (d.ij.lo _ d.vr.vm.1) (wJ (lt _ d.vr.vm.1)),d.iv,d.ih,d.ie,d.fr,λb o e=>⟨j b o e,(d.fo b o e).2⟩⟩
open Classical in
noncomputable def ME.all (J:ME) (A:Lay) (E:ae):ME:={J with Fo:=λid=>if ∃r,A.al r/\A.id r=id then none else E[id]?}
theorem MD.all (d:MD J D E V A):MD (J.all A E) D E V A:=⟨d.vr,d.ij,d.lf,d.iv,d.ih,d.ie,d.fr,λe o h=>by simp only [ME.all] at h;split at h;cases h;rename_i b;exact ⟨h,λr c a=>b ⟨r,c,a⟩⟩⟩
theorem s7 {o:TO} (h:E[a]? =some o) (d:∀r,A.al r->A.id r≠a):(J.all A E).Fo a=some o:=by simp only [ME.all];rw [zN λ⟨r,b,c⟩=>d r b c];exact h
structure MB (e:ME) (mb:Nat) (s:ae) (V:Vm) (A:Lay):Prop where
 md:∃D,MD e D s V A
 bx:s[mb]? =some (.row [.p true e.pv 0] 0)
 nb:∀r,A.al r->A.id r≠mb
def Oth (A A':Lay) (E h:ae):Prop:=∀a o,E[a]? =some o->(∀r,A.al r->A.id r≠a)->h[a]? =some o/\∀r,A'.al r->A'.id r≠a
theorem MB.move {b j:Lay} (k:MB J a E V A) (e:Oth b j E h) (q:∀r c,A.al r->b.al c->b.id c≠A.id r) (p:∀r,b.al r->b.id r≠a) (n:∀i o,J.Fo i=some o->h[i]? =some o):MB J a h V A:=by obtain ⟨⟨D,d⟩,l,m⟩:=k;refine ⟨⟨D,d.move (λr f=>?_) n⟩,(e _ _ l p).1,m⟩;obtain ⟨o,g⟩:∃o,E[A.id r]? =some o:=⟨_,zA (d.ij.lt r f)⟩;rw [g];exact (e _ _ g λc s=>q r c f s).1
theorem so:prog.underlying 40=some (.pointer 73):=Y
theorem m8 (t:uf X) (L:kB) (q:JU X) (v:J.X=X) (l:MB J a E V A) (p:J.Fo=λ_=>none) (s:V.over\/VI X V):EN prog 8 [.p true a 0,I (-1)] E J.fl λr h=>∃e A',pU X (-1) J.room J.dm V e/\(e.over=true\/VI X e)/\r= .ag [U e.ok,U e.ot,I e.ol]/\MB J a h e A'/\Oth A A' E h:=by have ⟨⟨D,d⟩,f,n⟩:=l;have c:=Om (stop:=-1) t L q (e:=J.all A E) v ⟨A,d.all⟩ s;apply EW.o e8;simp [b8,cw so,f];refine CL.o c λr h ⟨y,x,e,z,⟨A',b⟩,C⟩=>?_;subst y;have g:=(b.fo a _ (s7 f n));have ⟨H,F,N,i,K,M⟩:=b.vr.vm;simp only [Vm.cells,b.iv] at i;have w:(J.all A E).pv=J.pv:=rfl;rw [w] at i;simp [g.1,i];refine ⟨e,z,C,⟨rfl,rfl,rfl⟩,A',⟨⟨x,b.vr,b.ij,b.lf,b.iv,b.ih,b.ie,b.fr,λk o j=>by rw [p] at j;cases j⟩,g.1,g.2⟩,λk o m f=>b.fo k o (s7 m f)⟩
theorem m11 (c:MB J a E V A):EN prog 11 [.p true a 0] E fl λr h=>r=I V.time/\h=E:=by have ⟨⟨D,d⟩,e,g⟩:=c;apply EN.o BL;have ⟨i,f,l,b,j,k⟩:=d.vr.vm;simp only [Vm.cells,d.iv] at b;simp [b11,cw so,e,b]
theorem m17 {fuel:Nat} (x y:List Int) (k:fuel<=1048576) (l:a<=65536) (i:1<=b) (j:b<=1000):EP prog 17 [.ag [.sl false (x.map bt),.sl false (y.map bt),I fuel,I a,I b]] (· =B true):=by refine EP.o e17 λE Q g=>?_;have h:(0:Int)<=fuel:=O;have c:(fuel:Int)<=1048576:=O;have d:(a:Int)<=65536:=O;have e:(1:Int)<=b:=O;have f:(b:Int)<=1000:=O;simp [b17,c,d,e,f];exact g _ rfl
theorem vi0 (h:uf X) (i:a<X.S.fn.length):VI X (X.Vi a):=by
 have ⟨A,a1,e,b,M,m,p,w,o,e3,e4,e5,z,⟨lz,e7⟩,⟨y,e8,e9⟩,FQ,BL,Mm,NV,NU,zj⟩:=h.fns a i;have s:aN X.S.fn a=b:=by have:=getD_some (d:=(⟨dn,0,0,0,0,0,0,0⟩:Fn)) i;rw [w] at this;exact (yD this).symm
 have K:(lL X b []).length=m:=by simp [lL,FQ,BL];omega
 have F:FG X ⟨a,0,0,lL X b [],[]⟩ 0:=by
  have ⟨_,t,v,k,l⟩:=z (λq=>e[q]?) λa x L=>by simpa using L
  rw [yM] at k l;exact ⟨A,a1,e,t,i,o,e3,e4,e5,l,k,v,zZ _,by simp only [fS];rw [K,s,BL];simp⟩
 have N:mf X ⟨a,0,0,lL X b [],[]⟩<=3:=by
  have C:e[0]? =some y:=by rw [<-List.head?_eq_getElem?];exact e8
  have:=e5 0 y C;unfold mf;simp only [o,e3,e4,yW,this,zH];split;omega;rename_i J;rcases e9 with e9|e9;exact absurd (Zr e9) J;rw [e9];omega
 have E:X.Vi a={X.V0 false with ab:=[⟨a,0,0,lL X b [],[]⟩]}:=by unfold Sg.Vi;rw [zN O];simp only [yW,s]
 rw [E];have H:mu X {X.V0 false with ab:=[⟨a,0,0,lL X b [],[]⟩]}<=20000000000:=by have a1:=h.fu;have a2:=h.il;unfold mu;simp only [Sg.V0,yY,wE,List.sum_cons,List.sum_nil,Nat.sub_zero];have:X.fuel*(4*X.g.ins.length+1)<=400*36000001:=Nat.mul_le_mul a1 O;omega
 refine ⟨rfl,Z,λn f r=>?_,λj f g c D=>?_,λj f c=>?_,zZ _⟩;have:=r.len;simp at this;subst this;have:=r.get;simp at this;subst this;exact F;simp at D;have:j=0:=by have:=aa c;simp at this;exact this
 subst this;simp at c;subst c;show ([]:List Vl).length+mu X _<=100000000000;rw [List.length_nil,yM];exact yN H O
end
end T
namespace T
open Go V Q
variable {a b c d e f g:Nat} {u v:Value} {i j k:Int} {t:TypeId} {p:List Value} {q:Bool} {n:IntKind} {x y z:TV} {r s:List TO} {o:List TV}
structure NW (X:Sg) (n:Int):Prop where
 z0:0<X.zs.length
 z1:X.zs.length<=99000000000
 w1:X.w1.length<=1000000
 w2:X.w2.length<=1000000
 wv:∀x∈X.w1,-9223372036854775808<=x
 fl:X.S.fn.length<=100000000
 hz:∀(t:Nat) (z:Vl),X.zs[t]? =some z->EP prog 32 [.sl false (X.S.ty.map dN),I t] (· = .ag (aw z))
 hn:n<X.S.fn.length
 h33:EP prog 33 [.sl false (X.S.fn.map jw),f34] (· =I n)
 h19:EP prog 19 [X.S.q X.N] (· =X.g.v)
section
variable {J:ME} {D:Nat->Nat} {E h:ae} {V V':Vm} {A A':Lay} {X:Sg} {fl room dm:Nat} {n:Int}
def Sg.w (X:Sg) (room dm:Nat):TV:=.ag [.sl false (X.w1.map bt),.sl false (X.w2.map bt),I X.fuel,I room,I dm]
theorem vin (a:uf X) (b:n<X.S.fn.length):(X.Vi n).over\/VI X (X.Vi n):=by by_cases h:n<0;left;unfold Sg.Vi;rw [zO h];rfl;right;obtain ⟨i,rfl⟩:∃i:Nat,n=i:=⟨n.toNat,O⟩;exact vi0 a O
structure NM (X:Sg) (n:Int) (room dm fl:Nat) (s s':ae) (e:ME) (mb:Nat) (E:Vm) (A:Lay):Prop where
 x:e.X=X
 rm:e.room=room
 lm:e.dm=dm
 fl:e.fl=fl
 fo:e.Fo=λ_=>none
 run:pU X 0 room dm (X.Vi n) E
 vi:E.over\/VI X E
 bx:MB e mb s' E A
 lb:s.length<=mb
 la:∀r,A.al r->s.length<=A.id r
 NP:∀(id:Nat) (o:TO),s[id]? =some o->s'[id]? =some o
theorem m7 (e:uf X) (L:kB) (N:JU X) (b:NW X n) (j:room<=65536) (R:1<=dm) (b1:dm<=1000) (P:fl<=E.length) {Q:jy} (M:∀h J y m A,NM X n room dm fl E h J y m A->Q (.tu [.p true y 0,I 0]) h):EN prog 7 [X.S.q X.N,X.w room dm] E fl Q:=by
 have c5:=e.fu;have c6:=e.il;have D:=m17 (fuel:=X.fuel) X.w1 X.w2 O j R b1;have q:=m18 (dm:=dm) e.zl b.z0 b.z1 j O O O b.w1 b.w2 b.wv O b.fl P b.hz b.hn b.h33 e.sl e.sb λi l=>by
  have ⟨c4,a1,C',H,C,c2,c7,F,e2,e3,e4,e5,e6,e7,e8,FQ,BL,Mm,NV,NU,zj⟩:=e.fns i l;have x:aN X.S.fn i=H:=by have:=getD_some (d:=(⟨dn,0,0,0,0,0,0,0⟩:Fn)) l;rw [F] at this;exact (yD this).symm
  exact ⟨C,c2,by rw [x];exact FQ,by rw [x];exact BL,zj⟩
 have s:=b.h19;simp only [GS.v] at s q;apply EW.o e7;simp [b7,Sg.w,CP.q D,CP.q s];refine CL.o q λr g ⟨q1,c8,q2⟩=>?_;subst q1;simp;have ⟨k,p⟩:=q2;have v:=p.mK [.row [.p true (E.length+3) 0] 0];have K:(g++[TO.row [.p true (E.length+3) 0] 0])[g.length]? =some (.row [.p true (E.length+3) 0] 0):=by rw [zJ (zE _)];simp
 have nb:∀r,k.al r->k.id r≠g.length:=λr j J=>by have:=p.ij.lt r j;omega
 have b2:E.length<=g.length:=by rcases zX g.length E.length with a|a;have hx:=zA a;have:=aa (p.fo _ _ hx).1;omega;exact a
 have t:=Om (stop:=0) e L N rfl ⟨k,v.all⟩ (vin e b.hn);have b6:(ME.all ⟨X,room,dm,fl,E.length+3,E.length+4,E.length+2,λf=>E[f]?⟩ k (g++[TO.row [.p true (E.length+3) 0] 0])).pv=E.length+3:=rfl;simp only [b6] at t;simp;refine CL.o t λr h ⟨q3,c3,m,q4,⟨A',c⟩,q6⟩=>?_;subst q3;simp;have w:=c.fo _ _ (s7 K nb);have z:=λf o a=>by have:=v.fo f o a;exact c.fo f o (s7 this.1 this.2)
 refine M h ⟨X,room,dm,fl,E.length+3,E.length+4,E.length+2,λ_=>none⟩ g.length m A' ⟨rfl,rfl,rfl,rfl,rfl,q4,q6,⟨⟨c3,c.vr,c.ij,c.lf,c.iv,c.ih,c.ie,c.fr,λf o l=>by cases l⟩,w.1,w.2⟩,b2,λr j=>?_,λf o a=>(z f o a).1⟩;rcases zX (A'.id r) E.length with a|a;exact absurd rfl ((z _ _ (zA a)).2 r j);exact a
end
end T
namespace T
open Go V Q
variable {a b c d e f g:Nat} {u v w:Value} {i j k:Int} {t:TypeId} {p:List Value} {q:Bool} {n:IntKind} {x y z:TV} {r s:List TO} {o:List TV}
@[simp] def EI (f:Fm):ao:=[I f.fn,I f.ai,.sl false (f.ah.map aw)]
theorem frZ (L:List Fm):cS 0 3 (L.map EI):=bD (λx=>rfl) L
def Vm.fr (V:Vm):List Fm:=if V.over=true then [] else V.ab
def Vm.st (V:Vm):ao:=[I V.time,.sl false (V.fr.map EI),.sl false (V.H.aD.map sf),I V.H.cells,.v (.string ⟨V.out.toArray⟩),I V.F.read,I V.F.drawn]
@[simp] theorem a1K (b:aU):uZ (.v (.string b)) (.v (.string b)):=by simp [uZ,nV,kx]
section
variable {J:ME} {D:Nat->Nat} {s h:ae} {V V':Vm} {A E:Lay} {X:Sg} {fl room dm:Nat} {n:Int}
theorem byB (L:List UInt8):cO (L.map pR)=some L:=by
 induction L with
 | nil=>rfl
 | cons a L b=>simp [cO,b]
theorem GR (K:List Fm) (x:Fm) {fl:Nat} {l s:ae} {o:Bool} (h:K.length<=1000000):cq false 3 40 0 fl (.sl true (K.map EI)) (.sl o [EI x]) l s=some (.sl true ((K++[x]).map EI),l,s):=by have:=dP (fl:=fl) (l:=l) (s:=s) (o:=o) (b:=40) frZ O O K [x] W;simpa using this
theorem MD.ah (d:MD J D s V A) {f:Fm} (i:V.ab[a]? =some f) (n:f.ah.length<=99000000000):∃sv c,s[D a]? =some (.row (f.cells sv c) 0)/\aW (dA (bw sv))/\EN prog 25 [dA (bw sv)] s fl λr h=>r= .sl false (f.ah.map aw)/\h=s:=by have e:=d.vr.fr a f i;obtain ⟨sv,c,g,k,m⟩:=e.row;rw [d.fr a (aa i)] at g;refine ⟨sv,c,g,?_⟩;rcases k with ⟨j,rfl⟩|⟨j,l,o,rfl⟩;refine ⟨rfl,PL ?_ O⟩;show aO [] s (.m true (A.id (kf a)) (A.az (kf a)) 0 f.ah.length 4)=_;rw [fX];by_cases b:f.ah.length=0;rw [zO b,zL b];rfl;rw [zN b,e.sl j,iU,zO ⟨rfl,rfl,Z⟩];rw [wN,yE Z];have:=zL l;rw [this];exact ⟨rfl,PL rfl Z⟩
theorem m21 (M:V.over=false->∀f∈V.ab,f.ah.length<=99000000000) (d:MD J D s V A):EN prog 21 [.p true J.pv 0] s fl λr h=>r= .ag V.st/\h=s:=by
 have j:=m41 (fl:=s.length) d.vr.hp;have l:=m42 (fl:=s.length) d.vr.hp;have m:=m43 (fl:=s.length) d.vr.fd;have ⟨v1,n,zv,g,o,v4⟩:=d.vr.vm;simp only [Vm.cells,d.iv,d.ih,d.ie] at g;rw [d.ih] at j l;rw [d.ie] at m;apply EN.o e21;simp [b21,g,yk,byB];cases e:V.over with
 | true=>simp [CL.q j,CL.q l,g,yk,byB,CL.q m,e,yu,Vm.st,Vm.fr]
 | false=>
  simp [CL.q j,CL.q l,g,yk,byB,CL.q m,e];have F:∀x:ae,eP prog 78 n x s=some (I (V.ab.length:Nat))/\eP prog 78 (bw n) x s=some (I (V.ab.length:Nat)):=λx=>o.eP qa;have c4:=yN d.vr.nf d.vr.lm;simp [F];have b2:=LP.ind (P:=prog) (fl:=s.length) (r:=RT false s λr h=>r=TV.ag V.st/\h=s) (lv:=[2,3,44,45,46]) (b:=λk=>a5 (ya k)) (λi:Nat=>V.ab.length-i) (λi=>i<=V.ab.length) (λi=>[.p false 0 0,.p false 1 0,bw n,I V.ab.length,I i])
   (λi=>[.row [I 0,N0,N0,I 0,S [],I 0,I 0] 0,.row [I V.time,.sl true ((V.ab.take i).map EI),.sl false (V.H.aD.map sf),I V.H.cells,.v (.string ⟨V.out.toArray⟩),I V.F.read,I V.F.drawn] 0]) (λ_=>s) 2 (λi _=>⟨rfl,rfl,by rcases o with ⟨_,rfl⟩|⟨_,_,rfl⟩ <;> rfl⟩) (λi hi k E=>?_) 0 (zZ _)
  exact b2;obtain ⟨K,a⟩:∃K,K=V.ab.take i:=⟨_,rfl⟩;have y:K.length<=1000000:=by simp [a];omega
  rw [<-a];simp [ya];refine ST.dc (λH=>?_) λc2=>?_;have c:=zA O;generalize V.ab[i]'O=f at c;have ⟨sv,kv,p,v,t⟩:=d.ah (fl:=s.length) c (M e f (zI c));have q:=λfl b6 b1 s=>GR (fl:=fl) (l:=b1) (s:=s) (o:=b6) K f y;have wi:i64.wrap ((i:Int)+1)=((i+1:Nat):Int):=by rw [bW O O];omega
  simp only [Fm.cells] at p;simp at q;rcases o with ⟨al,rfl⟩|⟨al,c3,rfl⟩;have ⟨X,C⟩:=d.vr.fs al;have R:(oQ A V.ab.length++X)[i]? =some [.p true (D i) 0]:=by rw [zB (by simp [oQ];omega)];unfold oQ;rw [zK,xQ O,<-d.fr i O];rfl
  have L:bO [dA (bw sv)]:=by simp [bO,v]
  simp [H,C,R,p,CL.eq t L,q,wi];refine E (i+1) _ _ _ rfl ?_ rfl O O;have N:V.ab.take (i+1)=K++[f]:=by rw [xJ,c,a];rfl
  simp [N];omega;have z:i=V.ab.length:=by omega
  simp [yu];have w:K=V.ab:=by rw [a,z,wO]
  simp [Vm.st,Vm.fr,e,w]
@[simp] def HZ (f:Fm):ao:=[I f.fn,I f.pc,I f.ai,.sl false (f.ah.map aw),.sl false (f.stack.map aw)]
theorem coZ (L:List Fm):cS 0 5 (L.map HZ):=bD (λx=>rfl) L
def Vm.du (V:Vm):ao:=[I V.time,.sl false (V.fr.map HZ),.sl false (V.H.aD.map sf),I V.H.cells,.v (.string ⟨V.out.toArray⟩),I V.F.read,I V.F.drawn]
theorem GU (K:List Fm) (x:Fm) {fl:Nat} {l s:ae} {o:Bool} (h:K.length<=1000000):cq false 5 72 0 fl (.sl true (K.map HZ)) (.sl o [HZ x]) l s=some (.sl true ((K++[x]).map HZ),l,s):=by have:=dP (fl:=fl) (l:=l) (s:=s) (o:=o) (b:=72) coZ O O K [x] W;simpa using this
theorem MD.stack (d:MD J D s V A) {f:Fm} (i:V.ab[a]? =some f):∃sv b,s[D a]? =some (.row (f.cells sv b) 0)/\aW (dA (bw b))/\EN prog 25 [dA (bw b)] s fl λr h=>r= .sl false (f.stack.map aw)/\h=s:=by have c:=d.vr.fr a f i;have o:=c.kl;obtain ⟨sv,b,g,n,k⟩:=c.row;rw [d.fr a (aa i)] at g;refine ⟨sv,b,g,?_⟩;rcases k with ⟨j,rfl⟩|⟨j,m,rfl⟩;refine ⟨rfl,PL ?_ O⟩;show aO [] s (.m true (A.id (dJ a)) (A.az (dJ a)) 0 f.stack.length 4)=_;rw [fX];by_cases e:f.stack.length=0;rw [zO e,zL e];rfl;obtain ⟨p,l⟩:=c.sk j;rw [zN e,l,iU,zO ⟨rfl,rfl,Z⟩,wN,xT Z,yE Z];have:=zL m;rw [this];exact ⟨rfl,PL rfl Z⟩
theorem m13 (b6:V.over=false->∀f∈V.ab,f.ah.length<=99000000000) (C:MB J a s V A):EN prog 13 [.p true a 0] s fl λr h=>r= .ag V.du/\h=s:=by
 have ⟨⟨D,d⟩,p,h3⟩:=C;have c:=m21 (fl:=s.length) b6 d;have ⟨v1,fv,zv,x,v3,v4⟩:=d.vr.vm;simp only [Vm.cells,d.iv,d.ih,d.ie] at x;apply EN.o NV;simp only [Vm.st] at c;obtain ⟨e,l⟩:∃F,F=V.fr:=⟨_,rfl⟩;have q:e.length<=1000000/\(V.over=true->e=[])/\(V.over=false->e=V.ab):=by have c9:=yN d.vr.nf d.vr.lm;rw [l];unfold Vm.fr;cases V.over <;> simp;omega
 rw [<-l] at c;simp [b13,cw so,p,CL.q c];have c4:=LP.ind (P:=prog) (fl:=s.length) (r:=RT false s λr h=>r=TV.ag V.du/\h=s) (lv:=[0,2,4,30,31,32]) (b:=λk=>a6 (yc k)) (λi:Nat=>e.length-i) (λi=>i<=e.length) (λi=>[.p true a 0,.p false 0 0,.p false 2 0,.sl false (e.map EI),I e.length,I i])
  (λi=>[.row [I 0,N0,N0,I 0,S [],I 0,I 0] 0,.row [I V.time,.sl false (e.map EI),.sl false (V.H.aD.map sf),I V.H.cells,.v (.string ⟨V.out.toArray⟩),I V.F.read,I V.F.drawn] 0,.row [I V.time,.sl true ((e.take i).map HZ),.sl false (V.H.aD.map sf),I V.H.cells,.v (.string ⟨V.out.toArray⟩),I V.F.read,I V.F.drawn] 0]) (λ_=>s) 3 (λi _=>⟨rfl,rfl,rfl⟩) (λi hi k X=>?_) 0 (zZ _)
 exact c4;obtain ⟨K,g⟩:∃K,K=e.take i:=⟨_,rfl⟩;have L:K.length<=1000000:=by simp [g];omega
 rw [<-g];obtain ⟨m,n⟩:∃m,e.length=m:=⟨_,rfl⟩;simp [yc,n];refine ST.dc (λc7=>?_) λc6=>?_;have b2:V.over=false:=by
  cases ho:V.over with
  | false=>rfl
  | true=>have:=q.2.1 ho;rw [this] at n;simp at n;omega
 have E:=q.2.2 b2;have j:=zA (l:=e) (i:=i) O;generalize e[i]'O=f at j;have t:=E▸j;have v:=aa t;have ⟨sv,kv,o,z,y⟩:=d.stack (fl:=s.length) t;have w:=λfl c5 c3 s=>GU (fl:=fl) (l:=c3) (s:=s) (o:=c5) K f L;have wi:i64.wrap ((i:Int)+1)=((i+1:Nat):Int):=by rw [bW O O];omega
 have b1:bO [dA (bw kv)]:=by simp [bO,z]
 simp only [Fm.cells] at o;simp at w;rcases v3 with ⟨al,rfl⟩|⟨al,c8,rfl⟩;have ⟨js,R⟩:=d.vr.fs al;have hx:(oQ A V.ab.length++js)[i]? =some [.p true (D i) 0]:=by rw [zB (by simp [oQ];omega)];unfold oQ;rw [zK,xQ v,<-d.fr i v];rfl
 have N:(i:Int)<V.ab.length:=O;simp [j,p,x,N,R,hx,o,CL.eq y b1,w,wi];refine X (i+1) _ _ _ ?_ ?_ rfl O O;rfl;have c2:e.take (i+1)=K++[f]:=by rw [xJ,j,g];rfl
 simp [c2];omega;have M:i=e.length:=by omega
 simp [Jt];have H:K=e:=by rw [g,M,wO]
 simp [Vm.du,H,l]
theorem m10 (g:V.over=false->∀f∈V.ab,f.ah.length<=99000000000) (b:MB J a s V A):EN prog 10 [.p true a 0] s fl λr h=>r= .ag V.st/\h=s:=by have ⟨⟨D,d⟩,e,i⟩:=b;have c:=m21 (fl:=s.length) g d;apply EN.o FQ;simp only [Vm.st] at c;simp [b10,cw so,e,CL.q c,Vm.st]
end
section
variable {J:ae} {V:Vm}
theorem m24 (L:List Vl) (g:L.length<=1000000000000):EP prog 24 [.sl false (L.map aw),.sl false (L.map aw)] (· =B true):=by
 refine EP.o e24 λJ Q c=>?_;obtain ⟨m,e⟩:∃m,L.length=m:=⟨_,rfl⟩;simp [b24,e];refine LP.ind (λi:Nat=>m-i) (λi=>i<=m) (λi=>[.sl false (L.map aw),.sl false (L.map aw),I m,I i]) (λ_=>[]) (λ_=>J) 0 (λ_ _=>⟨rfl,rfl,rfl⟩) (λi j k d=>?_) 0 (zZ _);simp [Cq];refine ST.dc (λn=>?_) λh=>?_;have a:=zA (l:=L) (i:=i) O;generalize L[i]'O=x at a;have f:i64.wrap ((i:Int)+1)=((i+1:Nat):Int):=by rw [bW O O];omega
 have b:=GH x.k x.n x.re x.im x.k x.n x.re x.im;simp at b;simp [a,b,f];exact d (i+1) _ _ _ rfl rfl rfl O O;simp [Jp];exact c _ rfl
theorem m44 (L:List Ob) (h:L.length<=1000000000) (f:∀o∈L,o.bA.length<=1000000000):EP prog 44 [.sl false (L.map sf),.sl false (L.map sf)] (· =B true):=by
 refine EP.o e44 λJ Q b=>?_;obtain ⟨m,e⟩:∃m,L.length=m:=⟨_,rfl⟩;simp [b44,e];refine LP.ind (λi:Nat=>m-i) (λi=>i<=m) (λi=>[.sl false (L.map sf),.sl false (L.map sf),I m,I i]) (λ_=>[]) (λ_=>J) 0 (λ_ _=>⟨rfl,rfl,rfl⟩) (λi n k d=>?_) 0 (zZ _);simp [Ck];refine ST.dc (λp=>?_) λj=>?_;have a:=zA (l:=L) (i:=i) O;generalize L[i]'O=x at a;have g:i64.wrap ((i:Int)+1)=((i+1:Nat):Int):=by rw [bW O O];omega
 have c:=m24 x.bA (Zo (f x (zI a)));simp [a,CP.q c,g];exact d (i+1) _ _ _ rfl rfl rfl O O;simp [Jk];exact b _ rfl
structure VB (V:Vm):Prop where
 fr:V.fr.length<=100000000
 sl:∀f∈V.fr,f.ah.length<=99000000000
 sk:∀f∈V.fr,f.stack.length<=1000000000000
 ob:V.H.aD.length<=1000000000
 ov:∀o∈V.H.aD,o.bA.length<=1000000000
theorem m22 (a:VB V):EP prog 22 [.ag V.st,.ag V.st] (· =B true):=by
 refine EP.o e22 λJ Q j=>?_;have g:=a.fr;have f:=m44 V.H.aD a.ob a.ov;have e:=a.sl;obtain ⟨F,h⟩:∃F,F=V.fr:=⟨_,rfl⟩;simp only [Vm.st,<-h] at g e ⊢;obtain ⟨m,o⟩:∃m,F.length=m:=⟨_,rfl⟩;simp [b22,o];have p:=LP.ind (P:=prog) (fl:=J.length) (r:=RP Q J) (lv:=[2,3,50,51]) (b:=λk=>a4 (y9 k)) (λi:Nat=>m-i) (λi=>i<=m) (λi=>[.p false 0 0,.p false 1 0,I m,I i]) (λ_=>[.row [I V.time,.sl false (F.map EI),.sl false (V.H.aD.map sf),I V.H.cells,.v (.string ⟨V.out.toArray⟩),I V.F.read,I V.F.drawn] 0,.row [I V.time,.sl false (F.map EI),.sl false (V.H.aD.map sf),I V.H.cells,.v (.string ⟨V.out.toArray⟩),I V.F.read,I V.F.drawn] 0]) (λ_=>J) 2 (λ_ _=>⟨rfl,rfl,rfl⟩) (λi t k n=>?_) 0 (zZ _);exact p;simp [y9];refine ST.dc (λv=>?_) λs=>?_;have d:=zA (l:=F) (i:=i) O;generalize F[i]'O=x at d;have q:i64.wrap ((i:Int)+1)=((i+1:Nat):Int):=by rw [bW O O];omega
 have c:=m24 x.ah (Zo (e x (zI d)));simp [d,CP.q c,q];exact n (i+1) _ _ _ rfl rfl rfl O O;simp [Jr,CP.q f];exact j _ rfl
theorem m23 (g:VB V):EP prog 23 [.ag V.du] (· = .ag V.st):=by
 refine EP.o e23 λJ Q d=>?_;have h:=g.fr;obtain ⟨F,j⟩:∃F,F=V.fr:=⟨_,rfl⟩;simp only [Vm.du,Vm.st,<-j] at h d ⊢;obtain ⟨m,q⟩:∃m,F.length=m:=⟨_,rfl⟩;simp [b23,q];have t:=LP.ind (P:=prog) (fl:=J.length) (r:=RP Q J) (lv:=[1,2,3,20,21]) (b:=λk=>a5 (y8 k)) (λi:Nat=>m-i) (λi=>i<=m) (λi=>[.p false 0 0,.p false 1 0,.p false 2 0,I m,I i]) (λi=>[.row [I V.time,.sl false (F.map HZ),.sl false (V.H.aD.map sf),I V.H.cells,.v (.string ⟨V.out.toArray⟩),I V.F.read,I V.F.drawn] 0,.row [I 0,N0,N0,I 0,S [],I 0,I 0] 0,.row [I V.time,.sl true ((F.take i).map EI),.sl false (V.H.aD.map sf),I V.H.cells,.v (.string ⟨V.out.toArray⟩),I V.F.read,I V.F.drawn] 0]) (λ_=>J) 3 (λ_ _=>⟨rfl,rfl,rfl⟩) (λi z k p=>?_) 0 (zZ _);exact t;obtain ⟨K,a⟩:∃K,K=F.take i:=⟨_,rfl⟩;have w:K.length<=100000000:=by simp [a];omega
 rw [<-a];simp [y8];refine ST.dc (λA=>?_) λy=>?_;have c:=zA (l:=F) (i:=i) O;generalize F[i]'O=x at c;have v:i64.wrap ((i:Int)+1)=((i+1:Nat):Int):=by rw [bW O O];omega
 have e:=λf o l J=>dP (fl:=f) (l:=l) (s:=J) (o:=o) (b:=40) frZ O O K [x] W;simp at e;simp [c,e,v];refine p (i+1) _ _ _ rfl ?_ rfl O O;have s:F.take (i+1)=K++[x]:=by rw [xJ,c,a];rfl
 simp [s];simp [Jq];have n:K=F:=by rw [a,show i=F.length by omega,wO]
 rw [n];exact d _ rfl
theorem m12 (a:VB V):EP prog 12 [.ag V.du,.ag V.du] (· =B true):=by
 refine EP.o Mm λJ Q n=>?_;have f:=m23 a;have e:=m22 a;have h:=a.fr;have g:=a.sk;obtain ⟨F,j⟩:∃F,F=V.fr:=⟨_,rfl⟩;simp only [Vm.du,Vm.st,<-j] at h g f e ⊢;obtain ⟨m,p⟩:∃m,F.length=m:=⟨_,rfl⟩;simp [b12,CP.q f,CP.q e,p];have q:=LP.ind (P:=prog) (fl:=J.length) (r:=RP Q J) (lv:=[2,3,14,15]) (b:=λk=>a4 (yd k)) (λi:Nat=>m-i) (λi=>i<=m) (λi=>[.p false 0 0,.p false 1 0,I m,I i]) (λ_=>[.row [I V.time,.sl false (F.map HZ),.sl false (V.H.aD.map sf),I V.H.cells,.v (.string ⟨V.out.toArray⟩),I V.F.read,I V.F.drawn] 0,.row [I V.time,.sl false (F.map HZ),.sl false (V.H.aD.map sf),I V.H.cells,.v (.string ⟨V.out.toArray⟩),I V.F.read,I V.F.drawn] 0]) (λ_=>J) 2 (λ_ _=>⟨rfl,rfl,rfl⟩) (λi v k o=>?_) 0 (zZ _);exact q;simp [yd];refine ST.dc (λw=>?_) λt=>?_;have d:=zA (l:=F) (i:=i) O;generalize F[i]'O=x at d;have s:i64.wrap ((i:Int)+1)=((i+1:Nat):Int):=by rw [bW O O];omega
 have c:=m24 x.stack (g x (zI d));simp [d,CP.q c,s];exact o (i+1) _ _ _ rfl rfl rfl O O;simp [Ju];exact n _ rfl
end
theorem m15 (l m:List Int) (f h k:Int):∃b:Bool,EP prog 15 [.ag [.sl false (l.map bt),.sl false (m.map bt),I f,I h,I k]] (· =B b)/\(b=true->0<=f/\f<=1048576/\0<=h/\h<=65536/\1<=k/\k<=1000):=by by_cases c:0<=f;rotate_left;refine ⟨false,EP.o zj λs Q a=>?_,λh=>by cases h⟩;simp [JQ,zC c];exact a _ rfl;by_cases d:f<=1048576;rotate_left;refine ⟨false,EP.o zj λs Q a=>?_,λh=>by cases h⟩;simp [JQ,zM c,zC d];exact a _ rfl;by_cases e:0<=h;rotate_left;refine ⟨false,EP.o zj λs Q a=>?_,λh=>by cases h⟩;simp [JQ,zM c,zM d,zC e];exact a _ rfl;by_cases g:h<=65536;rotate_left;refine ⟨false,EP.o zj λs Q a=>?_,λh=>by cases h⟩;simp [JQ,zM c,zM d,zM e,zC g];exact a _ rfl;by_cases i:1<=k;rotate_left;refine ⟨false,EP.o zj λs Q a=>?_,λh=>by cases h⟩;simp [JQ,zM c,zM d,zM e,zM g,zC i];exact a _ rfl;by_cases j:k<=1000;rotate_left;refine ⟨false,EP.o zj λs Q a=>?_,λh=>by cases h⟩;simp [JQ,zM c,zM d,zM e,zM g,zM i,zC j];exact a _ rfl;refine ⟨true,EP.o zj λs Q a=>?_,λ_=>⟨c,d,e,g,i,j⟩⟩;simp [JQ,zM c,zM d,zM e,zM g,zM i,zM j];exact a _ rfl
theorem m5 (i j:List Int) (f h k:Int):∃b:Bool,EP prog 5 [.ag [.sl false (i.map bt),.sl false (j.map bt),I f,I h,I k]] (· =B b)/\(b=true->0<=f/\f<=400/\0<=h/\h<=400/\1<=k/\k<=1000/\i.length<=100/\j.length<=100):=by
 have ⟨b,c,g⟩:=m15 i j f h k;cases b with
 | false=>refine ⟨false,EP.o e5 λs Q a=>?_,λh=>by cases h⟩;simp [b5,CP.q c];exact a _ rfl
 | true=>by_cases d:f<=400;rotate_left;refine ⟨false,EP.o e5 λs Q a=>?_,λh=>by cases h⟩;simp [b5,CP.q c,zC d];exact a _ rfl;by_cases e:h<=400;rotate_left;refine ⟨false,EP.o e5 λs Q a=>?_,λh=>by cases h⟩;simp [b5,CP.q c,zM d,zC e];exact a _ rfl;by_cases l:(i.length:Int)<=100;rotate_left;refine ⟨false,EP.o e5 λs Q a=>?_,λh=>by cases h⟩;simp [b5,CP.q c,zM d,zM e,zC l];exact a _ rfl;by_cases m:(j.length:Int)<=100;rotate_left;refine ⟨false,EP.o e5 λs Q a=>?_,λh=>by cases h⟩;simp [b5,CP.q c,zM d,zM e,zM l,zC m];exact a _ rfl;refine ⟨true,EP.o e5 λs Q a=>?_,λ_=>⟨(g rfl).1,d,(g rfl).2.2.1,e,(g rfl).2.2.2.2.1,(g rfl).2.2.2.2.2,O,O⟩⟩;simp [b5,CP.q c,zM d,zM e,zM l,zM m];exact a _ rfl
theorem m9 (a b:List UInt8) (h:a<+:b):EP prog 9 [.v (.string ⟨a.toArray⟩),.v (.string ⟨b.toArray⟩)] (· =B true):=by
 refine EP.o e9 λs Q e=>?_;have j:=h.length_le;have i:(⟨a.toArray⟩:aU).size=a.length:=by simp [ByteArray.size]
 have c:(⟨b.toArray⟩:aU).size=b.length:=by simp [ByteArray.size]
 have f:(a.length:Int)<=b.length:=O;have d:=λl s=>IB (k':=.i64) (hi:=(a.length:Int)) (l:=l) (s:=s) O (by rw [c];omega);have g:(⟨b.toArray⟩:aU).extract 0 a.length=⟨a.toArray⟩:=by apply ByteArray.ext;rw [ByteArray.data_extract];apply Array.ext';rw [Array.toList_extract,wC];simp;exact (List.prefix_iff_eq_take.1 h).symm
 simp at d;simp [b9,i,c,zM f,d,g];exact e _ rfl
section
variable {J h:ae} {X:Sg} {V E D:Vm} {e:ME} {mb:Nat} {A:Lay} {n:Int} {room dm fl:Nat}
theorem FG.sl (c:uf X) {f:Fm} {b:Nat} (h:FG X f b):f.ah.length<=99000000000:=by
 obtain ⟨r,a0,C,D,a,t,v,w,x,y,z,A,E,i⟩:=h;obtain ⟨s,a1,k,g,l,m,p,e,n,e3,e4,e5,q,e7,e8,FQ,BL,Mm,NV,NU,zj⟩:=c.fns _ a;have j:aN X.S.fn f.fn=g:=by have:=getD_some (d:=(⟨dn,0,0,0,0,0,0,0⟩:Fn)) a;rw [e] at this;exact (yD this).symm
 have:=c.sb;rw [i];simp only [fS];rw [j,BL];omega
theorem VI.ah (b:uf X) (h:V.over\/VI X V):V.over=false->∀f∈V.ab,f.ah.length<=99000000000:=λk f d=>by
 have a:=h.resolve_left (by rw [k];simp);obtain ⟨i,g,e⟩:=yA d;have c:V.ab[i]? =some f:=by rw [zA g,e]
 by_cases j:i+1<V.ab.length;exact (a.low i f _ c (zA j)).sl b;exact (a.top i f ⟨O,c⟩).sl b
theorem MB.vb (j:uf X) (h:V.over\/VI X V) (g:MB e mb J V A):VB V:=by obtain ⟨⟨q,d⟩,_,_⟩:=g;have p:=yN d.vr.nf d.vr.lm;have n:=VI.ah j h;refine ⟨?_,?_,?_,by have:=d.vr.hp.len;omega,λo l=>?_⟩;unfold Vm.fr;split;simp;omega;unfold Vm.fr;split;intro f a;cases a;rename_i c;exact n (Zs c);unfold Vm.fr;split;intro f a;cases a;intro f a;obtain ⟨i,b,k⟩:=yA a;exact (d.vr.fr i f (by rw [zA b,k])).kl;obtain ⟨i,b,m⟩:=yA l;have:=d.vr.hp.K5 (by rw [zA b,m]);omega
theorem MB.ext (a:MB e mb J V A) (j:e.Fo=λ_=>none) (c:∀(b:Nat) (o:TO),J[b]? =some o->h[b]? =some o):MB e mb h V A:=by obtain ⟨⟨l,d⟩,g,i⟩:=a;refine ⟨⟨l,d.move (λr k=>?_) λb o a=>by rw [j] at a;cases a⟩,c _ _ g,i⟩;have f:=zA (d.ij.lt r k);rw [f];exact c _ _ f
theorem KS (c:∀(b:Nat) (o:TO),J[b]? =some o->h[b]? =some o):J.length<=h.length:=by rcases zX h.length J.length with a|a;have:=aa (c _ _ (zA a));omega;exact a
theorem a0w (q:EP prog 6 [] (· =B true)) (L:kB) (d2:aU) (P R:List Int) (f a k:Int) (i j:Nat) (hc:i<=255) (g4:j<=255)
  (hX:∀(N:List Nd) (S:SS) (K:aA) (M:List Mk),O1 N K S M->P.length<=100->R.length<=100->∀z:Nat,z<=400->∃(X:Sg) (n:Int),X.N=N/\X.S=SM S M/\X.w1=P/\X.w2=R/\X.fuel=z/\uf X/\JU X/\NW X n):
  EP prog 3 [.v (.string d2),.ag [.sl false (P.map bt),.sl false (R.map bt),I f,I a,I k],U i,U j] (· =B true):=by
 refine EP.o e3 λJ Q hQ=>?_;have s:=hQ _ rfl;have ⟨b5,c5,w⟩:=m5 P R f a k;simp [b3];apply CP.o (m4 d2);intro g6 x;rcases x with x|⟨N,S,K,M,x,hC⟩;subst x;simp [CP.q q];exact s;subst x;cases b5 with
 | false=>simp [CP.q c5,CP.q q];exact s
 | true=>
  have ⟨f0,f1,r0,r1,k0,k1,l1,l2⟩:=w rfl;obtain ⟨z,rfl⟩:∃n:Nat,f=n:=⟨f.toNat,O⟩;obtain ⟨room,rfl⟩:∃n:Nat,a=n:=⟨a.toNat,O⟩;obtain ⟨dm,rfl⟩:∃n:Nat,k=n:=⟨k.toNat,O⟩;have ⟨X,n,e1,e2,e3,e4,e5,m,D,hN⟩:=hX N S K M hC l1 l2 z O;have d6:i64.wrap ((room:Int)+i)=((room+i:Nat):Int):=by rw [bW O O];omega
  have d5:min (i64.wrap ((dm:Int)+j)) 1000=((min (dm+j) 1000:Nat):Int):=by rw [bW O O];omega
  obtain ⟨g2,f6⟩:∃r,r=room+i:=⟨_,rfl⟩;obtain ⟨f8,f4⟩:∃r,r=min (dm+j) 1000:=⟨_,rfl⟩;rw [<-f6] at d6;rw [<-f4] at d5;simp [CP.q c5];have v:=m7 m L D hN O O O (zE _) (Q:=λr h=>∃e mb E A,r= .tu [.p true mb 0,I 0]/\NM X n room dm J.length J h e mb E A) λh e mb E A a=>⟨e,mb,E,A,rfl,a⟩;simp only [SS.q,Sg.w,e1,e2,e3,e4,e5,SM] at v;refine CL.o v λr s1 ⟨ea,ma,Ea,Aa,o,d⟩=>?_;subst o;have f3:=KS d.NP;have v:=m7 m L D hN O O O f3 (Q:=λr h=>∃e mb E A,r= .tu [.p true mb 0,I 0]/\NM X n g2 f8 J.length s1 h e mb E A) λh e mb E A a=>⟨e,mb,E,A,rfl,a⟩;simp only [SS.q,Sg.w,e1,e2,e3,e4,e5,SM] at v;have wc:i64.wrap (i:Int)=i:=bW O O;have wf:i64.wrap (j:Int)=j:=bW O O;simp [wc,wf,d6,d5];refine CL.o v λr s2 ⟨eb,mb,Eb,Ab,o,c⟩=>?_;subst o;simp [cw so];have ba:=d.bx.ext d.fo c.NP;have ca:=m8 m L D d.x ba d.fo d.vi;rw [d.fl] at ca;refine CL.o ca λr s3 ⟨b,d1,ra,va,o,d8,oa⟩=>?_;subst o;have c8:∀r,Aa.al r->Aa.id r<s1.length:=by have ⟨⟨pf,c6⟩,_,_⟩:=d.bx;exact c6.ij.lt
  have g5:=aa d.bx.bx;have bb:=c.bx.move oa (λr p a C e=>by have:=c.la r a;have:=c8 p C;omega) (λr a e=>by have:=c.lb;have:=c8 r a;omega) λid f9 a=>by rw [c.fo] at a;cases a
  have cb:=m8 m L D c.x bb c.fo c.vi;rw [c.fl] at cb;simp;refine CL.o cb λr s4 ⟨t,g3,rb,vb,o,b1,ob⟩=>?_;subst o;have d9:∀r p,d1.al r->Ab.al p->Ab.id p≠d1.id r:=λr p a C e=>by have ⟨⟨pf,c6⟩,_,_⟩:=c.bx;have hx:=zA (c6.ij.lt p C);exact (oa _ _ hx λg1 e6 e'=>by have:=c.la p C;have:=c8 g1 e6;omega).2 r a e.symm
  have y:=d8.move ob d9 (λr a e=>by have:=c.la r a;omega) λid f9 a=>by rw [d.fo] at a;cases a
  have d7:Rel b t:=by have h0:=d.run.rel c.run O O;rw [d.rm,d.lm] at ra;rw [c.rm,c.lm] at rb;exact pU.YI h0 ra rb O O
  have sa:=VI.ah m va;have sb:=VI.ah m vb;have b6:=m10 (fl:=J.length) sa y;have c3:=m10 (fl:=J.length) sb b1;have d3:=m11 (fl:=J.length) y;have d4:=m11 (fl:=J.length) b1;have c2:=m13 (fl:=J.length) sa y;have c4:=m13 (fl:=J.length) sb b1;by_cases F:b.ok=2/\(b.ot=4\/b.ot=5);have f5:b.out<+:t.out/\b.time<=t.time:=by rcases d7 with a|⟨_,_,_,l,w⟩;rw [a];exact ⟨bC _,zE _⟩;exact ⟨l,w⟩
  have c9:=m9 _ _ f5.1;have ht:(b.time:Int)<=t.time:=O;simp only [Vm.st] at b6 c3;rcases F with ⟨g,l|l⟩;simp [g,l,CL.q b6,CL.q c3,CP.q c9,CL.q d3,CL.q d4,zM ht,CP.q q];exact s;simp [g,l,CL.q b6,CL.q c3,CP.q c9,CL.q d3,CL.q d4,zM ht,CP.q q];exact s;have f2:b=t:=by rcases d7 with a|⟨_,g,h3,_⟩;exact a;exact absurd ⟨g,h3⟩ F
  subst f2;have f7:=MB.vb m va y;have b2:=m12 f7;have H:=GJ b.ok b.ot b.ol b.ok b.ot b.ol;simp at H;simp only [Vm.du] at c2 c4 b2;by_cases g:b.ok=2;have l:=λa=>F ⟨g,.inl a⟩;have w:=λa=>F ⟨g,.inr a⟩;rw [g] at H;simp [g,zC l,zC w,H,CL.q c2,CL.q c4,CP.q b2,CP.q q];exact s;simp [zC g,H,CL.q c2,CL.q c4,CP.q b2,CP.q q];exact s
end
section
variable {N:List Nd} {K:aA} {S:SS} {M:List Mk} {D E:List Int} {J:Nat}
theorem xok (f:O1 N K S M) (l1:D.length<=100) (l2:E.length<=100) (hv:∀x∈D,-9223372036854775808<=x) (hf:J<=400):∃(X:Sg) (n:Int),X.N=N/\X.S=SM S M/\X.w1=D/\X.w2=E/\X.fuel=J/\uf X/\NW X n:=by
 have ⟨g,p,C⟩:=m19 f;have a:=f.res;have hN:=f.wt.mP;have c6:K.length<=N.length:=by have:=lM a.ks a.kn K.length (zE _);rwa [iF (zE _)] at this
 have hT:=a.tl;have h6:=a.tg.H7;have R:∀t:{t:Nat//t<S.ty.length},∃z:Vl,EP prog 32 [.sl false (S.ty.map dN),I t.1] (· = .ag (aw z)):=λt=>m32 S.ty hT a.tg t.1 t.2;have ⟨w,b6⟩:=Classical.axiomOfChoice R;obtain ⟨b,v⟩:∃b:List Vl,b=(List.range S.ty.length).map λt=>if h:t<S.ty.length then w ⟨t,h⟩ else vz:=⟨_,rfl⟩
 have c2:b.length=S.ty.length:=by rw [v];simp
 have k:∀t,(h:t<S.ty.length)->b[t]? =some (w ⟨t,h⟩):=λt h=>by rw [v,zK,xQ h];simp only [zH,dif_pos h]
 have ⟨n,hn,F⟩:=m33 S.fn (by rw [a.fl];omega);refine ⟨⟨N,SM S M,g,D,E,J,b⟩,n,rfl,rfl,rfl,rfl,rfl,⟨λi q=>?_,λx j=>?_,a.bl.1,λx j=>?_,by have:=a.fx;show S.fd.length<=_;omega,a.rc,c2,by have:=p.all;show g.ins.length<=_;omega,hf⟩,⟨by show 0<b.length;omega,by show b.length<=_;omega,by show D.length<=_;omega,by show E.length<=_;omega,hv,by show S.fn.length<=_;rw [a.fl];omega,λt z e=>?_,hn,F,C⟩⟩;have r:i<K.length:=by rw [<-a.fl];exact q
 have ⟨y,l,A,H,L,P,c⟩:=p.fc i r;have ⟨ps,t,c5,f1,f2,o,f4,f5,f6,f7,f8,f9⟩:=a.fg i r;have b2:S.fn[i]? =some (aN S.fn i):=getD_some q _;obtain ⟨d,b1⟩:∃d:Nat,(aN S.fn i).at_=d:=⟨(aN S.fn i).at_.toNat,O⟩;obtain ⟨m,hm⟩:∃m:Nat,(aN S.fn i).ah=m:=⟨(aN S.fn i).ah.toNat,O⟩;refine ⟨_,A,y++[(⟨26,0,l⟩:IN)],aN S.fn i,d,m,ps.length,b2,H,rfl,Z,L,P,⟨l,Z⟩,?_,b1,hm,o,o,O,by show d+m<=S.sl.length;omega⟩;rcases c with c|⟨c3,c4,c,h5⟩;subst c;exact ⟨_,rfl,.inr rfl⟩;subst c;exact ⟨c3,rfl,.inl h5⟩;have ⟨x1,x2⟩:=a.sl x j;exact ⟨x.toNat,_,O,k _ O⟩;have ⟨x1,x2⟩:=a.fd x j;exact ⟨x.type.toNat,_,O,k _ O⟩;have s:t<S.ty.length:=by have:=aa e;simp only at this;omega
 have:=k t s;simp only at e;rw [this] at e;cases e;exact b6 ⟨t,s⟩
end
section
variable {N:List Nd} {S:SS} {H:Hp}
theorem K4 (L:kB) (a:A6 H) (g:∀r∈S.rc,0<=r.fr/\0<=r.count/\r.fr+r.count<=S.fd.length) (d:S.fd.length<=1000000) (f:H.aD.length<=1000000):∀(m:Nat) (st:PZ),PZ.OK H.aD.length st->uc H.aD.length st.mp.toList<m->∀v,∃j,VS N S H 224 st v j:=by
 intro m;induction m with
 | zero=>intro st _ h;omega
 | succ m i=>exact λst b n v=>ZE L a b v λe=>ZA L a g d f b (λk c l=>i k c O) v e
def P0:PZ:=⟨[],false, #[],0,false⟩
theorem ZH (L:kB) (m:A6 H) (q:∀r∈S.rc,0<=r.fr/\0<=r.count/\r.fr+r.count<=S.fd.length) (o:S.fd.length<=1000000) (v:Vl):∃res:Option aU,(∀b,res=some b->b.size<=100000000)/\∀(A:Lay) (s:ae) (d f:Nat),HR A s d H->Io A s->EN prog 216 [S.q N,.p true (A.id bY) 0,.ag (aw v)] s f λr k=>r= .tu [.v (.string (res.getD ⟨#[]⟩)),B res.isSome]/\k=s:=by
 by_cases i:H.aD.length<=1000000;rotate_left;exact ⟨none,(λb h=>by cases h),λA s d f h=>absurd h.len i⟩;have n:PZ.OK H.aD.length P0:=⟨(λe h=>by cases h),zZ _,by show 0+uc _ []<=_;rw [Hv];omega⟩;obtain ⟨a,j,z,t,w⟩:=K4 L m q o i _ P0 n (yK _) v;refine ⟨if a.fL=true then none else some ⟨a.out.toArray⟩,λb h=>?_,λA s d f h p=>EN.o Ru ?_⟩;split at h;cases h;cases h;have:=j.out;show a.out.toArray.size<=_;simp;omega;have c:=w A s d s.length h p (zE _);simp at c;have l:=λh=>PW (PMb (N:=N) (S:=S) (hp:=.p true (A.id bY) 0) (pre:=s) (st:=a)) h (Nat.le_succ _);simp [TQ];refine CL.o c λr k ⟨x,y⟩=>?_;subst x;subst y;cases g:a.fL with
 | true=>simp [mU,PC,g]
 | false=>simp [mU,PC,g,CL.q (l (t g) (yN j.out O))]
theorem ZW (L:kB) (g:A6 H) (k:∀r∈S.rc,0<=r.fr/\0<=r.count/\r.fr+r.count<=S.fd.length) (j:S.fd.length<=1000000) (v:Vl):∃res:Option aU,(∀b,res=some b->b.size<=100000000)/\∀(A:Lay) (s:ae) (a d:Nat),HR A s a H->Io A s->EN prog 188 [S.q N,.p true (A.id bY) 0,.ag (aw v)] s d λr n=>r= .tu [.v (.string (res.getD ⟨#[]⟩)),B res.isSome]/\n=s:=by
 have ⟨res,l,m⟩:=ZH (N:=N) L g k j v;cases e:H.text v with
 | none=>refine ⟨res,l,λA s a d h f=>EN.o HV ?_⟩;have c:=m A s a s.length h f;have c1:=AQ (fl:=s.length) (v:=v) h;rw [e] at c1;simp at c c1;simp [I9,CL.q c1];simp [CL.q c]
 | some b=>have o:=Hp.ny g e;by_cases i:(65536:Int)<(b.size:Nat);refine ⟨none,(λb h=>by cases h),λA s a d h f=>EN.o HV ?_⟩;have c1:=AQ (fl:=s.length) (v:=v) h;rw [e] at c1;simp at c1;simp [I9,CL.q c1,zM i];refine ⟨some b,(λb h=>by cases h;omega),λA s a d h f=>EN.o HV ?_⟩;have c1:=AQ (fl:=s.length) (v:=v) h;rw [e] at c1;simp at c1;simp [I9,CL.q c1,zC i]
end
theorem shl {X:Sg} (L:kB) (a:uf X):JU X:=by intro H v i;obtain ⟨res,k,l⟩:=ZW L i a.rc a.fb v;refine ⟨res,k,λe n s V' m j h=>?_⟩;have g:=h;have ⟨A,d⟩:=h;have b:=d.vr.hp;rw [j] at b;have c:=l A s _ e.fl b d.ij.lt;rw [d.ih] at c;exact c.mono λr o ⟨c1,f⟩=>⟨c1,by rw [f];exact g⟩
theorem aw6:EP prog 6 [] (· =B true):=λs _=>Ends.iQ (f:=ja) Y Y rfl ⟨rfl,rfl⟩
theorem law (b:aU) (d g:List Int) (f h k:Int) (a c:Nat) (o:a<=255) (q:c<=255) (r:∀x∈d,-9223372036854775808<=x):
  EP prog 3 [.v (.string b),.ag [.sl false (d.map bt),.sl false (g.map bt),I f,I h,I k],U a,U c] (· =B true):=
 a0w aw6 leaf b d g f h k a c o q λ_ _ _ _ l l1 s _ p=>by have ⟨X,n,i,j,e3,e4,e5,e,m⟩:=xok l l1 s r p;exact ⟨X,n,i,j,e3,e4,e5,e,shl leaf e,m⟩
end T
namespace T
open Go V
variable {a b c d e f g:Nat} {u v w:Value} {i j k:Int} {t:TypeId} {p:List Value} {q:Bool} {n:IntKind} {x y z:TV} {r s:List TO} {o:List TV}
def gO (K:Nat):Bool:=Nat.blt K 257&& !Ew K [6,25,52,56,225,236,238,240,242,244,247,255,256]
theorem lO (K:Nat):dq K=gO (real K):=rfl
def NY (P:aB) (K:Nat):Bool:=match P.funcs[K]? with
 | some a=>match a.body with
  | some c=>dX P Pl K c&&qi a.ntmps c
  | none=>true
 | none=>true
def iV (P:aB):aA->Bool
 | []=>true
 | K::l=>(!(gO K)&& !(Nat.beq K 6)||NY P K)&&iV P l
theorem c0:iV prog [0,1,2,3,4,5,6,7,8,9,10,11,12,13,14,15]:=Y
theorem c16:iV prog [16,17,18,19,20,21,22,23,24,25,26,27,28,29,30,31]:=Y
theorem Mq:iV prog [32,33,34,35,36,37,38,39,40,41,42,43,44,45,46,47]:=Y
theorem c48:iV prog [48,49,50,51,52,53,54,55,56,57,58,59,60,61,62,63]:=Y
theorem c64:iV prog [64,65,66,67,68,69,70,71,72,73,74,75,76,77,78,79]:=Y
theorem c80:iV prog [80,81,82,83,84,85,86,87,88,89,90,91,92,93,94,95]:=Y
theorem c96:iV prog [96,97,98,99,100,101,102,103,104,105,106,107,108,109,110,111]:=Y
theorem a0S:iV prog [112,113,114,115,116,117,118,119,120,121,122,123,124,125,126,127]:=Y
theorem a0R:iV prog [128,129,130,131,132,133,134,135,136,137,138,139,140,141,142,143]:=Y
theorem a0Q:iV prog [144,145,146,147,148,149,150,151,152,153,154,155,156,157,158,159]:=Y
theorem a0P:iV prog [160,161,162,163,164,165,166,167,168,169,170,171,172,173,174,175]:=Y
theorem a0O:iV prog [176,177,178,179,180,181,182,183,184,185,186,187,188,189,190,191]:=Y
theorem a0N:iV prog [192,193,194,195,196,197,198,199,200,201,202,203,204,205,206,207]:=Y
theorem a0M:iV prog [208,209,210,211,212,213,214,215,216,217,218,219,220,221,222,223]:=Y
theorem Bd:iV prog [224,225,226,227,228,229,230,231,232,233,234,235,236,237,238,239]:=Y
theorem a0L:iV prog [240,241,242,243,244,245,246,247,248,249,250,251,252,253,254,255]:=Y
theorem a0K:iV prog [256]:=Y
theorem bP {P:aB}:∀{l:aA},iV P l->∀K∈l,(gO K||Nat.beq K 6)->NY P K
 | [],_,K,b,_=>by cases b
 | k::l,h,K,b,c=>by simp only [iV,zP,Bool.or_eq_true] at h;rcases yQ.1 b with rfl|b;rcases h.1 with a|a;simp only [xF] at a;rw [a.1,a.2] at c;cases c;exact a;exact bP h.2 K b c
theorem I2 (h:(gO a||Nat.beq a 6)):NY prog a:=by
 have s:a<257:=by rcases Bool.or_eq_true_iff.1 h with h|h;unfold gO at h;have:=(xM.1 h).1;exact yR this;rw [zS h];omega
 by_cases b:a<16;exact bP c0 a (by simp only [yQ];omega) h;by_cases f:a<32;exact bP c16 a (by simp only [yQ];omega) h;by_cases n:a<48;exact bP Mq a (by simp only [yQ];omega) h;by_cases o:a<64;exact bP c48 a (by simp only [yQ];omega) h;by_cases p:a<80;exact bP c64 a (by simp only [yQ];omega) h;by_cases q:a<96;exact bP c80 a (by simp only [yQ];omega) h;by_cases r:a<112;exact bP c96 a (by simp only [yQ];omega) h;by_cases c:a<128;exact bP a0S a (by simp only [yQ];omega) h;by_cases d:a<144;exact bP a0R a (by simp only [yQ];omega) h;by_cases e:a<160;exact bP a0Q a (by simp only [yQ];omega) h;by_cases g:a<176;exact bP a0P a (by simp only [yQ];omega) h;by_cases i:a<192;exact bP a0O a (by simp only [yQ];omega) h;by_cases j:a<208;exact bP a0N a (by simp only [yQ];omega) h;by_cases k:a<224;exact bP a0M a (by simp only [yQ];omega) h;by_cases l:a<240;exact bP Bd a (by simp only [yQ];omega) h;by_cases m:a<256;exact bP a0L a (by simp only [yQ];omega) h;exact bP a0K a (by simp only [yQ];omega) h
theorem nE {b:Func} {c:Code} (h:(gO a||Nat.beq a 6)) (e:prog.funcs[a]? =some b) (d:b.body=some c):dX prog Pl a c/\qi b.ntmps c:=by have:=I2 h;unfold NY at this;rw [e] at this;simp only [d] at this;exact xM.1 this
end T
namespace V
open Go Go.RowKit
variable {a b c d e f g:Nat} {u v w:Value} {i j k:Int} {t:TypeId} {p:List Value} {q:Bool} {n:IntKind}
theorem AN (b o:Nat) (w:World) (c:w.cell? ⟨b,o,none⟩=some (.pointer (some ⟨b,o,none⟩))):
  Calls prog 242 #[.pointer (some ⟨b,o,none⟩)] w λe a=>e= .returned (.tuple #[])/\a=w:=by
 go_enter Tryz.func242,Tryz.ntmps242
 go_wp2
 rw [Lib.run_neq_ptr_same w _ Tryz.underlying337 (j:=(prog.info? 339).get Y) Y]
 go_wp2
 go_end0
 exact ⟨rfl,rfl⟩
theorem vN (b o:Nat) (w:World) (k:w.cell? ⟨b,o,none⟩=some (.pointer none)) (d:w.shape? b=some (t,a)) (h:o<a) (l:w.frozen? ⟨b,o,none⟩=false) (g:liesAt prog prog.depth t (a/prog.cellsOf t) o 339 1):
  Calls prog 242 #[.pointer (some ⟨b,o,none⟩)] w λt i=>t= .returned (.tuple #[])/\i=w.setCell ⟨b,o,none⟩ (.pointer (some ⟨b,o,none⟩)):=by
 obtain ⟨j,c,f⟩:∃j,prog.info? 339=some j/\j.size=2:=yX.1 (by kernel_rfl:(prog.info? 339).map (·.size)=some 2);have e:prog.underlying 360=some .unsafePointer:=Y
 go_enter Tryz.func242,Tryz.ntmps242
 go_wp2
 rw [Lib.run_to_unsafe w ⟨b,o,none⟩ Tryz.underlying337 e c (by rw [f];decide) d h];simp;rw [Oper.upon_value]
 go_wp2
 rw [run_callFunc_extern Tryz.func244 Y Y Y Y];rw [Lib.run_noEscape];simp;rw [Oper.upon_value]
 go_wp2
 rw [Lib.run_from_unsafe w ⟨b,o,none⟩ e Tryz.underlying337 c d g];simp;rw [Oper.upon_value]
 go_wp2
 go_end0
 exact ⟨rfl,rfl⟩
theorem HI:liesAt prog prog.depth 339 (2/prog.cellsOf 339) 0 339 1:=Y
theorem HH:liesAt prog prog.depth 341 (14/prog.cellsOf 341) 10 339 1:=Y
section
variable {D:au} {H:AH} {E:World}
theorem Rel.cell (m:Rel D H E) {sz:Nat} {q:dj} {B:gJ} (l:H[a]? =some (.row p sz q)) (h:D a=some B) (c:p[b]? =some u) (k:nj u):∃v,E.cell? ⟨B.b,b,none⟩=some v/\VR D u v:=by
 obtain ⟨t,s,o,j⟩:=m.load l h (off:=b) (n:=1) (Zo (aa c)) (λr d=>by
  have e:(p.drop b).take 1=[u]:=by rw [yL (aa c)];have:=zA (aa c);rw [c] at this;simp at this;rw [<-this];simp
  rw [e] at d;rcases yQ.1 d with rfl|d;exact yz k;cases d)
 obtain ⟨v,f,g⟩:=o.get (i:=0) (a:=u) (by simp [c]);have:=j 0 v f;rw [cQ,wZ] at this;exact ⟨v,this,g⟩
theorem zq {o:fR} (h:(o.bind λa=>if nj a=true then some a else none)=some u):o=some u/\nj u:=by
 cases o with
 | none=>cases h
 | some a=>simp only [zR] at h;split at h;rename_i b;cases h;exact ⟨rfl,b⟩;cases h
theorem Ev {sz:Nat} (h:pN sz a):∃b N,gy sz=some (b,a,N):=by unfold pN at h;split at h;rename_i b o N c;have:=zS h;subst this;exact ⟨b,N,c⟩;cases h
theorem Rel.box (r:Rel D H E) {sz:Nat} {B:gJ} (q:H[a]? =some (.row p sz (some 0))) (m:D a=some B) (x:pN sz b):
  ∃c N,E.shape? B.b=some (c,N)/\B.n=N/\b+1<N/\liesAt prog prog.depth c (N/prog.cellsOf c) b 339 1/\(∀k,k<N->E.frozen? ⟨B.b,k,none⟩=false)/\(∀e o j,gy sz=some (e,o,j)->o=b)/\
   ∀(s n:Nat) (i:gJ),p[b+1]? =some (.slice (some ⟨s,0,none⟩) n 1)->n≠0->D s=some i->dK E i.b=some 5:=by
 obtain ⟨c,N,d⟩:=Ev x;obtain ⟨f,l,t⟩:=r.bu a p sz _ B c b N q m d;obtain ⟨_,_,F,C,e,A,g,y,_,w⟩:=r.rows a p sz _ B q m;have v:e=c:=by unfold dK at f;rw [g] at f;simpa using f
 subst v;refine ⟨e,N,?_,l,?_,?_,λk d=>?_,λz o j h=>?_,t⟩;unfold World.shape?;rw [g];simp only;rw [y,l];rcases iS d with ⟨_,rfl,rfl,rfl⟩|⟨_,rfl,rfl,rfl⟩ <;> omega;rcases iS d with ⟨_,rfl,rfl,rfl⟩|⟨_,rfl,rfl,rfl⟩;exact HI;exact HH;unfold World.frozen?;simp only [g];have:=w Z k O;unfold kW at this;simp;omega;rw [d] at h;cases h;rfl
theorem oI (d:Rel D H E) {B:gJ} (c:D a=some B) {j:AH} (h:iW a b H=some j):
  Calls prog 242 #[.pointer (some ⟨B.b,b,none⟩)] E λe i=>e= .returned undef/\Rel D j i/\Ext D H E D j i:=by
 unfold iW at h;split at h;rename_i F sz g;split at h;rename_i t;have ⟨J,N,p,C,b3,b4,b5,q,_⟩:=d.box g c t;split at h;rename_i f;cases h;have ⟨v,k,l⟩:=d.cell g c f rfl;cases l.ak rfl;refine (vN B.b b E k p O (b5 b O) b4).mono ?_;rintro e i ⟨rfl,rfl⟩;obtain ⟨_,y,z⟩:=d.D8 (P:=prog) g c (aa f) (zZ _) (.ptr c) rfl (λr o n w=>by have:=q r o n w;omega);exact ⟨rfl,y,z⟩;rename_i K x f;split at h;rename_i s;obtain ⟨rfl,rfl⟩:=s;cases h;have ⟨v,k,l⟩:=d.cell g c f rfl;obtain ⟨_,A,m,rfl⟩:=l.eB;rw [c] at m;cases m;refine (AN B.b x E k).mono ?_;rintro e i ⟨rfl,rfl⟩;exact ⟨rfl,d,Ext.refl _ _ _⟩;cases h;cases h;cases h;cases h
theorem iD (h:cd D [u] p):∃v,p=[v]/\VR D u v:=by obtain ⟨v,c,rfl,a,b⟩:=h.eu;have:=zL b.1.symm;subst this;exact ⟨v,rfl,a⟩
theorem BS (h:cd D [u,v] p):∃b a,p=[b,a]/\VR D u b/\VR D v a:=by obtain ⟨b,f,rfl,c,d⟩:=h.eu;obtain ⟨a,rfl,e⟩:=iD d;exact ⟨b,a,rfl,c,e⟩
end
theorem Pj:db prog (λK a H=>if K=242 then Hh a H else none):=by intro K a H r m h _ l w q f i;dsimp only at h;split at h;rename_i d;subst d;unfold Hh at h;split at h;rename_i o p;have ⟨n,b,e⟩:=map_some h;cases e;obtain ⟨v,rfl,g⟩:=iD i;obtain ⟨_,B,c,rfl⟩:=g.eB;refine (oI f c b).mono ?_;rintro e s ⟨rfl,j,k⟩;exact ⟨undef,l,rfl,VR.undef,j,k⟩;cases h;cases h
section
variable {D:au} {H:AH} {E:World}
theorem Gj:prog.underlying 77=some (.slice 5):=Y
theorem zx [Small prog] (L:Rel D H E) {B:gJ} (z:D a=some B) (hy:VR D u v) {w:AH} (h:pC prog t a b u H=some w):
  ∃e n c i j s,E.cell? ⟨B.b,b+1,none⟩=some (.slice e n c)/\(Builtin.append_ #[77,t] 77 #[.slice e n c,v]).run prog E= .ok i j/\(∃f4,j.cell? ⟨B.b,b+1,none⟩=some f4)/\j.frozen? ⟨B.b,b+1,none⟩=false/\(∃e m c,i= .slice e m c)/\
   Rel s w (j.setCell ⟨B.b,b+1,none⟩ i)/\Ext D H E s w (j.setCell ⟨B.b,b+1,none⟩ i):=by
 unfold pC at h;split at h;rename_i cs sz K;split at h;rename_i hm;cases g:cV prog 77 (.pointer (some ⟨a,b+1,none⟩)) H with
 | none=>rw [g] at h;cases h
 | some x=>
  rw [g] at h;simp only [zR] at h;split at h;cases h;rename_i c6;cases d:cC prog 77 t x u H with
  | none=>rw [d] at h;cases h
  | some e6=>
   rw [d] at h;simp at h;have ⟨f5,H3⟩:=e6;have F:cs[b+1]? =some x/\nj x:=by unfold cV at g;simp only [K,Gj] at g;split at g;rename_i y k e3;cases y;cases k;exact zq g;cases g
   have c7:=F.1;have ⟨x',k1,q⟩:=L.cell K z F.1 F.2;have d6:∃e n c,x'= .slice e n c:=by
    have:∃A n c,x= .slice A n c:=by unfold cC at d;split at d;split at d;split at d;split at d;split at d;exact ⟨_,_,_,rfl⟩;exact ⟨_,_,_,rfl⟩;exact ⟨_,_,_,rfl⟩;cases d;cases d;cases d;cases d;cases d
    obtain ⟨A,n,c,rfl⟩:=this;cases A with
    | none=>
     cases q with
     | sc _=>exact ⟨_,_,_,rfl⟩
    | some A=>obtain ⟨A',R,rfl⟩:=q.fi;exact ⟨_,_,_,rfl⟩
   obtain ⟨e,n,c,rfl⟩:=d6;have ⟨i,j,s,r1,r2,M,r4,r5⟩:=nc (ty:=77) d L q hy;have c8:∃e m c,i= .slice e m c:=by rcases r5 with ⟨_,_,_,_,_,o⟩|⟨_,_,l,_⟩;exact ⟨_,_,_,o⟩;exact ⟨_,_,_,l⟩
   have ⟨el,f6,b1,b2,b3,b4,b5,b6,b7⟩:=L.box K z hm;have c2:=M.mono _ _ z;simp only [No] at h;split at h;rename_i X f3 c5;split at h;rename_i hc;cases h;have ⟨c9,d5⟩:=hc;have ⟨q1,q2,q3,N,f8,f9,q4,q5,_,q6⟩:=r2.rows a X f3 _ B c5 c2;have c3:b+1<N.size:=O;have ⟨g5,t2,t3⟩:=r2.rA (P:=prog) (cs':=X.set (b+1) f5) c5 c2 (k:=b+1) O (zZ _) (λd8 g7 p=>by
    rw [yT] at p;by_cases J:b+1=d8;subst J;simp [c9] at p;exact .inl ⟨rfl,p.symm⟩;rw [zN J] at p;exact .inr ⟨wQ J,p⟩) (Zs q3) r4 d5 (λf7 o' N' _ _ g6 m B' y c4 C=>by
    subst y;have C:=C;obtain ⟨_,⟨k,_⟩|⟨k,_⟩|⟨_,B3,d9,e3,e4,e5,rfl⟩⟩:=r4.eA;exact absurd k c4;exact absurd k c4;have e3:=e3;rw [C] at e3;cases e3;rcases r5 with ⟨g4,n',R,m',l,o⟩|⟨m',R,l,o⟩;injection l with a1 a2 a3
    injection o with d1 d2 d3
    subst a1;subst a2;subst a3;subst d1;subst d2;subst d3;generalize r:Value.slice (some ⟨B'.b,0,none⟩) n d9=x' at q;cases q with
    | sc hs=>subst r;cases hs
    | @sl d7 o0 n0 c0 B0 g1 g2 g3=>
     injection r with f x2 x3
     injection f with f
     injection f with x4 x5
     subst x2;subst x5;have d4:n≠0:=by rintro rfl;exact c6 rfl
     rw [x4];exact M.Iz _ _ (b7 d7 n B0 c7 d4 g1)
    | pG=>
     injection r with f x2 x3
     omega
    | sle=>exact absurd rfl c6
    | _=>cases r
    injection l with f
    injection f with f
    injection f with f
    rw [f];exact o 5 Gj)
   refine ⟨e,n,c,i,j,s,k1,r1,?_,?_,c8,t2,M.trans t3⟩;refine ⟨N[b+1],?_⟩;unfold World.cell?;simp only [q4,Option.isSome_none];simp [c3];unfold World.frozen?;simp only [q4];have:=q6 Z (b+1) c3;unfold kW at this;simp;omega;cases h;cases h
 cases h;cases h
end
end V
namespace V
open Go Go.RowKit Go.Shelf
variable {a b c d e f g:Nat} {u v w:Value} {i j k:Int} {t:TypeId} {p:List Value} {q:Bool} {n:IntKind}
section
variable {D:au} {H:AH} {E:World}
theorem fV {P:aB} {b:Array Oper} {c:List Oper} {o:Oper} {a:Act} {Q:Exit->Act->World->Prop} (i:o.guard=none) (sl x:Operand) (t d:aP)
  (j:o.op= .call {callee:=.builtin .append,args:= #[sl,x],argTypes:= #[t,d]}) (v f:aq) (l:a.eval sl=v) (m:a.eval x=f) {e:World} (k:(Builtin.append_ #[t,d] o.type #[v,f]).run P E= .ok u e)
  (h:wpList P b Q c (a.put o.dst u) e):wpList P b Q (o::c) a E:=by
 refine wpList_plain i λK g=>?_;unfold Oper.wp execOp;simp only [j,resolve,invoke,builtin,Sem.run_bind,Sem.run_pure,Result.andThen_ok,List.map_toArray,yY,wE,l,m,k];exact g _ _ h
theorem Xe [Small prog] (o:Rel D H E) {B:gJ} (i:D a=some B) {t:aU} {g f:AH} (k:iW a b H=some g) (l:pC prog 9 a b (.string t) g=some f):
  Calls prog 236 #[.pointer (some ⟨B.b,b,none⟩),.string t] E λe j=>e= .returned (.tuple #[.int .i64 t.size,.nilIface])/\∃d,Rel d f j/\Ext D H E d f j:=by
 have x:∀h E,(callFunc 242 h).run prog E= .ok (.enter 242 h) E:=enters_of Tryz.func242 Y rfl
 go_enter Tryz.func236,Tryz.ntmps236
 go_wp2_with (go_at_fn 242;refine (oI o i k).mono ?_)
 rintro e L ⟨rfl,s,v⟩;obtain ⟨C,n,c,K,M,d,y,p,⟨J,z⟩,A,⟨F,m,w,rfl⟩,q,r⟩:=zx s i (.sc rfl:VR D (.string t) (.string t)) l
 go_wp2_with (at_builtin;refine fV rfl _ _ 77 9 rfl _ _ rfl rfl p ?_)
 go_wp2
 go_ret2
 exact ⟨rfl,d,q,v.trans r⟩
end
end V
namespace T
open Go V
variable {a b c d e f g:Nat} {u v w:Value} {i j k:Int} {t:TypeId} {p:List Value} {q:Bool} {n:IntKind} {x y z:TV} {r s:List TO} {o:List TV}
theorem WL:O2 prog:={
 Gj:=Y
 u5:=Y
 u9:=Y
 i5:=by have ⟨b,c,a⟩:=yX.1 (by kernel_rfl:(prog.info? 5).map (λi=>(i.size,i.bytes,i.zero))=some (1,1,some (.int .u8 0)));exact ⟨b,_,c,yC (·.1) a,yC (·.2.1) a,yC (·.2.2) a,rfl⟩
 YK:=by kernel_rfl}
end T
namespace V
open Go Go.RowKit Go.Shelf
variable {a b c d e f g:Nat} {u v w:Value} {i j k:Int} {t:TypeId} {p:List Value} {q:Bool} {n:IntKind}
section
variable {D:au} {H:AH} {E:World}
theorem Mt (c:Int) (E:World):(Instr.buildSlice 77 1 #[(0,.int .u8 c)]).run prog E= .ok (.slice (some ⟨E.heap.size,0,none⟩) 1 1) (E.alloc (.cells #[.int .u8 c] 5)):=by obtain ⟨e,g,a,b,f,d,rfl⟩:=T.WL.i5;simp [Instr.buildSlice,run_underlying Gj,aV a,b,dr a d,Instr.fill,Value.cells,newRow];rw [show Array.range 1= #[0] by decide];simp [Array.setIfInBounds]
theorem Xd [Small prog] (x:Rel D H E) {B:gJ} (k:D a=some B) {h j:AH} {q:aq×AH} (c:iW a b H=some h) (w:fO prog 77 1 [(0,.int .u8 i)] h=some q) (t:pC prog 77 a b q.1 q.2=some j):
  Calls prog 238 #[.pointer (some ⟨B.b,b,none⟩),.int .u8 i] E λe s=>e= .returned .nilIface/\∃g,Rel g j s/\Ext D H E g j s:=by
 have X:∀l E,(callFunc 242 l).run prog E= .ok (.enter 242 l) E:=enters_of Tryz.func242 Y rfl
 go_enter Tryz.func238,Tryz.ntmps238
 go_wp2_with (go_at_fn 242;refine (oI x k c).mono ?_)
 rintro e f ⟨rfl,r,M⟩;have ⟨vs,c3,c4,m,K,p,L⟩:=jS w r rfl (cd.cons (.sc rfl) .nil);rw [Mt] at m;injection m with F J
 subst F;subst J;obtain ⟨N,n,c1,v',w2,g,y,z,⟨u,k3⟩,k4,⟨b6,b2,P,rfl⟩,A,C⟩:=zx K (p.mono _ _ k) L t;have k0:f.cell? ⟨B.b,b+1,none⟩=some (.slice N n c1):=by
  have d:∃o,h[a]? =some o/\o≠ .dead:=by unfold iW at c;split at c;rename_i R sz d;split at c;split at c;cases c;exact ⟨_,zF (aa d),Z⟩;split at c;cases c;exact ⟨_,d,Z⟩;cases c;cases c;cases c;cases c
  have ⟨o,d,v⟩:=d;have b1:=r.blt d k v;rw [<-y];unfold World.cell?;have:(f.alloc (.cells #[.int .u8 i] 5)).heap[B.b]? =f.heap[B.b]? :=by show (f.heap.push _)[B.b]? =_;rw [xY,zN O]
  simp only [this]
 go_wp2_with (at_builtin;refine fV rfl _ _ 77 77 rfl _ _ rfl rfl z ?_)
 go_wp2
 go_ret
 exact ⟨rfl,g,A,(M.trans p).trans C⟩
end
section
variable {D:au} {H:AH} {E w':World}
theorem Rel.HL (h:Rel D H E) {sz:Nat} {B:gJ} (q:H[a]? =some (.row p sz (some b))) (r:D a=some B) {x:Array aq} {fr K:Nat×Nat} (A:E.heap[B.b]? =some (.cells x t fr)) (L:w'.heap[B.b]? =some (.cells x t K))
  (n:∀d,d≠B.b->w'.heap[d]? =E.heap[d]?) (h3:w'.heap.size=E.heap.size) (h4:w'.os=E.os) (h5:w'.tape=E.tape) (h6:w'.output=E.output):
  Rel D (H.set a (.row p sz none)) w'/\Ext D H E D (H.set a (.row p sz none)) w':=by
 have hid:=aa q;obtain ⟨k,m⟩:=h.freeze q r p.length;rw [wO] at k m;have F:∀d,dK w' d=dK E d:=by intro d;unfold dK;by_cases c:d=B.b;subst c;rw [A,L];rw [n d c]
 have c6:∀(i:Nat) (o:AO) (f:gJ),(H.set a (.row p sz none))[i]? =some o->D i=some f->o.own->f.b≠B.b:=by intro i o f g c M e;by_cases C:a=i;subst C;rw [zF hid] at g;cases g;cases M;rw [zD C] at g;rcases h.inj i a _ _ f B g q c r M Z e with z|z;exact C z.symm;exact AO.ed rfl z
 refine ⟨⟨⟨?_,?_,k.inj,k.lt⟩,⟨?_,k.fx.2⟩,?_⟩,⟨⟨h4,h5,h6,m.mono,m.fix,m.len,Nat.le_of_eq h3.symm,?_,m.ro,m.fresh⟩,λd e c=>(F d).trans c⟩⟩;intro i y J w f g c;obtain ⟨N,P,R,C',b2,c3,j,l,v,k4⟩:=k.rows i y J w f g c;by_cases s:f.b=B.b;rw [s,A] at j;cases j;refine ⟨N,P,R,x,t,K,by rw [s];exact L,l,v,λc4=>?_⟩;cases w with
 | none=>exact absurd rfl c4
 | some c8=>exact absurd s (c6 i _ f g c rfl)
 exact ⟨N,P,R,C',b2,c3,by rw [n _ s];exact j,l,v,k4⟩;intro i es cl f g c;obtain ⟨j,l⟩:=k.maps i es cl f g c;refine ⟨?_,l⟩;rw [n];exact j;intro e;rw [e,A] at j;cases j;obtain ⟨b6,c2,j⟩:=k.fx.1;exact ⟨b6,c2,by rw [n 0 (λe=>h.fx.2 a _ B q r rfl e.symm)];exact j⟩;intro i y J w f e o b1 g c hm;obtain ⟨j,l,v⟩:=k.bu i y J w f e o b1 g c hm;exact ⟨(F _).trans j,l,λc7 c5 X a1 a2 a3=>(F _).trans (v c7 c5 X a1 a2 a3)⟩;intro d c hf;exact n d λe=>hf a _ B q r rfl e.symm
end
section
variable {D:au} {H:AH} {E J:World}
theorem Xf (b o g n c:Nat) (l:List UInt8) (E:World) (f:E.cell? ⟨b,o+1,none⟩=some (.slice (some ⟨g,0,none⟩) l.length c)) (a:l≠[]) (t:l.length<=c) (k:E.shape? g=some (5,n)) (i:l.length<=n) (d:l.length<=9223372036854775807)
  (h:∀j x,l[j]? =some x->E.cell? ⟨g,j,none⟩=some (.int .u8 x.toNat)):
  Calls prog 225 #[.pointer (some ⟨b,o,none⟩)] E λe J=>e= .returned (.string ⟨l.toArray⟩)/\J=E.drew.freeze ⟨g,0,none⟩ l.length:=by
 have s:l.length≠0:=by simpa using a
 have p:prog.underlying 351=some (.pointer 5):=Y;have c1:=f;have q:(Builtin.unsafeSliceData_ #[77] 351 #[.slice (some ⟨g,0,none⟩) l.length c]).run prog E.drew= .ok (.pointer (some ⟨g,0,none⟩)) E.drew:=
  Lib.run_unsafeSliceData_row _ _ _ _ _ _ O
 have r:(Builtin.unsafeString_ #[351,3] 9 #[.pointer (some ⟨g,0,none⟩),.int .i64 l.length]).run prog E.drew= .ok (.string ⟨l.toArray⟩) (E.drew.freeze ⟨g,0,none⟩ l.length):=by apply Lib.run_unsafeString_row E.drew 351 3 9 5 p Y g n k l a i d;intro j x m;rw [cQ,yM];exact h j x m
 have mixed:prog.follows .mixedOrders:=Y
 go_enter Tryz.func225,Tryz.ntmps225
 go_wp2
 go_region_o
 all_goals (go_wp2;go_ret;exact ⟨rfl,rfl⟩)
theorem Rel.cells (g:Rel D H E) {sz:Nat} {d:dj} {B:gJ} (f:H[a]? =some (.row p sz d)) (e:D a=some B):∃(C:Array aq) (b:aP) (c:Nat×Nat),E.heap[B.b]? =some (.cells C b c)/\C.size=B.n/\p.length<=C.size:=by obtain ⟨_,_,j,C,b,c,h,i,_⟩:=g.rows a p sz d B f e;exact ⟨C,b,c,h,i,O⟩
theorem Po:db prog (λK s H=>if K=225 then DY prog s H else none):=by
 intro K s H d2 H' h _ D E vs g c6;dsimp only at h;split at h;rename_i P;subst P;unfold DY at h;split at h;rename_i id w;split at h;rename_i z sz p;split at h;rename_i hm;split at h;rename_i r n i;split at h;rename_i C d5 lo l;split at h;rename_i X;have ⟨v,a,c9,c8⟩:=X;cases q:Ix C with
 | none=>rw [q] at h;cases h
 | some bs=>
  rw [q] at h;cases h;obtain ⟨d3,rfl,c5⟩:=iD c6;obtain ⟨_,B,t,rfl⟩:=c5.eB;have m:z[w+1]? =some (.slice (some ⟨r,0,none⟩) n 1)/\nj (.slice (some ⟨r,0,none⟩) n 1):=by unfold cV at i;simp only [p,Gj] at i;split at i;rename_i A F e3;cases A;cases F;exact zq i;cases i
  have c2:=m.1;have ⟨x',k1,k2⟩:=g.cell p t m.1 m.2;obtain ⟨_,⟨e,_⟩|⟨e,_⟩|⟨_,f,c,d,M,g3,rfl⟩⟩:=k2.eA;exact absurd e a;exact absurd e a;have d:=d;have ⟨el,c7,b1,b2,b3,b4,b5,b6,b7⟩:=g.box p t hm;have o:=b7 r n f c2 a d;have ⟨y,L,fr,k,q2,x⟩:=g.cells l d;have c3:L=5:=by unfold dK at o;rw [k] at o;simpa using o
  subst c3;have j:=K7 C bs q;have R:bs.length=n:=by rw [<-v,j];simp
  subst R;have c4:bs≠[]:=λe=>a (by rw [e];rfl);have N:bs.length<=9223372036854775807:=O;refine (Xf B.b w f.b y.size c bs E k1 c4 M (by unfold World.shape?;rw [k]) (by rw [v] at x;exact x) N λd1 d4 hj=>?_).mono ?_;obtain ⟨u,a1,a2⟩:=g.cell l d (by rw [j,zK,hj];rfl) rfl;cases a2.ak rfl;exact a1;rintro e J ⟨rfl,rfl⟩;have hd:Rel D H E.drew:=g.drew _;have ⟨t1,t2⟩:=Rel.HL (w':=E.drew.freeze ⟨f.b,0,none⟩ bs.length) hd l d k (by
   unfold World.freeze;rw [zN a];show (Array.modify _ _ _)[f.b]? =_;rw [vB,zO rfl];show Option.map _ E.heap[f.b]? =_;rw [k];rfl) (λb j=>by
   unfold World.freeze;rw [zN a];show (Array.modify _ _ _)[b]? =_;rw [vB,zN (wQ j)]) (by
   unfold World.freeze;rw [zN a];exact Array.size_modify ..) (by unfold World.freeze;rw [zN a]) (by unfold World.freeze;rw [zN a]) (by unfold World.freeze;rw [zN a])
  exact ⟨_,D,rfl,.sc rfl,t1,(Ext.drew _).trans t2⟩
 cases h;cases h;cases h;cases h;cases h;cases h;cases h
theorem Pn [Small prog]:db prog (λK a H=>if K=236 then Hj prog a H else none):=by intro K a H r o h _ D E y g k;dsimp only at h;split at h;rename_i f;subst f;unfold Hj at h;split at h;rename_i s w t;have ⟨p,b,h⟩:=T.bind_some h;have ⟨q,c,e⟩:=map_some h;cases e;obtain ⟨v,x,rfl,j,i⟩:=BS k;obtain ⟨_,B,d,rfl⟩:=j.eB;cases i.ak rfl;refine (Xe g d b c).mono ?_;rintro e J ⟨rfl,n,l,m⟩;exact ⟨_,n,rfl,VR.rL (cd.cons (.sc rfl) (cd.cons (.sc rfl) .nil)),l,m⟩;cases h;cases h
theorem Pm [Small prog]:db prog (λK a H=>if K=238 then Hi prog a H else none):=by intro K a H r s h _ D E A j m;dsimp only at h;split at h;rename_i g;subst g;unfold Hi at h;split at h;rename_i x y c;have ⟨t,b,h⟩:=T.bind_some h;have ⟨q,i,h⟩:=T.bind_some h;have ⟨w,d,e⟩:=map_some h;cases e;obtain ⟨v,z,rfl,l,k⟩:=BS m;obtain ⟨_,B,f,rfl⟩:=l.eB;cases k.ak rfl;refine (Xd j f b i d).mono ?_;rintro e J ⟨rfl,p,n,o⟩;exact ⟨_,p,rfl,.sc rfl,n,o⟩;cases h;cases h
theorem Ff (E:World):(Instr.buildSlice 79 0 #[]).run prog E= .ok (.slice (some ⟨E.heap.size,0,none⟩) 0 0) (E.alloc (.cells #[] 96)):=by have d:prog.underlying 79=some (.slice 96):=Y;obtain ⟨a,b,c⟩:∃a,prog.info? 96=some a/\a.size=4:=yX.1 (by kernel_rfl:(prog.info? 96).map (·.size)=some 4);simp [Instr.buildSlice,run_underlying d,aV b,c,Instr.fill,newRow];rw [show Array.range 0= #[] by decide];simp
theorem G9 (E:World):Calls prog 25 #[.slice none 0 0] E λe J=>e= .returned (.slice none 0 0)/\J=E:=by
 have a:prog.underlying 79=some (.slice 96):=Y
 go_enter Tryz.func25,Tryz.ntmps25
 go_wp2
 rw [Lib.run_eql_slice_nil E 79 96 none 0 0 0 0 a]
 go_wp2
 go_ret
 exact ⟨rfl,rfl⟩
theorem w25 (E:World) (a:Addr) (n c:Nat) {b:World} (h:(Builtin.append_ #[79,79] 79 #[.slice (some ⟨E.heap.size,0,none⟩) 0 0,.slice (some a) n c]).run prog (E.alloc (.cells #[] 96))= .ok u b):
  Calls prog 25 #[.slice (some a) n c] E λe J=>e= .returned u/\J=b:=by
 have d:prog.underlying 79=some (.slice 96):=Y
 go_enter Tryz.func25,Tryz.ntmps25
 go_wp2
 rw [Lib.run_eql_slice_nil E 79 96 (some a) n c 0 0 d]
 go_wp2_with (at_builtin;refine fV rfl _ _ 79 79 rfl _ _ rfl rfl h ?_)
 go_wp2
 go_ret
 exact ⟨rfl,rfl⟩
theorem Z2 [Small prog]:db prog (λK b H=>if K=25 then gv prog 79 b H else none):=by
 intro K b H r M h _ D E F d f;dsimp only at h;split at h;rename_i l;subst l;unfold gv at h;split at h;cases h;obtain ⟨v,rfl,a⟩:=iD f;cases a.ak rfl;refine (G9 E).mono ?_;rintro e J ⟨rfl,rfl⟩;exact ⟨_,D,rfl,.sc rfl,d,Ext.refl _ _ _⟩;rename_i A n c;have ⟨q,m,h⟩:=T.bind_some h;obtain ⟨v,rfl,a⟩:=iD f;obtain ⟨j,k,rfl⟩:=a.fi;have ⟨F,N,R,g,s,i,t⟩:=jS m d rfl .nil;rw [Ff] at g;injection g with o p
 subst o;subst p;obtain ⟨C,P,L,w,x,y,z⟩:=iC h s t (a.mono i.mono);refine (w25 E j n k w).mono ?_;rintro e J ⟨rfl,rfl⟩;exact ⟨C,L,rfl,z,x,i.trans y⟩;cases h;cases h
theorem Fc (E:World):(Instr.buildSlice 80 0 #[]).run prog E= .ok (.slice (some ⟨E.heap.size,0,none⟩) 0 0) (E.alloc (.cells #[] 104)):=by have d:prog.underlying 80=some (.slice 104):=Y;obtain ⟨a,b,c⟩:∃a,prog.info? 104=some a/\a.size=4:=yX.1 (by kernel_rfl:(prog.info? 104).map (·.size)=some 4);simp [Instr.buildSlice,run_underlying d,aV b,c,Instr.fill,newRow];rw [show Array.range 0= #[] by decide];simp
theorem G8 (E:World):Calls prog 52 #[.slice none 0 0] E λe J=>e= .returned (.slice none 0 0)/\J=E:=by
 have a:prog.underlying 80=some (.slice 104):=Y
 go_enter Tryz.func52,Tryz.ntmps52
 go_wp2
 rw [Lib.run_eql_slice_nil E 80 104 none 0 0 0 0 a]
 go_wp2
 go_ret
 exact ⟨rfl,rfl⟩
theorem w52 (E:World) (a:Addr) (n c:Nat) {b:World} (h:(Builtin.append_ #[80,80] 80 #[.slice (some ⟨E.heap.size,0,none⟩) 0 0,.slice (some a) n c]).run prog (E.alloc (.cells #[] 104))= .ok u b):
  Calls prog 52 #[.slice (some a) n c] E λe J=>e= .returned u/\J=b:=by
 have d:prog.underlying 80=some (.slice 104):=Y
 go_enter Tryz.func52,Tryz.ntmps52
 go_wp2
 rw [Lib.run_eql_slice_nil E 80 104 (some a) n c 0 0 d]
 go_wp2_with (at_builtin;refine fV rfl _ _ 80 80 rfl _ _ rfl rfl h ?_)
 go_wp2
 go_ret
 exact ⟨rfl,rfl⟩
theorem Z1 [Small prog]:db prog (λK b H=>if K=52 then gv prog 80 b H else none):=by
 intro K b H r M h _ D E F d f;dsimp only at h;split at h;rename_i l;subst l;unfold gv at h;split at h;cases h;obtain ⟨v,rfl,a⟩:=iD f;cases a.ak rfl;refine (G8 E).mono ?_;rintro e J ⟨rfl,rfl⟩;exact ⟨_,D,rfl,.sc rfl,d,Ext.refl _ _ _⟩;rename_i A n c;have ⟨q,m,h⟩:=T.bind_some h;obtain ⟨v,rfl,a⟩:=iD f;obtain ⟨j,k,rfl⟩:=a.fi;have ⟨F,N,R,g,s,i,t⟩:=jS m d rfl .nil;rw [Fc] at g;injection g with o p
 subst o;subst p;obtain ⟨C,P,L,w,x,y,z⟩:=iC h s t (a.mono i.mono);refine (w52 E j n k w).mono ?_;rintro e J ⟨rfl,rfl⟩;exact ⟨C,L,rfl,z,x,i.trans y⟩;cases h;cases h
theorem Fb (E:World):(Instr.buildSlice 22 0 #[]).run prog E= .ok (.slice (some ⟨E.heap.size,0,none⟩) 0 0) (E.alloc (.cells #[] 2)):=by have d:prog.underlying 22=some (.slice 2):=Y;obtain ⟨a,b,c⟩:∃a,prog.info? 2=some a/\a.size=1:=yX.1 (by kernel_rfl:(prog.info? 2).map (·.size)=some 1);simp [Instr.buildSlice,run_underlying d,aV b,c,Instr.fill,newRow];rw [show Array.range 0= #[] by decide];simp
theorem G7 (E:World):Calls prog 56 #[.slice none 0 0] E λe J=>e= .returned (.slice none 0 0)/\J=E:=by
 have a:prog.underlying 22=some (.slice 2):=Y
 go_enter Tryz.func56,Tryz.ntmps56
 go_wp2
 rw [Lib.run_eql_slice_nil E 22 2 none 0 0 0 0 a]
 go_wp2
 go_ret
 exact ⟨rfl,rfl⟩
theorem w56 (E:World) (a:Addr) (n c:Nat) {b:World} (h:(Builtin.append_ #[22,22] 22 #[.slice (some ⟨E.heap.size,0,none⟩) 0 0,.slice (some a) n c]).run prog (E.alloc (.cells #[] 2))= .ok u b):
  Calls prog 56 #[.slice (some a) n c] E λe J=>e= .returned u/\J=b:=by
 have d:prog.underlying 22=some (.slice 2):=Y
 go_enter Tryz.func56,Tryz.ntmps56
 go_wp2
 rw [Lib.run_eql_slice_nil E 22 2 (some a) n c 0 0 d]
 go_wp2_with (at_builtin;refine fV rfl _ _ 22 22 rfl _ _ rfl rfl h ?_)
 go_wp2
 go_ret
 exact ⟨rfl,rfl⟩
theorem Z0 [Small prog]:db prog (λK b H=>if K=56 then gv prog 22 b H else none):=by
 intro K b H r M h _ D E F d f;dsimp only at h;split at h;rename_i l;subst l;unfold gv at h;split at h;cases h;obtain ⟨v,rfl,a⟩:=iD f;cases a.ak rfl;refine (G7 E).mono ?_;rintro e J ⟨rfl,rfl⟩;exact ⟨_,D,rfl,.sc rfl,d,Ext.refl _ _ _⟩;rename_i A n c;have ⟨q,m,h⟩:=T.bind_some h;obtain ⟨v,rfl,a⟩:=iD f;obtain ⟨j,k,rfl⟩:=a.fi;have ⟨F,N,R,g,s,i,t⟩:=jS m d rfl .nil;rw [Fb] at g;injection g with o p
 subst o;subst p;obtain ⟨C,P,L,w,x,y,z⟩:=iC h s t (a.mono i.mono);refine (w56 E j n k w).mono ?_;rintro e J ⟨rfl,rfl⟩;exact ⟨C,L,rfl,z,x,i.trans y⟩;cases h;cases h
end
end V
end Go.Proofs.YtglilpjokhgidaaGreatDoor
namespace Go.Proofs
open Go.Shelf YtglilpjokhgidaaGreatDoor
def Tryz.lays171_ren:Go.Shelf.Ren:=⟨λ| 171=>240|243=>243|246=>245|283=>246|284=>247|285=>248|286=>249|129=>251|317=>250|318=>252|319=>253|320=>254|337=>255|338=>256|n=>n,λ| 3=>3|9=>9|2=>2|4=>4|171=>363|0=>0|53=>301|37=>77|5=>5|173=>366|212=>370|51=>344|20=>20|213=>371|46=>332|232=>374|233=>375|n=>n,λ| 17=>0|18=>1|19=>2|n=>n⟩
theorem Tryz.lays171:Go.Proofs.LaysM.n171 prog Tryz.lays171_ren:={
 mixed:=Y
 f129:=Tryz.func251.trans (yC some Y)
 f171:=Tryz.func240.trans (yC some Y)
 f243:=Tryz.func243.trans (yC some Y)
 f246:=Tryz.func245.trans (yC some Y)
 f283:=Tryz.func246.trans (yC some Y)
 f284:=Tryz.func247.trans (yC some Y)
 f285:=Tryz.func248.trans (yC some Y)
 f286:=Tryz.func249.trans (yC some Y)
 f317:=Tryz.func250.trans (yC some Y)
 f318:=Tryz.func252.trans (yC some Y)
 f319:=Tryz.func253.trans (yC some Y)
 f320:=Tryz.func254.trans (yC some Y)
 f337:=Tryz.func255.trans (yC some Y)
 f338:=Tryz.func256.trans (yC some Y)
 t0:=Tryz.underlying0
 a0:=Tryz.isAgg0
 z0:=Tryz.sizeOf0
 v0:=Tryz.zeroValue0
 t2:=Tryz.underlying2
 a2:=Tryz.isAgg2
 z2:=Tryz.sizeOf2
 v2:=Tryz.zeroValue2
 t3:=Tryz.underlying3
 a3:=Tryz.isAgg3
 z3:=Tryz.sizeOf3
 v3:=Tryz.zeroValue3
 t4:=Tryz.underlying4
 a4:=Tryz.isAgg4
 z4:=Tryz.sizeOf4
 v4:=Tryz.zeroValue4
 t5:=Tryz.underlying5
 a5:=Tryz.isAgg5
 z5:=Tryz.sizeOf5
 v5:=Tryz.zeroValue5
 t9:=Tryz.underlying9
 a9:=Tryz.isAgg9
 z9:=Tryz.sizeOf9
 v9:=Tryz.zeroValue9
 t20:=Tryz.underlying20
 a20:=Tryz.isAgg20
 z20:=Tryz.sizeOf20
 v20:=Tryz.zeroValue20
 t37:=Tryz.underlying77
 a37:=Tryz.isAgg77
 z37:=Tryz.sizeOf77
 v37:=Tryz.zeroValue77
 t46:=Tryz.underlying332
 a46:=Tryz.isAgg332
 z46:=Tryz.sizeOf332
 v46:=Tryz.zeroValue332
 t51:=Tryz.underlying344
 a51:=Tryz.isAgg344
 z51:=Tryz.sizeOf344
 v51:=Tryz.zeroValue344
 t53:=Tryz.underlying301
 a53:=Tryz.isAgg301
 z53:=Tryz.sizeOf301
 v53:=Tryz.zeroValue301
 t171:=Tryz.underlying363
 a171:=Tryz.isAgg363
 z171:=Tryz.sizeOf363
 v171:=Tryz.zeroValue363
 t173:=Tryz.underlying366
 a173:=Tryz.isAgg366
 z173:=Tryz.sizeOf366
 v173:=Tryz.zeroValue366
 t212:=Tryz.underlying370
 a212:=Tryz.isAgg370
 z212:=Tryz.sizeOf370
 v212:=Tryz.zeroValue370
 t213:=Tryz.underlying371
 a213:=Tryz.isAgg371
 z213:=Tryz.sizeOf371
 t232:=Tryz.underlying374
 a232:=Tryz.isAgg374
 z232:=Tryz.sizeOf374
 v232:=Tryz.zeroValue374
 t233:=Tryz.underlying375
 a233:=Tryz.isAgg375
 z233:=Tryz.sizeOf375
 v233:=Tryz.zeroValue375
 g17:=Y
 g18:=Y
 g19:=Y
 i0:=Y
 i2:=Y
 i3:=Y
 i4:=Y
 i5:=Y
 i9:=Y
 i20:=Y
 i37:=Y
 i46:=Y
 i51:=Y
 i53:=Y
 i171:=Y
 i173:=Y
 i212:=Y
 i232:=Y
 i233:=Y
 m17:=Y
 m18:=Y
 m19:=by kernel_rfl}
end Go.Proofs
namespace Go.Proofs.YtglilpjokhgidaaGreatDoor
open Go.Proofs.Tryz (prog)
open Go.IntKind
namespace V
open Go Go.RowKit Go.Shelf
variable {a b c d e f g:Nat} {u v w:Value} {i j k:Int} {t:TypeId} {p:List Value} {q:Bool} {n:IntKind}
section
variable {D:au} {H:AH} {E J:World}
theorem Rel.quiet (h:Rel D H E) (w:J.os=E.os) (x:J.tape=E.tape) (y:J.output=E.output) (z:E.heap.size<=J.heap.size) (f:∀b,b<E.heap.size->J.heap[b]? =E.heap[b]?):Rel D H J/\Ext D H E D H J:=by
 have p:∀b c,dK E b=some c->dK J b=some c:=by
  intro b c a;unfold dK at a ⊢;have A:b<E.heap.size:=by rcases zX b E.heap.size with m|m;exact m;rw [yS m] at a;cases a
  rw [f b A];exact a
 refine ⟨⟨⟨?_,?_,h.inj,h.lt⟩,⟨?_,h.fx.2⟩,?_⟩,⟨⟨w,x,y,λ_ _ e=>e,λ_ _ e=>⟨e,rfl⟩,zE _,z,λb a _=>f b a,λ_ _ e _=>e,λK o B a1 a2 a3 _=>⟨K,o,B,a1,a2,a3,rfl⟩⟩,p⟩⟩;intro i k sz s B d a;obtain ⟨g,j,r,C,c,l,L,M⟩:=h.rows i k sz s B d a;exact ⟨g,j,r,C,c,l,(f _ (h.blt d a Z)).trans L,M⟩;intro i v cl B d a;obtain ⟨g,j⟩:=h.maps i v cl B d a;exact ⟨(f _ (h.blt d a Z)).trans g,j⟩;obtain ⟨c,l,q⟩:=h.fx.1;exact ⟨c,l,(f 0 h.fx.pos).trans q⟩;intro i k sz s B c o N d a F;obtain ⟨g,j,r⟩:=h.bu i k sz s B c o N d a F;exact ⟨p _ _ g,j,λP n t a1 a2 a3=>p _ _ (r P n t a1 a2 a3)⟩
theorem Xb (n:Int) (i:0<=n) (j:n<1000000000) (a:Rel D H E):Calls prog 240 #[.int .i64 n] E λe J=>e= .returned (.string ⟨(Lib.itoa n).toArray⟩)/\Rel D H J/\Ext D H E D H J:=by refine (Any.strconv_Itoa Tryz.lays171 n O O E ?_).mono ?_;obtain ⟨g,h,q⟩:=a.fx.1;unfold Lib.TabIs World.var?;generalize f:prog.globalNamed _=x;obtain rfl:x=some 0:=f.symm.trans Y;simp only [zR,q];rintro e J ⟨rfl,k,c,rfl⟩;exact ⟨rfl,a.quiet rfl rfl rfl (by show E.heap.size<=(E.heap++c).size;rw [Array.size_append];omega) (λb d=>by show (E.heap++c)[b]? =E.heap[b]?;exact Array.getElem?_append_left d)⟩
theorem Pk:db prog (λK a H=>if K=240 then yx a H else none):=by intro K a H r k h _ D E l d g;dsimp only at h;split at h;rename_i c;subst c;unfold yx at h;split at h;rename_i n;split at h;rename_i b;cases h;obtain ⟨v,rfl,f⟩:=iD g;cases f.ak rfl;refine (Xb n b.1 b.2 d).mono ?_;rintro e J ⟨rfl,i,j⟩;exact ⟨_,D,rfl,.sc rfl,i,j⟩;cases h;cases h;cases h
theorem Hl (h:∀E:World,Rel (λ_=>none) [] E->Calls prog 6 #[] E λe J=>∃v f g,e= .returned v/\VR f (.bool true) v/\Rel f g J/\Ext (λ_=>none) [] E f g J):db prog (λK l H=>if K=6 then rI l H else none):=by intro K l H r g c _ D E P m t;dsimp only at c;split at c;rename_i q;subst q;unfold rI at c;split at c;cases c;have:=zL t.1.symm;subst this;have p:Rel (λ_=>none) [] E:=⟨⟨λi n sz y B a _=>by simp at a,λi F cl B a _=>by simp at a,λi j o L B z a=>by simp at a,λi B k=>by cases k⟩,⟨m.fx.1,λi o B a=>by simp at a⟩,λi n sz y B C o N a=>by simp at a⟩;refine (h E p).mono ?_;rintro e J ⟨v,f,A,rfl,s,M,d⟩;cases s.bool;obtain ⟨w,x⟩:=m.quiet d.os d.tape d.output d.size (λb k=>d.frame b k λi o B a=>by simp at a);exact ⟨_,D,rfl,.sc rfl,w,x⟩;cases c;cases c
end
end V
namespace T
open Go V Q
variable {a b c d e f g:Nat} {u v w:Value} {i j k:Int} {t:TypeId} {p:List Value} {q:Bool} {n:IntKind} {x y z:TV} {r s:List TO} {o:List TV}
structure DE where
 K:Nat
 n:Nat
 b:(X:CX)->ao->RA X
 h:∃f,BE K f n b
inductive DT where
 | nil
 | one {K n:Nat} {f:Func} {b:(X:CX)->ao->RA X} (h:BE K f n b) (t:DT)
 | node (k:Nat) (a b:DT)
def DT.find:DT->Nat->Option DE
 | .nil,_=>none
 | @DT.one c n f b h t,K=>bif Nat.beq c K then some ⟨c,n,b,f,h⟩ else t.find K
 | .node k a b,K=>bif Nat.blt K k then a.find K else b.find K
theorem DT.HM {e:DE}:∀{t:DT},t.find a=some e->e.K=a:=by
 intro t;induction t with
 | nil=>intro h;cases h
 | @one g n f b h t i=>
  intro c;simp only [DT.find] at c;cases d:Nat.beq g a with
  | true=>rw [d] at c;cases c;exact zS d
  | false=>rw [d] at c;exact i c
 | node k m b j l=>
  intro c;simp only [DT.find] at c;cases d:Nat.blt a k with
  | true=>rw [d] at c;exact j c
  | false=>rw [d] at c;exact l c
def ni (K:Nat):Bool:=dq K||Nat.beq K 6
abbrev XS (P:aB) (c:Tc) (L a:Nat) (rt:TV->ae->Option (TV×ae)):CX:={
 R:=Option (TV×ae)
 bad:=none
 cl:=λK e s a k=>match c K e s a with
  | some p=>k p.1 p.2
  | none=>none
 gg:=WD none
 lp:=λb d l s=>La none b L d l s
 fl:=a
 rt:=rt
 P:=P}
def me (P:aB) (D:DT) (M:Tc) (L:Nat):Nat->Tc
 | 0=>λ_ _ _ _=>none
 | n+1=>λK a s d=>match M K a s d with
  | some p=>some p
  | none=>match D.find K with
   | some e=>bif Nat.beq e.n a.length then e.b (XS P (me P D M L n) L (bif AA.rw K then d else s.length) λr b=>jt (AA.rw K) (AA.aM K) s (some (r,b))) a [] s else none
   | none=>bif ni K then match P.funcs[real K]? with
     | some g=>match g.body with
      | some c=>bif Nat.ble a.length g.ntmps then qy P AA Pl (XS P (me P D M L n) L (bif AA.rw K then d else s.length) λr b=>jt (AA.rw K) (AA.aM K) s (some (r,b))) K g c a (λr b=>jt (AA.rw K) (AA.aM K) s (some (r,b))) s else none
      | none=>none
     | none=>none
    else match AA.tp K with
     | some f=>f a s d
     | none=>none
theorem tM {D:DT} {M:Tc} (J:∀K b s d p,M K b s d=some p->∃m,tc prog AA Pl ni m K b s d=some p):∀n K b s d p,me prog D M a n K b s d=some p->∃m,tc prog AA Pl ni m K b s d=some p:=by
 intro n;induction n with
 | zero=>intro K b s d p h;cases h
 | succ n X=>
  intro K b s d p h;have A:∀{i:Func} {c:Code},ni K->prog.funcs[real K]? =some i->i.body=some c->b.length<=i.ntmps->qy prog AA Pl (XS prog (me prog D M a n) a (bif AA.rw K then d else s.length) λr g=>jt (AA.rw K) (AA.aM K) s (some (r,g))) K i c b (λr g=>jt (AA.rw K) (AA.aM K) s (some (r,g))) s=some p->∃m,tc prog AA Pl ni m K b s d=some p:=by
   intro i c k l j o P;have L:ju prog AA Pl ni (XS prog (me prog D M a n) a (bif AA.rw K then d else s.length) λr g=>jt (AA.rw K) (AA.aM K) s (some (r,g))) (λr=>r=some p):=by have z:¬((none:Option (TV×ae))=some p):=Z;refine ⟨z,λ{K' c3 s' b2 b6} h=>?_,λh=>qx (λr=>r=some p) z h⟩;simp only at h;split at h;rename_i q x;have ⟨m,R⟩:=X _ _ _ _ _ x;exact ⟨m,q.1,q.2,R,h⟩;cases h
   have ⟨m,r0,g,E,F⟩:=n9 L (λ{b1 ts c2 s} h=>⟨a,h⟩) P;have H:=nY (nW (Nat.le_succ m) m m (zE m)) (Nat.le_succ m) _ E;refine ⟨m+1,?_⟩;simp only [tc,gZ,k,if_true,l,j,o];rw [H];exact F
  simp only [me] at h;split at h;rename_i q x;cases h;exact J _ _ _ _ _ x;split at h;rename_i e t;obtain rfl:=DT.HM t;have ⟨f,v⟩:=e.h;cases w:Nat.beq e.n b.length with
  | false=>rw [w] at h;cases h
  | true=>
   rw [w] at h;have y:=(zS w).symm;have C:=v.ok;simp only [okF,zP] at C;have ⟨⟨o1,o2⟩,o3⟩:=C;have ⟨c,j⟩:=xR.1 o2;have N:cG f=c:=by unfold cG;rw [j];rfl
   have t:=v.eq (XS prog (me prog D M a n) a (bif AA.rw e.K then d else s.length) λr g=>jt (AA.rw e.K) (AA.aM e.K) s (some (r,g))) b s y;rw [N] at t;refine A (by unfold ni;rw [o1];rfl) v.hf j (by rw [y];exact yR o3) (t.trans h)
  cases k:ni K with
  | true=>
   rw [k] at h;simp at h;split at h;rename_i i l;split at h;rename_i c j;cases o:Nat.ble b.length i.ntmps with
   | true=>rw [o] at h;exact A k l j (yR o) h
   | false=>rw [o] at h;cases h
   cases h;cases h
  | false=>rw [k] at h;simp at h;split at h;rename_i f l;refine ⟨1,?_⟩;simp only [tc,gZ,k,l];exact h;cases h
noncomputable def awD:DT:=(.node 127 (.node 68 (.node 35 (.node 18 (.node 10 (.node 7 (.node 4 (.one e3 .nil) (.one e4 (.one e5 .nil))) (.node 8 (.one e7 .nil) (.one e8 (.one e9 .nil)))) (.node 13 (.node 11 (.one FQ .nil) (.one BL (.one Mm .nil))) (.node 15 (.one NV (.one NU .nil)) (.one zj (.one e17 .nil))))) (.node 26 (.node 21 (.node 19 (.one e18 .nil) (.one e19 (.one e20 .nil))) (.node 23 (.one e21 (.one e22 .nil)) (.one e23 (.one e24 .nil)))) (.node 31 (.node 27 (.one e26 .nil) (.one WI (.one e30 .nil))) (.node 33 (.one e31 (.one e32 .nil)) (.one e33 (.one e34 .nil)))))) (.node 49 (.node 42 (.node 38 (.node 36 (.one e35 .nil) (.one e36 (.one e37 .nil))) (.node 40 (.one e38 (.one e39 .nil)) (.one WH (.one e41 .nil)))) (.node 45 (.node 43 (.one e42 .nil) (.one e43 (.one e44 .nil))) (.node 47 (.one e45 (.one e46 .nil)) (.one e47 (.one e48 .nil))))) (.node 61 (.node 57 (.node 50 (.one e49 .nil) (.one e50 (.one e51 .nil))) (.node 59 (.one e57 (.one ud .nil)) (.one e59 (.one e60 .nil)))) (.node 64 (.node 62 (.one BJ .nil) (.one e62 (.one e63 .nil))) (.node 66 (.one e64 (.one e65 .nil)) (.one e66 (.one e67 .nil))))))) (.node 97 (.node 83 (.node 74 (.node 71 (.node 69 (.one e68 .nil) (.one e69 (.one e70 .nil))) (.node 72 (.one e71 .nil) (.one e72 (.one e73 .nil)))) (.node 77 (.node 75 (.one e74 .nil) (.one e75 (.one e76 .nil))) (.node 79 (.one e77 (.one e78 .nil)) (.one e79 (.one e82 .nil))))) (.node 90 (.node 86 (.node 84 (.one e83 .nil) (.one B8 (.one BI .nil))) (.node 88 (.one e86 (.one e87 .nil)) (.one e88 (.one e89 .nil)))) (.node 93 (.node 91 (.one e90 .nil) (.one e91 (.one e92 .nil))) (.node 95 (.one e93 (.one e94 .nil)) (.one NT (.one NS .nil)))))) (.node 111 (.node 104 (.node 100 (.node 98 (.one BH .nil) (.one e98 (.one e99 .nil))) (.node 102 (.one Tj (.one Ti .nil)) (.one Th (.one Tg .nil)))) (.node 107 (.node 105 (.one Tf .nil) (.one Td (.one Tb .nil))) (.node 109 (.one Ta (.one T9 .nil)) (.one T8 (.one T7 .nil))))) (.node 118 (.node 114 (.node 112 (.one T6 .nil) (.one T5 (.one T4 .nil))) (.node 116 (.one T3 (.one T1 .nil)) (.one T0 (.one SZ .nil)))) (.node 121 (.node 119 (.one SY .nil) (.one SX (.one SW .nil))) (.node 123 (.one SU (.one SR .nil)) (.one Ml (.one SP .nil)))))))) (.node 183 (.node 154 (.node 140 (.node 133 (.node 130 (.node 128 (.one SN .nil) (.one kZ (.one Mj .nil))) (.node 131 (.one SK .nil) (.one SJ (.one B9 .nil)))) (.node 136 (.node 134 (.one mN .nil) (.one SI (.one Mi .nil))) (.node 138 (.one SH (.one Mh .nil)) (.one SF (.one SE .nil))))) (.node 147 (.node 143 (.node 141 (.one F2 .nil) (.one F0 (.one Mg .nil))) (.node 145 (.one SD (.one Mf .nil)) (.one SC (.one SB .nil)))) (.node 150 (.node 148 (.one SA .nil) (.one Sz (.one Sy .nil))) (.node 152 (.one Sw (.one Sv .nil)) (.one Su (.one Ss .nil)))))) (.node 169 (.node 161 (.node 157 (.node 155 (.one Sr .nil) (.one Me (.one Sq .nil))) (.node 159 (.one Sp (.one So .nil)) (.one Sm (.one Sl .nil)))) (.node 165 (.node 163 (.one Sk .nil) (.one Md (.one Sj .nil))) (.node 167 (.one Si (.one Sh .nil)) (.one Sf (.one Se .nil))))) (.node 176 (.node 172 (.node 170 (.one Sd .nil) (.one Sc (.one HX .nil))) (.node 174 (.one HW (.one kY .nil)) (.one EZ (.one Sb .nil)))) (.node 179 (.node 177 (.one Sa .nil) (.one S9 (.one EY .nil))) (.node 181 (.one EX (.one S8 .nil)) (.one EV (.one Mc .nil))))))) (.node 210 (.node 196 (.node 189 (.node 186 (.node 184 (.one a0H .nil) (.one S7 (.one S6 .nil))) (.node 187 (.one S5 .nil) (.one S4 (.one HV .nil)))) (.node 192 (.node 190 (.one a0G .nil) (.one a0F (.one a0E .nil))) (.node 194 (.one Mb (.one S2 .nil)) (.one RY (.one RX .nil))))) (.node 203 (.node 199 (.node 197 (.one RV .nil) (.one RU (.one RR .nil))) (.node 201 (.one RN (.one RM .nil)) (.one RJ (.one RI .nil)))) (.node 206 (.node 204 (.one RH .nil) (.one RE (.one HU .nil))) (.node 208 (.one HT (.one RD .nil)) (.one RC (.one RB .nil)))))) (.node 224 (.node 217 (.node 213 (.node 211 (.one Rz .nil) (.one Ry (.one Ma .nil))) (.node 215 (.one Rx (.one Rw .nil)) (.one Rv (.one Ru .nil)))) (.node 220 (.node 218 (.one a0D .nil) (.one Rs (.one Rr .nil))) (.node 222 (.one HS (.one M9 .nil)) (.one Rq (.one Rp .nil))))) (.node 232 (.node 228 (.node 226 (.one oT .nil) (.one Rn (.one Rm .nil))) (.node 230 (.one a0C (.one Rl .nil)) (.one Rk (.one Rj .nil)))) (.node 235 (.node 233 (.one Ri .nil) (.one EU (.one Rg .nil))) (.node 239 (.one Rf (.one w6 .nil)) (.one Re (.one Rd .nil)))))))))
end T
end Go.Proofs.YtglilpjokhgidaaGreatDoor
