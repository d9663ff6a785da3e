/- A part of TopRoom's proof. No condition. -/
import Derived.Test.YtglilpjokhgidaaGreatDoorC
set_option maxRecDepth 100000
set_option maxHeartbeats 4000000
set_option linter.unusedVariables false
set_option linter.unusedSimpArgs false
namespace Go.Proofs.YtglilpjokhgidaaGreatDoor
open Go.Proofs.Tryz (prog)
open Go.IntKind
namespace T
open Go V Q
variable {a b c d e f g:Nat} {u v w:Value} {i j k:Int} {t:TypeId} {p:List Value} {q:Bool} {n:IntKind} {x y z:TV} {r s:List TO} {o:List TV}
section
variable {A D:Lay} {J h:ae} {E fl:Nat} {F:Fe} {H:Hp}
def oX (n:Int) (b:List Vl):Prop:=∀(i:Nat) (k:Int) (a:Vl),(oY n)[i]? =some k->b[i]? =some a->k=0\/a.k=k
theorem y7 {a:cD} {J:ae}:bJ prog 77 9 (.sl q a) r J=(cN a).map λbs=>.v (.string ⟨bs.toArray⟩):=by have b:prog.underlying 77=some (.slice 5):=Y;have c:prog.underlying 9=some .string:=Y;have d:prog.underlying 5=some (.int .u8):=Y;unfold bJ;simp
theorem HN (n:Int):(oY n).length<=2:=by unfold oY;by_cases a:n=1\/n=2;rw [zP a];simp;rw [zO a];by_cases b:n=3\/n=4;rw [zP b];simp;rw [zO b];by_cases c:n=5;rw [zP c];simp;rw [zO c];by_cases d:n=6\/n=8;rw [zP d];simp;rw [zO d];simp
theorem QD {g:List Vl} {Q:jw} (E:g.length=(oY i).length)
  (w:oX i g->eR (X:=Xc prog fl (RW Q)) (.p true a 0) (.p true b 0) (I i) (.sl false (g.map aw)) (.p false 0 0) [.row (aw vz) 0] J)
  (x:¬oX i g->Q (.tu [.ag (aw vz),U 0,B false]) J):
  LP prog fl (RW Q) [0,1,2,3,8,34,35,36] (λk=>a8 (qU k)) [.p true a 0,.p true b 0,I i,.sl false (g.map aw),.p false 0 0,.sl false ((oY i).map λk=>[U k]),I (oY i).length,I (0:Nat)] [.row (aw vz) 0] J:=by
 refine LP.ind (λj:Nat=>(oY i).length-j) (λj=>j<=(oY i).length/\∀(c:Nat) (k:Int) (f:Vl),c<j->(oY i)[c]? =some k->g[c]? =some f->k=0\/f.k=k) (λj=>[.p true a 0,.p true b 0,I i,.sl false (g.map aw),.p false 0 0,.sl false ((oY i).map λk=>[U k]),I (oY i).length,I j]) (λ_=>[.row (aw vz) 0]) (λ_=>J) 1 (λ_ _=>⟨rfl,rfl,rfl⟩) (λj A k v=>?_) 0 ⟨zY _,λc _ _ h=>O⟩;have ⟨D,s⟩:=A;have F:=HN i;simp [qU];apply ST.dc<;>intro h;have C:j<(oY i).length:=by omega
 obtain ⟨o,m⟩:∃o,(oY i)[j]? =some o:=⟨_,zA C⟩;obtain ⟨f,q⟩:∃f,g[j]? =some f:=⟨_,zA O⟩;by_cases n:o=0;simp [m,zL n,wn (j:=j) O];refine v (j+1) _ _ _ Z rfl rfl ⟨O,λc k r z d l=>?_⟩ O;by_cases e:c=j;subst e;rw [m] at d;cases d;exact .inl n;exact s c k r O d l;by_cases p:f.k=o;simp [m,zB n,q,zL p,wn (j:=j) O];refine v (j+1) _ _ _ Z rfl rfl ⟨O,λc k r z d l=>?_⟩ O;by_cases e:c=j;subst e;rw [m] at d;cases d;rw [q] at l;cases l;exact .inr p;exact s c k r O d l;have y:¬oX i g:=λt=>by rcases t j o f m q with h|h;exact n h;exact p h
 have:=x y;simp [vz] at this;simp [m,zB n,q,zB p,vz];exact this;have t:=λc k f d l=>s c k f (Zo (ab d)) d l;exact w t
theorem kG {b:List Vl} {H:Hp} {F:Fe} {e:Hp} {d:Fe} {w:Vl} (g:1<=i) (k:i<=8) (f:b.length=(oY i).length) (m:oX i b)
  (l:eR (X:=Xc prog fl (RW (tY H e F d w j q a fl A J E))) (.p true (A.id bY) 0) (.p true (A.id ls) 0) (I i) (.sl false (b.map aw)) (.p false 0 0) [.row (aw vz) 0] J):
  EN prog 137 [.p true (A.id bY) 0,.p true (A.id ls) 0,I i,.sl false (b.map aw)] J fl (tY H e F d w j q a fl A J E):=by
 apply EW.o M4;have c:=PH i g k;simp [MU,CP.q c,f];exact QD f (λ_=>l) λh=>absurd m h
theorem a05 (c4:kz) (H:Hp) (F:Fe) (hF:∀b1∈F.ins,-9223372036854775808<=b1) (n:Int) (x:List Vl) (j:1<=n) (k:n<=8) (g:x.length=(oY n).length):OPf 137 H F λA=>[.p true (A.id bY) 0,.p true (A.id ls) 0,I n,.sl false (x.map aw)]:=by
 by_cases l:oX n x;have N:=λ(n:Int) (e:-9223372036854775808<=n)=>Hn n e;have mc:=λa b=>KV a b;simp at N mc;have c2:∀{o:Hp} {w:Vl} {t:Int} {m:Bool} {s:Nat} {b2:Nat} {xs:ao} {A:Lay} {J:ae} {E fl:Nat} (f:FR A J F) (d:dA fl A J) (M:bO xs) (c:EN prog b2 xs J fl (nJ H o w t m s fl A J E)),
   CL prog b2 xs fl (λb6 c6 s1=>ex (X:=Xc prog fl (RW (tY H o F F w t m s fl A J E))) 0 b6 (λc7=>ex 1 (ct 0 b6) λc8=>ex 2 (ct 1 (ct 0 b6)) λc9=>st 4 (.p false 0 0) c7 λ_=>lt true 4 (.p false 0 0) λBi=>rt (.tu [Bi,c8,c9])) c6 s1) [.row (aw vz) 0] J:=by
  intro o w t m s b2 xs A J E fl f d M c;refine CL.of c M λr h hq=>?_;have c5:=hq.f f d;obtain ⟨w1,K,d1,rfl⟩:=hq.via;simp [vz];exact c5
 have hn:n=1\/n=2\/n=3\/n=4\/n=5\/n=6\/n=7\/n=8:=O;have a1:n≠7->∃a r,x=a::r:=λe=>by
  cases x with
  | nil=>exfalso;rcases hn with rfl|rfl|rfl|rfl|rfl|rfl|rfl|rfl <;> simp [oY] at g e
  | cons a r=>exact ⟨a,r,rfl⟩
 rcases hn with rfl|rfl|rfl|rfl|rfl|rfl|rfl|rfl;obtain ⟨a,r,rfl⟩:=a1 O;have ⟨o,w,t,m,s,P,K,c⟩:=ZQ H a;refine ⟨o,F,w,t,m,s,P,K,λA J E fl e f d i=>kG j k g l ?_⟩;have v:=c2 f d rfl (c A J E fl e d i);simp [vz] at v;simp [eR,vz];exact v;obtain ⟨a,r,rfl⟩:=a1 O;have ⟨o,w,t,m,s,P,K,c⟩:=ZP c4 H a;refine ⟨o,F,w,t,m,s,P,K,λA J E fl e f d i=>kG j k g l ?_⟩;have v:=c2 f d rfl (c A J E fl e d i);simp [vz] at v;simp [eR,vz];exact v;obtain ⟨a,r,rfl⟩:=a1 O;have ⟨p,q,y,k2,k3⟩:=Az a;simp at y;refine ⟨H,F,lu p O,0,true,0,O,O,λA J E fl e f d i=>kG j k g l ?_⟩;simp [eR,vz,CP.q y];simp [CP.q (N p O)];exact tY.pure e f d;obtain ⟨a,r,rfl⟩:=a1 O;have ⟨p,q,y,k2,k3⟩:=Az a;simp at y;refine ⟨H,F,lu q O,0,true,0,O,O,λA J E fl e f d i=>kG j k g l ?_⟩;simp [eR,vz,CP.q y];simp [CP.q (N q O)];exact tY.pure e f d;obtain ⟨a,b,rfl⟩:∃a b,x=[a,b]:=by
  match x,g with
  | [a,b],_=>exact ⟨a,b,rfl⟩
 have ⟨p,q,y,_⟩:=Hl a.n b.n;refine ⟨H,F,pV p q,0,true,0,O,O,λA J E fl e f d i=>kG j k g l ?_⟩;simp [eR,vz,CP.q y];simp [CP.q (mc p q)];exact tY.pure e f d;obtain ⟨a,r,rfl⟩:=a1 O;have ⟨o,w,t,m,s,P,K,c⟩:=KU H ⟨#[UInt8.ofNat (u8.wrap a.n).toNat]⟩ (by simp [ByteArray.size]);refine ⟨o,F,w,t,m,s,P,K,λA J E fl e f d i=>kG j k g l ?_⟩;have v:=c2 f d rfl (c A J E fl e d i);simp at v;simp [eR,vz,y7,cN];exact v;have ⟨L,b1,m,M,c⟩:=ZN F;cases m with
 | true=>refine ⟨H,L,lu b1 (M rfl hF),0,true,0,O,O,λA J E fl e f d i=>kG j k g l ?_⟩;simp [eR];refine CL.o (c A J fl f d) λr h ⟨z,C,D⟩=>?_;subst z;simp [CP.q (N b1 (M rfl hF))];exact tY.feed e d C D
 | false=>refine ⟨H,L,vz,6,true,0,O,O,λA J E fl e f d i=>kG j k g l ?_⟩;simp [eR];refine CL.o (c A J fl f d) λr h ⟨z,C,D⟩=>?_;subst z;simp;exact tY.feed e d C D
 obtain ⟨a,r,rfl⟩:=a1 O;have ⟨L,c3,t,ht,hd,c⟩:=ZO F a.n;by_cases R:t=0;refine ⟨H,L,lu c3 (hd R),0,true,0,O,O,λA J E fl e f d i=>kG j k g l ?_⟩;simp [eR,vz];refine CL.o (c A J fl f d) λr h ⟨z,C,D⟩=>?_;subst z;simp [R,CP.q (N c3 (hd R))];exact tY.feed e d C D;refine ⟨H,L,vz,t,true,0,O,O,λA J E fl e f d i=>kG j k g l ?_⟩;simp [eR,vz];refine CL.o (c A J fl f d) λr h ⟨z,C,D⟩=>?_;subst z;simp [zB R];exact tY.feed e d C D;refine ⟨H,F,vz,0,false,0,O,O,λA J E fl e f d i=>EW.o M4 ?_⟩;have c:=PH n j k;simp [MU,CP.q c,g];exact QD g (λe=>absurd e l) λ_=>tY.pure e f d
end
theorem X3:i64.wrap 0=0:=bW O O
structure Fm where
 fn:Nat
 pc:Nat
 ai:Int
 ah:List Vl
 stack:List Vl
abbrev ej (i:Nat):Ro:=(7,i)
abbrev jY (i:Nat):Ro:=(8,i)
abbrev dI (i:Nat):Ro:=(9,i)
def Fm.cells (f:Fm) (sv a:TV):ao:=[I f.fn,I f.pc,I f.ai,sv,a,.v (.pointer none),I 0,.sl true []]
structure pB (A:Lay) (s:ae) (i:Nat) (f:Fm):Prop where
 al:A.al (ej i)
 row:∃sv kv,s[A.id (ej i)]? =some (.row (f.cells sv kv) 0)/\mh A (jY i) f.ah.length 4 sv/\SV A (dI i) f.stack.length 4 kv
 sl:A.al (jY i)->s[A.id (jY i)]? =some (.aY (A.az (jY i)) 4 (f.ah.map aw))
 sk:A.al (dI i)->∃js,s[A.id (dI i)]? =some (.aY (A.az (dI i)) 4 (f.stack.map aw++js))
 kl:f.stack.length<=1000000000000
def Bg (i:Nat) (r:Ro):Prop:=r=ej i\/r=jY i\/r=dI i
section
variable {A D:Lay} {J h:ae} {fl E:Nat} {f:Fm} {R:Ro->Prop} {a:Vl}
theorem pB.tV (d:pB A J E f) (e:NN R A D J h) (i:∀r,Bg E r->¬R r):pB D h E f:=by have m:=i (ej E) (.inl rfl);have n:=i (jY E) (.inr (.inl rfl));have o:=i (dI E) (.inr (.inr rfl));obtain ⟨a1,a2,a3⟩:=e.ag _ m;obtain ⟨j,k,b3⟩:=e.ag _ n;obtain ⟨c1,l,g⟩:=e.ag _ o;obtain ⟨sv,t,p,q,s⟩:=d.row;refine ⟨a3.trans d.al,⟨sv,t,by rw [a1,e.get _ d.al m];exact p,?_,?_⟩,λa=>?_,λa=>?_,d.kl⟩;rcases q with ⟨b,c⟩|⟨b,c⟩;exact .inl ⟨b3.trans b,by rw [j,k];exact c⟩;exact .inr ⟨b3.trans b,c⟩;rcases s with ⟨b,c⟩|⟨b,c⟩;exact .inl ⟨g.trans b,by rw [c1,l];exact c⟩;exact .inr ⟨g.trans b,c⟩;rw [b3] at a;rw [j,k,e.get _ a n];exact d.sl a;rw [g] at a;rw [c1,l,e.get _ a o];exact d.sk a
theorem pB.jm (a:pB A J E f) (c:dA fl A J) (d:bQ fl R A D J h) (b:∀r,Bg E r->¬R r):pB D h E f:=a.tV (d.tV c) b
def Nc (fl:Nat) (A:Lay) (J:ae) (E:Nat) (a:Fm) (h:ae):Prop:=∃D,pB D h E a/\bQ fl (Bg E) A D J h/\D.id (ej E)=A.id (ej E)
theorem m90 (m:pB A J E f) (d:dA fl A J) (M:fl<=J.length) (X:f.stack.length<1000000000000):EN prog 90 [.p true (A.id (ej E)) 0,.ag (aw a)] J fl λr h=>r= .tu []/\Nc fl A J E {f with stack:=f.stack++[a]} h:=by
 apply EW.o e90;have ⟨sv,kv,s,z,H⟩:=m.row;have c:=m.al;have C:=d.lo _ c;have R:=λx=>d.get_eq (o:=x) c;simp only [Fm.cells] at s;rcases H with ⟨al,rfl⟩|⟨al,F,rfl⟩;have ⟨N,K⟩:=m.sk al;have L:=d.lo _ al;have t:fits (f.stack.length+1) 32:=by unfold fits;exact decide_eq_true ⟨O,O⟩
 have q:=λ(l J:ae)=>kI (e:=4) (b:=32) (an:=2) (fl:=fl) (l:=l) (s:=J) (id:=A.id (dI E)) (az:=A.az (dI E)) (n:=f.stack.length) (sz:=4) (y:=.sl true [[U a.k,I a.n,I a.re,I a.im]]) rfl;have gk:∀x:TO,(J.set (A.id (ej E)) x)[A.id (dI E)]? =some (.aY (A.az (dI E)) 4 (f.stack.map aw++N)):=λx=>by rw [d.aX al c Z];exact K
 have gf:∀x y:TO,((J.set (A.id (ej E)) x).set (A.id (dI E)) y)[A.id (ej E)]? =some x:=λx y=>by rw [zE (d.ne al c Z),d.get_eq c]
 simp [b90,s,C,q,gk,L,t,gf];refine ⟨A.bump (dI E),⟨c,⟨sv,.m true (A.id (dI E)) (A.az (dI E)+1) 0 (f.stack.length+1) 4,?_,?_,?_⟩,λv=>?_,λ_=>⟨[],?_⟩,W⟩,?_,rfl⟩;show (List.set _ (A.id (ej E)) _)[A.id (ej E)]? =_;rw [zF (by simp;exact d.lt _ c)];rfl;rcases z with ⟨i,j⟩|⟨i,j⟩;exact .inl ⟨i,by rw [j];simp [Lay.bump]⟩;exact .inr ⟨i,j⟩;exact .inl ⟨al,by simp [Lay.bump]⟩;have g:=v;show (List.set _ (A.id (ej E)) _)[A.id (jY E)]? =_;rw [zE (d.ne c g Z),zE (d.ne al g Z),d.aX g c Z,m.sl g];simp [Lay.bump];show (List.set _ (A.id (ej E)) _)[A.id (dI E)]? =_;rw [zE (d.ne c al Z),zF (by simp;exact d.lt _ al)];simp [Lay.bump];have p:=bQ.set d c (o:=TO.row [I f.fn,I f.pc,I f.ai,sv,TV.m true (A.id (dI E)) (A.az (dI E)) 0 f.stack.length 4,.v (.pointer none),I 0,.sl true []] 0);have u2:=bQ.bump p.ij al (o:=TO.aY (A.az (dI E)+1) 4 (f.stack.map aw++[[U a.k,I a.n,I a.re,I a.im]]));have u3:=bQ.set u2.ij c (o:=TO.row [I f.fn,I f.pc,I f.ai,sv,TV.m true (A.id (dI E)) (A.az (dI E)+1) 0 (f.stack.length+1) 4,.v (.pointer none),I 0,.sl true []] 0);have P:=((p.mono (R':=Bg E) λr e=>.inl e).trans (u2.mono λr e=>.inr (.inr e))).trans (u3.mono λr e=>.inl e);exact P;have w:=zK F;have q:=λ(J:ae)=>fB (k:=true) (e:=4) (b:=32) (an:=2) (fl:=fl) (l:=[.row [U a.k,I a.n,I a.re,I a.im] 0]) (s:=J) (y:=.sl true [[U a.k,I a.n,I a.re,I a.im]]) rfl;have t:fits 1 32:=by decide
 simp [db,t] at q;have gf:∀x y:TO,(J.set (A.id (ej E)) x++[y])[A.id (ej E)]? =some x:=λx y=>by rw [d.set.fK c,d.get_eq c]
 have b1:=d.lt _ c;simp [b90,s,C,q,gf];refine ⟨A.new (dI E) J.length,⟨by simp [Lay.new,c],⟨sv,.m true J.length 0 0 1 4,?_,?_,?_⟩,λv=>?_,λ_=>⟨[],?_⟩,by simp [w]⟩,?_,by simp [Lay.new]⟩;rw [show (A.new (dI E) J.length).id (ej E)=A.id (ej E) by simp [Lay.new],zF W];rfl;rcases z with ⟨i,j⟩|⟨i,j⟩;exact .inl ⟨by simp [Lay.new,i],by rw [j];simp [Lay.new]⟩;exact .inr ⟨by simp [Lay.new,i],j⟩;exact .inl ⟨by simp [Lay.new],by simp [Lay.new,w]⟩;have g:A.al (jY E):=by simpa [Lay.new] using v
 rw [show (A.new (dI E) J.length).id (jY E)=A.id (jY E) by simp [Lay.new],zE (d.ne c g Z),d.set.fK g,d.aX g c Z,m.sl g];simp [Lay.new];rw [show (A.new (dI E) J.length).id (dI E)=J.length by simp [Lay.new],zE O,zH Z];simp [Lay.new,w];have p:=bQ.set d c (o:=TO.row [I f.fn,I f.pc,I f.ai,sv,.sl false [],.v (.pointer none),I 0,.sl true []] 0);have u2:=bQ.new (r0:=dI E) p.ij (Zs M) (o:=TO.aY 0 4 [[U a.k,I a.n,I a.re,I a.im]]);simp at u2;have D:(A.new (dI E) J.length).al (ej E):=by simp [Lay.new,c]
 have u3:=bQ.set (r0:=ej E) u2.ij D (o:=TO.row [I f.fn,I f.pc,I f.ai,sv,TV.m true J.length 0 0 1 4,.v (.pointer none),I 0,.sl true []] 0);rw [show (A.new (dI E) J.length).id (ej E)=A.id (ej E) by simp [Lay.new]] at u3;exact ((p.mono (R':=Bg E) λr e=>.inl e).trans (u2.mono λr e=>.inr (.inr e))).trans (u3.mono λr e=>.inl e)
theorem m93 {l:List Vl} (d:pB A J E f) (c:dA fl A J) (i:f.stack=l++[a]):EN prog 93 [.p true (A.id (ej E)) 0] J fl λr h=>r= .ag (aw a)/\Nc fl A J E {f with stack:=l} h/\∀sv p,J[A.id (ej E)]? =some (.row (f.cells sv p) 0)->∃q,h[A.id (ej E)]? =some (.row (({f with stack:=l}:Fm).cells sv q) 0):=by
 apply EW.o e93;have ⟨sv,p,j,s,t⟩:=d.row;have b:=d.al;have F:=d.kl;have v:=c.lo _ b;simp only [Fm.cells] at j;have H:f.stack.length=l.length+1:=by rw [i];simp
 rcases t with ⟨al,rfl⟩|⟨al,D,rfl⟩;have ⟨o,k⟩:=d.sk al;have C:i64.wrap ((f.stack.length:Int)-1)=(l.length:Int):=by rw [bW O O];omega
 have w:=λx=>fW (r:=true) (id:=A.id (dI E)) (az:=A.az (dI E)) (off:=0) (n:=f.stack.length) (sz:=4) (l:=x) (s:=J) gT;have m:(f.stack.map aw++o)[l.length]? =some (aw a):=by rw [i];simp
 have z:=λ(x y:ae)=>CW (bp:=l.length) (n:=f.stack.length) (id:=A.id (dI E)) (az:=A.az (dI E)) (off:=0) (sz:=4) (l:=x) (s:=y) O;simp at m;simp [b93,j,w,C,show (l.length:Int)<f.stack.length by omega,k,m,z,v];refine ⟨⟨A,⟨b,⟨sv,.m true (A.id (dI E)) (A.az (dI E)) 0 l.length 4,c.get_eq b,s,.inl ⟨al,rfl⟩⟩,λg=>by rw [c.aX g b Z];exact d.sl g,λ_=>⟨aw a::o,by rw [c.aX al b Z,k,i];simp⟩,by simp only;omega⟩,(bQ.set c b).mono λr e=>.inl e,rfl⟩,λK q g=>⟨.m true (A.id (dI E)) (A.az (dI E)) 0 l.length 4,?_⟩⟩;simp only [Fm.cells,List.cons.injEq] at g;rw [<-g.2.2.2.1];exact c.get_eq b;omega
theorem a06 {l a:List Vl} (j:pB A J E f) (d:dA fl A J) (q:f.stack=l++a):EN prog 136 [.p true (A.id (ej E)) 0,I a.length] J fl λr h=>r= .sl false (a.map aw)/\Nc fl A J E {f with stack:=l} h:=by
 apply EW.o Sr;have ⟨sv,kv,s,H,R⟩:=j.row;have c:=j.al;have c2:=j.kl;have z:=d.lo _ c;have w:=λx=>d.get_eq (o:=x) c;simp only [Fm.cells] at s;have b2:f.stack.length=l.length+a.length:=by rw [q];simp
 have w1:i64.wrap ((f.stack.length:Int)-a.length)=(l.length:Int):=by rw [bW O O];omega
 rcases R with ⟨al,rfl⟩|⟨al,e0,rfl⟩;have ⟨N,m⟩:=j.sk al;have L:=λx=>fW (r:=true) (id:=A.id (dI E)) (az:=A.az (dI E)) (off:=0) (n:=f.stack.length) (sz:=4) (l:=x) (s:=J) gT;have M:=λ(x y:ae)=>CW (bp:=l.length) (n:=f.stack.length) (id:=A.id (dI E)) (az:=A.az (dI E)) (off:=0) (sz:=4) (l:=x) (s:=y) O;have te:∀x,(aK prog 79 (some (I (l.length:Nat))) none none x J (.m true (A.id (dI E)) (A.az (dI E)) 0 f.stack.length 4)).bind (λv=>aO x J v)=some (a.map aw)/\∃v,aK prog 79 (some (I (l.length:Nat))) none none x J (.m true (A.id (dI E)) (A.az (dI E)) 0 f.stack.length 4)=some v:=by
  intro x;by_cases p:l.length=0;have b1:=zK p;have e:aK prog 79 (some (I (l.length:Nat))) none none x J (.m true (A.id (dI E)) (A.az (dI E)) 0 f.stack.length 4)=some (.m true (A.id (dI E)) (A.az (dI E)) 0 f.stack.length 4):=by unfold aK;simp only [gT,Ai,zR,Bj,pC,p];simp
  refine ⟨?_,_,e⟩;rw [e];simp;rw [fX];by_cases K:f.stack.length=0;rw [zP K];have:a=[]:=zK O;rw [this];rfl;rw [zO K,m,iR,zP ⟨rfl,rfl,Z⟩,wG,xP Z,yC Z,q,b1];simp;by_cases t:a.length=0;have C:=zK t;have e:aK prog 79 (some (I (l.length:Nat))) none none x J (.m true (A.id (dI E)) (A.az (dI E)) 0 f.stack.length 4)=some (.sl false []):=by unfold aK;simp only [gT,Ai,zR,Bj,pC];rw [zP (show (0:Int)<=l.length by omega)];simp only [yV];rw [zP ⟨O,zC _⟩,zO p,zP O]
  exact ⟨by rw [e,C];rfl,_,e⟩;have e:=IA (bp:=l.length) (n:=f.stack.length) (id:=A.id (dI E)) (az:=A.az (dI E)) (off:=0) (l:=x) (s:=J) O O m;refine ⟨?_,_,e⟩;rw [e];simp;rw [fX,zO O,m,iR,zP ⟨rfl,rfl,W⟩,q];simp
 have X:fits a.length 32:=by unfold fits;exact decide_eq_true ⟨O,O⟩
 have gk:∀x,(List.set J (A.id (ej E)) x)[A.id (dI E)]? =some (.aY (A.az (dI E)) 4 (f.stack.map aw++N)):=λx=>by rw [d.aX al c Z];exact m
 have ⟨D,v,F⟩:=te [];rw [F] at D;simp at D;have i:=fB (k:=true) (e:=4) (b:=32) (an:=0) (fl:=fl) D;rw [zP ⟨vlZ a,by rw [yQ];exact X,O⟩] at i;have P:Nc fl A J E {f with stack:=l} (J.set (A.id (ej E)) (.row [I f.fn,I f.pc,I f.ai,sv,.m true (A.id (dI E)) (A.az (dI E)) 0 l.length 4,.v (.pointer none),I 0,.sl true []] 0)):=
  ⟨A,⟨c,⟨sv,.m true (A.id (dI E)) (A.az (dI E)) 0 l.length 4,d.get_eq c,H,.inl ⟨al,rfl⟩⟩,λg=>by rw [d.aX g c Z];exact j.sl g,λ_=>⟨a.map aw++N,by rw [d.aX al c Z,m,q];simp⟩,by simp only;omega⟩,(bQ.set d c).mono λr e=>.inl e,rfl⟩
 by_cases t:a=[];subst t;simp at i b2;have w2:i64.wrap (f.stack.length:Int)=(l.length:Int):=by rw [bW O O];omega
 simp [HY,s,L,w2,F,i,z,w,M];exact P;have C:¬a.map aw=[]:=by simpa using t
 rw [zO C] at i;simp at i;simp [HY,s,L,w1,F,i,z,w,M];exact P;have p:l=[]/\a=[]:=by have:l.length=0/\a.length=0:=O;exact ⟨zK this.1,zK this.2⟩
 obtain ⟨rfl,rfl⟩:=p;have tn:∀(o:Bool) (x y:ae),aK prog 79 none (some (I 0)) none x y (.sl o [])=some (.sl o []):=λo x y=>by unfold aK;simp [Ai,Bj,pC]
 have b6:∀(o:Bool) (x y:ae),aK prog 79 (some (I 0)) none none x y (.sl o [])=some (.sl o []):=λo x y=>by unfold aK;simp [Ai,Bj,pC]
 have i:∀(x y:ae),cq true 4 32 0 fl (.sl true []) (.sl false []) x y=some (.sl true [],x,y):=λx y=>by rw [fB rfl];simp;decide
 have w0:=X3;simp [HY,s,w0,tn,b6,i,z,w];have c3:f.stack=[]:=by simpa using q
 exact ⟨A,⟨c,⟨sv,.sl true [],d.get_eq c,H,.inr ⟨al,rfl,rfl⟩⟩,λg=>by rw [d.aX g c Z];exact j.sl g,λg=>(by rw [al] at g;cases g),Z⟩,(bQ.set d c).mono λr e=>.inl e,rfl⟩
end
end T
namespace T
open Go V
variable {a b c d e f g:Nat} {u v w:Value} {i j k:Int} {t:TypeId} {p:List Value} {q:Bool} {n:IntKind} {x y z:TV} {r s:List TO} {o:List TV}
def bar (n:Int):Nat:=if n=5 then 2 else if n=7 then 0 else 1
structure IN where
 op:Int
 a:Int
 line:Int
structure FX where
 ah:Nat
 res:Bool
 fns:List (Nat×Bool)
 ty:Nat
 rc:Nat
inductive Good (Γ:FX) (ns:Nat) (D:Nat->di) (T:Nat->Prop) (q:Nat):Nat->IN->Prop
 | ai {d:Nat} {a l:Int} (h:D (q+1)=some d):Good Γ ns D T q d ⟨1,a,l⟩
 | lit {d:Nat} {o a l:Int} (ho:o=2\/o=3\/o=4\/o=6) (hl:o=2->-9223372036854775808<=a) (h:D (q+1)=some (d+1)):Good Γ ns D T q d ⟨o,a,l⟩
 | str {d:Nat} {a l:Int} (h0:0<=a) (h1:a<ns) (h:D (q+1)=some (d+1)):Good Γ ns D T q d ⟨5,a,l⟩
 | load {d:Nat} {a l:Int} (h0:0<=a) (h1:a<Γ.ah) (h:D (q+1)=some (d+1)):Good Γ ns D T q d ⟨7,a,l⟩
 | store {d:Nat} {a l:Int} (h0:0<=a) (h1:a<Γ.ah) (h:D (q+1)=some d):Good Γ ns D T q (d+1) ⟨8,a,l⟩
 | un {d:Nat} {a l:Int} (h:D (q+1)=some (d+1)):Good Γ ns D T q (d+1) ⟨9,a,l⟩
 | bin {d:Nat} {a l:Int} (h:D (q+1)=some (d+1)):Good Γ ns D T q (d+2) ⟨10,a,l⟩
 | jump {d a:Nat} {l:Int} (h:D a=some d) (ht:T a):Good Γ ns D T q d ⟨11,a,l⟩
 | AK {d a:Nat} {l:Int} (h:D (q+1)=some d) (h':D a=some d) (ht:T a):Good Γ ns D T q (d+1) ⟨12,a,l⟩
 | qB {d a:Nat} {o l:Int} (ho:o=13\/o=14) (h:D (q+1)=some d) (h':D a=some (d+1)) (ht:T a):Good Γ ns D T q (d+1) ⟨o,a,l⟩
 | index {d:Nat} {a l:Int} (h:D (q+1)=some (d+1)):Good Γ ns D T q (d+2) ⟨15,a,l⟩
 | put {d:Nat} {a l:Int} (h:D (q+1)=some d):Good Γ ns D T q (d+3) ⟨16,a,l⟩
 | field {d:Nat} {a l:Int} (h:D (q+1)=some (d+1)):Good Γ ns D T q (d+1) ⟨17,a,l⟩
 | GQ {d:Nat} {a l:Int} (h:D (q+1)=some d):Good Γ ns D T q (d+2) ⟨18,a,l⟩
 | call {d a n:Nat} {r:Bool} {l:Int} (hf:Γ.fns[a]? =some (n,r)) (h:D (q+1)=some (d+(bif r then 1 else 0))):Good Γ ns D T q (d+n) ⟨19,a,l⟩
 | built {d:Nat} {a l:Int} (h0:1<=a) (h1:a<=8) (h:D (q+1)=some (d+1)):Good Γ ns D T q (d+bar a) ⟨20,a,l⟩
 | list {d:Nat} {a l:Int} (h0:0<=a) (h1:a<Γ.ty) (h:D (q+1)=some (d+1)):Good Γ ns D T q (d+1) ⟨21,a,l⟩
 | mk {d:Nat} {a l:Int} (h0:0<=a) (h1:a<Γ.rc) (h:D (q+1)=some (d+1)):Good Γ ns D T q d ⟨22,a,l⟩
 | print {d:Nat} {a l:Int} (h:D (q+1)=some d):Good Γ ns D T q (d+1) ⟨23,a,l⟩
 | pop {d:Nat} {a l:Int} (h:D (q+1)=some d):Good Γ ns D T q (d+1) ⟨24,a,l⟩
 | ret {d:Nat} {a l:Int} (hr:Γ.res):Good Γ ns D T q (d+1) ⟨25,a,l⟩
 | leave {d:Nat} {a l:Int} (hr:Γ.res=false):Good Γ ns D T q d ⟨26,a,l⟩
theorem Good.imp {s:FX} {D l:Nat->di} {T r:Nat->Prop} {x:IN} (h:Good s a D T c d x) (v:a<=b) (e:∀k,D (c+1)=some k->l (c+1)=some k) (n:∀j k,T j->D j=some k->l j=some k) (o:∀j,T j->r j):Good s b l r c d x:=by
 cases h with
 | ai h=>exact .ai (e _ h)
 | lit p f h=>exact .lit p f (e _ h)
 | str g f h=>exact .str g O (e _ h)
 | load g f h=>exact .load g f (e _ h)
 | store g f h=>exact .store g f (e _ h)
 | un h=>exact .un (e _ h)
 | bin h=>exact .bin (e _ h)
 | jump h i=>exact .jump (n _ _ i h) (o _ i)
 | AK h m i=>exact .AK (e _ h) (n _ _ i m) (o _ i)
 | qB p h m i=>exact .qB p (e _ h) (n _ _ i m) (o _ i)
 | index h=>exact .index (e _ h)
 | put h=>exact .put (e _ h)
 | field h=>exact .field (e _ h)
 | GQ h=>exact .GQ (e _ h)
 | call t h=>exact .call t (e _ h)
 | built g f h=>exact .built g f (e _ h)
 | list g f h=>exact .list g f (e _ h)
 | mk g f h=>exact .mk g f (e _ h)
 | print h=>exact .print (e _ h)
 | pop h=>exact .pop (e _ h)
 | ret q=>exact .ret q
 | leave q=>exact .leave q
def JT (c:Nat->Option IN) (p e q a:Nat):Prop:=p<=a/\a<=e/\(q<a\/∃y,c a=some y/\y.op=1)
def I6 (b:FX) (a:Nat) (c:Nat->Option IN) (D:Nat->di) (p e:Nat):Prop:=∀q,p<=q->q<e->∃x,c q=some x/\∀d,D q=some d->Good b a D (JT c p e q) q d x
def wV (b:FX) (a:Nat) (c:Nat->Option IN) (p e:Nat) (d f:di):Prop:=p<=e/\∃D,D p=d/\D e=f/\I6 b a c D p e
def Has (c:Nat->Option IN) (p:Nat) (X:List IN):Prop:=∀i x,X[i]? =some x->c (p+i)=some x
def fP (b:FX) (a p:Nat) (X:List IN) (d f:di):Prop:=∀c,Has c p X->wV b a c p (p+X.length) d f
section
variable {D:FX} {J h E:Nat} {X YY9:List IN} {c:Nat->Option IN} {d e f:di}
theorem Has.left (h:Has c E (X++YY9)):Has c E X:=λi x a=>h i x (by rw [zD (ab a)];exact a)
theorem Has.right (h:Has c E (X++YY9)):Has c (E+X.length) YY9:=λi x a=>by have:=h (X.length+i) x (by rw [zH O,show X.length+i-X.length=i by omega];exact a);rwa [Nat.add_assoc]
theorem Has.hd {x:IN} (h:Has c E (x::X)):c E=some x:=h 0 x rfl
theorem Has.tl {x:IN} (h:Has c E (x::X)):Has c (E+1) X:=λi y a=>by have:=h (i+1) y (Zs a);rwa [show E+(i+1)=E+1+i by omega] at this
theorem Good.sub {j l:Nat->di} {E e k:Nat} {x:IN} (h:Good D J j (JT c E e g) g k x) (p:E<=g) (q:g<e) (n:a<=E) (o:e<=b) (m:∀d,E<=d->d<=e->l d=j d):Good D J l (JT c a b g) g k x:=
 h.imp (zC _) (λk i=>by rw [m _ O O];exact i) (λd k f i=>by rw [m _ f.1 f.2.1];exact i) λd f=>⟨yI n f.1,yI f.2.1 o,f.2.2⟩
theorem wV.app {E:Nat} (h:wV D J c E a d e) (k:wV D J c a b e f):wV D J c E b d f:=by
 obtain ⟨n,p,C,r,F⟩:=h;obtain ⟨y,j,z,A,K⟩:=k;refine ⟨yI n y,λq=>if q<=a then p q else j q,by simp [n,C],?_,λq v w=>?_⟩;by_cases i:b<=a;have:b=a:=by omega
 subst this;simp [r,<-z,A];simp [i,A];by_cases i:q<a;obtain ⟨x,l,m⟩:=F q v i;refine ⟨x,l,λd o=>(m d (by simpa [xZ i] using o)).sub v i (zC _) y λg H t=>by simp [t]⟩;obtain ⟨x,l,m⟩:=K q O w;have s:∀g,a<=g->g<=b->(if g<=a then p g else j g)=j g:=λg H t=>by
  by_cases e:g<=a;have:g=a:=by omega
  subst this;simp [r,z];simp [e]
 exact ⟨x,l,λd o=>(m d (by rw [<-s q O O];exact o)).sub O w n (zC _) s⟩
theorem fP.app (h:fP D J E X d e) (k:fP D J (E+X.length) YY9 e f):fP D J E (X++YY9) d f:=λc a=>by have:=(h c a.left).app (k c a.right);rwa [xB,<-Nat.add_assoc]
theorem fP.nil:fP D J E [] d d:=λc _=>⟨zC _,λ_=>d,rfl,rfl,λq b a=>by simp at a<;> omega⟩
theorem fP.mono (a:fP D J E X d e) (p:J<=h):fP D h E X d e:=λc n=>by obtain ⟨i,b,j,l,m⟩:=a c n;refine ⟨i,b,j,l,λq r s=>?_⟩;obtain ⟨x,f,g⟩:=m q r s;exact ⟨x,f,λd o=>(g d o).imp p (λ_ a=>a) (λ_ _ _ a=>a) λ_ a=>a⟩
theorem Has.get (h:Has c E X) (e:E<=b) (f:b<E+X.length):∃x,c b=some x:=by have d:b-E<X.length:=O;have:=h (b-E) X[b-E] (zA d);rw [show E+(b-E)=b by omega] at this;exact ⟨_,this⟩
theorem fP.dead:fP D J E X none none:=λc e=>⟨O,λ_=>none,rfl,rfl,λq a b=>by obtain ⟨x,g⟩:=e.get a b;exact ⟨x,g,λd f=>by cases f⟩⟩
theorem fP.one {k a:Nat} {x:IN} (h:Good D J (λ_=>some a) (λ_=>False) E k x):fP D J E [x] (some k) (some a):=λc f=>by
 refine ⟨Z,λq=>if q=E then some k else some a,Z,Z,λq g e=>?_⟩;have:q=E:=by simp at e<;> omega
 subst this;refine ⟨x,f.hd,λd b=>?_⟩;simp at b;subst b;exact h.imp (zC _) (λk h=>by simpa using h) (λ_ _ h=>h.elim) λ_ h=>h.elim
theorem fP.end_ {x:IN} (h:Good D J (λ_=>none) (λ_=>False) E a x):fP D J E [x] (some a) none:=λc f=>by
 refine ⟨Z,λq=>if q=E then some a else none,Z,Z,λq g e=>?_⟩;have:q=E:=by simp at e<;> omega
 subst this;refine ⟨x,f.hd,λd b=>?_⟩;simp at b;subst b;exact h.imp (zC _) (λa h=>by simp at h) (λ_ _ h=>h.elim) λ_ h=>h.elim
theorem fP.qB {B:List IN} {k:Nat} {o l:Int} (t:o=13\/o=14) (h:fP D J (E+1) B (some k) (some (k+1))):fP D J E (⟨o,(E+1+B.length:Nat),l⟩::B) (some (k+1)) (some (k+1)):=λc g=>by
 obtain ⟨v,j,r,f,s⟩:=h c g.tl;have m:E+(⟨o,(E+1+B.length:Nat),l⟩::B).length=E+1+B.length:=by simp <;> omega
 rw [m];refine ⟨O,λq=>if q=E then some (k+1) else j q,Z,by simp [f] <;> omega,λq z i=>?_⟩;by_cases e:q=E;subst e;refine ⟨_,g.hd,λd b=>?_⟩;simp at b;subst b;exact .qB t (by simp [r]) (by simp [f] <;> omega) ⟨O,O,.inl O⟩;obtain ⟨x,n,p⟩:=s q O i;exact ⟨x,n,λd b=>(p d (by simpa [e] using b)).sub O i O (zC _) λa w y=>by simp <;> omega⟩
theorem wV.wk {E e:Nat} (h:wV D J c E e d f) (w:f=none\/f=some a) (A:E<e):∃b,b E=d/\(b e=some a)/\I6 D J c b E e:=by
 obtain ⟨z,b,k,l,m⟩:=h;rcases w with rfl|rfl;refine ⟨λq=>if q=e then some a else b q,by simp [k] <;> omega,Z,λq y p=>?_⟩;obtain ⟨x,s,t⟩:=m q y p;have n:∀g j,b g=some j->(if g=e then some a else b g)=some j:=λg j i=>by by_cases o:g=e;subst o;rw [l] at i;cases i;simp [o,i]
 refine ⟨x,s,λr v=>(t r ?_).imp (zC _) (λ_=>n _ _) (λ_ _ _=>n _ _) λ_ h=>h⟩;simpa [Nat.ne_of_lt p] using v;exact ⟨b,k,l,m⟩
theorem fP.wk1 (h:fP D J E X (some a) f) (k:f=none\/f=some a):fP D J E X (some a) (some a):=λc b=>by by_cases d:X=[];subst d;simpa using (fP.nil) c b;have l:=List.length_pos_iff.2 d;obtain ⟨e,g,i,j⟩:=(h c b).wk k O;exact ⟨O,e,g,i,j⟩
theorem fP.br {B:List IN} {l:Int} (h:fP D J (E+1) B (some a) f) (s:f=none\/f=some a):fP D J E (⟨12,(E+1+B.length:Nat),l⟩::B) (some (a+1)) (some a):=λc i=>by
 obtain ⟨v,k,p,g,r⟩:=(h.wk1 s) c i.tl;have m:E+(⟨12,(E+1+B.length:Nat),l⟩::B).length=E+1+B.length:=by simp <;> omega
 rw [m];refine ⟨O,λq=>if q=E then some (a+1) else k q,Z,by simp [g] <;> omega,λq z j=>?_⟩;by_cases e:q=E;subst e;refine ⟨_,i.hd,λd b=>?_⟩;simp at b;subst b;exact .AK (by simp [p]) (by simp [g] <;> omega) ⟨O,O,.inl O⟩;obtain ⟨x,n,o⟩:=r q O j;exact ⟨x,n,λd b=>(o d (by simpa [e] using b)).sub O j O (zC _) λt w y=>by simp <;> omega⟩
theorem fP.br2 {A B:List IN} (h:fP D J (E+1) A (some a) e) (g:fP D J (E+1+A.length+1) B (some a) f) (L:e=none\/e=some a/\f=some a):
  fP D J E (⟨12,(E+1+A.length+1:Nat),i⟩::(A++⟨11,(E+1+A.length+1+B.length:Nat),j⟩::B)) (some (a+1)) f:=λc n=>by
 obtain ⟨X,v,F,r,H⟩:=h c n.tl.left;obtain ⟨R,w,p,l,C⟩:=g c n.tl.right.tl;have M:=n.tl.right.hd;have z:E+(⟨12,(E+1+A.length+1:Nat),i⟩::(A++⟨11,(E+1+A.length+1+B.length:Nat),j⟩::B)).length=E+1+A.length+1+B.length:=by simp <;> omega
 rw [z];generalize hm:E+1+A.length=m at*;have b1:E<m:=O;refine ⟨O,λq=>if q=E then some (a+1) else if q<=m then v q else w q,Z,by simp [l,show ¬(m+1+B.length=E) by omega,show ¬(m+1+B.length<=m) by omega],λq hp t=>?_⟩;by_cases k:q=E;subst k;refine ⟨_,n.hd,λd b=>?_⟩;simp at b;subst b;exact .AK (by simp [F,show q+1<=m by omega]) (by simp [p,show ¬(m+1=q) by omega,show ¬(m+1<=m) by omega]) ⟨O,O,.inl O⟩;by_cases y:q<m;obtain ⟨x,p,l⟩:=H q O O;exact ⟨x,p,λd b=>(l d (by simpa [k,xZ y] using b)).sub O O O O λo K s=>by simp [s] <;> omega⟩;by_cases e3:q=m;subst e3;refine ⟨_,M,λd b=>?_⟩;rcases L with rfl|⟨rfl,rfl⟩;simp [k,r] at b;simp [k,r] at b;subst b;refine .jump ?_ ⟨O,O,.inl O⟩;simp [l,show ¬(q+1+B.length=E) by omega,show ¬(q+1+B.length<=q) by omega];obtain ⟨x,N,P⟩:=C q O t;have e4:¬q<=m:=O;refine ⟨x,N,λd b=>(P d (by simpa [k,e4] using b)).sub O t O (zC _) λo K s=>?_⟩;simp [show ¬o=E by omega,show ¬o<=m by omega]
theorem fP.JP {e B:List IN} {l l' l'':Int} {a:Int} (h:fP D J (E+1) e (some 0) (some 1)) (g:fP D J (E+1+e.length+1) B (some 0) f) (F:f=none\/f=some 0):
  fP D J E (⟨1,a,l⟩::(e++⟨12,(E+1+e.length+1+B.length+1:Nat),l'⟩::(B++[⟨11,(E:Nat),l''⟩]))) (some 0) (some 0):=λc i=>by
 obtain ⟨P,r,y,z,A⟩:=h c i.tl.left;obtain ⟨N,s,k,o,w⟩:=g c i.tl.right.tl.left;have H:=i.tl.right.hd;have K:=i.tl.right.tl.right.hd;have v:E+(⟨1,a,l⟩::(e++⟨12,(E+1+e.length+1+B.length+1:Nat),l'⟩::(B++[⟨11,(E:Nat),l''⟩]))).length=E+1+e.length+1+B.length+1:=by simp <;> omega
 rw [v];generalize R:E+1+e.length=m at*;generalize X:m+1+B.length=n at*;have b1:E<m:=O;refine ⟨O,λq=>if q=E then some 0 else if q<=m then r q else if q<=n then s q else some 0,Z,by simp [show ¬(n+1=E) by omega,show ¬(n+1<=m) by omega,show ¬(n+1<=n) by omega],λq hp hq=>?_⟩;by_cases j:q=E;subst j;refine ⟨_,i.hd,λd b=>?_⟩;simp at b;subst b;exact .ai (by simp [y,show q+1<=m by omega]);by_cases t:q<m;obtain ⟨x,k,o⟩:=A q O O;exact ⟨x,k,λd b=>(o d (by simpa [j,xZ t] using b)).sub O O O O λa C p=>by simp [p] <;> omega⟩;by_cases e3:q=m;subst e3;refine ⟨_,H,λd b=>?_⟩;simp [j,z] at b;subst b;refine .AK ?_ ?_ ⟨O,O,.inl O⟩;simp [k,show ¬(q+1=E) by omega,show q+1<=n by omega,show ¬(q+1<=q) by omega];simp [show ¬(n+1=E) by omega,show ¬(n+1<=q) by omega,show ¬(n+1<=n) by omega];by_cases e4:q<n;obtain ⟨x,L,M⟩:=w q O e4;have e5:¬q<=m:=O;refine ⟨x,L,λd b=>(M d (by simpa [j,e5,xZ e4] using b)).sub O e4 O O λa C p=>?_⟩;simp [show ¬a=E by omega,show ¬a<=m by omega,p];have:q=n:=by omega
 subst this;refine ⟨_,K,λd b=>?_⟩;simp [j,show ¬q<=m by omega,o] at b;rcases F with rfl|rfl;cases b;cases b;exact .jump Z ⟨O,O,.inr ⟨_,i.hd,rfl⟩⟩
end
end T
namespace T
open Go V Q
variable {a b c d e f g:Nat} {u v w:Value} {i j k:Int} {t:TypeId} {p:List Value} {q:Bool} {n:IntKind} {x y z:TV} {r s:List TO} {o:List TV}
section
variable {L:List Tok} {fl n m:Nat} {J:dL} {E D:ae} {h q r:PS} {g e f:Int}
theorem Ch.pc (b:Ch L h n q g e f) (c:q.c=0):h.c=0:=by by_cases a:h.c=0;exact a;exact absurd c (b.cS.bad a).1
theorem n109 (c:eY L) (h:PS) (n:∀q:PS,mz L q<mz L h->q.i<L.length->EP prog 147 [q.v L] (NR L 5 2 q)) (e:h.i<L.length):EP prog 109 [h.v L] (NR L 6 1 h):=by
 refine EP.o SR λD Q i=>?_;simp [UH,lZ e];apply CP.o (oC c h e _);rintro _ ⟨t,rfl,a0⟩;simp;refine LP.ind (λx:List Nd×PS=>mz L x.2) (λx=>Ch L h x.1.length x.2 100 5 0) (λx=>[.p false 0 0,.p false 1 0,.p false 2 0,.sl true (x.1.map bG)]) (λx=>[.row (ce (x.2.v L)) 0,.row z131 0,.row (df (tk L h.i)) 0]) (λ_=>D) 3 (λ_ _=>⟨rfl,rfl,rfl⟩) (λx a k p=>?_) ([],t) (a0.iH O O O);have ⟨N,q⟩:=x;simp only at a;have d:=a.cS.lt;have m:=a.gQ c O;have f:vq (X:=PX prog D Q) (.p false 0 0) (.p false 1 0) (.p false 2 0) (.sl true (N.map bG)) [.row (ce (q.v L)) 0,.row z131 0,.row (df (tk L h.i)) 0] D:=by simp [vq,ub _ _ _ _ _ _ _ dm N m];apply CP.o (rO c q d _);rintro _ ⟨r,rfl,a1⟩;simp;first|exact i _ ⟨(Nd.mk _ _ _ _ _ _ (by first|exact Tok.fH _|omega))::N,r,rfl,Z,(a.trans a1).node.to Z O O O⟩|exact i _ ⟨(Nd.mk _ _ _ _ _ dm (by first|exact Tok.fH _|omega))::N,r,rfl,Z,(a.trans a1).node.to Z O O O⟩
 simp at f;simp [uK];apply ST.dc<;>intro b;simp [zL b,jv d];apply ST.mk<;>intro g;simpa [zL b,g] using f;simp;have s:=a.tA b;apply CP.o (n q (a.mz e (a.pc b) O) d);rintro _ ⟨M,v,rfl,y,a1⟩;have w:=a1.gQ c O;have j:=λfl l D=>eu (fl:=fl) (l:=l) (s:=D) (o:=false) N M O;simp at j;simp [j];exact p (N++M,v) _ _ _ Z Z rfl ((s.trans a1).to Z O O O) (a1.mz d b O);simpa [zB b] using f
theorem n147 (i:eY L) (h:PS) (hB:∀q:PS,mz L q<mz L h->q.i<L.length->EP prog 109 [q.v L] (NR L 6 1 q)) (o:h.i<L.length):EP prog 147 [h.v L] (NR L 5 2 h):=by
 refine EP.o Sk λD Q hQ=>?_;have t:∀(nd:Nd) (N:List Nd) (q:PS) (m:Nat),m+1=(nd::N).length->Ch L h (m+1) q 4 5 2->Q (.tu [.sl false ((nd::N).map bG),q.v L]):=λnd N q m z x=>hQ _ ⟨nd::N,q,rfl,Z,by rw [<-z];exact x⟩;simp [HX,lZ o,jv o];apply ST.mk<;>intro j;have p:=(eU j).1;simp;apply CP.o (fC i h o _);rintro _ ⟨v,rfl,a1,A⟩;replace a1:=a1.sure p (A j);simp;apply CP.o (vN i v a1.cS.lt 1 O);rintro _ ⟨f1,r,rfl,a2⟩;simp;apply CP.o (fC i r a2.cS.lt _);rintro _ ⟨s,rfl,a3,_⟩;simp;apply CP.o (Ho i s a3.cS.lt);rintro _ ⟨N,q4,rfl,o4,a4⟩;simp;apply CP.o (fC i q4 a4.cS.lt _);rintro _ ⟨q5,rfl,a5,_⟩;simp;apply CP.o (vM i q5 a5.cS.lt);rintro _ ⟨M,q6,rfl,o6,a6⟩;have y:=a4.gQ i O;have F:=a6.gQ i O;simp [pO N M O,AT _ _ _ _ _ _ _ _ N M y F];apply CP.o (fC i q6 a6.cS.lt _);rintro _ ⟨q7,rfl,a7,_⟩;simp;have:=t (Nd.mk 7 (tk L h.i).line (tk L h.i).nH (N++M).length 0 f1.text) (N++M) q7 _ Z ((((((((a1.trans a2).trans a3).trans a4).trans a5).trans a6).trans a7).node).iH O O O);simpa using this;simp [jv o];apply ST.mk<;>intro j;have p:=(eU j).1;simp;apply CP.o (fC i h o _);rintro _ ⟨v,rfl,a1,A⟩;replace a1:=a1.sure p (A j);simp;apply CP.o (vM i v a1.cS.lt);rintro _ ⟨N,r,rfl,o2,a2⟩;simp;have R:=a1.trans a2;apply CP.o (hB r (R.mz o p O) a2.cS.lt);rintro _ ⟨M,s,rfl,o3,a3⟩;have y:=a2.gQ i O;have F:=a3.gQ i O;have c3:=R.trans a3;simp [pO N M O,jv a3.cS.lt];apply ST.mk<;>intro x;simp;apply CP.o (fC i s a3.cS.lt _);rintro _ ⟨q4,rfl,a4,_⟩;simp;have c4:=c3.trans a4;apply CP.o (hB q4 (c4.mz o p O) a4.cS.lt);rintro _ ⟨c8,q5,rfl,o5,a5⟩;have b3:=a5.gQ i O;have c5:=c4.trans a5;have d2:=c5.gQ i O;have d3:=λfl l k=>pO (fl:=fl) (l':=l) (s:=D) (k':=k) (N++M) c8 W;have w:=λfl l k a b c d e f g=>ub (fl:=fl) (l':=l) (s:=D) (k':=k) a b c d e f g dm (N++M++c8) W;simp at d3 w;simp [d3,w];have:=t (Nd.mk 9 (tk L h.i).line (tk L h.i).nH (N++M++c8).length 0 dm) (N++M++c8) q5 _ W (c5.node.iH O O O);simpa using this;simp [AT _ _ _ _ _ _ _ dm N M y F];have:=t (Nd.mk 9 (tk L h.i).line (tk L h.i).nH (N++M).length 0 dm) (N++M) s _ Z (c3.node.iH O O O);simpa using this;simp [jv o];apply ST.mk<;>intro j;have p:=(eU j).1;simp;apply CP.o (fC i h o _);rintro _ ⟨v,rfl,a1,A⟩;replace a1:=a1.sure p (A j);simp;apply CP.o (vM i v a1.cS.lt);rintro _ ⟨N,r,rfl,o2,a2⟩;simp;have R:=a1.trans a2;apply CP.o (hB r (R.mz o p O) a2.cS.lt);rintro _ ⟨M,s,rfl,o3,a3⟩;have y:=a2.gQ i O;have F:=a3.gQ i O;have c3:=R.trans a3;simp [pO N M O,AT _ _ _ _ _ _ _ dm N M y F];have:=t (Nd.mk 10 (tk L h.i).line (tk L h.i).nH (N++M).length 0 dm) (N++M) s _ Z (c3.node.iH O O O);simpa using this;simp [jv o];apply ST.mk<;>intro j;have p:=(eU j).1;simp;apply CP.o (fC i h o _);rintro _ ⟨v,rfl,a1,A⟩;replace a1:=a1.sure p (A j);simp [jv a1.cS.lt];apply ST.mk<;>intro x;simp [uf];apply CP.o (fC i v a1.cS.lt _);rintro _ ⟨r,rfl,a2,_⟩;simp;first|exact t (Nd.mk _ _ _ _ _ _ (by first|exact Tok.fH _|omega)) [] r _ Z ((a1.trans a2).node.iH O O O)|exact t (Nd.mk _ _ _ _ _ dm (by first|exact Tok.fH _|omega)) [] r _ Z ((a1.trans a2).node.iH O O O)
 simp;apply CP.o (vM i v a1.cS.lt);rintro _ ⟨N,r,rfl,o2,a2⟩;simp [ub _ _ _ _ _ _ _ dm N (a2.gQ i O)];apply CP.o (fC i r a2.cS.lt _);rintro _ ⟨s,rfl,a3,_⟩;simp;first|exact t (Nd.mk _ _ _ _ _ _ (by first|exact Tok.fH _|omega)) N s _ Z (((a1.trans a2).trans a3).node.iH O O O)|exact t (Nd.mk _ _ _ _ _ dm (by first|exact Tok.fH _|omega)) N s _ Z (((a1.trans a2).trans a3).node.iH O O O)
 simp [jv o];apply ST.mk<;>intro j;have p:=(eU j).1;simp;apply CP.o (fC i h o _);rintro _ ⟨v,rfl,a1,A⟩;replace a1:=a1.sure p (A j);simp;apply CP.o (vM i v a1.cS.lt);rintro _ ⟨N,r,rfl,o2,a2⟩;simp [ub _ _ _ _ _ _ _ dm N (a2.gQ i O)];apply CP.o (fC i r a2.cS.lt _);rintro _ ⟨s,rfl,a3,_⟩;simp;first|exact t (Nd.mk _ _ _ _ _ _ (by first|exact Tok.fH _|omega)) N s _ Z (((a1.trans a2).trans a3).node.iH O O O)|exact t (Nd.mk _ _ _ _ _ dm (by first|exact Tok.fH _|omega)) N s _ Z (((a1.trans a2).trans a3).node.iH O O O)
 simp;apply CP.o (vM i h o);rintro _ ⟨N,q,rfl,o1,a1⟩;obtain ⟨nd,n,rfl⟩:∃nd n,N=nd::n:=by
  cases N with
  | nil=>simp at o1
  | cons a N=>exact ⟨a,N,rfl⟩
 have H:=a1.cS.lt;have y:=a1.gQ i O;have d1:∀(C:PS) (g e f:Int),Ch L h (nd::n).length C g e f->0<=g->e<=4->f<=1->CL prog 103 [C.v L,S [59]] D.length (λb6=>st (X:=PX prog D Q) 6 (.p false 1 0) b6 λ_=>lt true 6 (.p false 1 0) λc6=>rt (.tu [.sl false (((Nd.mk 13 (tk L h.i).line (tk L h.i).nH (nd::n).length 0 dm)::nd::n).map bG),c6])) [.row (ce (C.v L)) 0,.row z131 0,.row (df (tk L h.i)) 0] D:=by intro C g e f hu hg he hf;apply CP.o (fC i C hu.cS.lt _);rintro _ ⟨g1,rfl,a3,_⟩;simp;have:=t (Nd.mk 13 (tk L h.i).line (tk L h.i).nH (nd::n).length 0 dm) (nd::n) g1 _ Z (((hu.trans a3).node).iH O O O);simpa using this
 have c7:tw L q.i q.c ⟨#[61]⟩->∀l,l=[.row (ce (q.v L)) 0,.row z131 0,.row (df (tk L h.i)) 0]->PR (CL prog 103 [q.v L,S [61]] D.length (λf2=>af (X:=PX prog D Q) 192 [f2,(I 1)] λd8=>ex 0 d8 λf3=>ex 1 (ct 0 d8) λf4=>al z131 0 λc9=>st 6 c9 f4 λ_=>lg 5 (.p false 2 0) λd9=>lg 6 c9 λd5=>sv λK P=>af 110 [.sl false ((nd::n).map bG),f3] λBi=>
   rc [rl true true true none true 5 (.p false 2 0) d9 K P,rl true true true none true 6 c9 d5 K P] <| sv λK P=>af 71 [(U 8),d9,(S []),(I 0),Bi] λf5=>rc [rl true true true none true 6 c9 d5 K P] <| af 103 [d5,(S [59])] λf6=>st 6 (.p false 1 0) f6 λ_=>lt true 6 (.p false 1 0) λf7=>rt (.tu [f5,f7])) l D):=by
  intro j l hl;subst hl;have p:=(eU j).1;apply CP.o (fC i q H _);rintro _ ⟨v,rfl,a2,_⟩;simp;apply CP.o (vM i v a2.cS.lt);rintro _ ⟨M,r,rfl,o2,a3⟩;have F:=a3.gQ i O;have d3:=λfl l k=>pO (fl:=fl) (l':=l) (s:=D) (k':=k) (nd::n) M O;have w:=λfl l k a b c d e f g=>ub (fl:=fl) (l':=l) (s:=D) (k':=k) a b c d e f g dm (nd::n++M) (by simp at y ⊢;have:=a1.gQ i O;have:=((a1.trans a2).trans a3).gQ i O;simp at this;omega);simp at d3 w;simp [d3,w];apply CP.o (fC i r a3.cS.lt _);rintro _ ⟨s,rfl,a4,_⟩;simp;have:=t (Nd.mk 8 (tk L h.i).line (tk L h.i).nH (nd::n++M).length 0 dm) (nd::n++M) s _ W (((((a1.tA p).trans a2).trans a3).trans a4).node.iH O O O);simpa using this
 have bad:CL prog 70 [q.v L,I 5] D.length (λf9=>st (X:=PX prog D Q) 6 (.p false 0 0) f9 λ_=>lg 5 (.p false 2 0) λf8=>lg 6 (.p false 0 0) λe6=>sv λK P=>af 71 [(U 13),f8,(S []),(I 0),.sl false ((nd::n).map bG)] λd6=>rc [rl true true true none true 6 (.p false 0 0) e6 K P] <| af 103 [e6,(S [59])] λb6=>st 6 (.p false 1 0) b6 λ_=>lt true 6 (.p false 1 0) λc6=>rt (.tu [d6,c6])) [.row (ce (q.v L)) 0,.row z131 0,.row (df (tk L h.i)) 0] D:=by apply CP.o (rK H 5 O);rintro _ ⟨C,rfl,e1,e2⟩;have w:=λfl l k a b c d e f g=>ub (fl:=fl) (l':=l) (s:=D) (k':=k) a b c d e f g dm (nd::n) y;simp at w;simp [w];have:=d1 C _ _ _ ((a1.trans (Ch.fail H e1 e2)).to Z (wJ _) (wJ _) (wJ _)) O O O;exact this
 have d7:CL prog 71 [(U 13),.ag (df (tk L h.i)),(S []),(I 0),.sl false ((nd::n).map bG)] D.length (λd6=>rc (X:=PX prog D Q) [rl true true true none true 6 (.p false 0 0) (q.v L) [.row (ce (q.v L)) 0,.row z131 0,.row (df (tk L h.i)) 0] D] <| af 103 [q.v L,(S [59])] λb6=>st 6 (.p false 1 0) b6 λ_=>lt true 6 (.p false 1 0) λc6=>rt (.tu [d6,c6])) [.row (ce (q.v L)) 0,.row z131 0,.row (df (tk L h.i)) 0] D:=by have w:=λfl l k a b c d e f g=>ub (fl:=fl) (l':=l) (s:=D) (k':=k) a b c d e f g dm (nd::n) y;simp at w;simp [w];have:=d1 q _ _ _ a1 O O O;exact this
 clear d1;simp [jv H];apply ST.mk<;>intro j;replace c7:=c7 j _ rfl;simp [j];apply ST.dc<;>intro z;simp [zL z];exact c7;simp [zB z];apply ST.dc<;>intro x;simp [zL x];exact c7;simp [zB x];apply ST.dc<;>intro h3;simp;exact c7;simp [j,jv H];exact bad;simp [j,jv H];apply ST.mk<;>intro z;simp [z];apply ST.dc<;>intro x;simp;exact d7;simp;exact bad;simp [z];exact d7
theorem HX (b:eY L):∀(n:Nat) (h:PS),mz L h<n->h.i<L.length->EP prog 147 [h.v L] (NR L 5 2 h)/\EP prog 109 [h.v L] (NR L 6 1 h):=by
 intro n;induction n with
 | zero=>intro h e;omega
 | succ n d=>intro h e c;exact ⟨n147 b h (λq f a=>(d q O a).2) c,n109 b h (λq f a=>(d q O a).1) c⟩
theorem a0h (a:eY L) (h:PS) (b:h.i<L.length):EP prog 109 [h.v L] (NR L 6 1 h):=(HX a _ h (yF _) b).2
theorem m68 (a:eY L) (h:PS) (g:h.i<L.length):EP prog 68 [h.v L] (NR L 8 1 h):=by
 refine EP.o e68 λD Q f=>?_;simp [b68,lZ g];apply CP.o (fC a h g _);rintro _ ⟨w,rfl,a1,_⟩;simp;apply CP.o (vN a w a1.cS.lt 2 O);rintro _ ⟨t,y,rfl,a2⟩;simp;apply CP.o (oC a y a2.cS.lt _);rintro _ ⟨s,rfl,a0⟩;simp;refine LP.ind (λx:List Nd×PS=>mz L x.2) (λx=>Ch L h x.1.length x.2 100 6 0) (λx=>[.p false 0 0,.p false 1 0,.p false 2 0,.p false 3 0,.sl true (x.1.map bG)]) (λx=>[.row (ce (x.2.v L)) 0,.row z131 0,.row (df (tk L h.i)) 0,.row (df t) 0]) (λ_=>D) 4 (λ_ _=>⟨rfl,rfl,rfl⟩) (λx b k n=>?_) ([],s) (((a1.trans a2).trans a0).iH O O O);have ⟨N,q⟩:=x;simp only at b;have d:=b.cS.lt;have j:=b.gQ a O;have e:D3 (X:=PX prog D Q) (.p false 0 0) (.p false 1 0) (.p false 2 0) (.p false 3 0) (.sl true (N.map bG)) [.row (ce (q.v L)) 0,.row z131 0,.row (df (tk L h.i)) 0,.row (df t) 0] D:=by simp [D3,ub _ _ _ _ _ _ _ _ N j];apply CP.o (rO a q d _);rintro _ ⟨r,rfl,a1⟩;simp;first|exact f _ ⟨(Nd.mk _ _ _ _ _ _ (by first|exact Tok.fH _|omega))::N,r,rfl,Z,(b.trans a1).node.to Z O O O⟩|exact f _ ⟨(Nd.mk _ _ _ _ _ dm (by first|exact Tok.fH _|omega))::N,r,rfl,Z,(b.trans a1).node.to Z O O O⟩
 simp [BT];apply ST.dc<;>intro c;simp [zL c,jv d];apply ST.mk<;>intro m;exact e;simp;have p:=b.tA c;apply CP.o (PY a q d 3);rintro _ ⟨M,z,rfl,C,a1⟩;have A:=a1.gQ a O;simp;apply CP.o (fC a z a1.cS.lt _);rintro _ ⟨v,rfl,a2,_⟩;have i:=λfl l D=>eu (fl:=fl) (l:=l) (s:=D) (o:=false) N M O;simp at i;simp [i];exact n (N++M,v) _ _ _ Z Z rfl (((p.trans a1).trans a2).to Z O O O) ((a1.trans a2).mz d c O);first|exact e|(simp [zB c];exact e)
theorem m69 (b:eY L) (h:PS) (K:h.i<L.length):EP prog 69 [h.v L] (NR L 20 5 h):=by
 refine EP.o e69 λD Q hQ=>?_;simp [b69,lZ K];apply CP.o (fC b h K _);rintro _ ⟨q1,rfl,a1,_⟩;simp;apply CP.o (vN b q1 a1.cS.lt 1 O);rintro _ ⟨t,q2,rfl,a2⟩;simp;apply CP.o (oC b q2 a2.cS.lt _);rintro _ ⟨q0,rfl,a0⟩;simp;refine LP.ind (λx:List Nd×PS×Int=>mz L x.2.1) (λx=>Ch L h x.1.length x.2.1 100 6 0/\-9223372036854775808<=x.2.2) (λx=>[.p false 0 0,.p false 1 0,.p false 2 0,.p false 3 0,.sl true (x.1.map bG),I x.2.2]) (λx=>[.row (ce (x.2.1.v L)) 0,.row z131 0,.row (df (tk L h.i)) 0,.row (df t) 0]) (λ_=>D) 4 (λ_ _=>⟨rfl,rfl,rfl⟩) (λx i k hk=>?_) ([],q0,0) ⟨((a1.trans a2).trans a0).iH O O O,Z⟩;have ⟨N,q,j⟩:=x;have ⟨i,H⟩:=i;simp only at i H;have p:=i.cS.lt;have b1:=i.gQ b O;have w:D2 (X:=PX prog D Q) (.p false 0 0) (.p false 1 0) (.p false 2 0) (.p false 3 0) (.sl true (N.map bG)) (I j) [.row (ce (q.v L)) 0,.row z131 0,.row (df (tk L h.i)) 0,.row (df t) 0] D:=by
  simp [D2];apply CP.o (rO b q p _);rintro _ ⟨r,rfl,a1⟩;have b6:∀(R:List Nd) (a:PS) (g e f:Int),Ch L h (N.length+R.length) a g e f->10<=g->e<=11->f<=1->R.length<200000000->CL prog 109 [a.v L] D.length (λc2=>ex (X:=PX prog D Q) 0 c2 λc9=>ex 1 (ct 0 c2) λd1=>st 6 (.p false 0 0) d1 λ_=>lg 5 (.p false 2 0) λy=>pa 4 (.p false 3 0) λz=>l1 z λA=>lg 6 (.p false 0 0) λs=>sv λc d=>af 110 [.sl true (N.map bG),.sl false (R.map bG)] λd2=>
    rc [rl true true true none true 5 (.p false 2 0) y c d,rl true true true none false 1 z A c d,rl true true true none true 6 (.p false 0 0) s c d] <| sv λc d=>af 110 [d2,c9] λd5=>
    rc [rl true true true none true 5 (.p false 2 0) y c d,rl true true true none false 1 z A c d,rl true true true none true 6 (.p false 0 0) s c d] <| sv λc d=>af 71 [(U 4),y,A,I j,d5] λd6=>rc [rl true true true none true 6 (.p false 0 0) s c d] <| st 6 (.p false 1 0) s λ_=>lt true 6 (.p false 1 0) λBi=>rt (.tu [d6,Bi])) [.row (ce (a.v L)) 0,.row z131 0,.row (df (tk L h.i)) 0,.row (df t) 0] D:=by
   intro R a g e f n hg he hf hR;apply CP.o (a0h b a n.cS.lt);rintro _ ⟨M,v,rfl,o1,a2⟩;have b2:=a2.gQ b O;have C:=λfl l k=>pO (fl:=fl) (l':=l) (s:=D) (k':=k) (N++R) M W;have b4:=(n.trans a2).gQ b O;have F:=λfl l k c4 c5 c6 c7 e f g x=>ub (fl:=fl) (l':=l) (s:=D) (k':=k) c4 c5 c6 c7 e f g x (N++R++M) W;simp at C F;simp [pO N R O,C,F,t.text.2,H];exact hQ _ ⟨(Nd.mk 4 (tk L h.i).line (tk L h.i).nH (N++R++M).length j t.text)::(N++R++M),v,Z,Z,(n.trans a2).node.to W O O O⟩
  simp [jv a1.cS.lt];apply ST.mk<;>intro m;simp;apply CP.o (fC b r a1.cS.lt _);rintro _ ⟨a,rfl,a2,_⟩;simp;apply CP.o (Ho b a a2.cS.lt);rintro _ ⟨R,v,rfl,o1,a3⟩;have:=b6 R v _ _ _ ((((i.trans a1).trans a2).trans a3).to Z (wJ _) (wJ _) (wJ _)) O O O (a3.gQ b O);simp;exact this;have:=b6 [(Nd.mk 14 0 0 0 0 dm)] r _ _ _ ((i.trans a1).node.to Z (wJ _) (wJ _) (wJ _)) O O O Z;simp;exact this
 simp [BS];apply ST.dc<;>intro m;simp [zL m,jv p];apply ST.mk<;>intro h1;exact w;have c8:=i.tA m;have P:∀a:PS,Ch L q 0 a 0 0 0->CL prog 106 [a.v L,U 5] D.length (λc3=>ex (X:=PX prog D Q) 0 c3 λd7=>ex 1 (ct 0 c3) λd8=>st 6 (.p false 0 0) d8 λ_=>ap false 6 56 0 (.sl true (N.map bG)) d7 λd9=>bo .add 2 (I j) (I 1) λe1=>k [.p false 0 0,.p false 1 0,.p false 2 0,.p false 3 0,d9,e1]) [.row (ce (a.v L)) 0,.row z131 0,.row (df (tk L h.i)) 0,.row (df t) 0] D:=by intro a n;apply CP.o (PY b a n.cS.lt 5);rintro _ ⟨M,v,rfl,_,a2⟩;have b2:=a2.gQ b O;have ta:=λfl l D=>eu (fl:=fl) (l:=l) (s:=D) (o:=false) N M O;simp at ta;simp [ta];exact hk (N++M,v,i64.wrap (j+1)) _ _ _ Z Z rfl ⟨((c8.trans n).trans a2).to Z O O O,BA _⟩ ((n.trans a2).mz p m O)
 simp;apply ST.dc<;>intro h2;simp;apply CP.o (fC b q p _);rintro _ ⟨a,rfl,a1,_⟩;simp;exact P a (a1.iH O O O);simp;exact P q (Ch.refl p);first|exact w|(simp [zB m];exact w)
theorem m46 (i:eY L) (h:PS) (K:h.i<L.length):EP prog 46 [h.v L] λr=>∃(N:List Nd) (q:PS),r= .tu [.sl false (N.map bG),q.v L]/\q.i<L.length/\N.length<=300000:=by
 refine EP.o e46 λD Q H=>?_;simp [b46];refine LP.ind (λx:List Nd×PS=>mz L x.2) (λx=>Ch L h x.1.length x.2 0 20 0) (λx=>[.p false 0 0,.p false 1 0,.sl true (x.1.map bG)]) (λx=>[.row (ce (x.2.v L)) 0,.row z131 0]) (λ_=>D) 2 (λ_ _=>⟨rfl,rfl,rfl⟩) (λx j k J=>?_) ([],h) ((Ch.refl K).iH O O O);have ⟨N,q⟩:=x;simp only at j;have b:=j.cS.lt;have w:=j.gQ i O;have n:D5 (X:=PX prog D Q) (.p false 0 0) (.p false 1 0) (.sl true (N.map bG)) [.row (ce (q.v L)) 0,.row z131 0] D:=by simp [D5,ub _ _ _ _ _ _ _ dm N w];have z1:=j.sz;have z2:=i.gQ;have z3:=j.cS.lt;exact H _ ⟨(Nd.mk _ _ _ _ _ dm (by first|exact Tok.fH _|omega))::N,q,rfl,b,W⟩
 simp [C1];apply ST.dc<;>intro d;simp [zL d,lZ b];apply ST.dc<;>intro m;first|exact n|(simp [zL d,zL m];exact n)
 simp [jv b];have P:=j.tA d;have s:∀(M:List Nd) (a:PS) (g e f:Int),Ch L q M.length a g e f->0<g->e<=20->f<=20->∀t E,t=[.p false 0 0,.p false 1 0,.sl true (N.map bG++M.map bG)]->E.take 2=[.row (ce (a.v L)) 0,.row z131 0]->k t E D:=λM a g e f m p v R t E C F=>J (N++M,a) _ _ _ (by simp [C]) F rfl ((P.trans m).to Z O O O) (m.mz b d p);apply ST.mk<;>intro p;simp;apply CP.o (m68 i q b);rintro _ ⟨M,a,rfl,_,a1⟩;have y:=a1.gQ i O;have c:=λfl l D=>eu (fl:=fl) (l:=l) (s:=D) (o:=false) N M O;simp at c;simp [c];exact s M a _ _ _ a1 O O O _ _ rfl Z;simp [jv b];apply ST.mk<;>intro v;simp;apply CP.o (m69 i q b);rintro _ ⟨M,a,rfl,_,a1⟩;have y:=a1.gQ i O;have c:=λfl l D=>eu (fl:=fl) (l:=l) (s:=D) (o:=false) N M O;simp at c;simp [c];exact s M a _ _ _ a1 O O O _ _ rfl Z;simp;apply CP.o (rK b 5 O);rintro _ ⟨a,rfl,z,A⟩;have c:=λfl l D=>eu (fl:=fl) (l:=l) (s:=D) (o:=true) N [] W;simp at c;simp [c];exact s [] a _ _ _ (Ch.fail b z A) O O O _ _ Z Z;first|exact n|(simp [zB d];exact n)
def PR2 (r:TV):Prop:=∃(N:List Nd) (c l k:Int),r= .tu [.sl false (N.map bG),.ag [I c,I l,I k]]/\N.length<=300000
theorem m47 (h:PS) (d:h.i<L.length) (N:List Nd) (i:N.length<=300000):EP prog 47 [.sl false (N.map bG),h.v L] PR2:=by refine EP.o e47 λD Q b=>?_;have a:=λc l k=>b _ ⟨[],c,l,k,rfl,Z⟩;simp [b47,lZ d];apply ST.dc<;>intro f;simp;apply ST.dc<;>intro g;simp;exact b _ ⟨N,0,0,0,rfl,i⟩;simp;exact a _ _ _;simp;apply CP.o (rK d 5 O);rintro _ ⟨m,rfl,j,e⟩;simp [e];exact a _ _ _
theorem m26 (b:aU) (j:b.size<=2000):EP prog 26 [.v (.string b)] PR2:=by refine EP.o e26 λD Q a=>?_;simp [b26];apply CP.o (n45 b j);rintro _ ⟨L,o,c,l,k,rfl,i⟩;simp;apply ST.dc<;>intro h;have d:=i h;simp;apply CP.o (m46 d ⟨0,0,0,0,0⟩ d.one);rintro _ ⟨N,q,rfl,e,f⟩;simp;apply CP.o (m47 q e N f);rintro _ ⟨M,c,l,k,rfl,g⟩;simp;exact a _ ⟨M,c,l,k,rfl,g⟩;simp;exact a _ ⟨[],c,l,k,rfl,Z⟩
end
def nd (N:List Nd) (i:Nat):Nd:=N.getD i (Nd.mk 0 0 0 0 0 dm)
theorem aZ {N:List Nd} (h:a<N.length):N[a]? =some (nd N a):=getD_some h _
def sz (N:List Nd) (i:Nat):Nat:=(nd N i).size.toNat
inductive Kc (N:List Nd):Nat->Nat->aA->Prop
 | nil {b:Nat}:Kc N b b []
 | cons {k b:Nat} {l:aA}:k<b->k<N.length->0<=(nd N k).size->Kc N (k+1+sz N k) b l->Kc N k b (k::l)
section
variable {N:List Nd} {a E D k:Nat} {l J:aA}
theorem Kc.le (h:Kc N a E l):a<=E:=by induction h <;> omega
theorem Kc.snoc (h:Kc N a k l) (c:k<N.length) (b:0<=(nd N k).size):Kc N a (k+1+sz N k) (l++[k]):=by
 induction h with
 | nil=>exact .cons O c b .nil
 | cons g d e i f=>exact .cons O d e (f c b)
theorem Kc.mem (h:Kc N a E l):∀k∈l,a<=k/\k<E/\k<N.length:=by
 induction h with
 | nil=>intro k h;cases h
 | cons c d f g e=>intro k b;rcases yL.1 b with rfl|b;exact ⟨zC _,c,d⟩;have:=e k b;omega
structure TI (N:List Nd) (i:Nat):Prop where
 nn:0<=(nd N i).size
 le:i+1+sz N i<=N.length
 ks:∃ks,Kc N (i+1) (i+1+sz N i) ks
def G (N:List Nd) (a E:Nat):Prop:=∀D,a<=D->D<E->TI N D/\D+1+sz N D<=E
structure Te (N:List Nd) (a b:Nat):Prop where
 eq:b=a+1+sz N a
 g:G N a b
theorem Te.lt (h:Te N a E):a<E/\E<=N.length:=by have:=h.eq;have:=(h.g a (zC _) O).1.le;omega
theorem n148 (R:N.length<1000000000):∀(n a:Nat),N.length-a<n->a<2000000000->EP prog 148 [.sl false (N.map bG),I a] λr=>r=I (-1)\/∃E:Nat,r=I E/\Te N a E:=by
 intro n;induction n with
 | zero=>intro a h;omega
 | succ n C=>
  intro a X b1;refine EP.o Sj λs Q o=>?_;have bad:=o _ (.inl rfl);simp [Um];apply ST.dc<;>intro h;simp [zL h];exact bad;have y:a<N.length:=O;have g:=aZ y;have F:i64.wrap ((N.length:Int)-1)=(N.length:Int)-1:=bW O O;have H:i64.wrap ((N.length:Int)-1-a)=(N.length:Int)-1-a:=bW O O;have K:=wn (j:=a) O;simp [zB h,g];apply ST.dc<;>intro b;simp [zL b];exact bad;simp [zB b,g,F,H];apply ST.dc<;>intro c;simp;exact bad;have A:(nd N a).size=(sz N a:Int):=by unfold sz;omega
  have L:i64.wrap ((a:Int)+1+(sz N a:Int))=(a:Int)+1+(sz N a:Int):=bW O O;simp [g,K,A,L];obtain ⟨st,p⟩:∃st,st=a+1+sz N a:=⟨_,rfl⟩;have q:(a:Int)+1+(sz N a:Int)=(st:Int):=O;rw [q];refine LP.ind (λx:di=>match x with|none=>0|some k=>1+(st-k)) (λx=>∀k,x=some k->a+1<=k/\k<=N.length/\(∃J,Kc N (a+1) k J)/\G N (a+1) k) (λx=>[.sl false (N.map bG),I st,I (match x with|none=>-1|some k=>(k:Int))]) (λ_=>[]) (λ_=>s) 0 (λ_ _=>⟨rfl,rfl,rfl⟩) (λx z k f=>?_) (some (a+1)) (λk f=>by cases f;exact ⟨O,O,⟨_,.nil⟩,λD b c=>O⟩);cases x with
  | none=>simp [qQ,vh,show ¬((-1:Int)=(st:Int)) by omega];exact bad
  | some j=>have ⟨M,P,⟨J,l⟩,m⟩:=z j rfl;simp [qQ];apply ST.dc<;>intro t;simp;apply CP.o (C j O O);rintro _ (rfl|⟨E,rfl,d⟩);simp;exact f none _ _ _ rfl rfl rfl (λk h=>by cases h) W;simp;have e:=d.eq;have:=d.lt;refine f (some E) _ _ _ rfl rfl rfl (λk h=>?_) W;cases h;refine ⟨O,O,⟨_,by rw [e];exact l.snoc O (d.g j O O).1.nn⟩,λD b c=>?_⟩;by_cases i:D<j;have:=m D b i;exact ⟨this.1,O⟩;exact d.g D O c;simp [vh];apply ST.dc<;>intro v;simp;have w:j=st:=O;subst w;refine o _ (.inr ⟨j,rfl,p,λD b c=>?_⟩);by_cases i:D=a;subst i;exact ⟨⟨O,O,⟨J,by rw [<-p];exact l⟩⟩,O⟩;exact m D O c;simp;exact bad
theorem PW (c:N.length<1000000000):EP prog 111 [.sl false (N.map bG)] λr=>∃E:Bool,r=B E/\(E=true->0<N.length/\Te N 0 N.length):=by
 refine EP.o SN λs Q a=>?_;simp [UF];apply ST.dc<;>intro h;simp [h];apply CP.o (n148 c _ 0 (yF _) O);rintro _ (rfl|⟨E,rfl,d⟩);simp;exact a _ ⟨_,rfl,λh=>by simp at h⟩;simp;refine a _ ⟨_,rfl,λb=>?_⟩;have:E=N.length:=by
  have:(E:Int)=N.length:=by simpa using b
  omega
 subst this;exact ⟨h,d⟩;simp [h];exact a _ ⟨_,rfl,λh=>by cases h⟩
@[simp] def bF (k:Nat):ao:=[I k]
theorem KE (L:aA):cR 0 1 (L.map bF):=bD (λx=>rfl) L
theorem Au (hN:N.length<1000000000) (w:a<N.length) (f:TI N a) (c:Kc N (a+1) (a+1+sz N a) J):EP prog 49 [.sl false (N.map bG),I a] λr=>r= .sl false (J.map bF):=by
 refine EP.o e49 λs Q v=>?_;have m:=wn (j:=a) O;have t:=aZ w;have y:=f.le;have X:=f.nn;have C:(nd N a).size=(sz N a:Int):=by unfold sz;omega
 have w4:i64.wrap ((a:Int)+1+(sz N a:Int))=(a:Int)+1+(sz N a:Int):=bW O O;simp [b49,m];obtain ⟨st,z⟩:∃st,st=a+1+sz N a:=⟨_,rfl⟩;rw [<-z] at c y;have n:(a:Int)+1+(sz N a:Int)=(st:Int):=O;have P:i64.wrap (st:Int)=st:=bW O O;refine LP.ind (λx:aA×aA×Nat=>st-x.2.2) (λx=>J=x.1++x.2.1/\Kc N x.2.2 st x.2.1/\x.1.length<=x.2.2) (λx=>[.sl false (N.map bG),I a,.sl true (x.1.map bF),I x.2.2]) (λ_=>[]) (λ_=>s) 0 (λ_ _=>⟨rfl,rfl,rfl⟩) (λx A k c=>?_) ([],J,a+1) ⟨rfl,c,Z⟩;have ⟨D,R,j⟩:=x;have ⟨d,b,q⟩:=A;simp only at d b q;have hj:=b.le;simp [BY,t,m,C,n,P];apply ST.dc<;>intro h;cases b with
 | nil=>omega
 | cons H g K e=>
  rename_i R;have F:(nd N j).size=(sz N j:Int):=by unfold sz;omega
  have:=e.le;have L:=wn (j:=j) O;have M:i64.wrap ((j:Int)+1+(sz N j:Int))=(j:Int)+1+(sz N j:Int):=bW O O;have i:=λp l s=>dO (fl:=p) (l:=l) (s:=s) (o:=true) (b:=8) KE O O D [j] W;simp at i;simp [i,aZ g,L,F,M];refine c (D++[j],R,j+1+sz N j) _ _ _ Z rfl rfl ⟨by simp [d],e,W⟩ W
 cases b with
 | nil=>simp [J5];apply v _;rw [d];simp
 | cons H g K e=>omega
end
section
variable {N:List Nd} {fl:Nat} {J:dL} {E D:ae}
theorem PG (b:aU) (s:b.size<=100000) (m:Int):EP prog 193 [.v (.string b),U m] λr=>∃x:Bool,r=B x:=by
 refine EP.o RC λD Q q=>?_;have c:=λx=>q _ ⟨x,rfl⟩;simp [TZ];have l:0<b.size->CL prog 64 [.v (.string b),I 0] D.length (λi=>ex (X:=PX prog D Q) 0 i λv=>ex 1 (ct 0 i) λw=>ex 2 (ct 1 (ct 0 i)) λy=>al bS 0 λo=>st 5 o v λ_=>bo .eql 3 y (I 0) λf=>gg f true (mv (bw w)) λz=>gg f true (mv (bw (.v (.string b)))) λA=>gg f true (ln 9 A) λC=>gg f true (bo .eql 3 z C) λE=>
   pk f E (B false) λg=>gg g true (pa 0 o) λF=>gg g true (l1 F) λH=>gg g true (mv (bw (U m))) λJ=>gg g true (bo .eql 5 H J) λK=>pk g K (B false) λL=>rt L) [] D:=by
  intro d;apply CP.o (n64 b s 0 d);rintro _ ⟨t,j,e,rfl,_⟩;simp;apply ST.dc<;>intro h;simp [zL h];apply ST.dc<;>intro a;simp [zL a];exact c _;simp [zB a];exact c _;simp [zB h];exact c _
 apply ST.dc<;>intro h;simp [h];exact c _;have d:0<b.size:=Nat.pos_of_ne_zero (Zs h);have n:∀k,mn prog 9 (.v (.string b)) (.v (.int k 0))=some (U (jy b 0)):=λk=>dD d;simp [h,n];apply ST.dc<;>intro a;simp [a,n];apply ST.dc<;>intro p;simp;exact c _;simp;exact l d;simp [a];exact l d
theorem a03 (b:aU) (c:b.size<=100000):EP prog 149 [.v (.string b)] λr=>∃x:Bool,r=B x:=by refine EP.o Si λD Q a=>?_;simp [Ul];apply CP.o (PG b c 2);rintro _ ⟨x,rfl⟩;simp;exact a _ ⟨_,rfl⟩
theorem a02 (b:aU) (c:b.size<=100000):EP prog 150 [.v (.string b)] λr=>∃x:Bool,r=B x:=by refine EP.o Sh λD Q a=>?_;simp [Uk];apply CP.o (PG b c 1);rintro _ ⟨x,rfl⟩;simp;exact a _ ⟨_,rfl⟩
theorem a0g (x:Nd):EP prog 112 [.ag (bG x)] λr=>∃x:Bool,r=B x:=by
 refine EP.o SK λD Q w=>?_;have c:=λx=>w _ ⟨x,rfl⟩;obtain ⟨a,ln,cl,sz,K,e⟩:=x;have i:∀(fl:Nat) (J:dL) (E:ae),(∀b:Bool,PR (J (B b) E D))->CL prog 149 [.v (.string e.1)] fl J E D:=λfl J E h=>CP.o (a03 e.1 e.2) (by rintro _ ⟨x,rfl⟩;exact h x);have j:∀(fl:Nat) (J:dL) (E:ae),(∀b:Bool,PR (J (B b) E D))->CL prog 150 [.v (.string e.1)] fl J E D:=λfl J E h=>CP.o (a02 e.1 e.2) (by rintro _ ⟨x,rfl⟩;exact h x);have y:a=2\/a=19\/a=3\/a=5\/a=7\/a=26\/a=27\/a=29\/a=4\/a=23\/(¬a=2/\¬a=19/\¬a=3/\¬a=5/\¬a=7/\¬a=26/\¬a=27/\¬a=29/\¬a=4/\¬a=23):=O;rcases y with h|h|h|h|h|h|h|h|h|h|⟨k,m,n,o,p,q,s,t,v,l⟩
 case inr.inr.inr.inr.inr.inr.inr.inr.inr.inr=>simp [MY,k,m,n,o,p,q,s,t,v,l];apply ST.dc<;>intro g;rotate_left;simp;exact c _;simp;apply ST.dc<;>intro z;simp;exact c _;simp;apply ST.dc<;>intro A;simp;apply ST.dc<;>intro h;simp [h];exact c _;simp [h];exact c _;simp;apply ST.dc<;>intro C;simp;apply ST.dc<;>intro h;simp [h];exact c _;simp [h];exact c _;simp;apply ST.dc<;>intro F;simp;apply ST.dc<;>intro h;simp [h];exact c _;simp [h];exact c _;simp;apply ST.dc<;>intro H;simp;apply ST.dc<;>intro h;simp [h];apply ST.dc<;>intro f;simp [f];exact c _;simp [f];apply ST.dc<;>intro d;simp [d];exact c _;simp [d];exact c _;simp [h];apply ST.dc<;>intro d;simp [d];exact c _;simp [d];exact c _;simp;exact c _
 all_goals
  simp [MY,h];first|exact c _|((first|refine i _ _ _ λb=>?_|refine j _ _ _ λb=>?_);cases b <;> simp <;> exact c _)
end
def bK (k:Int):Int:=if k=14 then 48 else if 15<=k/\k<=20 then 116 else if 21<=k/\k<=32 then 101 else if 7<=k/\k<=13 then 115 else if k=6 then 98 else if k=5 then 112 else if k=3 then 102 else if k=2\/k=4 then 100 else 45
def str (S:List Int):aU:=⟨(S.map λn=>UInt8.ofNat n.toNat).toArray⟩
def sm (S:List Int):Prop:=∀c∈S,0<=c/\c<256
theorem jI (S:List Int):(str S).size=S.length:=by simp [str,ByteArray.size]
theorem oW {S:List Int} (h:sm S) (b:a<S.length):jy (str S) a=S.getD a 0:=by have c:=h _ (zW b);unfold jy str;simp only [zG,zJ,zA b,zM,Option.getD_some];rw [UInt8.toNat_ofNat_of_lt' (by show S[a].toNat<256;omega)];omega
theorem str_inj {S T:List Int} (h:sm S) (f:sm T) (e:str S=str T):S=T:=by
 have g:S.length=T.length:=by rw [<-jI,<-jI,e]
 refine List.ext_getElem g λi c d=>?_;have a:=oW h c;have b:=oW f d;rw [e,b] at a;simpa [zG,zA c,zA d] using a.symm
theorem CQ {S:List Int} (h:a<=S.length):(str S).extract 0 a=str (S.take a):=by apply ByteArray.ext;rw [ByteArray.data_extract];simp [str,List.map_take]
theorem GH (k:Int):0<=bK k/\bK k<256:=by unfold bK;repeat' split <;> (try omega)
section
variable {N:List Nd} {fl D:Nat} {J:aA} {E:dL} {l' h:ae}
theorem a01 (x:Nd):EP prog 151 [.ag (bG x)] λr=>r=U (bK x.kind):=by refine EP.o Sf λh Q a=>?_;obtain ⟨k,ln,cl,sz,l,m⟩:=x;unfold bK at a;simp only at a;simp [Uj];apply ST.dc<;>intro c;simp;exact a _ (by simp [c]);simp;apply ST.dc<;>intro e;simp [e];apply ST.dc<;>intro b;simp;exact a _ (by simp [c,e,b]);simp [show 21<=k by omega];apply ST.dc<;>intro d;simp;exact a _ (by simp [c,b,d,show 21<=k by omega]);simp [show 7<=k by omega,show ¬k<=13 by omega,show ¬k=6 by omega,show ¬k=5 by omega,show ¬k=3 by omega,show ¬k=2 by omega,show ¬k=4 by omega];exact a _ (by simp [c,b,d,show ¬k<=13 by omega,show ¬k=6 by omega,show ¬k=5 by omega,show ¬k=3 by omega,show ¬k=2 by omega,show ¬k=4 by omega]);simp [e,show ¬21<=k by omega];apply ST.dc<;>intro b;simp [b,show k<=13 by omega];exact a _ (by simp [c,e,b,show ¬21<=k by omega,show k<=13 by omega]);simp [b];apply ST.dc<;>intro d;simp;exact a _ (by simp [d]);simp;apply ST.dc<;>intro g;simp;exact a _ (by simp [g]);simp;apply ST.dc<;>intro i;simp;exact a _ (by simp [i]);simp;apply ST.dc<;>intro f;simp [f];exact a _ (by simp [f]);simp [f];apply ST.dc<;>intro j;simp;exact a _ (by simp [j]);simp;exact a _ (by simp [c,e,b,d,g,i,f,j,show ¬21<=k by omega])
theorem a00 (b:aU) (o:b.size<1000000000000) (c:Int):EP prog 152 [.v (.string b),U c] λr=>∃x:Bool,r=B x/\(x=true->∀j,j<b.size->jy b j=c):=by refine EP.o Se λh Q f=>?_;simp [Ui];refine LP.ind (λj:Nat=>b.size-j) (λj=>j<=b.size/\∀D,D<j->jy b D=c) (λj=>[.v (.string b),U c,I j]) (λ_=>[]) (λ_=>h) 0 (λ_ _=>⟨rfl,rfl,rfl⟩) (λj l k m=>?_) 0 ⟨O,λ_ a=>O⟩;have ⟨n,d⟩:=l;simp [uC];apply ST.dc<;>intro a;have w:=wn (j:=j) O;simp [dD a];apply ST.dc<;>intro e;simp [w];refine m (j+1) _ _ _ Z rfl rfl ⟨a,λD g=>?_⟩ O;by_cases i:D=j;rw [i];exact e;exact d D O;simp;exact f _ ⟨false,rfl,Z⟩;simp [Dq];exact f _ ⟨true,rfl,λ_ D g=>d D O⟩
end
def dB (x:Nd) (i:Nat) (S:List Int) (a:Int):Prop:=
 if x.kind=1 then i=0/\∀c∈S,c=100 else if x.kind=2 then ∀c∈S,c=102 else if x.kind=3\/x.kind=5\/x.kind=20 then S=[116]
 else if x.kind=4 then ∃(P:List Int) (t:Int),S=P++[t,98]/\(P.length:Int)=x.num/\(∀c∈P,c=112)/\(t=116\/t=48)
 else if x.kind=6 then ∀c∈S,c=115 else if x.kind=7 then S=[116,101] else if x.kind=8 then S=[101,101]/\(a=26\/a=28\/a=29)
 else if x.kind=9 then S=[101,98]\/S=[101,98,98] else if x.kind=10 then S=[101,98] else if x.kind=11 then S=[]\/S=[101]
 else if x.kind=12\/x.kind=29\/x.kind=30 then S=[101] else if x.kind=13 then S=[101]/\a=27 else if x.kind=27 then ∀c∈S,c=101
 else if x.kind=28\/x.kind=31 then S=[101,101] else if x.kind=32 then (S=[116]/\a=19)\/(S=[116,101]/\a=20) else S=[]/\14<=x.kind/\x.kind<=26
def ax (N:List Nd) (a:aA):List Int:=a.map λk=>bK (nd N k).kind
def LJ (N:List Nd) (a:aA):Int:=match a with
 | []=>0
 | k::_=>(nd N k).kind
def cu (N:List Nd) (i:Nat) (a:aA):Prop:=dB (nd N i) i (ax N a) (LJ N a)
theorem N4 {P:aB} {a:aU} {H:AH} (b:0<=i) (c:i<=a.size) (d:P.underlying t=some .string):pG P t (.string a) none (some (.int n i)) none H=some (.string (a.extract 0 i.toNat)):=by
 have e:aj P (Instr.sliceAt t (.string a) none (some (.int n i)) none)=some (.string (a.extract 0 i.toNat)):=by simp only [Instr.sliceAt,Instr.slice,Instr.sliceBounds,ar,dr d,zR];simp;rw [map_eq_pure_bind,ar,yf b c];rfl
 simp only [pG];rw [e];rfl
theorem Im {k':IntKind} {hi:Int} {b:aU} {l s:ae} (a:0<=hi) (c:hi<=b.size):aK prog 9 none (some (.v (.int k' hi))) none l s (.v (.string b))=some (.v (.string (b.extract 0 hi.toNat))):=rY (N4 a c Y) Z Z
theorem Oz {L:List Int}:bJ prog 77 9 (.sl q (L.map oV)) r s=some (.v (.string (str L))):=by rw [sI,nV];rfl
section
variable {N:List Nd} {fl D:Nat} {ks:aA} {k':dL} {E s:ae} {S:List Int}
theorem DJ (b:sm S) (h:∀j,j<(str S).size->jy (str S) j=i):∀x∈S,x=i:=by intro x c;obtain ⟨j,a,rfl⟩:=yA c;have:=h j (by rw [jI];exact a);rw [oW b a] at this;simpa [zG,zA a] using this
theorem Js (d:sm S) (e:S.length<1000000000) (c:Int):EP prog 152 [.v (.string (str S)),U c] λr=>∃x:Bool,r=B x/\(x=true->∀x∈S,x=c):=EP.mono (a00 (str S) (by rw [jI];omega) c) λv ⟨x,a,b⟩=>⟨x,a,λh=>DJ d (b h)⟩
theorem eB {P:aB} {fl:Nat} {a:jw} {s:ae} {A:RA (Xc P fl a)} {f:RA (Xc P fl a)->RA (Xc P fl a)} (I:ae->ae->Prop) (b:∀r s,I r s->PR (A r s)) (c:∀j:ae->ae->Prop,(∀r s,I r s->j r s)->f j r s):jn (X:=Xc P fl a) A f r s:=c A b
theorem t113 (hN:N.length<1000000000) (hi:D<N.length) (q:sm S) (hl:S.length<1000000000) (v:Int) (hk:∀t r,ks=t::r->t<N.length/\v=(nd N t).kind) (h0:ks=[]->v=0) {Q:TV->Prop} (e:∀b:Bool,(b=true->dB (nd N D) D S v)->Q (B b)):vp (X:=PX prog s Q) (.sl false (N.map bG)) (I D) (.sl false (ks.map bF)) (.sl true (S.map oV)) [] s:=by
 have i:=aZ hi;have y:=jI S;have j:=λ(T:List Int) (hT:sm T) (h:str S=str T)=>str_inj q hT h;have z:=λ(c:Int) (fl:Nat) (k:dL) (l:ae) (h:∀b:Bool,(b=true->∀x∈S,x=c)->PR (k (B b) l s))=>CP.of (Js q hl c) (fl:=fl) rfl (by rintro _ ⟨x,rfl,E⟩;exact h x E);simp [-dG,vp,Oz];refine eB (λl s'=>s=s'/\∃c1 H J K L:TV,l=[.row [U v,c1,H,J,K,L] 0]) ?_ ?_
 ·rintro _ _ ⟨rfl,c1,H,J,K,L,rfl⟩;have bz:∀x:Bool,(if x=true then B true else B false)=B x:=λx=>by cases x <;> rfl
  have n:Q (B false):=e _ (λh=>by cases h);have q:(nd N D).kind=1\/(nd N D).kind=2\/(nd N D).kind=3\/(nd N D).kind=5\/(nd N D).kind=20\/(nd N D).kind=4\/(nd N D).kind=6\/(nd N D).kind=7\/(nd N D).kind=8\/(nd N D).kind=9\/(nd N D).kind=10\/(nd N D).kind=11\/(nd N D).kind=12\/(nd N D).kind=29\/(nd N D).kind=30\/(nd N D).kind=13\/(nd N D).kind=27\/(nd N D).kind=28\/(nd N D).kind=31\/(nd N D).kind=32\/(¬(nd N D).kind=1/\¬(nd N D).kind=2/\¬(nd N D).kind=3/\¬(nd N D).kind=5/\¬(nd N D).kind=20/\¬(nd N D).kind=4/\¬(nd N D).kind=6/\¬(nd N D).kind=7/\¬(nd N D).kind=8/\¬(nd N D).kind=9/\¬(nd N D).kind=10/\¬(nd N D).kind=11/\¬(nd N D).kind=12/\¬(nd N D).kind=29/\¬(nd N D).kind=30/\¬(nd N D).kind=13/\¬(nd N D).kind=27/\¬(nd N D).kind=28/\¬(nd N D).kind=31/\¬(nd N D).kind=32):=O;rcases q with h|h|h|h|h|h|h|h|h|h|h|h|h|h|h|h|h|h|h|h|⟨R,u2,u3,u5,O8,u4,u6,u7,u8,u9,b1,b2,b6,c9,d1,c6,c7,c8,d2,u32⟩;simp [h,i];apply ST.dc<;>intro g;simp [g];refine z 100 _ _ _ λb d=>?_;simp [g];exact e _ (λp=>by simp [dB,h];exact ⟨by simpa using g,d p⟩);simp [g];exact n;simp [h,i];refine z 102 _ _ _ λb d=>?_;simp;exact e _ (λp=>by simp [dB,h];exact d p);simp [h,i];exact e _ (λd=>by simp [dB,h];exact j [116] (by simp [sm]) (yB d));simp [h,i];exact e _ (λd=>by simp [dB,h];exact j [116] (by simp [sm]) (yB d));simp [h,i];exact e _ (λd=>by simp [dB,h];exact j [116] (by simp [sm]) (yB d))
  ·simp [h,i,y];apply ST.dc<;>intro g;rotate_left;simp [g];exact n;obtain ⟨m,hm⟩:∃m,S.length=m+2:=⟨S.length-2,O⟩;have A:i64.wrap ((S.length:Int)-2)=(m:Int):=by rw [bW O O];omega
   have F:i64.wrap ((S.length:Int)-1)=((m+1:Nat):Int):=by rw [bW O O];omega
   have e1:∀(k:IntKind) (l:ae),aK prog 9 none (some (.v (.int k (m:Int)))) none l s (.v (.string (str S)))=some (.v (.string (str (S.take m)))):=λk l=>by rw [Im O (by rw [y];omega)];simp;rw [CQ O]
   have M:∀k:IntKind,mn prog 9 (.v (.string (str S))) (.v (.int k (m:Int)))=some (U (S.getD m 0)):=λk=>by rw [dD (by rw [y];omega),oW q O]
   have e3:∀k:IntKind,mn prog 9 (.v (.string (str S))) (.v (.int k ((m+1:Nat):Int)))=some (U (S.getD (m+1) 0)):=λk=>by rw [dD (by rw [y];omega),oW q O]
   have hS:S=S.take m++[S.getD m 0,S.getD (m+1) 0]:=by
    conv=>lhs;rw [<-List.take_append_drop m S]
    congr 1;rw [yG O,yG O,yT O];simp [zG,zA (show m<S.length by omega),zA (show m+1<S.length by omega)]
   generalize S.getD m 0=c at*;generalize d5:S.getD (m+1) 0=c' at*;simp at F e3;simp [g,i,A];apply ST.dc<;>intro f;rotate_left;simp [f];exact n;simp [zL f,A,e1];refine CP.o (Js (λx E=>q x (yM E)) W 112) ?_;rintro _ ⟨b,rfl,d⟩;cases b with
   | false=>simp [zL f];exact n
   | true=>
    have d:=d rfl;simp [zL f,A,M];have Fw:∀l:ae,(c=116\/c=48)->∀b:Bool,(b=true->c'=98)->Q (B b):=λ_ hc b p=>e b (λd3=>by simp [dB,h];refine ⟨S.take m,c,?_,?_,d,hc⟩;have:=hS;rw [p d3] at this;exact this;simp;omega)
    apply ST.dc<;>intro o;simp [zL o,F,e3];exact Fw [] (.inl o) _ (λh=>yB h);simp [zB o,A,M];apply ST.dc<;>intro w;simp [zL w,F,e3];exact Fw [] (.inr w) _ (λh=>yB h);simp [zB w];exact n
  simp [h,i];refine z 115 _ _ _ λb d=>?_;simp;exact e _ (λp=>by simp [dB,h];exact d p);simp [h,i];exact e _ (λd=>by simp [dB,h];exact j [116,101] (by simp [sm]) (yB d));simp [h,i];apply ST.dc<;>intro g;simp [g];apply ST.dc<;>intro f;simp [f];exact e _ (λ_=>by simp [dB,h,f];exact j [101,101] (by simp [sm]) g);simp [f];apply ST.dc<;>intro o;simp [o];exact e _ (λ_=>by simp [dB,h,o];exact j [101,101] (by simp [sm]) g);simp [o];exact e _ (λd=>by simp [dB,h];exact ⟨j [101,101] (by simp [sm]) g,.inr (.inr (yB d))⟩);simp [g];exact n;simp [h,i];apply ST.dc<;>intro g;simp [g];exact e _ (λ_=>by simp [dB,h];exact .inl (j [101,98] (by simp [sm]) g));simp [g];exact e _ (λd=>by simp [dB,h];exact .inr (j [101,98,98] (by simp [sm]) (yB d)));simp [h,i];exact e _ (λd=>by simp [dB,h];exact j [101,98] (by simp [sm]) (yB d));simp [h,i];apply ST.dc<;>intro g;simp [g];exact e _ (λ_=>by simp [dB,h];exact .inl (j [] (by simp [sm]) g));simp [g];exact e _ (λd=>by simp [dB,h];exact .inr (j [101] (by simp [sm]) (yB d)));simp [h,i];exact e _ (λd=>by simp [dB,h];exact j [101] (by simp [sm]) (yB d));simp [h,i];exact e _ (λd=>by simp [dB,h];exact j [101] (by simp [sm]) (yB d));simp [h,i];exact e _ (λd=>by simp [dB,h];exact j [101] (by simp [sm]) (yB d));simp [h,i];apply ST.dc<;>intro g;simp [g];exact e _ (λd=>by simp [dB,h];exact ⟨j [101] (by simp [sm]) g,yB d⟩);simp [g];exact n;simp [h,i];refine z 101 _ _ _ λb d=>?_;simp;exact e _ (λp=>by simp [dB,h];exact d p);simp [h,i];exact e _ (λd=>by simp [dB,h];exact j [101,101] (by simp [sm]) (yB d));simp [h,i];exact e _ (λd=>by simp [dB,h];exact j [101,101] (by simp [sm]) (yB d));simp [h,i];apply ST.dc<;>intro g;simp [g];apply ST.dc<;>intro f;simp [f];exact e _ (λ_=>by simp [dB,h];exact .inl ⟨j [116] (by simp [sm]) g,f⟩);simp [f];exact n;simp [g];apply ST.dc<;>intro f;simp [f];exact e _ (λd=>by simp [dB,h];exact .inr ⟨j [116,101] (by simp [sm]) f,yB d⟩);simp [f];exact n;simp [i,R,u2,u3,u5,O8,u4,u6,u7,u8,u9,b1,b2,b6,c9,d1,c6,c7,c8,d2,u32];apply ST.dc<;>intro g;simp [g,i];apply ST.dc<;>intro f;simp [f,i];exact e _ (λd=>by simp [dB,R,u2,u3,u5,O8,u4,u6,u7,u8,u9,b1,b2,b6,c9,d1,c6,c7,c8,d2,u32];exact ⟨j [] (by simp [sm]) g,f,yB d⟩);simp [f];exact n;simp [g];exact n
 intro d6 P;simp;apply ST.dc<;>intro C;obtain ⟨t,r,rfl⟩:∃t r,ks=t::r:=by
  cases ks with
  | nil=>simp at C
  | cons a b=>exact ⟨a,b,rfl⟩
 obtain ⟨d4,rfl⟩:=hk t r rfl;simp [aZ d4];exact P _ _ ⟨rfl,_,_,_,_,_,rfl⟩;have:ks=[]:=by
  cases ks with
  | nil=>rfl
  | cons a b=>simp at C
 have:=h0 this;subst this;exact P _ _ ⟨rfl,_,_,_,_,_,rfl⟩
theorem CT (N:List Nd) (ks:aA):sm (ax N ks):=λc a=>by obtain ⟨k,_,rfl⟩:=xW.1 a;exact GH _
theorem a0f (d:N.length<1000000000) (g:D<N.length) (f:TI N D) (c:Kc N (D+1) (D+1+sz N D) ks):EP prog 113 [.sl false (N.map bG),I D] λr=>∃b:Bool,r=B b/\(b=true->cu N D ks):=by
 refine EP.o SJ λs Q q=>?_;simp [UE];apply CP.o (Au d g f c);rintro _ rfl;simp;have i:=c.mem;have F:ks.length<=sz N D:=by
  have:∀{a b l},Kc N a b l->a+l.length<=b:=λh=>by induction h <;> simp <;> omega
  have:=this c;omega
 have A:=f.le;refine LP.ind (λj:Nat=>ks.length-j) (λj=>j<=ks.length) (λj=>[.sl false (N.map bG),I D,.sl false (ks.map bF),.sl true (((ax N ks).take j).map oV),I ks.length,I j]) (λ_=>[]) (λ_=>s) 0 (λ_ _=>⟨rfl,rfl,rfl⟩) (λj C k v=>?_) 0 O;simp [uJ];apply ST.dc<;>intro h;have ⟨y,z,p⟩:=i _ (zW h);have w:=wn (j:=j) O;simp [zA h,aZ p];apply CP.o (a01 (nd N ks[j]));rintro _ rfl;have m:=λfl l s=>Th (fl:=fl) (l:=l) (s:=s) (o:=true) ((ax N ks).take j) (bK (nd N ks[j]).kind) W;simp at m;simp [m,w];refine v (j+1) _ _ _ ?_ rfl rfl h O;have:(ax N ks).take (j+1)=(ax N ks).take j++[bK (nd N ks[j]).kind]:=by rw [xD];simp [ax,zA h]
 rw [this];simp;simp;have E:j=ks.length:=O;have n:(ax N ks).take j=ax N ks:=yC (by simp [ax];omega);have:=t113 (s:=s) d g (CT N ks) (by simp [ax];omega) (LJ N ks) (ks:=ks) (λx r e=>by subst e;exact ⟨(i x Z).2.2,rfl⟩) (λe=>by subst e;rfl) (λb t=>q _ ⟨b,rfl,t⟩);rw [<-n] at this;simpa using this
structure WT (N:List Nd):Prop where
 len:0<N.length
 mM:N.length<=300000
 te:Te N 0 N.length
 root:(nd N 0).kind=1
 jx:∀D,D<N.length->∃ks,Kc N (D+1) (D+1+sz N D) ks/\cu N D ks
theorem m72 (m:N.length<=300000):EP prog 72 [.sl false (N.map bG)] λr=>∃b:Bool,r=B b/\(b=true->WT N):=by
 refine EP.o e72 λs Q e=>?_;have a:=e _ ⟨false,rfl,λh=>by cases h⟩;simp [b72];apply CP.o (PW O);rintro _ ⟨b,rfl,n⟩;cases b with
 | false=>simp;exact a
 | true=>
  have ⟨c,l⟩:=n rfl;simp [aZ c];apply ST.dc<;>intro d;rotate_left;simp;exact a;simp;refine LP.ind (λj:Nat=>N.length-j) (λj=>j<=N.length/\∀D,D<j->∃ks,Kc N (D+1) (D+1+sz N D) ks/\cu N D ks) (λj=>[.sl false (N.map bG),I N.length,I j]) (λ_=>[]) (λ_=>s) 0 (λ_ _=>⟨rfl,rfl,rfl⟩) (λj g k q=>?_) 0 ⟨O,λD h=>O⟩;simp [BR];apply ST.dc<;>intro h;have f:=(l.g j O h).1;have ⟨ks,i⟩:=f.ks;simp [aZ h];apply CP.o (a0g (nd N j));rintro _ ⟨x,rfl⟩;cases x with
  | false=>simp;exact a
  | true=>
   simp;apply CP.o (a0f O h f i);rintro _ ⟨x,rfl,t⟩;cases x with
   | false=>simp;exact a
   | true=>simp [wn (j:=j) O];refine q (j+1) _ _ _ Z rfl rfl ⟨h,λD o=>?_⟩ O;by_cases p:D=j;rw [p];exact ⟨ks,i,t rfl⟩;exact g.2 D O
  simp [IY];exact e _ ⟨true,rfl,λ_=>⟨c,m,l,d,λD o=>g.2 D O⟩⟩
end
structure Ty where
 kind:Int
 of:Int
@[simp] def dM (t:Ty):ao:=[U t.kind,I t.of]
theorem tyZ (L:List Ty):cR 0 2 (L.map dM):=bD (λx=>rfl) L
theorem Yn (L:List aU):cR 0 1 (L.map mA):=bD (λx=>rfl) L
def eZ (T:List Ty) (i:Nat):Ty:=T.getD i ⟨0,0⟩
structure TG (T:List Ty) (nr:Nat):Prop where
 GN:6<=T.length
 base:∀i:Nat,i<6->(eZ T i).kind=i
 ok:∀i,i<T.length->6<=i->((eZ T i).kind=6/\0<=(eZ T i).of/\(eZ T i).of<nr)\/((eZ T i).kind=7/\1<=(eZ T i).of/\(eZ T i).of<T.length)
section
variable {T:List Ty} {D:Nat} {fl:Nat} {J:dL} {E s:ae}
theorem iW {i:Nat} (h:i<T.length):T[i]? =some (eZ T i):=getD_some h _
theorem lA {U:List Ty} (h:a<T.length):eZ (T++U) a=eZ T a:=by simp [eZ,zG,zD h]
theorem qZ {x:Ty}:eZ (T++[x]) T.length=x:=by simp [eZ,zG]
theorem lF (K M:List Ty) {fl:Nat} {l s:ae} {o:Bool} (h:K.length+M.length<=1000000000000):cq false 2 16 0 fl (.sl true (K.map dM)) (.sl o (M.map dM)) l s=some (.sl true ((K++M).map dM),l,s):=by
 have a:fits (K.length+M.length) 16:=by simp only [fits,decide_eq_true_eq];omega
 unfold cq;simp only [aO,tyZ,yQ,a,and_self,or_true,if_true,db,xR,show (0:Nat)<2 by omega];split;rename_i b;rw [b];rfl
theorem ZZ (x:T.length<100000000000) (a:Int):EP prog 153 [.sl false (T.map dM),I a] λr=>∃(b:List Ty) (t:Int),r= .tu [.sl false (b.map dM),I t]/\((b=T/\t=0/\(a<1\/T.length<=a\/a=5))\/(b=T/\1<=a/\a<T.length/\0<=t/\t<T.length/\(eZ T t.toNat).kind=7/\(eZ T t.toNat).of=a)\/(b=T++[⟨7,a⟩]/\t=T.length/\1<=a/\a<T.length)):=by refine EP.o Sd λs Q f=>?_;have n:=λfl l s=>lF (fl:=fl) (l:=l) (s:=s) (o:=false) [] T W;simp at n;simp [Uh,n];have i:=λh=>f _ ⟨T,0,rfl,.inl ⟨rfl,rfl,h⟩⟩;apply ST.dc<;>intro d;simp [d];exact i O;simp [d];apply ST.dc<;>intro e;simp [e];exact i O;simp [e];apply ST.dc<;>intro q;simp;exact i O;simp;refine LP.ind (λj:Nat=>T.length-j) (λj=>True) (λj=>[.sl false (T.map dM),I a,.sl true (T.map dM),I T.length,I j]) (λ_=>[]) (λ_=>s) 0 (λ_ _=>⟨rfl,rfl,rfl⟩) (λj y k v=>?_) 0 trivial;simp [uB];apply ST.dc<;>intro h;have g:=v (j+1) _ [] _ rfl rfl rfl trivial O;have w:=wn (j:=j) O;simp at g;simp [iW h];apply ST.dc<;>intro c;simp [zL c,iW h];apply ST.dc<;>intro m;simp;exact f _ ⟨T,j,rfl,.inr (.inl ⟨rfl,O,O,O,O,by simpa using c,by simpa using m⟩)⟩;simp [w];exact g;simp [zB c,w];exact g;have p:=λfl l s=>lF (fl:=fl) (l:=l) (s:=s) (o:=true) T [⟨7,a⟩] W;simp at p;simp [Dp,p];exact f _ ⟨T++[⟨7,a⟩],T.length,Z,.inr (.inr ⟨rfl,rfl,O,O⟩)⟩
theorem ZH (R:List aU) (n:R.length<100000000000) (o:T.length<100000000000) (x:Nd) (f:15<=x.kind) (q:x.kind<256):EP prog 195 [.sl false (T.map dM),.sl false (R.map mA),.ag (bG x)] λr=>∃t:Int,r=I t/\(t=0\/(x.kind<19/\t=x.kind-14)\/(0<=t/\t<T.length/\(eZ T t.toNat).kind=6)):=by
 refine EP.o Rz λs Q a=>?_;simp [TX];apply ST.dc<;>intro h;have w:i64.wrap x.kind=x.kind:=bW O O;have m:i64.wrap (x.kind-14)=x.kind-14:=bW O O;simp [w,m];exact a _ ⟨_,rfl,.inr (.inl ⟨h,rfl⟩)⟩;simp;refine LP.ind (λj:Nat=>R.length-j) (λj=>True) (λj=>[.sl false (T.map dM),.sl false (R.map mA),.p false 0 0,I R.length,I j]) (λ_=>[.row (bG x) 0]) (λ_=>s) 1 (λ_ _=>⟨rfl,rfl,rfl⟩) (λj p k f=>?_) 0 trivial;simp [uq];apply ST.dc<;>intro h;have g:=f (j+1) _ [.row (bG x) 0] _ rfl rfl rfl trivial O;have w:=wn (j:=j) O;have c:i64.wrap ((j:Int)+6)=(j:Int)+6:=bW O O;simp at g;simp [zA h];apply ST.dc<;>intro i;simp [c];apply ST.dc<;>intro b;have l:j+6<T.length:=by omega
 have e:=iW l;simp [zL b,c,show ((j:Int)+6).toNat=j+6 by omega,e,show (0:Int)<=j+6 by omega];apply ST.dc<;>intro d;simp [c];exact a _ ⟨_,rfl,.inr (.inr ⟨O,O,by rw [show ((j:Int)+6).toNat=j+6 by omega];simpa using d⟩)⟩;simp;exact a _ ⟨0,rfl,.inl rfl⟩;simp [zB b];exact a _ ⟨0,rfl,.inl rfl⟩;simp [w];exact g;simp [Dd];exact a _ ⟨0,rfl,.inl rfl⟩
theorem ZI (N:List Nd) (g:N.length<100000):EP prog 194 [.sl false (N.map bG)] λr=>∃b:Bool,r=B b:=by
 refine EP.o RB λs Q e=>?_;simp [TY];apply CP.o (PW O);rintro _ ⟨b,rfl,_⟩;cases b with
 | false=>simp;exact e _ ⟨_,rfl⟩
 | true=>simp;have f:=λfl l s a b c d=>eu (fl:=fl) (l:=l) (s:=s) (o:=false) [Nd.mk 1 0 0 a 0 dm,Nd.mk 2 0 0 b 0 ⟨⟨#[82]⟩,by decide⟩,Nd.mk 3 0 0 c 0 ⟨⟨#[102]⟩,d⟩] N W;simp at f;rw [f _ _ _ _ _ _ (by decide)];simp;have:=m72 (N:=[Nd.mk 1 0 0 (i64.wrap ((N.length:Int)+2)) 0 dm,Nd.mk 2 0 0 (i64.wrap ((N.length:Int)+1)) 0 ⟨⟨#[82]⟩,by decide⟩,Nd.mk 3 0 0 N.length 0 ⟨⟨#[102]⟩,by decide⟩]++N) W;apply CP.o this;rintro _ ⟨b,rfl,_⟩;simp;exact e _ ⟨_,rfl⟩
theorem ZY (R:List aU) (e:R.length<100000000000) (f:T.length<100000000000) (x:Nd) (c:15<=x.kind) (g:x.kind<256):EP prog 154 [.sl false (T.map dM),.sl false (R.map mA),.sl false [bG x]] λr=>∃t:Int,r= .tu [.sl false (T.map dM),I t]/\(t=0\/(x.kind<19/\t=x.kind-14)\/(0<=t/\t<T.length/\(eZ T t.toNat).kind=6)):=by
 refine EP.o Sc λs Q a=>?_;have d:=λfl l s=>lF (fl:=fl) (l:=l) (s:=s) (o:=false) [] T W;simp at d;simp [Ug,d];apply CP.o (ZI [x] Z);rintro _ ⟨b,rfl⟩;cases b with
 | false=>simp;exact a _ ⟨0,rfl,.inl rfl⟩
 | true=>have w:i64.wrap 0=0:=rfl;simp [w];apply CP.o (ZH R e f x c g);rintro _ ⟨t,rfl,i⟩;simp;apply ST.dc<;>intro h;simp;exact a _ ⟨0,rfl,.inl rfl⟩;simp;refine LP.ind (λj:Nat=>0) (λj=>True) (λj=>[.sl true (T.map dM),I 0,I t,I 0]) (λ_=>[]) (λ_=>s) 0 (λ_ _=>⟨rfl,rfl,rfl⟩) (λj m k c=>?_) 0 trivial;simp [uA,Dn];exact a _ ⟨t,rfl,i⟩
theorem ZV (q:6<=T.length) (a b:Int) (t:T.length<100000000000):EP prog 161 [.sl false (T.map dM),I a,I b] λr=>∃x:Bool,r=B x/\(x=true->0<=a/\0<=b/\a<T.length/\b<T.length/\(a=b\/a=5)):=by refine EP.o S6 λs Q m=>?_;have d:=m _ ⟨false,rfl,λh=>by cases h⟩;simp [Ua];apply ST.dc<;>intro g;simp [g];exact d;simp [g];apply ST.dc<;>intro j;simp [j];exact d;simp [j];apply ST.dc<;>intro k;simp [k];exact d;simp [k];apply ST.dc<;>intro n;simp;exact d;have e:=iW (T:=T) (i:=b.toNat) O;simp;have f:∀x:Bool,(x=true->a=b\/a=5)->Q (B x):=λx h=>m _ ⟨x,rfl,λp=>⟨O,O,O,O,h p⟩⟩;have Fw:=f _ (λh=>.inl (yB h));apply ST.dc<;>intro c;simp [zL c,e,show (0:Int)<=b by omega];apply ST.dc<;>intro l;simp [zL l];exact f _ (λ_=>.inr c);simp [zB l,e,show (0:Int)<=b by omega];apply ST.dc<;>intro o;simp;exact f _ (λ_=>.inr c);simp;exact Fw;simp [zB c];exact Fw
end
end T
namespace T
open Go V Q
variable {a c d e f g:Nat} {u w:Value} {i j k:Int} {t:TypeId} {p:List Value} {q:Bool} {n:IntKind} {x y z:TV} {r s:List TO} {o:List TV}
theorem a0e (n:Nat) (A:n<1000000000):EP prog 117 [I n] λr=>∃T:List Ty,r= .sl false (T.map dM)/\TG T n/\T.length<=106:=by
 refine EP.o SE λs Q x=>?_;simp [UA];refine LP.ind (λj:List Ty×Nat=>n-j.2) (λj=>j.2<=n/\j.2<=100/\TG j.1 n/\j.1.length=6+j.2) (λj=>[I n,.sl true (j.1.map dM),I j.2]) (λ_=>[]) (λ_=>s) 0 (λ_ _=>⟨rfl,rfl,rfl⟩) (λj y k z=>?_) ([⟨0,0⟩,⟨1,0⟩,⟨2,0⟩,⟨3,0⟩,⟨4,0⟩,⟨5,0⟩],0) ⟨Z,Z,⟨Z,λi d=>?_,λi g f=>by simp at g;omega⟩,rfl⟩;rotate_left;have:i=0\/i=1\/i=2\/i=3\/i=4\/i=5:=by omega
 rcases this with rfl|rfl|rfl|rfl|rfl|rfl <;> rfl;have ⟨T,j⟩:=j;have ⟨t,v,e,w⟩:=y;simp only at t v e w;have m:=x _ ⟨T,rfl,e,O⟩;simp [uG];apply ST.dc<;>intro h;simp [h];apply ST.dc<;>intro f;have p:=λq l s=>lF (fl:=q) (l:=l) (s:=s) (o:=true) T [⟨6,j⟩] W;simp at p;simp [p,wn (j:=j) O];refine z (T++[⟨6,j⟩],j+1) _ _ _ Z rfl rfl ⟨h,W,⟨W,λi d=>?_,λi g f=>?_⟩,W⟩ W;rw [lA O];exact e.base i d;by_cases d:i<T.length;rw [lA d];rcases e.ok i d f with ⟨a,b,c⟩|⟨a,b,c⟩;exact .inl ⟨a,b,c⟩;exact .inr ⟨a,b,W⟩;have:i=T.length:=by simp at g;omega
 rw [this,qZ];exact .inl ⟨rfl,Z,W⟩;simp [vo];exact m;simp [h,vo];exact m
structure Mk where
 type:Int
 ref:Int
 ai:Int
structure Rc where
 name:Tx
 fr:Int
 count:Int
structure Fd where
 name:Tx
 type:Int
structure Fn where
 name:Tx
 node:Int
 params:Int
 result:Int
 at_:Int
 ah:Int
 first:Int
 ji:Int
structure Vr where
 fn:Int
 name:Tx
 slot:Int
 first:Int
 last:Int
structure Pt where
 fn:Int
 node:Int
 line:Int
 nH:Int
@[simp] def ic (x:Mk):ao:=[I x.type,I x.ref,I x.ai]
@[simp] def sR (x:Rc):ao:=[.v (.string x.name.1),I x.fr,I x.count]
@[simp] def pN (x:Fd):ao:=[.v (.string x.name.1),I x.type]
@[simp] def ju (x:Fn):ao:=[.v (.string x.name.1),I x.node,I x.params,I x.result,I x.at_,I x.ah,I x.first,I x.ji]
@[simp] def s7 (x:Vr):ao:=[I x.fn,.v (.string x.name.1),I x.slot,I x.first,I x.last]
@[simp] def vB (x:Pt):ao:=[I x.fn,I x.node,I x.line,I x.nH]
@[simp] def txE (x:Tx):ao:=[.v (.string x.1)]
theorem Zc (L:List Mk):cR 0 3 (L.map ic):=bD (λx=>rfl) L
theorem rcZ (L:List Rc):cR 0 3 (L.map sR):=bD (λx=>rfl) L
theorem fdZ (L:List Fd):cR 0 2 (L.map pN):=bD (λx=>rfl) L
theorem Wt (L:List Fn):cR 0 8 (L.map ju):=bD (λx=>rfl) L
theorem X5 (L:List Vr):cR 0 5 (L.map s7):=bD (λx=>rfl) L
theorem ptZ (L:List Pt):cR 0 4 (L.map vB):=bD (λx=>rfl) L
theorem QJ (L:List Int):cR 0 1 (L.map bt):=bD (λx=>rfl) L
structure SS where
 ma:List Mk
 ty:List Ty
 rc:List Rc
 fd:List Fd
 fn:List Fn
 sl:List Int
 va:List Vr
 pt:List Pt
 rn:List aU
 c:Int
 l:Int
 k:Int
abbrev SS.v (N:List Nd) (s:SS) (a b:Bool):TV:=.ag [.sl false (N.map bG),.sl a (s.ma.map ic),.sl b (s.ty.map dM),.sl true (s.rc.map sR),.sl true (s.fd.map pN),.sl true (s.fn.map ju),.sl true (s.sl.map bt),.sl true (s.va.map s7),.sl true (s.pt.map vB),.sl true (s.rn.map mA),I s.c,I s.l,I s.k]
abbrev SS.b (N:List Nd) (s:SS):TV:=.ag [.sl false (N.map bG),.sl false (s.ma.map ic),.sl false (s.ty.map dM),.sl false (s.rc.map sR),.sl false (s.fd.map pN),.sl false (s.fn.map ju),.sl false (s.sl.map bt),.sl false (s.va.map s7),.sl false (s.pt.map vB),.sl false (s.rn.map mA),I s.c,I s.l,I s.k]
end T
namespace T
open Go V Q
variable {a b c d e f g:Nat} {u v w:Value} {i j k:Int} {t:TypeId} {p:List Value} {q:Bool} {n:IntKind} {x y z:TV} {r s:List TO} {o:List TV}
theorem tF (h:a<=1000000000000) (c:b<=100):fits a b:=by have:=Nat.mul_le_mul h c;simp only [fits,decide_eq_true_eq];omega
theorem nX {b fl:Nat} {c:cD} {o:Bool} {l s:ae} (d:cR 1 a c) (e:c.length<=1000000000000) (f:b<=100) (g:0<a) (h:c≠[]):cq false a b 1 fl (.sl true []) (.sl o c) l s=some (.m false l.length 0 0 c.length a,l++[.aY 0 a c],s):=by have:=tF e f;unfold cq;simp [aO,d,this,g,h,db,cR]
theorem cG {c:Type} {f:c->ao} {b fl:Nat} {l s:ae} {o:Bool} (j:∀L:List c,cR 0 a (L.map f)) (g:0<a) (e:b<=100) (K M:List c) (h:K.length+M.length<=1000000000000):cq false a b 0 fl (.sl true (K.map f)) (.sl o (M.map f)) l s=some (.sl true ((K++M).map f),l,s):=by have d:=tF h e;unfold cq;simp only [aO,j,yQ,d,g,and_self,or_true,if_true,db,xR];split;rename_i i;rw [i];rfl
theorem KR (L:List Mk):cR 1 3 (L.map ic):=bD (λx=>rfl) L
theorem LI (L:List Fn):cR 1 8 (L.map ju):=bD (λx=>rfl) L
theorem X4 (L:List Vr):cR 1 5 (L.map s7):=bD (λx=>rfl) L
section
variable {N:List Nd} {S:SS} {om ot:Bool} {at_:Nat} {fl:Nat} {J:dL} {E s:ae}
theorem n74:EP prog 74 [S.b N] λr=>r=B (!decide (S.c=0)):=by refine EP.o e74 λs Q a=>?_;simp [b74];exact a _ rfl
@[simp] theorem c74:CL prog 74 [S.b N] fl J E s=J (B (!decide (S.c=0))) E s:=CP.q n74
theorem Hi (e:Int) (d:e≠0) (b:at_<N.length):EP prog 77 [S.v N om ot,I e,I at_] λr=>∃c l k:Int,r=SS.v N {S with c:=c,l:=l,k:=k} om ot/\c≠0:=by refine EK.o e77 λs Q a=>?_;simp [b77];apply ST.dc<;>intro h;simp [aZ b];exact a _ ⟨_,_,_,rfl,d⟩;simp;exact a _ ⟨_,_,_,rfl,h⟩
theorem oB (a:at_<S.ma.length) (g:S.ma.length<=1000000000000) (t r p:Int):EP prog 116 [S.v N om ot,I at_,.ag [I t,I r,I p]] λj=>j=SS.v N {S with ma:=S.ma.set at_ ⟨t,r,p⟩} true ot:=by
 refine EK.o SF λs Q f=>?_;have c:S.ma.map ic≠[]:=by intro h;simp at h;rw [h] at a;simp at a
 have d:=λfl l s=>nX (fl:=fl) (l:=l) (s:=s) (o:=false) (b:=24) (KR S.ma) (Zs g) O O c;have e:(S.ma.map ic)[at_]? =some (ic S.ma[at_]):=by rw [zJ,zA a];rfl
 have e3:cR 0 3 ((S.ma.map ic).set at_ [I t,I r,I p]):=by have:=Zc (S.ma.set at_ ⟨t,r,p⟩);rwa [yJ] at this
 have i:S.ma≠[]:=by simpa using c
 simp at d e e3;simp [UB,d,a,e3,i];have:=f _ rfl;simp only [SS.v,yJ] at this;exact this
end
theorem kh {b:Type} {f:b->ao} {k:Nat} (h:∀x,(f x).length=k) (L:List b):Ex k (L.map f):=by
 induction L with
 | nil=>rfl
 | cons a L c=>simp [Ex,h a,c]
theorem mj {el:aP} {l s:ae} {es:cD} {e d:eh} {a:Nat} (m:prog.underlying t=some (.slice el)) (k:me prog el=some b) (i:pC 0 e=some a) (j:pC es.length d=some c) (f:a<=c) (g:c<=es.length) (h:Ex b es):aK prog t e d none l s (.sl false es)=some (.sl false ((es.take c).drop a)):=by unfold aK;simp only [m,k,zR,Bj,i,j,h,f,g,or_true,and_self,if_true,Bool.false_and]
@[simp] theorem OD (d:Nat):pC d none=some d:=rfl
theorem kC (d i:Nat) (k:IntKind):pC d (some (.v (.int k (i:Int))))=some i:=by simp [pC]
theorem xy {l s:ae} {K:aA} {k:IntKind} {b:Nat} (h:b<=K.length):aK prog 31 none (some (.v (.int k (b:Int)))) none l s (.sl false (K.map bF))=some (.sl false ((K.take b).map bF)):=by rw [mj (el:=3) (a:=0) Y Y Z (kC _ _ _) O (Zs h) (kh (k:=1) (λx=>rfl) K)];simp [List.map_take]
theorem Og {N:List Nd} {b:IntKind} (h:a<N.length):aK prog 25 (some (.v (.int n (a:Int)))) (some (.v (.int b ((a:Int)+1)))) none r s (.sl false (N.map bG))=some (.sl false [bG (nd N a)]):=by
 rw [mj (el:=158) Y Y (kC _ _ _) (by have:=kC (N.map bG).length (a+1) b;simpa using this) O W (kh (k:=6) (λx=>rfl) N)];congr 2;rw [<-List.map_take,<-List.map_drop];have:(N.take (a+1)).drop a=[nd N a]:=by rw [xD,List.drop_append_of_le_length W,aZ h,yT W];rfl
 rw [this];rfl
section
variable {N:List Nd} {S:SS} {D ot:Bool} {at_:Nat} {fl:Nat} {J:dL} {E s:ae}
theorem PV (v:N.length<1000000000) (q:0<N.length) (m:TI N 0) {c:aA} (i:Kc N 1 (1+sz N 0) c) (d:Int):EP prog 114 [.sl false (N.map bG),U d] λr=>r= .sl false ((c.filter λk=>decide ((nd N k).kind=d)).map bF):=by
 refine EP.o SI λs Q x=>?_;simp [UD];apply CP.o (Au v q m (Zs i));rintro _ rfl;simp;have y:=i.mem;have E:c.length<=N.length:=by
  have:∀{a b l},Kc N a b l->a+l.length<=b:=λh=>by induction h <;> simp <;> omega
  have:=this i;have:=m.le;omega
 refine LP.ind (λj:Nat=>c.length-j) (λj=>j<=c.length) (λj=>[.sl false (N.map bG),U d,.sl true (((c.take j).filter λk=>decide ((nd N k).kind=d)).map bF),.sl false (c.map bF),I c.length,I j]) (λ_=>[]) (λ_=>s) 0 (λ_ _=>⟨rfl,rfl,rfl⟩) (λj C k n=>?_) 0 O;simp [uI];apply ST.dc<;>intro h;have ⟨z,A,t⟩:=y _ (zW h);have w:=wn (j:=j) O;have e:c.take (j+1)=c.take j++[c[j]]:=by rw [xD,zA h];rfl
 simp [zA h,aZ t];apply ST.dc<;>intro g;have D:((c.take j).filter λk=>decide ((nd N k).kind=d)).length<=j:=by have:=List.length_filter_le (λk=>decide ((nd N k).kind=d)) (c.take j);simp at this;omega
 have p:=λfl l s=>dO (fl:=fl) (l:=l) (s:=s) (o:=true) (b:=8) KE O O ((c.take j).filter λk=>decide ((nd N k).kind=d)) [c[j]] W;simp at p;simp [zA h,p,w];have f:(c.take (j+1)).filter (λk=>decide ((nd N k).kind=d))=(c.take j).filter (λk=>decide ((nd N k).kind=d))++[c[j]]:=by rw [e,List.filter_append];simp [g]
 refine n (j+1) _ _ _ (by simp only [f];simp) rfl rfl h O;simp [w];have f:(c.take (j+1)).filter (λk=>decide ((nd N k).kind=d))=(c.take j).filter (λk=>decide ((nd N k).kind=d)):=by rw [e,List.filter_append];simp [g]
 refine n (j+1) _ _ _ (by simp only [f];simp) rfl rfl h O;simp [Dx];apply x _;rw [yC O]
theorem PO (i:N.length<1000000000) (K:aA) (f:∀k∈K,k<N.length) (m:K.length<1000000000) (b:aU):EP prog 115 [.sl false (N.map bG),.sl false (K.map bF),.v (.string b)] λr=>∃x:Bool,r=B x:=by refine EP.o SH λs Q a=>?_;simp [UC];refine LP.ind (λj:Nat=>K.length-j) (λj=>True) (λj=>[.sl false (N.map bG),.sl false (K.map bF),.v (.string b),I K.length,I j]) (λ_=>[]) (λ_=>s) 0 (λ_ _=>⟨rfl,rfl,rfl⟩) (λj l k g=>?_) 0 trivial;simp [uH];apply ST.dc<;>intro h;have d:=f _ (zW h);have c:=g (j+1) _ [] _ rfl rfl rfl trivial O;simp at c;simp [zA h,aZ d];apply ST.dc<;>intro e;simp;exact a _ ⟨_,rfl⟩;simp [wn (j:=j) O];exact c;simp [Dw];exact a _ ⟨_,rfl⟩
theorem PN (b:aU):EP prog 119 [.v (.string b)] λr=>∃x:Int,r=I x/\0<=x/\x<=8:=by
 refine EP.o SC λs Q f=>?_;simp [Uy];generalize d: [[S []],_,_,_,_,_,_,_,_]=a;have o:a.length=9:=by rw [<-d];rfl
 have m:∀e∈a,∃b,e=[.v (.string b)]:=by rw [<-d];simp
 clear d;refine LP.ind (λj:Nat=>9-j) (λj=>True) (λj=>[.v (.string b),.sl true a,I 9,I j]) (λ_=>[]) (λ_=>s) 0 (λ_ _=>⟨rfl,rfl,rfl⟩) (λj n k l=>?_) 0 trivial;simp [uF];apply ST.dc<;>intro h;obtain ⟨_,i,c,rfl⟩:=Fw m (j:=j) O;have g:=l (j+1) _ [] _ rfl rfl rfl trivial O;simp at g;simp [i];apply ST.dc<;>intro h;simp;exact f _ ⟨_,rfl,O,O⟩;simp [g,wn (j:=j) O];simp [Dv];exact f _ ⟨0,rfl,O,O⟩
theorem m76 (g:S.fn.length<1000000000000) (b:aU):EP prog 76 [S.b N,.v (.string b)] λr=>∃x:Int,r=I x/\(x= -1\/0<=x)/\x<S.fn.length:=by refine EP.o e76 λs Q a=>?_;simp [b76];refine LP.ind (λj:Nat=>S.fn.length-j) (λj=>True) (λj=>[.v (.string b),.p false 0 0,I S.fn.length,I j]) (λ_=>[.row (ce (S.b N)) 0]) (λ_=>s) 1 (λ_ _=>⟨rfl,rfl,rfl⟩) (λj f k e=>?_) 0 trivial;simp [BN];apply ST.dc<;>intro h;have c:=e (j+1) _ [.row (ce (S.b N)) 0] _ rfl rfl rfl trivial O;simp at c;simp [zA h];apply ST.dc<;>intro d;simp;exact a _ ⟨_,rfl,.inr O,O⟩;simp [wn (j:=j) O];exact c;simp [IM];exact a _ ⟨-1,rfl,.inl rfl,O⟩
end
theorem Kc.inv {N:List Nd} {l:aA} (h:Kc N a b (c::l)):c=a/\a<b/\a<N.length/\0<=(nd N a).size/\Kc N (a+1+sz N a) b l:=by
 cases h with
 | cons d e f g=>exact ⟨rfl,d,e,f,g⟩
theorem Kc.eC {N:List Nd} (h:Kc N a b []):a=b:=by cases h;rfl
structure Bd (S S':SS) (a b:Nat):Prop where
 len:S'.ma.length=S.ma.length
 ma:∀i,¬(a<=i/\i<b)->S'.ma[i]? =S.ma[i]?
 rc:S'.rc=S.rc
 fd:S'.fd=S.fd
 fn:S'.fn=S.fn
 sl:S'.sl=S.sl
 va:S'.va=S.va
 pt:S'.pt=S.pt
 rn:S'.rn=S.rn
 ty:∃ext,S'.ty=S.ty++ext/\ext.length<=b-a
theorem Bd.refl {S:SS}:Bd S S a b:=⟨rfl,λ_ _=>rfl,rfl,rfl,rfl,rfl,rfl,rfl,rfl,⟨[],Z,Z⟩⟩
theorem xx {T U:List Ty} (a:0<=i) (h:i<T.length):eZ (T++U) i.toNat=eZ T i.toNat:=lA O
theorem TG.snoc {T:List Ty} (h:TG T a) (j:1<=i) (l:i<T.length):TG (T++[⟨7,i⟩]) a:=by
 have m:=h.GN;refine ⟨W,λd f=>?_,λd f k=>?_⟩;rw [lA O];exact h.base d f;by_cases g:d<T.length;rw [lA g];rcases h.ok d g k with ⟨e,b,c⟩|⟨e,b,c⟩;exact .inl ⟨e,b,c⟩;exact .inr ⟨e,b,W⟩;have:d=T.length:=by simp at f;omega
 rw [this,qZ];exact .inr ⟨rfl,j,W⟩
def KQ (x:Nd) (T:List Ty) (t:Int):Prop:=(x.kind=14/\t=0)\/(x.kind≠14/\1<=t/\t<T.length/\t≠5/\(x.kind=19->(eZ T t.toNat).kind=6)/\(x.kind=20->(eZ T t.toNat).kind=7))
def KP (N:List Nd) (c:Nat) (S:SS) (a:Nat) (r:TV):Prop:=∃(t:Int) (b:SS) (d e:Bool),r= .tu [I t,b.v N d e]/\Bd S b a (a+1+sz N a)/\TG b.ty c/\(b.c=0->KQ (nd N a) b.ty t)/\(b.c≠0->t=0)
section
variable {N:List Nd} {S:SS} {D ot:Bool} {fl nr:Nat} {J:dL} {h E:ae}
theorem yo {T:List Ty} (h:TG T nr) (b:0<=i) (c:i<T.length) (d:(eZ T i.toNat).kind=6\/(eZ T i.toNat).kind=7):6<=i:=by rcases Int.lt_or_le i 6 with a|a;have:=h.base i.toNat O;omega;exact a
theorem n118 (L:WT N):∀(n a:Nat),N.length-a<n->a<N.length->((nd N a).kind=14\/(15<=(nd N a).kind/\(nd N a).kind<=20))->∀(S:SS) (D ot:Bool),S.ma.length=N.length->S.c=0->TG S.ty nr->S.ty.length+(1+sz N a)<100000000000->S.rn.length<100000000000->EP prog 118 [S.v N D ot,I a] (KP N nr S a):=by
 intro n;induction n with
 | zero=>intro a h;omega
 | succ n ih=>
  intro a ha l hk S D ot r M k f1 d1;have hN:=L.mM;refine EK.o SD λE Q p=>?_;have H:=aZ l;have w1:=wn (j:=a) O;simp [Uz,H];apply ST.dc<;>intro o;simp;exact p _ ⟨0,S,D,ot,rfl,.refl,k,λ_=>.inl ⟨o,rfl⟩,λh=>rfl⟩;simp [H];apply ST.dc<;>intro v
  ·have ⟨F,c9,hf⟩:=L.jx a l;have y:ax N F=[116]:=by
    have:=hf;unfold cu dB at this;simpa [v] using this
   obtain ⟨X,rfl⟩:∃X,F=[X]:=by
    cases F with
    | nil=>simp [ax] at y
    | cons d8 b6=>cases b6 with
     | nil=>exact ⟨d8,rfl⟩
     | cons f3 b6=>simp [ax] at y
   obtain ⟨rfl,q1,q2,q3,q4⟩:=c9.inv;have x:bK (nd N (a+1)).kind=116:=by simpa [ax] using y
   have c7:15<=(nd N (a+1)).kind/\(nd N (a+1)).kind<=20:=by
    unfold bK at x;split at x;omega
    ·split at x;assumption
     ·repeat' split at x
      all_goals omega
   have q5:=q4.eC;have hz:sz N a=1+sz N (a+1):=O;simp [w1];have d:=ih (a+1) O q2 (.inr c7) S D ot r M k O d1;simp at d;apply CP.o d;intro f2 C;have ⟨t,e,d6,d7,C,b,z,g1,g2⟩:=C;subst C;simp;have c2:∀{i},¬(a<=i/\i<a+1+sz N a)->¬(a+1<=i/\i<a+1+1+sz N (a+1)):=λh=>O;have ⟨ext,A,d9⟩:=b.ty;apply ST.dc<;>intro q;rotate_left;simp;have g3:=g2 q;subst g3;refine p _ ⟨0,e,d6,d7,rfl,⟨b.len,λi d=>b.ma i (c2 d),b.rc,b.fd,b.fn,b.sl,b.va,b.pt,b.rn,⟨ext,A,O⟩⟩,z,λh=>absurd h q,λ_=>rfl⟩;simp;have e6:e.ty.length<100000000000:=by rw [A];simp;omega
   apply CP.o (ZZ O t);rintro _ ⟨f,m,rfl,hu⟩;rcases g1 q with ⟨h,_⟩|⟨_,b1,b2,b3,b4,b5⟩;omega;have d2:TG f nr/\(∃s,f=e.ty++s/\s.length<=1)/\0<=m/\m<f.length/\(eZ f m.toNat).kind=7:=by rcases hu with ⟨_,_,h⟩|⟨rfl,_,_,g,c,w,h4⟩|⟨rfl,rfl,g,c⟩;omega;exact ⟨z,⟨[],Z,Z⟩,g,c,w⟩;refine ⟨z.snoc g c,⟨_,rfl,Z⟩,O,W,?_⟩;simp [qZ]
   have ⟨K,⟨s,c5,e1⟩,d3,P,R⟩:=d2;have h6:=yo K d3 P (.inr R);simp;refine CP.o (oB (S:={e with ty:=f}) (by rw [b.len,r];exact l) (by rw [b.len,r];omega) m 0 0) ?_;rintro _ rfl;simp;refine p _ ⟨m,{e with ty:=f,ma:=e.ma.set a ⟨m,0,0⟩},true,false,by simp [SS.v,yJ],⟨by simp [b.len],λi d=>?_,b.rc,b.fd,b.fn,b.sl,b.va,b.pt,b.rn,⟨ext++s,by simp [c5,A],W⟩⟩,K,λ_=>.inr ⟨o,O,P,O,λh=>O,λ_=>R⟩,λh=>absurd q h⟩;rw [yO];rw [zO O];exact b.ma i (c2 d)
  have c6:15<=(nd N a).kind:=by omega
  simp [w1,Og l];apply CP.o (ZY S.rn O O (nd N a) c6 O);rintro _ ⟨t,rfl,ht⟩;simp;have h6:=k.GN;apply ST.dc<;>intro J;simp;apply CP.o (Hi 8 O l);rintro _ ⟨c3,d5,d4,rfl,c4⟩;simp;exact p _ ⟨0,{S with c:=c3,l:=d5,k:=d4},D,ot,rfl,⟨rfl,λ_ _=>rfl,rfl,rfl,rfl,rfl,rfl,rfl,rfl,⟨[],Z,Z⟩⟩,k,λh=>absurd h c4,λ_=>rfl⟩;simp;refine CP.o (oB (by rw [r];exact l) (by rw [r];omega) t 0 0) ?_;rintro _ rfl;simp;have c8:KQ (nd N a) S.ty t:=by rcases ht with h|⟨g,c⟩|⟨g,c,w⟩;exact absurd h J;exact .inr ⟨o,O,O,O,λh=>O,λh=>absurd h v⟩;have:=yo k g c (.inl w);exact .inr ⟨o,O,c,O,λ_=>w,λh=>absurd h v⟩
  refine p _ ⟨t,{S with ma:=S.ma.set a ⟨t,0,0⟩},true,ot,by simp [SS.v,yJ],⟨Z,λi d=>?_,rfl,rfl,rfl,rfl,rfl,rfl,rfl,⟨[],Z,Z⟩⟩,k,λ_=>c8,λh=>absurd M h⟩;rw [yO,zO O]
end
structure En where
 name:aU
 slot:Int
 block:Int
 at_:Int
@[simp] def oQ (x:En):ao:=[.v (.string x.name),I x.slot,I x.block,I x.at_]
theorem enZ (L:List En):cR 0 4 (L.map oQ):=bD (λx=>rfl) L
def aN (F:List Fn) (i:Nat):Fn:=F.getD i ⟨dm,0,0,0,0,0,0,0⟩
def aF (M:List Mk) (i:Nat):Mk:=M.getD i ⟨0,0,0⟩
theorem jj {F:List Fn} (h:a<F.length):F[a]? =some (aN F a):=getD_some h _
theorem kR {M:List Mk} (h:a<M.length):M[a]? =some (aF M a):=getD_some h _
section
variable {N:List Nd} {S D E:SS} {om ot:Bool} {f fl nr h w' a J:Nat} {k':dL} {l' s:ae}
def eQ (S:SS) (f:Nat) (a:Tx) (t first:Int):SS:={S with va:=S.va++[⟨f,a,(aN S.fn f).ah,first,0⟩],sl:=S.sl++[t],fn:=S.fn.set f {aN S.fn f with ah:=(aN S.fn f).ah+1}}
theorem PL (a:f<S.fn.length) (y:S.fn.length<=1000000000/\S.va.length<=99000000000/\S.sl.length<=99000000000) (v:0<=(aN S.fn f).ah) (w:(aN S.fn f).ah<=99000000000) (E:List En) (x:E.length<=99000000000) (e:Bool) (b:Tx) (t c first:Int):EP prog 120 [S.v N om ot,I f,.sl e (E.map oQ),.v (.string b.1),I t,I c,I first] λr=>r= .tu [.sl true ((E++[(⟨b.1,(aN S.fn f).ah,c,S.va.length⟩:En)]).map oQ),(eQ S f b t first).v N om ot]:=by
 refine EK.o SB λs Q n=>?_;have gf:=jj a;have q:i64.wrap ((aN S.fn f).ah+1)=(aN S.fn f).ah+1:=bW O O;have g:=λfl l s=>cG (fl:=fl) (l:=l) (s:=s) (o:=e) (b:=40) enZ O O [] E W;have i:=λfl l s=>cG (fl:=fl) (l:=l) (s:=s) (o:=true) (b:=40) enZ O O E [⟨b.1,(aN S.fn f).ah,c,S.va.length⟩] W;have tc:=λfl l s=>cG (fl:=fl) (l:=l) (s:=s) (o:=true) (b:=48) X5 O O S.va [⟨f,b,(aN S.fn f).ah,first,0⟩] W;have j:=λfl l s=>cG (fl:=fl) (l:=l) (s:=s) (o:=true) (b:=8) QJ O O S.sl [t] W;have d:S.fn.map ju≠[]:=by intro h;simp at h;rw [h] at a;simp at a
 have k:=λfl l s=>nX (fl:=fl) (l:=l) (s:=s) (o:=false) (b:=72) (LI S.fn) W O O d;have e3:cR 0 8 ((S.fn.map ju).set f (ju {aN S.fn f with ah:=(aN S.fn f).ah+1})):=by have:=Wt (S.fn.set f {aN S.fn f with ah:=(aN S.fn f).ah+1});rwa [yJ] at this
 have p:S.fn≠[]:=by simpa using d
 have m:S.fn[f]=aN S.fn f:=by have:=gf;rw [zA a] at this;exact yD this
 simp at g i tc j k e3;simp [Ux,m,g,i,tc,j,k,a,q,e3,p];have:=n _ rfl;simp only [SS.v,eQ,yJ,xR] at this;exact this
def ni (S:SS) (J:Nat):Prop:=S.ty.length+J<=99000000000/\S.va.length+J<=99000000000/\S.sl.length+J<=99000000000/\S.pt.length+J<=99000000000/\S.fn.length<=1000000000/\S.rn.length<=1000000000
structure Sx (N:List Nd) (nr f:Nat) (S:SS):Prop where
 ml:S.ma.length=N.length
 tg:TG S.ty nr
 fl:f<S.fn.length
 FC:0<=(aN S.fn f).at_
 pJ:0<=(aN S.fn f).ah
 eq:(aN S.fn f).at_+(aN S.fn f).ah=S.sl.length
 slt:∀x∈S.sl,1<=x/\x<S.ty.length
structure dF (f w a b:Nat) (S S':SS):Prop where
 len:S'.ma.length=S.ma.length
 ma:∀i,¬(a<=i/\i<b)->S'.ma[i]? =S.ma[i]?
 rc:S'.rc=S.rc
 fd:S'.fd=S.fd
 rn:S'.rn=S.rn
 Bn:S'.fn.length=S.fn.length
 fn:∀j,j≠f->S'.fn[j]? =S.fn[j]?
 ff:∃d:Nat,d<=w/\aN S'.fn f={aN S.fn f with ah:=(aN S.fn f).ah+d}
 ty:∃e,S'.ty=S.ty++e/\e.length<=w
 sl:∃e,S'.sl=S.sl++e/\e.length<=w
 va:S.va.length<=S'.va.length/\S'.va.length<=S.va.length+w
 pt:S.pt.length<=S'.pt.length/\S'.pt.length<=S.pt.length+w
theorem dF.refl:dF f h a J S S:=⟨rfl,λ_ _=>rfl,rfl,rfl,rfl,rfl,λ_ _=>rfl,⟨0,O,Z⟩,⟨[],Z,Z⟩,⟨[],Z,Z⟩,O,O⟩
theorem dF.trans (b:dF f h a J S D) (k:dF f w' a J D E):dF f (h+w') a J S E:=by obtain ⟨d,s,l⟩:=b.ff;obtain ⟨g,t,m⟩:=k.ff;obtain ⟨x,p,A⟩:=b.ty;obtain ⟨y,q,C⟩:=k.ty;obtain ⟨r,n,w⟩:=b.sl;obtain ⟨v,o,z⟩:=k.sl;refine ⟨k.len.trans b.len,λi c=>(k.ma i c).trans (b.ma i c),k.rc.trans b.rc,k.fd.trans b.fd,k.rn.trans b.rn,k.Bn.trans b.Bn,λj e=>(k.fn j e).trans (b.fn j e),⟨d+g,O,?_⟩,⟨x++y,by rw [q,p,yW],W⟩,⟨r++v,by rw [o,n,yW],W⟩,by have:=b.va;have:=k.va;omega,by have:=b.pt;have:=k.pt;omega⟩;rw [m,l];simp [Int.add_assoc]
theorem dF.wide {a' b':Nat} (b:dF f h a J S D) (k:a'<=a) (l:J<=b') (p:h<=w'):dF f w' a' b' S D:=by obtain ⟨d,m,c⟩:=b.ff;obtain ⟨x,g,q⟩:=b.ty;obtain ⟨j,e,o⟩:=b.sl;exact ⟨b.len,λi n=>b.ma i O,b.rc,b.fd,b.rn,b.Bn,b.fn,⟨d,O,c⟩,⟨x,g,O⟩,⟨j,e,O⟩,by have:=b.va;omega,by have:=b.pt;omega⟩
theorem dF.ni {k:Nat} (b:dF f h a J S D) (d:ni S (h+k)):ni D k:=by obtain ⟨x,g,m⟩:=b.ty;obtain ⟨n,e,l⟩:=b.sl;have:=b.va;have:=b.pt;have:=b.Bn;obtain ⟨i,j,b3,b4,b5,c⟩:=d;refine ⟨?_,O,?_,O,O,by rw [b.rn];exact c⟩;rw [g];simp;omega;rw [e];simp;omega
theorem ni.le {k k':Nat} (h:ni S k) (d:k'<=k):ni S k':=by have ⟨b,c,b3,b4,b5,a⟩:=h;exact ⟨O,O,O,O,b5,a⟩
def MG (N:List Nd) (S:SS) (f i:Nat):Prop:=
 ((nd N i).kind=26->0<=(aF S.ma i).ref/\(aF S.ma i).ref<(aN S.fn f).ah/\1<=(aF S.ma i).type/\(aF S.ma i).type<S.ty.length)/\
 ((nd N i).kind=27->(-8<=(aF S.ma i).ref/\(aF S.ma i).ref<= -1)\/(0<=(aF S.ma i).ref/\(aF S.ma i).ref<S.fn.length))/\
 ((nd N i).kind=7->0<=(aF S.ma i).ref/\(aF S.ma i).ref<(aN S.fn f).ah/\1<=(aF S.ma i).type/\(aF S.ma i).type<S.ty.length)/\
 ((nd N i).kind=32->1<=(aF S.ma i).type/\(aF S.ma i).type<S.ty.length/\((nd N (i+1)).kind=19->(eZ S.ty (aF S.ma i).type.toNat).kind=6)/\((nd N (i+1)).kind=20->(eZ S.ty (aF S.ma i).type.toNat).kind=7))
def VM (N:List Nd) (S:SS) (f a J:Nat):Prop:=∀i,a<=i->i<J->MG N S f i
theorem kQ (a:D.ma[h]? =S.ma[h]?):aF D.ma h=aF S.ma h:=by simp [aF,zG,a]
theorem MG.mono (a:MG N S f d) (r:dF f h b c S D) (w:¬(b<=d/\d<c)):MG N D f d:=by
 obtain ⟨e,j,_⟩:=r.ty;obtain ⟨x,z,i⟩:=r.ff;have g:=kQ (r.ma d w);obtain ⟨p,s,t,v⟩:=a;have y:(D.ty.length:Int)=S.ty.length+e.length:=by rw [j];simp
 refine ⟨λa=>?_,λa=>?_,λa=>?_,λa=>?_⟩;have:=p a;rw [g,i];simp only;omega;have:=s a;rw [g,r.Bn];exact this;have:=t a;rw [g,i];simp only;omega;obtain ⟨l,m,n,o⟩:=v a;rw [g,j,xx O m];exact ⟨l,W,n,o⟩
theorem VM.mono (d:VM N S f a J) (r:dF f h b c S D) (j:c<=a\/J<=b):VM N D f a J:=λi e g=>(d i e g).mono r O
structure EG (S:SS) (f:Nat) (E:List En):Prop where
 len:E.length<=S.va.length
 ok:∀x∈E,0<=x.slot/\x.slot<(aN S.fn f).ah/\0<=x.at_/\x.at_<S.va.length
theorem EG.mono {E:List En} (b:EG S f E) (r:dF f h a J S D):EG D f E:=by obtain ⟨x,e,c⟩:=r.ff;have:=r.va;have:=b.len;refine ⟨O,λy d=>?_⟩;have:=b.ok y d;rw [c];simp only;omega
end
section
variable {N:List Nd} {S D E:SS} {om ot:Bool} {J fl h w w' a b:Nat} {k':dL} {l' s:ae}
theorem dF.of_same (h:Bd S D a b) (f:b-a<=w):dF J w a b S D:=by obtain ⟨e,c,d⟩:=h.ty;exact ⟨h.len,h.ma,h.rc,h.fd,h.rn,by rw [h.fn],λj _=>by rw [h.fn],⟨0,O,by rw [h.fn];simp⟩,⟨e,c,O⟩,⟨[],by simp [h.sl],Z⟩,by rw [h.va];omega,by rw [h.pt];omega⟩
theorem dF.fault (c l k:Int):dF J w a b S {S with c:=c,l:=l,k:=k}:=⟨rfl,λ_ _=>rfl,rfl,rfl,rfl,rfl,λ_ _=>rfl,⟨0,O,Z⟩,⟨[],Z,Z⟩,⟨[],Z,Z⟩,Z,Z⟩
theorem dF.mark {i:Nat} (m:Mk) (c:a<=i) (d:i<b):dF J w a b S {S with ma:=S.ma.set i m}:=⟨Z,λj e=>by rw [yO,zO O],rfl,rfl,rfl,rfl,λ_ _=>rfl,⟨0,O,Z⟩,⟨[],Z,Z⟩,⟨[],Z,Z⟩,Z,Z⟩
theorem Sx.fault (a:Sx N h J S) (c l k:Int):Sx N h J {S with c:=c,l:=l,k:=k}:=⟨a.ml,a.tg,a.fl,a.FC,a.pJ,a.eq,a.slt⟩
theorem Sx.mark (c:Sx N h J S) (i:Nat) (m:Mk):Sx N h J {S with ma:=S.ma.set i m}:=⟨by simp [c.ml],c.tg,c.fl,c.FC,c.pJ,c.eq,c.slt⟩
theorem Sx.same (d:Sx N h J S) (c:Bd S D a b) (i:TG D.ty h):Sx N h J D:=by obtain ⟨e,g,_⟩:=c.ty;refine ⟨by rw [c.len,d.ml],i,by rw [c.fn];exact d.fl,by rw [c.fn];exact d.FC,by rw [c.fn];exact d.pJ,by rw [c.fn,c.sl];exact d.eq,λx f=>?_⟩;rw [c.sl] at f;have:=d.slt x f;rw [g];simp;omega
theorem ig {M:List Mk} (h:c<M.length) (m:Mk):aF (M.set c m) c=m:=by simp [aF,zG,h]
theorem Kc.find {l:aA} (h:Kc N c d l) (a:c<=e) (f:e<d):∃k∈l,k<=e/\e<k+1+sz N k/\k+1+sz N k<=d:=by
 induction h with
 | nil=>omega
 | cons p q r o m=>rename_i k b l;by_cases j:e<k+1+sz N k;exact ⟨k,Z,a,j,o.le⟩;obtain ⟨n,g,i⟩:=m O f;exact ⟨n,by simp [g],i⟩
theorem desc (o:WT N) (P:Int->Prop) (m:∀i b,i<N.length->P (nd N i).kind->Kc N (i+1) (i+1+sz N i) b->cu N i b->∀k∈b,P (nd N k).kind):∀(n a:Nat),N.length-a<n->a<N.length->P (nd N a).kind->∀i,a<=i->i<a+1+sz N a->P (nd N i).kind/\i+1+sz N i<=a+1+sz N a:=by
 intro n;induction n with
 | zero=>intro a h;omega
 | succ n s=>intro a w d f i t g;by_cases q:i=a;subst q;exact ⟨f,zC _⟩;have ⟨b,c,p⟩:=o.jx a d;have ⟨k,e,j,l,v⟩:=c.find O g;have r:=c.mem k e;have:=s k O r.2.2 (m a b d f c p k e) i j l;exact ⟨this.1,O⟩
theorem nest (e:WT N) (f:a<N.length) (b:a<=c) (d:c<a+1+sz N a):c+1+sz N c<=a+1+sz N a:=(desc e (λ_=>True) (λ_ _ _ _ _ _ _ _=>trivial) _ a (yF _) f trivial c b d).2
theorem hL (h:bK i=116):15<=i/\i<=20:=by
 unfold bK at h;repeat' split at h
 all_goals omega
theorem aR (h:bK i=101):21<=i/\i<=32:=by
 unfold bK at h;repeat' split at h
 all_goals omega
theorem dw {a:aA} (h:c∈a):bK (nd N c).kind∈ax N a:=xW.2 ⟨c,h,rfl⟩
theorem exprs (i:WT N) (j:a<N.length) (h:15<=(nd N a).kind/\(nd N a).kind<=32) (f:a<=c) (g:c<a+1+sz N a):15<=(nd N c).kind/\(nd N c).kind<=32:=by
 refine (desc i (λx=>15<=x/\x<=32) (λc r o m p d k l=>?_) _ a (yF _) j h c f g).1;have b:=dw (N:=N) l;have n:bK (nd N k).kind=116\/bK (nd N k).kind=101:=by
  unfold cu dB at d;have e:∀x:Int,(x<15\/32<x)->¬(nd N c).kind=x:=λx q h=>by rw [h] at m;omega
  simp only [e 1 O,e 2 O,e 3 O,e 5 O,e 4 O,e 6 O,e 7 O,e 8 O,e 9 O,e 10 O,e 11 O,e 12 O,e 13 O,if_false,false_or] at d;repeat' split at d
  rw [d] at b;simp at b;exact .inl b;rw [d] at b;simp at b;exact .inr b;exact .inr (d _ b);rw [d] at b;simp at b;exact .inr b;rcases d with ⟨h,_⟩|⟨h,_⟩ <;> rw [h] at b <;> simp at b;exact .inl b;exact b;rw [d.1] at b;simp at b
 rcases n with h|h;have:=hL h;omega;have:=aR h;omega
theorem a0o (c:WT N) (h:a<N.length) (d:(nd N a).kind=32):a+1<N.length/\15<=(nd N (a+1)).kind/\(nd N (a+1)).kind<=20/\a+1+1+sz N (a+1)<=a+1+sz N a:=by
 have ⟨f,e,b⟩:=c.jx a h;unfold cu dB at b;simp [d] at b;cases f with
 | nil=>rcases b with ⟨h,_⟩|⟨h,_⟩ <;> simp [ax] at h
 | cons x r=>obtain ⟨rfl,j,g,k,i⟩:=e.inv;refine ⟨g,?_,?_,i.le⟩ <;> rcases b with ⟨_,h⟩|⟨_,h⟩ <;> simp [LJ] at h <;> omega
def JH (N:List Nd) (h J a:Nat) (S:SS) (r:TV):Prop:=∃(D:SS) (om ot:Bool),r=D.v N om ot/\dF J ((1+sz N a)*300000) a (a+1+sz N a) S D/\Sx N h J D/\(D.c=0->VM N D J a (a+1+sz N a))
theorem PF (r:WT N) (H:a<N.length) (f6:15<=(nd N a).kind/\(nd N a).kind<=32) (hX:Sx N h J S) (E:List En) (t:Bool) (hE:EG S J E) (hb:ni S ((1+sz N a)*300000)):EP prog 196 [S.v N om ot,I J,.sl t (E.map oQ),I a] (JH N h J a S):=by
 refine EK.o Ry λs Q hQ=>?_;have hN:=r.mM;have d1:=(r.te.g a O H).1;have i1:=d1.le;have ga:=aZ H;have hz:(nd N a).size=(sz N a:Int):=by have:=d1.nn;unfold sz;omega
 have w1:i64.wrap ((a:Int)+(sz N a:Int))=(a:Int)+(sz N a:Int):=bW O O;obtain ⟨d,d2⟩:∃d,d=a+1+sz N a:=⟨_,rfl⟩;simp [TW];refine LP.ind (λx:SS×Bool×Bool×Nat=>d-x.2.2.2) (λx=>a<=x.2.2.2/\x.2.2.2<=d/\dF J ((x.2.2.2-a)*300000) a d S x.1/\Sx N h J x.1/\(x.1.c=0->VM N x.1 J a x.2.2.2)) (λx=>[I J,.sl t (E.map oQ),I a,.p false 0 0,.p false 1 0,I x.2.2.2]) (λx=>[.row (ce (x.1.v N x.2.1 x.2.2.1)) 0,.row bR 0]) (λ_=>s) 2 (λ_ _=>⟨rfl,rfl,rfl⟩) (λx A c3 hk=>?_) (S,om,ot,a) ⟨Z,W,dF.refl,hX,λ_ i f n=>by simp at n;omega⟩;have ⟨T,om,ot,i⟩:=x;have ⟨v,g2,p,e,g5⟩:=A;simp only at v g2 p e g5;have done:∀(c:SS) (om ot:Bool) (w:Nat),dF J w a d S c->w<=(d-a)*300000->Sx N h J c->(c.c=0->VM N c J a d)->Q (c.v N om ot):=λc om ot w f n h3 h4=>hQ _ ⟨c,om,ot,rfl,by rw [<-d2];exact f.wide O O (by rw [show 1+sz N a=d-a by omega];exact n),h3,by rw [<-d2];exact h4⟩;have P:i<d->∀(c:SS) (om ot:Bool) (w:Nat),dF J w a d T c->w<=300000->Sx N h J c->(c.c=0->VM N c J a (i+1))->∀R l',R=[I J,.sl t (E.map oQ),I a,.p false 0 0,.p false 1 0,I ((i:Int)+1)]->l'.take 2=[.row (ce (c.v N om ot)) 0,.row bR 0]->c3 R l' s:=λo c om ot w f n h3 h4 R l' h5 h6=>hk (c,om,ot,i+1) R l' s (by rw [h5];rfl) h6 rfl ⟨W,o,(p.trans f).wide O O W,h3,h4⟩ W;simp [um,ga,hz,w1];apply ST.dc<;>intro b;rotate_left;have:i=d:=by omega
 subst this;simp [Dc];exact done T om ot _ p O e g5;have o:i<d:=O;have L:i<N.length:=O;have gi:=aZ L;have F:=wn (j:=i) O;simp;apply ST.dc<;>intro K;rotate_left;simp;exact done T om ot _ p O e (λb=>absurd b K);have vm:=g5 K;have d8:∀(m:Mk),MG N {T with ma:=T.ma.set i m} J i->VM N {T with ma:=T.ma.set i m} J a (i+1):=λm hm j f n=>by by_cases k:j=i;rw [k];exact hm;exact (vm j f O).mono (dF.mark (w:=0) (a:=i) m O O) O
 have e2:ni T ((d-i)*300000):=by apply p.ni;rw [show (i-a)*300000+(d-i)*300000=(1+sz N a)*300000 by omega];exact hb
 have ⟨f9,g6,g7,g8,g9,h7⟩:=e2;have M:i<T.ma.length:=by rw [e.ml];exact L
 have c6:∀(fl:Nat) (l:ae) (q:dL),(∀c:SS,dF J 0 a d T c->Sx N h J c->c.c≠0->PR (q (c.v N om ot) l s))->CL prog 77 [T.v N om ot,I 8,I i] fl q l s:=λfl l q b=>CP.o (Hi 8 O L) (by rintro _ ⟨h8,l,c3,rfl,c2⟩;exact b _ (dF.fault _ _ _) (e.fault _ _ _) c2)
 have d7:∀(m:Mk) (fl:Nat) (l:ae) (q:dL),CL prog 116 [T.v N om ot,I i,.ag [I m.type,I m.ref,I m.ai]] fl q l s=q (SS.v N {T with ma:=T.ma.set i m} true ot) l s:=λm fl l q=>CP.q (oB M (by rw [e.ml];omega) m.type m.ref m.ai);simp [gi];apply ST.dc<;>intro c7;simp;refine LP.ind (λx:Nat×Int=>E.length-x.1) (λx=>x.1<=E.length/\(x.2= -1\/(0<=x.2/\x.2<(aN T.fn J).ah))) (λx=>[I J,.sl t (E.map oQ),I a,.p false 0 0,.p false 1 0,I i,.p false 2 0,I x.2,I E.length,I x.1]) (λ_=>[.row (ce (T.v N om ot)) 0,.row bR 0,.row (bG (nd N i)) 0]) (λ_=>s) 3 (λ_ _=>⟨rfl,rfl,rfl⟩) (λx A k2 e6=>?_) (0,-1) ⟨Z,.inl rfl⟩;have ⟨j,g⟩:=x;have ⟨x1,x2⟩:=A;simp only at x1 x2;have c9:=hE.mono p;simp [uk];apply ST.dc<;>intro k;have he:=c9.ok _ (zW k);have wj:=wn (j:=j) (Zo c9.len);have n2:∀g:Int,(g= -1\/(0<=g/\g<(aN T.fn J).ah))->k2 [I J,.sl t (E.map oQ),I a,.p false 0 0,.p false 1 0,I i,.p false 2 0,I g,I E.length,I ((j:Int)+1)] [.row (ce (T.v N om ot)) 0,.row bR 0,.row (bG (nd N i)) 0] s:=λg b=>e6 (j+1,g) _ _ _ Z rfl rfl ⟨k,b⟩ W;simp [zA k];apply ST.dc<;>intro f;simp [zA k,wj];exact n2 _ (.inr ⟨he.1,he.2.1⟩);simp [wj];exact n2 _ x2;simp [Db];apply ST.dc<;>intro f;simp;refine c6 _ _ _ λc C r2 r3=>?_;simp;exact done c om ot _ (p.trans C) O r2 (λb=>absurd b r3);have d3:0<=g/\g<(aN T.fn J).ah:=by omega
 have e0:=e.eq;have e1:=e.FC;have ⟨ix,h9⟩:=yE (show 0<=(aN T.fn J).at_+g by omega);have d4:ix<T.sl.length:=O;have w2:i64.wrap ((aN T.fn J).at_+g)=(ix:Int):=by rw [bW O O];omega
 have d6:=e.slt _ (zW d4);simp [jj e.fl,w2,zA d4];have:=d7 ⟨T.sl[ix],g,0⟩ s.length;simp at this;simp [this,je,F];refine P o {T with ma:=T.ma.set i ⟨T.sl[ix],g,0⟩} true ot 0 (dF.mark _ v o) O (e.mark _ _) (λ_=>d8 _ ⟨λ_=>?_,λb=>O,λb=>O,λb=>O⟩) _ _ rfl (by simp [yJ]);simp only [ig M];exact ⟨d3.1,d3.2,d6.1,d6.2⟩;simp;apply ST.dc<;>intro c8;simp;have c5:∀x:Int,((-8<=x/\x<= -1)\/(0<=x/\x<T.fn.length))->CL prog 116 [T.v N om ot,I i,.ag [I 0,I x,I 0]] s.length (λf8=>st (X:=KX prog s Q) 13 (.p false 0 0) f8 λ_=>je c3 (I J) (.sl t (E.map oQ)) (I a) (.p false 0 0) (.p false 1 0) (I i)) [.row ((ce (T.v N om ot)).map dX) 0,.row bR 0,.row (bG (nd N i)) 0] s:=by intro x A;have:=d7 ⟨0,x,0⟩ s.length;simp at this;simp [this,je,F];refine P o {T with ma:=T.ma.set i ⟨0,x,0⟩} true ot 0 (dF.mark _ v o) O (e.mark _ _) (λ_=>d8 _ ⟨λb=>O,λ_=>?_,λb=>O,λb=>O⟩) _ _ rfl (by simp [yJ]);simp only [ig M];exact A
 apply CP.o (m76 O (nd N i).text.1);rintro _ ⟨x,rfl,i2,i3⟩;simp;apply ST.dc<;>intro f;simp;apply CP.o (PN (nd N i).text.1);rintro _ ⟨y,rfl,i4,i5⟩;have wy:i64.wrap (-y)= -y:=bW O O;have i9:i64.wrap (0-y)= -y:=by rw [bW O O];omega
 simp [wy];apply ST.dc<;>intro n;simp;refine c6 _ _ _ λc C r2 r3=>?_;simp;exact done c om ot _ (p.trans C) O r2 (λb=>absurd b r3);simp;exact c5 (-y) (.inl O);simp;exact c5 x (.inr O);simp;apply ST.dc<;>intro b6;simp [F];have ⟨f1,f2,f3,f4⟩:=a0o r L b6;have f5:=nest r H v O;have hh:=n118 r _ (i+1) (yF _) f1 (.inr ⟨f2,f3⟩) T om ot e.ml K e.tg O O;simp at hh;apply CP.o hh;intro i7 hv;have ⟨c4,D,i6,f7,hv,z,d9,q1,q2⟩:=hv;subst hv;simp;have d5:i<D.ma.length:=by rw [z.len];exact M
 refine CP.o (oB d5 (by rw [z.len,e.ml];omega) c4 0 0) ?_;rintro _ rfl;simp [je,F];have C:dF J 300000 a d T D:=(dF.of_same (w:=300000) z O).wide O O O;refine P o {D with ma:=D.ma.set i ⟨c4,0,0⟩} true f7 (300000+0) (C.trans (dF.mark _ v o)) O ((e.same z d9).mark _ _) (λc2 j f n=>?_) _ _ rfl (by simp [yJ]);by_cases k:j=i;subst k;refine ⟨λb=>O,λb=>O,λb=>O,λ_=>?_⟩;simp only [ig d5];rcases q1 c2 with ⟨b,_⟩|⟨_,b1,b2,b3,b4,b5⟩;omega;exact ⟨b1,b2,b4,b5⟩;have v1:=vm j f O;have v2:=v1.mono (dF.of_same (w:=300000) z O) O;exact v2.mono (dF.mark (w:=0) (a:=i) ⟨c4,0,0⟩ O O) O;simp [je,F];refine P o T om ot 0 dF.refl O e (λ_ j f n=>?_) _ _ rfl Z;by_cases k:j=i;subst k;have:=exprs r H f6 f O;exact ⟨λb=>absurd b c7,λb=>absurd b c8,λb=>O,λb=>absurd b b6⟩;exact vm j f O
end
section
variable {N:List Nd} {S D E:SS} {J ot:Bool} {h fl nr w w' a b:Nat} {k':dL} {l' s:ae}
theorem types (g:WT N) (j:a<N.length) (h:15<=(nd N a).kind/\(nd N a).kind<=20) {i:Nat} (d:a<=i) (f:i<a+1+sz N a):15<=(nd N i).kind/\(nd N i).kind<=20:=by
 refine (desc g (λx=>15<=x/\x<=20) (λi q n m o b k l=>?_) _ a (yF _) j h i d f).1;have c:=dw (N:=N) l;unfold cu dB at b;have e:∀x:Int,(x<15\/20<x)->¬(nd N i).kind=x:=λx p h=>by rw [h] at m;omega
 simp only [e 1 O,e 2 O,e 3 O,e 5 O,e 4 O,e 6 O,e 7 O,e 8 O,e 9 O,e 10 O,e 11 O,e 12 O,e 13 O,e 27 O,e 28 O,e 29 O,e 30 O,e 31 O,e 32 O,if_false,false_or,or_false] at b;split at b;rw [b] at c;simp at c;have:=hL c;omega;rw [b.1] at c;simp at c
theorem vmT (e:WT N) (f:a<N.length) (b:15<=(nd N a).kind/\(nd N a).kind<=20):VM N S h a (a+1+sz N a):=λi c d=>by have:=types e f b c d;exact ⟨λb=>O,λb=>O,λb=>O,λb=>O⟩
theorem VM.app (e:VM N S h a b) (k:VM N S h b c):VM N S h a c:=λi f g=>by by_cases j:i<b;exact e i f j;exact k i O g
def UZ (N:List Nd) (nr h a:Nat) (S:SS) (r:TV):Prop:=∃(b:List En) (c:Bool) (D:SS) (J ot:Bool),r= .tu [.sl c (b.map oQ),D.v N J ot]/\dF h ((1+sz N a)*300000) a (a+1+sz N a) S D/\Sx N nr h D/\EG D h b/\(D.c=0->VM N D h a (a+1+sz N a))
def zg (N:List Nd) (nr h a:Nat):Prop:=∀(S:SS) (J ot:Bool) (E:List En) (c:Bool) (b:Int),S.c=0->Sx N nr h S->EG S h E->ni S ((1+sz N a)*300000)->EP prog 155 [S.v N J ot,I h,.sl c (E.map oQ),I b,I a] (UZ N nr h a S)
def zh (N:List Nd) (nr h a:Nat):Prop:=∀(S:SS) (J ot:Bool) (E:List En) (b:Bool),S.c=0->Sx N nr h S->EG S h E->ni S ((1+sz N a)*300000)->EP prog 121 [S.v N J ot,I h,.sl b (E.map oQ),I a] (JH N nr h a S)
theorem dF.ai (p:Pt) (c:1<=w):dF h w a b S {S with pt:=S.pt++[p]}:=⟨rfl,λ_ _=>rfl,rfl,rfl,rfl,rfl,λ_ _=>rfl,⟨0,O,Z⟩,⟨[],Z,Z⟩,⟨[],Z,Z⟩,Z,W⟩
theorem Sx.ai (a:Sx N nr h S) (p:Pt):Sx N nr h {S with pt:=S.pt++[p]}:=⟨a.ml,a.tg,a.fl,a.FC,a.pJ,a.eq,a.slt⟩
theorem fL {F:List Fn} (h:c<F.length) (x:Fn):aN (F.set c x) c=x:=by simp [aN,zG,h]
theorem dF.IB (d:h<S.fn.length) (e:Tx) (t first:Int) (c:1<=w):dF h w a b S (eQ S h e t first):=⟨rfl,λ_ _=>rfl,rfl,rfl,rfl,by simp [eQ],λj f=>by simp only [eQ];rw [yO,zO O],⟨1,c,by simp only [eQ];rw [fL d];rfl⟩,⟨[],by simp [eQ],Z⟩,⟨[t],rfl,c⟩,by simp [eQ];omega,by simp [eQ]⟩
theorem Sx.IB (a:Sx N nr h S) (e:Tx) (first:Int) (c:1<=i) (d:i<S.ty.length):Sx N nr h (eQ S h e i first):=by refine ⟨a.ml,a.tg,by simp [eQ];exact a.fl,?_,?_,?_,λx b=>?_⟩;simp only [eQ];rw [fL a.fl];exact a.FC;simp only [eQ];rw [fL a.fl];have:=a.pJ;simp only;omega;simp only [eQ];rw [fL a.fl];have:=a.eq;simp;push_cast;omega;simp only [eQ] at b;rcases xC.1 b with b|b;exact a.slt x b;simp at b;subst b;exact ⟨c,d⟩
theorem EG.IB {E:List En} (b:EG S h E) (c:Sx N nr h S) (d:Tx) (t first e:Int):EG (eQ S h d t first) h (E++[⟨d.1,(aN S.fn h).ah,e,S.va.length⟩]):=by have:=b.len;have:=c.pJ;refine ⟨by simp [eQ];omega,λx a=>?_⟩;simp only [eQ];rw [fL c.fl];simp;rcases xC.1 a with a|a;have:=b.ok x a;omega;simp at a;subst a;simp only;omega
theorem Fu (j:WT N) (l:a<N.length) {d:aA} (m:Kc N (a+1) (a+1+sz N a) d) (c:cu N a d) (h:8<=(nd N a).kind/\(nd N a).kind<=13):∀k∈d,(nd N k).kind=6\/(21<=(nd N k).kind/\(nd N k).kind<=32):=by
 intro k g;have b:=dw (N:=N) g;have i:bK (nd N k).kind=98\/bK (nd N k).kind=101:=by
  unfold cu dB at c;have e:∀x:Int,(x<8\/13<x)->¬(nd N a).kind=x:=λx n f=>by rw [f] at h;omega
  simp only [e 1 O,e 2 O,e 3 O,e 5 O,e 4 O,e 6 O,e 7 O,e 20 O,e 27 O,e 28 O,e 29 O,e 30 O,e 31 O,e 32 O,if_false,or_false] at c;repeat' split at c
  rw [c.1] at b;simp at b;exact .inr b;rcases c with h|h <;> rw [h] at b <;> simp at b <;> omega;rw [c] at b;simp at b;omega;rcases c with h|h <;> rw [h] at b <;> simp at b;exact .inr b;rw [c] at b;simp at b;exact .inr b;rw [c.1] at b;simp at b;exact .inr b;rw [c.1] at b;simp at b
 rcases i with h|h
 ·left;unfold bK at h;repeat' split at h
  all_goals omega
 exact .inr (aR h)
theorem Po (C:WT N) (y:a<N.length) (c9:8<=(nd N a).kind/\(nd N a).kind<=13) (hB:∀k,a<k->k<N.length->(nd N k).kind=6->zh N nr h k):zg N nr h a:=by
 intro S J ot E L d5 hc hX X hb;refine EK.o LY λs Q hQ=>?_;have hN:=C.mM;have c7:=(C.te.g a O y).1;have d6:=c7.le;have ga:=aZ y;have ⟨f,K,hf⟩:=C.jx a y;obtain ⟨c,c3⟩:∃c,c=a+1+sz N a:=⟨_,rfl⟩;have ⟨b1,b2,b3,b4,b5,b6⟩:=hb;have ta:=λfl l s=>cG (fl:=fl) (l:=l) (s:=s) (o:=true) (b:=32) ptZ O O S.pt [⟨h,a,(nd N a).line,(nd N a).nH⟩] W;obtain ⟨z,q⟩:∃z:SS,z={S with pt:=S.pt++[⟨h,a,(nd N a).line,(nd N a).nH⟩]}:=⟨_,rfl⟩;obtain ⟨g,F⟩:∃g:SS,g={z with ma:=z.ma.set a ⟨0,0,S.pt.length⟩}:=⟨_,rfl⟩;have m1:=λfl l k=>CP.eq (fl:=fl) (l:=l) (s:=s) (k:=k) (oB (N:=N) (om:=J) (ot:=ot) (S:=z) (by subst q;rw [hX.ml];exact y) (by subst q;rw [hX.ml];omega) 0 0 S.pt.length) rfl;have m2:=λfl l k=>CP.eq (fl:=fl) (l:=l) (s:=s) (k:=k) (Au O y c7 K) rfl;have r2:dF h 300000 a c S g:=by subst F;subst q;exact ((dF.ai (w:=1) _ O).trans (dF.mark (w:=0) (a:=a) (b:=c) (i:=a) _ O O)).wide O O O
 have x2:Sx N nr h g:=by subst F;subst q;exact (hX.ai _).mark _ _
 have c2:g.c=0:=by subst F;subst q;exact hc
 have d4:VM N g h a (a+1):=λd2 e i=>by have:d2=a:=O;subst this;exact ⟨λm=>O,λm=>O,λm=>O,λm=>O⟩
 have e2:=X.mono r2;simp [q,SS.v] at ta m1;simp [MO,ga,ta,m1,m2,show ¬(nd N a).kind=7 by omega];have d3:(TO.row [.sl false (N.map bG),.sl true ((S.ma.map ic).set a [I 0,I 0,I S.pt.length]),.sl ot (S.ty.map dM),.sl true (S.rc.map sR),.sl true (S.fd.map pN),.sl true (S.fn.map ju),.sl true (S.sl.map bt),.sl true (S.va.map s7),.sl true (S.pt.map vB++[[I h,I a,I (nd N a).line,I (nd N a).nH]]),.sl true (S.rn.map mA),I S.c,I S.l,I S.k] 0)= .row (ce (g.v N true ot)) 0:=by subst F;subst q;simp [yJ]
 have c6:∀(T:SS) (J ot:Bool) (w:Nat),dF h w a c S T->w<=(c-a)*300000->Sx N nr h T->(T.c=0->VM N T h a c)->Q (.tu [.sl L (E.map oQ),T.v N J ot]):=λT J ot w e i n h4=>hQ _ ⟨E,L,T,J,ot,rfl,by rw [<-c3];exact e.wide O O (by rw [show 1+sz N a=c-a by omega];exact i),n,X.mono e,by rw [<-c3];exact h4⟩;rw [d3];have d7:f.length<=sz N a:=by
  have:∀{a b l},Kc N a b l->a+l.length<=b:=λm=>by induction m <;> simp <;> omega
  have:=this K;omega
 refine LP.ind (λx:SS×Bool×Bool×Nat=>f.length-x.2.2.2) (λx=>x.2.2.2<=f.length/\∃p,Kc N p c (f.drop x.2.2.2)/\a+1<=p/\dF h ((p-a)*300000) a c S x.1/\Sx N nr h x.1/\(x.1.c=0->VM N x.1 h a p)) (λx=>[I h,.sl L (E.map oQ),.p false 0 0,.p false 1 0,.sl false (f.map bF),I f.length,I x.2.2.2]) (λx=>[.row (ce (x.1.v N x.2.1 x.2.2.1)) 0,.row bR 0,.row (bG (nd N a)) 0]) (λ_=>s) 3 (λ_ _=>⟨rfl,rfl,rfl⟩) (λx hx k hk=>?_) (g,true,ot,0) ⟨Z,a+1,by rw [c3];exact K,O,r2.wide O O O,x2,λ_=>d4⟩;have ⟨T,J,ot,j⟩:=x;have ⟨g0,p,t,g2,v,A,R⟩:=hx;simp only at g0 t v A R;simp [uz];apply ST.dc<;>intro r;rotate_left;have:f.drop j=[]:=yT O;rw [this] at t;have:=t.eC;subst this;simp [Dm];exact c6 T J ot _ v O A R;simp;apply ST.dc<;>intro H;rotate_left;simp;exact c6 T J ot _ v (Zo t.le) A (λm=>absurd m H);rw [yG r] at t;have ⟨M,q1,q2,q3,q4⟩:=t.inv;have d1:=Fu C y K hf c9 _ (zW r);have wj:=wn (j:=j) O;rw [M] at d1;have eT:=X.mono v;have q5:=q4.le;have bT:ni T ((1+sz N p)*300000):=by refine (v.ni (k:=(c-p)*300000) ?_).le O;rw [show (p-a)*300000+(c-p)*300000=(1+sz N a)*300000 by omega];exact ⟨b1,b2,b3,b4,b5,b6⟩
 have c8:∀(d:SS) (J ot:Bool),dF h ((1+sz N p)*300000) p (p+1+sz N p) T d->Sx N nr h d->(d.c=0->VM N d h p (p+1+sz N p))->∀P l',P=[I h,.sl L (E.map oQ),.p false 0 0,.p false 1 0,.sl false (f.map bF),I f.length,I ((j:Int)+1)]->l'.take 3=[.row (ce (d.v N J ot)) 0,.row bR 0,.row (bG (nd N a)) 0]->k P l' s:=λd J ot e i n P l' h5 D=>hk (d,J,ot,j+1) P l' s (by rw [h5];rfl) D rfl ⟨r,p+1+sz N p,q4,O,(v.trans (e.wide O O (zC _))).wide O O O,i,λhc=>((R H).mono e O).app (n hc)⟩ W
 simp [zA r,M,aZ q2];apply ST.dc<;>intro D;simp [zA r,M];apply CP.o (hB p O q2 D T J ot E false H A eT bT);rintro _ ⟨d,c4,c5,rfl,e,i,n⟩;simp [wj];exact c8 d c4 c5 e i n _ _ rfl Z;simp [zA r,M];apply CP.o (PF (om:=J) (ot:=ot) C q2 O A E false eT bT);rintro _ ⟨d,c4,c5,rfl,e,i,n⟩;simp [wj];exact c8 d c4 c5 e i n _ _ rfl Z
theorem bkk (f:WT N) (g:a<N.length) {c:aA} (b:cu N a c) (h:(nd N a).kind=6):∀k∈c,7<=(nd N k).kind/\(nd N k).kind<=13:=by
 intro k d;have e:=dw (N:=N) d;unfold cu dB at b;simp [h] at b;have:=b _ e;unfold bK at this;repeat' split at this
 all_goals omega
theorem n121 (A:WT N) (C:a<N.length) (c7:(nd N a).kind=6) (hB:∀k,a<k->k<N.length->7<=(nd N k).kind/\(nd N k).kind<=13->zg N nr h k):zh N nr h a:=by
 intro S J ot E v D hX hE X;refine EK.o SA λs Q hQ=>?_;have hN:=A.mM;have c2:=(A.te.g a O C).1;have d4:=c2.le;have ⟨r,b2,hf⟩:=A.jx a C;obtain ⟨f,b1⟩:∃f,f=a+1+sz N a:=⟨_,rfl⟩;have m2:=λfl l k=>CP.eq (fl:=fl) (l:=l) (s:=s) (k:=k) (Au O C c2 b2) rfl;have d5:r.length<=sz N a:=by
  have:∀{a b l},Kc N a b l->a+l.length<=b:=λd=>by induction d <;> simp <;> omega
  have:=this b2;omega
 have M:∀(T:SS) (J ot:Bool) (w:Nat),dF h w a f S T->w<=(f-a)*300000->Sx N nr h T->(T.c=0->VM N T h a f)->Q (T.v N J ot):=λT J ot w g n P R=>hQ _ ⟨T,J,ot,rfl,by rw [<-b1];exact g.wide O O (by rw [show 1+sz N a=f-a by omega];exact n),P,by rw [<-b1];exact R⟩;simp [Uw,m2];refine LP.ind (λx:SS×Bool×Bool×List En×Bool×Nat=>r.length-x.2.2.2.2.2) (λx=>x.2.2.2.2.2<=r.length/\∃p,Kc N p f (r.drop x.2.2.2.2.2)/\a+1<=p/\dF h ((p-a)*300000) a f S x.1/\Sx N nr h x.1/\(x.1.c=0->VM N x.1 h a p)/\EG x.1 h x.2.2.2.1) (λx=>[I h,.sl x.2.2.2.2.1 (x.2.2.2.1.map oQ),I a,.p false 0 0,.p false 1 0,.sl false (r.map bF),I r.length,I x.2.2.2.2.2]) (λx=>[.row (ce (x.1.v N x.2.1 x.2.2.1)) 0,.row bR 0]) (λ_=>s) 2 (λ_ _=>⟨rfl,rfl,rfl⟩) (λx K k H=>?_) (S,J,ot,E,v,0) ⟨Z,a+1,by rw [b1];exact b2,O,dF.refl,hX,λ_ b6 g n=>?_,hE⟩;rotate_left;have:b6=a:=by omega
 subst this;exact ⟨λd=>O,λd=>O,λd=>O,λd=>O⟩;have ⟨T,J,ot,E,v,j⟩:=x;have ⟨g0,p,t,g2,m,c,z,y⟩:=K;simp only at g0 t m c z y;simp [uE];apply ST.dc<;>intro e
 ·simp;apply ST.dc<;>intro F;rotate_left;simp;exact M T J ot _ m (Zo t.le) c (λd=>absurd d F);rw [yG e] at t;have ⟨q0,q1,q2,q3,q4⟩:=t.inv;have c3:=bkk A C hf c7 _ (zW e);have L:=wn (j:=j) O;rw [q0] at c3;have q5:=q4.le;have bT:ni T ((1+sz N p)*300000):=by
   refine (m.ni (k:=(f-p)*300000) ?_).le O;rw [show (p-a)*300000+(f-p)*300000=(1+sz N a)*300000 by omega];exact X
  simp [zA e,q0];apply CP.o (hB p O q2 c3 T J ot E v a F c y bT);intro d8 i;have ⟨E',c9,T',d1,d2,i,g,n,P,R⟩:=i;subst i;simp [L];exact H (T',d1,d2,E',c9,j+1) _ _ _ Z Z rfl ⟨e,p+1+sz N p,q4,O,(m.trans (g.wide O O (zC _))).wide O O O,n,λD=>((z F).mono g O).app (R D),P⟩ W
 have:r.drop j=[]:=yT O;rw [this] at t;have:=t.eC;subst this;have d7:=(m.ni (by rw [show (p-a)*300000+0=(1+sz N a)*300000 by omega];exact X)).2.1;have d6:=(m.ni (by rw [show (p-a)*300000+0=(1+sz N a)*300000 by omega];exact X)).2.2.2.1;by_cases i:T.va=[];have c4:E=[]:=by have:=y.len;rw [i] at this;exact List.length_eq_zero_iff.1 (Zs this)
 subst c4;have ta:=λfl l s=>cG (fl:=fl) (l:=l) (s:=s) (o:=false) (b:=48) X5 O O [] ([]:List Vr) Z;have d3:∀fl l s,cq false 5 48 1 fl (.sl true []) (.sl false []) l s=some (.sl true [],l,s):=λfl l s=>by simp [cq,aO,cR,fits]
 simp [vl,i,d3];refine LP.ind (λx:Unit=>0) (λx=>True) (λx=>[.sl v [],I a,.p false 0 0,.p false 1 0,.sl true [],I 0,I 0]) (λx=>[.row ((ce (T.v N J ot)).set 7 N0) 0,.row bR 0]) (λ_=>s) 2 (λ_ _=>⟨rfl,rfl,rfl⟩) (λx K k H=>?_) () trivial;simp [qV,vn];have:=M T J ot _ m O c z;unfold SS.v at this;rw [i] at this;exact this;have ta:=λfl l s=>nX (fl:=fl) (l:=l) (s:=s) (o:=false) (b:=48) (X4 T.va) W O O (Zs i);simp at ta;simp [vl,ta];refine LP.ind (λx:List Vr×Nat=>E.length-x.2) (λx=>x.2<=E.length/\x.1.length=T.va.length) (λx=>[.sl v (E.map oQ),I a,.p false 0 0,.p false 1 0,.m false 2 0 0 T.va.length 5,I E.length,I x.2]) (λx=>[.row (ce (T.v N J ot)) 0,.row bR 0,.aY 0 5 (x.1.map s7)]) (λ_=>s) 3 (λ_ _=>⟨rfl,rfl,rfl⟩) (λx K k H=>?_) (T.va,0) ⟨Z,rfl⟩;have ⟨V,j⟩:=x;have ⟨v1,q⟩:=K;simp only at v1 q;simp [qV];apply ST.dc<;>intro e;have he:=y.ok _ (zW e);have L:=wn (j:=j) (Zo y.len);have n2:∀V':List Vr,V'.length=T.va.length->∀l',l'=[.row (ce (T.v N J ot)) 0,.row bR 0,.aY 0 5 (V'.map s7)]->k [.sl v (E.map oQ),I a,.p false 0 0,.p false 1 0,.m false 2 0 0 T.va.length 5,I E.length,I ((j:Int)+1)] l' s:=λV' d l' n=>H (V',j+1) _ _ _ Z (by rw [n];rfl) rfl ⟨e,d⟩ W;simp [zA e];apply ST.dc<;>intro g;have ⟨ix,c5⟩:=yE he.2.2.1;have c6:ix<V.length:=O;simp [zA e,c5,L,zA c6,show ix<T.va.length by omega];apply n2 (V.set ix {V[ix] with last:=T.pt.length}) (by simp [q]) _;simp [yJ];simp [L];exact n2 V q _ Z;have hz:=X5 V;simp [vn,hz,q];have c8:¬V=[]:=λd=>by rw [d] at q;simp at q;exact i (List.length_eq_zero_iff.1 q.symm)
 simp [c8];refine M {T with va:=V} J ot (((p-a)*300000)+0) (m.trans ⟨rfl,λ_ _=>rfl,rfl,rfl,rfl,rfl,λ_ _=>rfl,⟨0,O,Z⟩,⟨[],Z,Z⟩,⟨[],Z,Z⟩,by simp [q],Z⟩) O ⟨c.ml,c.tg,c.fl,c.FC,c.pJ,c.eq,c.slt⟩ (λD b6 g n=>z D b6 g n)
theorem Pn (M:WT N) (y:a<N.length) (c7:(nd N a).kind=7):zg N nr h a:=by
 intro S J ot E R c4 z hX hE hb;refine EK.o LY λs Q hQ=>?_;have hN:=M.mM;have d9:=(M.te.g a O y).1;have g6:=d9.le;have ga:=aZ y;have ⟨ks,f1,hf⟩:=M.jx a y;have D:ax N ks=[116,101]:=by have:=hf;unfold cu dB at this;simpa [c7] using this
 obtain ⟨k0,C,rfl⟩:∃k0 C,ks=[k0,C]:=by
  cases ks with
  | nil=>simp [ax] at D
  | cons x c9=>cases c9 with
   | nil=>simp [ax] at D
   | cons g4 c9=>cases c9 with
    | nil=>exact ⟨x,g4,rfl⟩
    | cons g7 c9=>simp [ax] at D
 obtain ⟨rfl,q1,q2,q3,q4⟩:=f1.inv;have ⟨e1,p1,p2,p3,p4⟩:=q4.inv;have q5:=p4.eC;have e6:=hL (by simp [ax] at D;exact D.1);have g5:=aR (by simp [ax] at D;exact D.2);obtain ⟨g,c6⟩:∃g,g=a+1+sz N a:=⟨_,rfl⟩;rw [<-e1] at p1 p2 p3 q5;clear p4;have ⟨b1,b2,b3,b4,b5,b6⟩:=hb;have ta:=λfl l s=>cG (fl:=fl) (l:=l) (s:=s) (o:=true) (b:=32) ptZ O O S.pt [⟨h,a,(nd N a).line,(nd N a).nH⟩] W;obtain ⟨X,F⟩:∃X:SS,X={S with pt:=S.pt++[⟨h,a,(nd N a).line,(nd N a).nH⟩]}:=⟨_,rfl⟩;obtain ⟨A,c5⟩:∃A:SS,A={X with ma:=X.ma.set a ⟨0,0,S.pt.length⟩}:=⟨_,rfl⟩;have m1:=λfl l k=>CP.eq (fl:=fl) (l:=l) (s:=s) (k:=k) (oB (N:=N) (om:=J) (ot:=ot) (S:=X) (by subst F;rw [hX.ml];exact y) (by subst F;rw [hX.ml];omega) 0 0 S.pt.length) rfl;have m2:=λfl l k=>CP.eq (fl:=fl) (l:=l) (s:=s) (k:=k) (Au O y d9 f1) rfl;have r2:dF h 1 a g S A:=by subst c5;subst F;exact ((dF.ai (w:=1) _ O).trans (dF.mark (w:=0) (a:=a) (b:=g) (i:=a) _ O O)).wide O O O
 have x2:Sx N nr h A:=by subst c5;subst F;exact (hX.ai _).mark _ _
 have c2:A.c=0:=by subst c5;subst F;exact z
 simp [F,SS.v] at ta m1;simp [-dG,MO,ga,ta,m1,m2,c7];have g3:(TV.ag [.sl false (N.map bG),.sl true ((S.ma.map ic).set a [I 0,I 0,I S.pt.length]),.sl ot (S.ty.map dM),.sl true (S.rc.map sR),.sl true (S.fd.map pN),.sl true (S.fn.map ju),.sl true (S.sl.map bt),.sl true (S.va.map s7),.sl true (S.pt.map vB++[[I h,I a,I (nd N a).line,I (nd N a).nH]]),.sl true (S.rn.map mA),I S.c,I S.l,I S.k])=A.v N true ot:=by subst c5;subst F;simp [yJ]
 have f4:∀(T:SS) (J ot:Bool) (w:Nat),dF h w a g S T->w<=(g-a)*300000->Sx N nr h T->(T.c=0->VM N T h a g)->Q (.tu [.sl R (E.map oQ),T.v N J ot]):=λT J ot w q v h3 h4=>hQ _ ⟨E,R,T,J,ot,rfl,by rw [<-c6];exact q.wide O O (by rw [show 1+sz N a=g-a by omega];exact v),h3,hE.mono q,by rw [<-c6];exact h4⟩;have d8:=r2.ni (k:=(1+sz N a)*300000-1) (by rw [show 1+((1+sz N a)*300000-1)=(1+sz N a)*300000 by omega];exact ⟨b1,b2,b3,b4,b5,b6⟩);have hh:=n118 (nr:=nr) M _ (a+1) (yF _) q2 (.inr e6) A true ot x2.ml c2 x2.tg (Zo d8.1) (Zo d8.2.2.2.2.2);simp at hh;rw [g3];apply CP.o hh;intro d6 m;have ⟨t,S3,f2,f3,m,hs,f5,g1,g2⟩:=m;subst m;simp [-dG];have r3:dF h ((1+sz N (a+1))*300000) (a+1) C A S3:=(dF.of_same hs (w:=(1+sz N (a+1))*300000) O).wide O O O;have x3:=x2.same hs f5;have d1:dF h (1+(1+sz N (a+1))*300000) a g S S3:=r2.trans (r3.wide O O O);let p:SS->Prop:=λT=>dF h (sz N a*300000+1) a g S T/\Sx N nr h T/\(T.c=0->1<=t/\t<T.ty.length/\VM N T h (a+1) g)
 have jf:∀T:SS,p T->∀c l k:Int,c≠0->p {T with c:=c,l:=l,k:=k}:=λT d c l k z=>⟨(d.1.trans (dF.fault (w:=0) c l k)).wide O O O,d.2.1.fault _ _ _,λd=>absurd d z⟩;have f8:∀(T:SS) (J ot:Bool),p T->T.c≠0->Q (.tu [.sl R (E.map oQ),T.v N J ot]):=λT J ot d z=>f4 T J ot _ d.1 O d.2.1 (λd=>absurd d z);refine eB (λl s'=>s=s'/\∃(T:SS) (J ot:Bool),l=[.row (ce (T.v N J ot)) 0,.row bR 0,.row (bG (nd N a)) 0]/\p T) ?_ ?_
 ·rintro _ _ ⟨rfl,T,J,ot,rfl,f⟩;simp;refine LP.ind (λx:SS×Bool×Bool×Nat=>E.length-x.2.2.2) (λx=>x.2.2.2<=E.length/\p x.1) (λx=>[I h,.sl R (E.map oQ),I c4,I a,.p false 0 0,.p false 1 0,.p false 2 0,I S.pt.length,I t,I E.length,I x.2.2.2]) (λx=>[.row (ce (x.1.v N x.2.1 x.2.2.1)) 0,.row bR 0,.row (bG (nd N a)) 0]) (λ_=>s) 3 (λ_ _=>⟨rfl,rfl,rfl⟩) (λx hx k hk=>?_) (T,J,ot,0) ⟨Z,f⟩;clear f T J ot;have ⟨T,J,ot,c8⟩:=x;have ⟨q,f⟩:=hx;simp only at q f;simp [-dG,uy];apply ST.dc<;>intro H;have wj:=wn (j:=c8) (Zo hE.len);have f9:∀(j:SS) (J ot:Bool),p j->∀l',l'=[.row (ce (j.v N J ot)) 0,.row bR 0,.row (bG (nd N a)) 0]->k [I h,.sl R (E.map oQ),I c4,I a,.p false 0 0,.p false 1 0,.p false 2 0,I S.pt.length,I t,I E.length,I ((c8:Int)+1)] l' s:=λj J ot d l' v=>hk (j,J,ot,c8+1) _ _ _ Z (by rw [v];rfl) rfl ⟨H,d⟩ W;refine eB (λl s'=>s=s'/\∃(T:SS) (J ot:Bool),l=[.row (ce (T.v N J ot)) 0,.row bR 0,.row (bG (nd N a)) 0]/\p T) ?_ ?_;rintro _ _ ⟨rfl,T,J,ot,rfl,f⟩;simp [wj];exact f9 T J ot f _ Z;intro j' c3;simp [zA H];have d2:∀(l:ae) (K:dL) (fl:Nat),(∀j:SS,p j->PR (K (j.v N J ot) l s))->CL prog 77 [T.v N J ot,I 7,I a] fl K l s:=λl K fl d=>CP.o (Hi (S:=T) 7 O y) (by
   rintro _ ⟨c,l,k,rfl,d4⟩;exact d _ (jf T f _ _ _ d4))
  have d7:=c3 _ _ ⟨rfl,T,J,ot,rfl,f⟩;apply ST.dc<;>intro d;simp [d,zA H];apply ST.dc<;>intro d;simp;refine d2 _ _ _ λj d3=>?_;simp;exact c3 _ _ ⟨rfl,j,J,ot,Z,d3⟩;exact d7;simp [d];exact d7
  ·have L:=jj f.2.1.fl;have gB:T.fn[h]'f.2.1.fl=aN T.fn h:=by rw [zA f.2.1.fl] at L;exact yD L
   have P:=f.2.1.fl;simp [-dG,Dl,gB,P];refine eB (λl s'=>s=s'/\∃(T:SS) (J ot:Bool),l=[.row (ce (T.v N J ot)) 0,.row bR 0,.row (bG (nd N a)) 0]/\p T) ?_ ?_
   ·clear L gB P f;rintro _ _ ⟨rfl,T,J,ot,rfl,f⟩;simp;apply ST.dc<;>intro d5;rotate_left;simp;exact f8 T J ot f d5;have ⟨i1,n,i3⟩:=f;have ⟨i3,i4,i5⟩:=i3 d5;have L:=jj n.fl;have gB:T.fn[h]'n.fl=aN T.fn h:=by rw [zA n.fl] at L;exact yD L
    have P:=n.fl;obtain ⟨e,r⟩:∃e:SS,e={T with ma:=T.ma.set a ⟨t,(aN T.fn h).ah,S.pt.length⟩}:=⟨_,rfl⟩;have bT:=i1.ni (k:=299999) (by rw [show sz N a*300000+1+299999=(1+sz N a)*300000 by omega];exact ⟨b1,b2,b3,b4,b5,b6⟩);have eT:=hE.mono i1;have hs:=n.pJ;have ho:=n.eq;have h0:=n.FC;have ⟨t1,t2,t3,t4,t5,t6⟩:=bT;simp [gB,P];refine CP.o (oB (N:=N) (om:=J) (ot:=ot) (S:=T) (at_:=a) (by rw [n.ml];exact y) (by rw [n.ml];omega) t (aN T.fn h).ah S.pt.length) ?_;intro d6 m;rw [<-r] at m;subst m;simp;have:=PL (N:=N) (om:=true) (ot:=ot) (S:=e) (f:=h) (by subst r;exact P) (by subst r;simp only;omega) (by subst r;exact hs) (by subst r;simp only;omega) E (Zo eT.len) R (nd N a).text t c4 e.pt.length;apply CP.o this;intro d6 m;subst m;have rm:dF h 0 a (a+1) T e:=by subst r;exact dF.mark _ O O
    have xm:Sx N nr h e:=by subst r;exact n.mark _ _
    have rs:dF h 1 a a e (eQ e h (nd N a).text t e.pt.length):=dF.IB xm.fl _ _ _ O;have em:=(eT.mono rm).IB xm (nd N a).text t e.pt.length c4;have f7:t<e.ty.length:=by subst r;exact i4
    have rr:=(i1.trans (rm.wide (a':=a) (b':=g) (w':=0) O O O)).trans (rs.wide (a':=a) (b':=g) (w':=1) O O O);simp;refine hQ _ ⟨_,true,eQ e h (nd N a).text t e.pt.length,true,ot,Z,by rw [<-c6];exact rr.wide O O O,xm.IB _ _ i3 f7,em,λ_=>?_⟩;rw [<-c6];intro i q v;by_cases hi:i=a;subst hi;have e1:(aF (eQ e h (nd N i).text t e.pt.length).ma i)=⟨t,(aN T.fn h).ah,S.pt.length⟩:=by subst r;simp;exact ig (by rw [n.ml];exact y) _
    have e2:(aN (eQ e h (nd N i).text t e.pt.length).fn h).ah=(aN T.fn h).ah+1:=by subst r;simp only [eQ];rw [fL P]
    have e3:(eQ e h (nd N i).text t e.pt.length).ty=e.ty:=rfl;refine ⟨λd=>O,λd=>O,λd=>?_,λd=>O⟩;rw [e1,e2,e3];simp only;omega;exact ((i5 i O v).mono rm O).mono rs O
   intro j' c3;have d2:∀(l:ae) (K:dL) (fl:Nat),(∀j:SS,p j->PR (K (j.v N J ot) l s))->CL prog 77 [T.v N J ot,I 13,I a] fl K l s:=λl K fl d=>CP.o (Hi (S:=T) 13 O y) (by rintro _ ⟨c,l,k,rfl,d4⟩;exact d _ (jf T f _ _ _ d4))
   apply ST.dc<;>intro d;simp;refine d2 _ _ _ λj d3=>?_;simp;exact c3 _ _ ⟨rfl,j,J,ot,Z,d3⟩;exact c3 _ _ ⟨rfl,T,J,ot,Z,f⟩
 intro c8 H;apply ST.dc<;>intro d;simp;have f6:1<=t/\t<S3.ty.length:=by rcases g1 d with ⟨d,_⟩|⟨_,q,v,_⟩;omega;exact ⟨q,v⟩
 refine CP.o (PF (om:=f2) (ot:=f3) M p2 O x3 E false (hE.mono d1) (d1.ni (k:=(1+sz N C)*300000) ?_)) ?_;refine ni.le ⟨b1,b2,b3,b4,b5,b6⟩ O;intro d6 m;have ⟨T,J,ot,m,q,v,h3⟩:=m;subst m;simp;refine H _ _ ⟨rfl,T,J,ot,by simp [c7],?_,v,λz=>⟨f6.1,?_,?_⟩⟩;exact (d1.trans (q.wide (a':=a) (b':=g) (w':=(1+sz N C)*300000) O O O)).wide O O O;have ⟨x,hx,_⟩:=q.ty;rw [hx];simp;omega;have v1:VM N T h (a+1) (a+1+1+sz N (a+1)):=vmT M q2 e6;exact v1.app (by rw [show g=C+1+sz N C by omega,show a+1+1+sz N (a+1)=C by omega];exact h3 z);exact H _ _ ⟨rfl,S3,f2,f3,by simp [c7],d1.wide O O O,x3,λz=>absurd z d⟩
theorem Eg (d:WT N):∀(n a:Nat),N.length-a<n->a<N.length->(7<=(nd N a).kind/\(nd N a).kind<=13->zg N nr h a)/\((nd N a).kind=6->zh N nr h a):=by
 intro n;induction n with
 | zero=>intro a i;omega
 | succ n g=>intro a i e;refine ⟨λf=>?_,λf=>n121 d e f λk j b c=>(g k O b).1 c⟩;by_cases l:(nd N a).kind=7;exact Pn d e l;exact Po d e O λk j b c=>(g k O b).2 c
theorem a0d (c:WT N) (d:a<N.length) (b:(nd N a).kind=6):zh N nr h a:=(Eg c _ a (yF _) d).2 b
structure FK (N:List Nd) (nn:Nat) (ps:aA) (t b:Nat):Prop where
 lt:nn<N.length
 kd:(nd N nn).kind=4
 ks:Kc N (nn+1) (nn+1+sz N nn) (ps++[t,b])
 pk:∀p∈ps,(nd N p).kind=5
 tk:(nd N t).kind=14\/(15<=(nd N t).kind/\(nd N t).kind<=20)
 bk:(nd N b).kind=6
structure RFt (f w a b:Nat) (S S':SS):Prop where
 len:S'.ma.length=S.ma.length
 ma:∀i,¬(a<=i/\i<b)->S'.ma[i]? =S.ma[i]?
 rc:S'.rc=S.rc
 fd:S'.fd=S.fd
 rn:S'.rn=S.rn
 Bn:S'.fn.length=S.fn.length
 fn:∀j,j≠f->S'.fn[j]? =S.fn[j]?
 ty:∃e,S'.ty=S.ty++e/\e.length<=w
 sl:∃e,S'.sl=S.sl++e/\e.length<=w
 va:S.va.length<=S'.va.length/\S'.va.length<=S.va.length+w
 pt:S.pt.length<=S'.pt.length/\S'.pt.length<=S.pt.length+w
def a1a (N:List Nd) (nr h a:Nat) (ps:aA) (b:Nat) (S:SS) (r:TV):Prop:=∃(D:SS) (J ot:Bool),r=D.v N J ot/\RFt h ((1+sz N a)*300000) b (b+1+sz N b) S D/\TG D.ty nr/\(∀x∈D.sl,1<=x/\x<D.ty.length)/\
 (aN D.fn h).node=(aN S.fn h).node/\(aN D.fn h).params=(aN S.fn h).params/\(aN D.fn h).result=(aN S.fn h).result/\
 (D.c=0->0<=(aN D.fn h).at_/\ps.length<=(aN D.fn h).ah/\(aN D.fn h).at_+(aN D.fn h).ah<=D.sl.length/\VM N D h b (b+1+sz N b))
theorem m78 (hW:WT N) (C:h<S.fn.length) {ps:aA} {b:Nat} (v:FK N c ps d b) (hn:(aN S.fn h).node=c) (z:(aN S.fn h).ah=0) (hm:S.ma.length=N.length) (hT:TG S.ty nr) (hc:S.c=0) (d3:∀x∈S.sl,1<=x/\x<S.ty.length) (hp:∀d5∈ps,1<=(aF S.ma d5).type/\(aF S.ma d5).type<S.ty.length) (hb:ni S ((1+sz N c)*300000)):EP prog 78 [S.v N J ot,I h] (a1a N nr h c ps b S):=by
 refine EK.o e78 λs Q hQ=>?_;have hN:=hW.mM;have c9:=v.lt;have c7:=(hW.te.g c O c9).1;have h6:=c7.le;have d8:=hb.2.2.2.2.1;have gA:=jj C;have gB:S.fn[h]=aN S.fn h:=by rw [zA C] at gA;exact yD gA
 have F:S.fn.map ju≠[]:=by intro g;simp at g;rw [g] at C;simp at C
 have c2:S.fn≠[]:=by simpa using F
 have K:=λfl l s=>nX (fl:=fl) (l:=l) (s:=s) (o:=false) (b:=72) (LI S.fn) W O O F;obtain ⟨F1,A⟩:∃F1:Fn,F1={aN S.fn h with at_:=S.sl.length}:=⟨_,rfl⟩;obtain ⟨D,t⟩:∃D:Fn,D={F1 with first:=S.pt.length}:=⟨_,rfl⟩;have e3:cR 0 8 ((S.fn.map ju).set h (ju D)):=by have:=Wt (S.fn.set h D);rwa [yJ] at this
 have m2:=λfl l d4=>CP.eq (fl:=fl) (l:=l) (s:=s) (k:=d4) (Au O c9 c7 v.ks) rfl;simp [A,t,hn,z] at K e3;have f1:∀j (g:j<ps.length),ps[j]<N.length:=λj g=>(v.ks.mem ps[j] Z).2.2;have e6:=(v.ks.mem b Z).2.2;have i3:ps.length<=sz N c:=by
  have:∀{a b l},Kc N a b l->a+l.length<=b:=λg=>by induction g <;> simp <;> omega
  have:=this v.ks;simp at this;omega
 obtain ⟨g9,h9⟩:b+1+sz N b=c+1+sz N c/\c+1+ps.length+1<=b:=by
  have:∀{a b:Nat} {l:aA} {x y:Nat},Kc N a b (l++[x,y])->y+1+sz N y=b/\a+l.length+1<=y:=by
   intro a b l x y;induction l generalizing a with
   | nil=>intro g;obtain ⟨-,-,-,-,g⟩:=g.inv;obtain ⟨rfl,-,-,-,g⟩:=g.inv;have:=g.eC;simp;omega
   | cons j3 l ih=>intro g;have:=ih g.inv.2.2.2.2;simp;omega
  exact this v.ks
 have h8:c<b:=by have:=(v.ks.mem b Z).1;omega
 simp [b78,K,c2,C,gB,hn,z,e3,m2,show i64.wrap (ps.length:Int)=ps.length from bW O O];obtain ⟨f,k⟩:∃f:SS,f={S with fn:=S.fn.set h D}:=⟨_,rfl⟩;have f8:(TO.row [.sl false (N.map bG),.sl J (S.ma.map ic),.sl ot (S.ty.map dM),.sl true (S.rc.map sR),.sl true (S.fd.map pN),.sl true ((S.fn.map ju).set h [.v (.string (aN S.fn h).name.val),I c,I (aN S.fn h).params,I (aN S.fn h).result,I S.sl.length,I 0,I S.pt.length,I (aN S.fn h).ji]),.sl true (S.sl.map bt),.sl true (S.va.map s7),.sl true (S.pt.map vB),.sl true (S.rn.map mA),I S.c,I S.l,I S.k] 0)= .row (ce (f.v N J ot)) 0:=by subst k;subst t;subst A;simp [yJ,hn,z]
 have E:aN f.fn h=D:=by subst k;exact fL C _
 have x1:Sx N nr h f:=⟨by subst k;exact hm,by subst k;exact hT,by subst k;simpa using C,by rw [E,t,A];simp,by rw [E,t,A];simp [z],by rw [E,t,A];subst k;simp [z],by subst k;exact d3⟩;rw [f8];have M:∀(T:SS) (j:Nat),dF h j 0 0 f T->j<=ps.length->ni T ((1+sz N b)*300000+1):=λT j g p=>by
  refine g.ni (ni.le (k:=(1+sz N c)*300000) ?_ ?_);subst k;have ⟨M,b2,b3,b4,b5,b6⟩:=hb;exact ⟨M,b2,b3,b4,by simpa using b5,b6⟩;have:(1+sz N b)+ps.length<=sz N c+1:=by omega
  omega
 have q2:(ps.map bF++[[I d],[I b]])[ps.length+1]? =some [I b]:=by rw [zH Z];simp
 have wp:=wn (j:=ps.length) O;have wq:(0:Int)<=(ps.length:Int)+1:=O;refine LP.ind (λx:SS×Bool×Bool×List En×Nat=>ps.length-x.2.2.2.2) (λx=>x.2.2.2.2<=ps.length/\dF h x.2.2.2.2 0 0 f x.1/\Sx N nr h x.1/\x.1.c=0/\EG x.1 h x.2.2.2.1/\(aN x.1.fn h).ah=x.2.2.2.2) (λx=>[I h,.p false 0 0,.p false 1 0,.sl false (ps.map bF++[[I d],[I b]]),I ps.length,.sl true (x.2.2.2.1.map oQ),I x.2.2.2.2]) (λx=>[.row (ce (x.1.v N x.2.1 x.2.2.1)) 0,.row bR 0,.dead]) (λ_=>s) 3 (λ_ _=>⟨rfl,rfl,rfl⟩) (λx hx d4 hk=>?_) (f,J,ot,[],0) ⟨Z,dF.refl,x1,by subst k;exact hc,⟨Z,Z⟩,by rw [E,t,A];simp [z]⟩;have ⟨T,J,ot,c3,j⟩:=x;have ⟨g1,e,n,g4,P,g6⟩:=hx;simp only at g1 e n g4 P g6;have wj:=wn (j:=j) O;simp [BM];apply ST.dc<;>intro p;have f2:=hp _ (zW p);have c8:=f1 j p;have q1:(ps.map bF++[[I d],[I b]])[j]? =some [I ps[j]]:=by rw [zD (Zs p)];simp [p]
 have gM:=kR (by rw [n.ml];exact c8);have eM:aF T.ma ps[j]=aF S.ma ps[j]:=kQ (by rw [e.ma _ O];subst k;rfl);have ⟨t1,t2,t3,t4,t5,t6⟩:=M T j e g1;have hs:=n.pJ;have ho:=n.eq;have z:=n.FC;have eT:=P.len;simp [q1,wp,wq,aZ c8,gM,eM];have:=PL (N:=N) (om:=J) (ot:=ot) n.fl O hs O c3 O true (nd N ps[j]).text (aF S.ma ps[j]).type b T.pt.length;apply CP.o this;intro f9 H;subst H;have rs:dF h 1 0 0 T (eQ T h (nd N ps[j]).text (aF S.ma ps[j]).type T.pt.length):=dF.IB n.fl _ _ _ O;have ⟨y,hy,_⟩:=e.ty;have i5:S.ty.length<=T.ty.length:=by rw [hy];subst k;simp
 simp [wj];refine hk (eQ T h (nd N ps[j]).text (aF S.ma ps[j]).type T.pt.length,J,ot,_,j+1) _ _ _ (by simp;rfl) Z rfl ⟨p,e.trans rs,n.IB _ _ f2.1 O,g4,P.IB n _ _ _ _,?_⟩ W;simp only [eQ];rw [fL n.fl];simp [g6];have d9:j=ps.length:=by omega
 subst d9;have bT:=M T _ e g1;simp [IL,wp,wq];apply CP.o (a0d hW e6 v.bk T J ot c3 true g4 n P (bT.le O));intro f9 H;have ⟨U,J,ot,H,m,r,h3⟩:=H;subst H;have gU:=jj r.fl;have gV:U.fn[h]'r.fl=aN U.fn h:=by rw [zA r.fl] at gU;exact yD gU
 have R:=r.fl;have F:U.fn.map ju≠[]:=by intro g;simp at g;rw [g] at R;simp at R
 have c2:U.fn≠[]:=by simpa using F
 have g8:U.fn.length<=1000000000:=by rw [m.Bn,e.Bn];subst k;simpa using d8
 have K:=λfl l s=>nX (fl:=fl) (l:=l) (s:=s) (o:=false) (b:=72) (LI U.fn) W O O F;have ⟨d1,h4,c5⟩:=e.ff;have ⟨d2,h5,c6⟩:=m.ff;have eF:(aN U.fn h).first=S.pt.length:=by rw [c6,c5,E,t]
 have i4:U.pt.length<=99000000000/\S.pt.length<=U.pt.length:=by
  have:=m.pt;have:=e.pt;have:=bT.2.2.2.1;have g7:f.pt.length=S.pt.length:=by subst k;rfl
  omega
 have wf:i64.wrap ((U.pt.length:Int)-S.pt.length)=(U.pt.length:Int)-S.pt.length:=bW O O;have e3:cR 0 8 ((U.fn.map ju).set h (ju {aN U.fn h with ji:=(U.pt.length:Int)-S.pt.length})):=by have:=Wt (U.fn.set h {aN U.fn h with ji:=(U.pt.length:Int)-S.pt.length});rwa [yJ] at this
 simp [eF] at K e3;simp [K,c2,R,gV,eF,wf,e3];obtain ⟨V,X⟩:∃V:SS,V={U with fn:=U.fn.set h {aN U.fn h with ji:=(U.pt.length:Int)-S.pt.length}}:=⟨_,rfl⟩;have q:aN V.fn h={aN U.fn h with ji:=(U.pt.length:Int)-S.pt.length}:=by subst X;exact fL R _
 have w:aN V.fn h={aN S.fn h with at_:=S.sl.length,ah:=(ps.length:Int)+d2,first:=S.pt.length,ji:=(U.pt.length:Int)-S.pt.length}:=by rw [q,c6];have:=g6;rw [c5,E] at this ⊢;rw [t,A] at this ⊢;simp only at this ⊢;rw [this]
 have ⟨y1,f3,i6⟩:=e.ty;have ⟨y3,f4,i7⟩:=m.ty;have ⟨z1,f5,i9⟩:=e.sl;have ⟨z3,f6,j1⟩:=m.sl;have v1:=e.va;have v2:=m.va;have v3:=e.pt;have v4:=m.pt;have d7:V.ma=U.ma/\V.ty=U.ty/\V.rc=U.rc/\V.fd=U.fd/\V.rn=U.rn/\V.sl=U.sl/\V.va=U.va/\V.pt=U.pt/\V.c=U.c/\V.fn.length=U.fn.length:=by subst X;exact ⟨rfl,rfl,rfl,rfl,rfl,rfl,rfl,rfl,rfl,Z⟩
 have ⟨V1,L,V3,V4,V5,V6,V7,V8,V9,c4⟩:=d7;have d6:f.ma=S.ma/\f.ty=S.ty/\f.rc=S.rc/\f.fd=S.fd/\f.rn=S.rn/\f.sl=S.sl/\f.va=S.va/\f.pt=S.pt/\f.fn.length=S.fn.length:=by subst k;exact ⟨rfl,rfl,rfl,rfl,rfl,rfl,rfl,rfl,Z⟩
 have ⟨W1,W2,W3,W4,W5,W6,W7,W8,W9⟩:=d6;have h7:ps.length+(1+sz N b)*300000<=(1+sz N c)*300000:=O;have f7:RFt h ((1+sz N c)*300000) b (b+1+sz N b) S V:=by
  refine ⟨by rw [V1,m.len,e.len,W1],λi hi=>by rw [V1,m.ma i hi,e.ma i O,W1],by rw [V3,m.rc,e.rc,W3],by rw [V4,m.fd,e.fd,W4],by rw [V5,m.rn,e.rn,W5],by rw [c4,m.Bn,e.Bn,W9],λj p=>?_,⟨y1++y3,by rw [L,f4,f3,W2,yW],W⟩,⟨z1++z3,by rw [V6,f6,f5,W6,yW],W⟩,?_,?_⟩;have w:V.fn[j]? =U.fn[j]? :=by subst X;simp only;rw [yO,zO O]
  have e2:f.fn[j]? =S.fn[j]? :=by subst k;simp only;rw [yO,zO O]
  rw [w,m.fn j p,e.fn j p,e2];rw [V7,<-W7];omega;rw [V8,<-W8];omega
 have j2:=r.eq;rw [q] at w;have d3:(aN U.fn h).ah=ps.length+d2:=by have:=yH Fn.ah w;exact this
 have:=hQ (V.v N J ot) ⟨V,J,ot,rfl,f7,by rw [L];exact r.tg,by rw [V6,L];exact r.slt,by rw [q,w],by rw [q,w],by rw [q,w],λhc=>⟨?_,?_,?_,λi i1 i2=>?_⟩⟩;subst X;simp only [SS.v,yJ,ju,eF] at this;exact this;rw [q];exact r.FC;rw [q];simp only;omega;rw [q,V6];simp only;omega;have:=h3 (by rw [<-V9];exact hc) i i1 i2;unfold MG at this ⊢;rw [V1,L,c4,q];exact this
end
section
variable {N:List Nd} {S D E T:SS} {om ot:Bool} {f fl nr w w' a h i J:Nat} {k':dL} {l' s:ae}
theorem Kc.all {l:aA} (h:Kc N b c l):∀k∈l,b<=k/\k<N.length/\0<=(nd N k).size/\k+1+sz N k<=c:=by
 induction h with
 | nil=>simp_all
 | cons g d e f i=>
  intro k a;rcases yL.1 a with rfl|a;exact ⟨zC _,d,e,f.le⟩
  grind
theorem Kc.sep {l:aA} (h:Kc N b c l):l.Pairwise λx y=>x+1+sz N x<=y:=by
 induction h with
 | nil=>exact .nil
 | cons f g i a e=>exact .cons (λy d=>(a.all y d).1) e
def Ge (N:List Nd) (b:aA) (a:Int):aA:=b.filter λk=>decide ((nd N k).kind=a)
theorem sA {a:aA} (h:Kc N b c a) (d:Int):(Ge N a d).Pairwise λx y=>x+1+sz N x<=y:=h.sep.filter _
theorem sB {a:aA} (h:Kc N b c a):∀k∈Ge N a j,k<N.length/\k+1+sz N k<=c/\b<=k/\(nd N k).kind=j:=λk e=>by
 have ⟨d,f⟩:=List.mem_filter.1 e;have ⟨a1,a2,a3,a4⟩:=h.all k d
 simp_all
theorem nZ {K:aA} (h:K.Pairwise λx y=>x+1+sz N x<=y) {i:Nat} (a:i<b) (c:b<K.length):K[i]+1+sz N K[i]<=K[b]:=List.pairwise_iff_getElem.1 h i b O c a
def pos (N:List Nd) (K:aA) (i:Nat):Nat:=K.getD i N.length
theorem pos_at {K:aA} (h:i<K.length):pos N K i=K[i]:=by simp [pos,zG,h]
theorem iC {K:aA} (h:K.length<=i):pos N K i=N.length:=by simp [pos,zG,h]
theorem lL {K:aA} (h:K.Pairwise λx y=>x+1+sz N x<=y) (c:∀k∈K,k+1+sz N k<=N.length) (b:i<K.length):K[i]+1+sz N K[i]<=pos N K (i+1):=by by_cases a:i+1<K.length;rw [pos_at a];exact nZ h O a;rw [iC O];simp_all
theorem lK {K:aA} (h:K.Pairwise λx y=>x+1+sz N x<=y) (a:∀k∈K,k+1+sz N k<=N.length):∀i,i<=K.length->i<=pos N K i:=by
 intro i;induction i with
 | zero=>intro _;omega
 | succ i b=>intro c;have:=lL h a (i:=i) O;have:=b O;rw [pos_at O] at this;omega
structure IV (N:List Nd) (nr p:Nat) (T:SS):Prop where
 ml:T.ma.length=N.length
 tg:TG T.ty nr
 tl:T.ty.length<=106+p
 rl:T.rn.length<=N.length
 rc:∀r∈T.rc,0<=r.fr/\0<=r.count/\r.fr+r.count<=T.fd.length
 fd:T.c=0->∀x∈T.fd,1<=x.type/\x.type<T.ty.length
 fl:T.fd.length<=p
 no:T.fn=[]/\T.sl=[]/\T.va=[]/\T.pt=[]
theorem IV.fault (h:IV N nr J T) {b:Int} (a:j≠0):IV N nr J {T with c:=j,l:=k,k:=b}:=⟨h.ml,h.tg,h.tl,h.rl,h.rc,λh=>absurd h a,h.fl,h.no⟩
theorem IV.mono {q:Nat} (h:IV N nr J T) (a:J<=q):IV N nr q T:=⟨h.ml,h.tg,by have:=h.tl;omega,h.rl,h.rc,h.fd,by have:=h.fl;omega,h.no⟩
structure RG (N:List Nd) (S:SS):Prop where
 ml:S.ma.length=N.length
 tg:TG S.ty S.rc.length
 tl:S.ty.length<=106+N.length
 rl:S.rn.length<=N.length
 rc:∀r∈S.rc,0<=r.fr/\0<=r.count/\r.fr+r.count<=S.fd.length
 fd:∀x∈S.fd,1<=x.type/\x.type<S.ty.length
 fx:S.fd.length<=N.length
def a1c (N:List Nd) (r:TV):Prop:=∃(D:SS) (om ot:Bool),r=D.v N om ot/\D.fn=[]/\D.sl=[]/\D.va=[]/\D.pt=[]/\(D.c=0->RG N D)
theorem GM (h:bK j=102):j=3:=by unfold bK at h;omega
theorem so (d:WT N) (i:J<N.length) (f:(nd N J).kind=3\/(nd N J).kind=5):J+1<N.length/\(15<=(nd N (J+1)).kind/\(nd N (J+1)).kind<=20)/\J+1+1+sz N (J+1)=J+1+sz N J:=by
 have ⟨b,g,e⟩:=d.jx J i;have a:ax N b=[116]:=by have:=e;unfold cu dB at this;rcases f with h|h <;> simpa [h] using this
 obtain ⟨c,rfl⟩:∃c,b=[c]:=by
  cases b with
  | nil=>simp [ax] at a
  | cons x r=>cases r with
   | nil=>grind
   | cons y r=>simp [ax] at a
 obtain ⟨rfl,l,j,m,k⟩:=g.inv;exact ⟨j,hL (by simpa [ax] using a),k.eC⟩
theorem m73 (C:WT N) (hS:S.ma.length=N.length) (h0:S.ty=[]/\S.rc=[]/\S.fd=[]/\S.fn=[]/\S.sl=[]/\S.va=[]/\S.pt=[]/\S.rn=[]) (R:S.c=0):EP prog 73 [S.v N om ot] (a1c N):=by
 refine EK.o e73 λs Q hQ=>?_;have hN:=C.mM;have d6:=C.len;have e1:=(C.te.g 0 O d6).1;have i9:=e1.le;have ⟨ks,c6,hf⟩:=C.jx 0 d6;simp at c6;have m1:=λfl l k=>CP.eq (fl:=fl) (l:=l) (s:=s) (k:=k) (PV O d6 e1 c6 2) rfl;obtain ⟨K,hK⟩:∃K,K=Ge N ks 2:=⟨_,rfl⟩;have ka:∀k∈K,k<N.length/\k+1+sz N k<=1+sz N 0/\1<=k/\(nd N k).kind=2:=by rw [hK];exact sB c6
 have f4:K.Pairwise λx d8=>x+1+sz N x<=d8:=by rw [hK];exact sA c6 2
 have kn:∀k∈K,k+1+sz N k<=N.length:=λk r=>by grind
 have g5:K.length<=N.length:=by have:=lK f4 kn K.length (zC _);rwa [iC (zC _)] at this
 have e:(ks.filter λk=>decide ((nd N k).kind=2))=K:=hK.symm;rw [e] at m1;have f5:∀(fl:Nat) (l:ae) (b1:aA) (b:∀k∈b1,k<N.length) (hl:b1.length<=N.length) (j:Nat) (h:aU) (w:dL),(∀x:Bool,PR (w (B x) l s))->CL prog 115 [.sl false (N.map bG),.sl false ((b1.map bF).take j),.v (.string h)] fl w l s:=λfl l b1 b hl j h w r=>by rw [<-List.map_take];exact CP.o (PO O (b1.take j) (λk r=>b k (yM r)) W h) (by simp_all)
 simp [b73,m1];refine LP.ind (λx:SS×Bool×Nat=>K.length-x.2.2) (λx=>x.2.2<=K.length/\x.1={S with ma:=x.1.ma,rn:=x.1.rn,c:=x.1.c,l:=x.1.l,k:=x.1.k}/\x.1.ma.length=N.length/\x.1.rn.length=x.2.2) (λx=>[.p false 0 0,.p false 1 0,.sl false (N.map bG),.sl false (K.map bF),I K.length,I x.2.2]) (λx=>[.row (ce (x.1.v N x.2.1 ot)) 0,.row bR 0]) (λ_=>s) 2 (λ_ _=>⟨rfl,rfl,rfl⟩) (λx g k r=>?_) (S,om,0) ⟨Z,rfl,hS,by simp_all⟩;have ⟨T,om,j⟩:=x;have ⟨g1,c,v,g4⟩:=g;simp only at g1 c v g4;simp [-dG,BP];apply ST.dc<;>intro p;have wj:=wn (j:=j) O;have d5:=ka _ (zW p);let t:SS->Prop:=λT=>T={S with ma:=T.ma,rn:=T.rn,c:=T.c,l:=T.l,k:=T.k}/\T.ma.length=N.length/\T.rn.length=j
 have jf:∀{T:SS},t T->∀c4 l k:Int,t {T with c:=c4,l:=l,k:=k}:=λb c4 l k=>⟨by rw [b.1],b.2.1,b.2.2⟩;have b2:∀(T:SS) (om:Bool) (e:Int) (l:ae) (w:dL) (fl:Nat),e≠0->t T->(∀m:SS,t m->PR (w (m.v N om ot) l s))->CL prog 77 [T.v N om ot,I e,I K[j]] fl w l s:=λT om e l w fl he n b=>CP.o (Hi e he d5.1) (by rintro _ ⟨c4,l,k,rfl,b6⟩;exact b _ (jf n _ _ _))
 have h9:∀(T:SS) (om:Bool),T={S with ma:=T.ma,rn:=T.rn,c:=T.c,l:=T.l,k:=T.k}->T.ma.length=N.length->T.rn.length=j+1->∀l',l'=[.row (ce (T.v N om ot)) 0,.row bR 0]->k [.p false 0 0,.p false 1 0,.sl false (N.map bG),.sl false (K.map bF),I K.length,I ((j:Int)+1)] l' s:=λT om L A M l' h4=>r (T,om,j+1) _ _ _ Z (by rw [h4];rfl) rfl ⟨p,L,A,M⟩ W;have E:(K.map bF)[j]? =some [I K[j]]:=by simp [p]
 refine eB (λl y=>s=y/\∃(T:SS) (om:Bool),l=[.row (ce (T.v N om ot)) 0,.row bR 0]/\T={S with ma:=T.ma,rn:=T.rn,c:=T.c,l:=T.l,k:=T.k}/\T.ma.length=N.length/\T.rn.length=j+1) ?_ ?_;rintro _ _ ⟨rfl,T,om,rfl,i1,i2,i3⟩;simp [wj];exact h9 T om i1 i2 i3 _ Z;intro j1 L;simp [-dG];refine eB (λl y=>s=y/\∃(T:SS) (om:Bool),l=[.row (ce (T.v N om ot)) 0,.row bR 0]/\t T) ?_ ?_;clear c v g4;rintro _ _ ⟨rfl,T,om,rfl,n⟩;simp [-dG,xy (xZ p),E,aZ d5.1];refine f5 _ _ K (λk r=>(ka k r).1) g5 j _ _ λx=>?_;simp [-dG];refine eB (λl y=>s=y/\∃(T:SS) (om:Bool),l=[.row (ce (T.v N om ot)) 0,.row bR 0]/\t T) ?_ ?_;clear n;rintro _ _ ⟨rfl,T,om,rfl,d2,c5,d⟩;have F:=λfl l s=>cG (fl:=fl) (l:=l) (s:=s) (o:=true) (b:=16) Yn O O T.rn [(nd N K[j]).text.1] W;simp at F;simp [E];refine CP.o (oB O (by rw [c5];omega) 0 j 0) ?_;intro f8 X;subst X;simp [E,aZ d5.1,F];refine L _ _ ⟨rfl,{T with ma:=T.ma.set K[j] ⟨0,j,0⟩,rn:=T.rn++[(nd N K[j]).text.1]},true,Z,?_,by simp [c5],by simp [d]⟩;rw [d2];intro j3 M;apply ST.mk<;>intro b;simp [E];refine b2 _ _ _ _ _ _ O n λm P=>?_;simp;exact M _ _ ⟨rfl,m,om,Z,P⟩;exact M _ _ ⟨rfl,T,om,rfl,n⟩;intro j2 A;apply ST.dc<;>intro b;simp [E];refine b2 _ _ _ _ _ _ O ⟨c,v,g4⟩ λm P=>?_;simp;exact A _ _ ⟨rfl,m,om,Z,P⟩;exact A _ _ ⟨rfl,T,om,rfl,c,v,g4⟩
 ·have d4:j=K.length:=by omega
  subst d4;simp [IT];apply CP.o (a0e K.length O);rintro _ ⟨T2,rfl,d9,g6⟩;simp;have c8:IV N K.length (pos N K 0) {T with ty:=T2}:=by rw [c];have ⟨z1,z2,z3,z4,z5,z6,z7,z8⟩:=h0;exact ⟨v,d9,by simp only;omega,by simp only;omega,by simp [z2],by simp [z3],by simp [z3],z4,z5,z6,z7⟩
  have c9:({T with ty:=T2}:SS).rc.length=0:=by rw [c];simp [h0.2.1]
  have h8:∀(T:SS) (om ot:Bool),IV N K.length (pos N K 0) T->T.rc.length=0->LP prog s.length (RK Q s) [1,2,3,4,77,78] (λk=>a6 (xh k)) [.p false 0 0,.p false 1 0,.sl false (N.map bG),.sl false (K.map bF),I K.length,I 0] [.row (ce (T.v N om ot)) 0,.row bR 0] s:=λT om ot c8 c9=>by
   clear g1 c v g4 d9 g6 p r;refine LP.ind (λx:SS×Bool×Bool×Nat=>K.length-x.2.2.2) (λx=>x.2.2.2<=K.length/\IV N K.length (pos N K x.2.2.2) x.1/\x.1.rc.length=x.2.2.2) (λx=>[.p false 0 0,.p false 1 0,.sl false (N.map bG),.sl false (K.map bF),I K.length,I x.2.2.2]) (λx=>[.row (ce (x.1.v N x.2.1 x.2.2.1)) 0,.row bR 0]) (λ_=>s) 2 (λ_ _=>⟨rfl,rfl,rfl⟩) (λx g k r=>?_) (T,om,ot,0) ⟨Z,c8,c9⟩;clear c8 c9 T om ot;have ⟨T,om,ot,i⟩:=x;have ⟨g1,c,v⟩:=g;simp only at g1 c v;have f6:∀(T:SS) (om ot:Bool) (J:Nat),IV N K.length J T->(T.c=0->RG N T)->Q (T.v N om ot):=λT om ot J b h'=>hQ _ ⟨T,om,ot,rfl,b.no.1,b.no.2.1,b.no.2.2.1,b.no.2.2.2,h'⟩;simp [xh];apply ST.dc<;>intro D;rotate_left;have g8:i=K.length:=by omega
   subst g8;simp [IX];rw [iC (zC _)] at c;exact f6 T om ot _ c λR=>⟨c.ml,by rw [v];exact c.tg,c.tl,c.rl,c.rc,c.fd R,c.fl⟩;have c3:=ka _ (zW D);have wi:=wn (j:=i) O;have E:(K.map bF)[i]? =some [I K[i]]:=by simp [D]
   have ⟨q,c7,d3⟩:=C.jx K[i] c3.1;have g9:∀f7∈q,(nd N f7).kind=3:=λf7 hq=>by have hm:=dw (N:=N) hq;unfold cu dB at d3;simp [c3.2.2.2] at d3;exact GM (d3 _ hm)
   have h6:q.length<=N.length:=by
    have:∀{a h l},Kc N a h l->a+l.length<=h:=λb=>by induction b <;> simp <;> omega
    have:=this c7;have:=kn _ (zW D);omega
   have h5:=c7.all;have m2:=λfl l k=>CP.eq (fl:=fl) (l:=l) (s:=s) (k:=k) (Au O c3.1 ((C.te.g K[i] O c3.1).1) c7) rfl;have j4:=lL f4 kn D;simp [E,m2];refine LP.ind (λx:SS×Bool×Bool×Nat=>q.length-x.2.2.2) (λx=>x.2.2.2<=q.length/\x.1.rc.length=i/\x.1.fd.length=T.fd.length+x.2.2.2/\∃J,Kc N J (K[i]+1+sz N K[i]) (q.drop x.2.2.2)/\K[i]+1<=J/\IV N K.length J x.1) (λx=>[.p false 0 0,.p false 1 0,.sl false (N.map bG),.sl false (K.map bF),I i,.sl false (q.map bF),I T.fd.length,I K.length,I i,I q.length,I x.2.2.2]) (λx=>[.row (ce (x.1.v N x.2.1 x.2.2.1)) 0,.row bR 0]) (λ_=>s) 2 (λ_ _=>⟨rfl,rfl,rfl⟩) (λx g k2 e2=>?_) (T,om,ot,0) ⟨Z,v,Z,K[i]+1,c7,O,c.mono (by rw [pos_at D];omega)⟩;have f9:(0:Int)<=T.fd.length:=O;obtain ⟨H,g7⟩:∃H,H=T.fd.length:=⟨_,rfl⟩;rw [<-g7] at g e2 ⊢;have i7:H<=N.length:=by have:=c.fl;rw [pos_at D] at this;omega
   clear c v f9;have ⟨T,om,ot,j⟩:=x;have ⟨i0,i1,i2,J,i3,i4,i5⟩:=g;simp only at i0 i1 i2 i3 i5;simp [-dG,BQ];apply ST.dc<;>intro p;rotate_left;have:q.drop j=[]:=yT O;rw [this] at i3;have:=i3.eC;subst this;have d4:j=q.length:=O;subst d4;have F:=λfl l s=>cG (fl:=fl) (l:=l) (s:=s) (o:=true) (b:=32) rcZ O O T.rc [⟨(nd N K[i]).text,H,q.length⟩] W;simp at F;simp [IU,IW,E,aZ c3.1,F,wi];refine r ({T with rc:=T.rc++[⟨(nd N K[i]).text,H,q.length⟩]},om,ot,i+1) _ _ _ Z Z rfl ⟨D,?_,by simp [i1]⟩ W;have:=i5.mono (q:=pos N K (i+1)) O;refine ⟨this.ml,this.tg,this.tl,this.rl,λd7 z=>?_,this.fd,this.fl,this.no⟩;rcases xC.1 z with z|z;exact this.rc d7 z;simp at z;subst z;simp only;omega;rw [yG p] at i3;have ⟨q0,q1,q2,q3,q4⟩:=i3.inv;have e6:=g9 _ (zW p);rw [q0] at e6;have ⟨f1,f2,f3⟩:=so C q2 (.inl e6);have q5:=q4.le;have wj:=wn (j:=j) O;have wp:=wn (j:=J) O;have qq:(q.map bF)[j]? =some [I J]:=by simp [p,q0]
   let t:SS->Prop:=λT=>T.rc.length=i/\T.fd.length=H+j/\IV N K.length J T
   have b2:∀(T:SS) (om ot:Bool) (e:Int) (l:ae) (w:dL) (fl:Nat),e≠0->t T->(∀m:SS,t m->PR (w (m.v N om ot) l s))->CL prog 77 [T.v N om ot,I e,I J] fl w l s:=λT om ot e l w fl he n b=>CP.o (Hi (S:=T) e he q2) (by rintro _ ⟨c4,l,k,rfl,b6⟩;exact b _ ⟨n.1,n.2.1,n.2.2.fault b6⟩)
   refine eB (λl y=>s=y/\∃(T:SS) (om ot:Bool),l.take 2=[.row (ce (T.v N om ot)) 0,.row bR 0]/\T.rc.length=i/\T.fd.length=H+(j+1)/\IV N K.length (J+1+sz N J) T) ?_ ?_;rintro l _ ⟨rfl,T,om,ot,hl,j1,j2,j3⟩;obtain ⟨l2,rfl⟩:∃l2,l= .row (ce (T.v N om ot)) 0:: .row bR 0::l2:=⟨l.drop 2,(wB 2 l).symm.trans (by rw [hl];rfl)⟩;simp [wj];exact e2 (T,om,ot,j+1) _ _ _ Z Z rfl ⟨p,j1,j2,J+1+sz N J,q4,O,j3⟩ W;intro j1 L;simp [-dG];refine eB (λl y=>s=y/\∃(T:SS) (om ot:Bool),l=[.row (ce (T.v N om ot)) 0,.row bR 0]/\t T) ?_ ?_
   ·clear i1 i2 i5;rintro _ _ ⟨rfl,T,om,ot,rfl,n⟩;simp [-dG,xy (xZ p),qq,aZ q2];refine f5 _ _ q (λk r=>(h5 k r).2.1) h6 j _ _ λx=>?_;simp [-dG];refine eB (λl y=>s=y/\∃(T:SS) (om ot:Bool),l=[.row (ce (T.v N om ot)) 0,.row bR 0]/\t T) ?_ ?_
    ·clear n;rintro _ _ ⟨rfl,T,om,ot,rfl,d2,c5,d⟩;simp;apply ST.dc<;>intro R;rotate_left;simp;exact f6 T om ot _ d (λb=>absurd b R);have hh:=n118 (nr:=K.length) C _ (J+1) (yF _) f1 (.inr f2) T om ot d.ml R d.tg (Zo d.tl) (Zo d.rl);simp at hh;simp [qq,wp];apply CP.o hh;intro f8 X;have ⟨d1,U,om,ot,X,f,hT,c1,c2⟩:=X;subst X;simp [qq];refine CP.o (oB (N:=N) (om:=om) (ot:=ot) (S:=U) (at_:=J) (by rw [f.len,d.ml];exact q2) (by rw [f.len,d.ml];omega) d1 0 0) ?_;intro f8 X;subst X;have ⟨d8,h7,j5⟩:=f.ty;have i6:U.fd.length<=N.length:=by rw [f.fd];have:=d.fl;omega
     have F:=λfl l s=>cG (fl:=fl) (l:=l) (s:=s) (o:=true) (b:=24) fdZ O O U.fd [⟨(nd N J).text,d1⟩] W;simp at F;simp [qq,aZ q2,F];refine L _ _ ⟨rfl,{U with ma:=U.ma.set J ⟨d1,0,0⟩,fd:=U.fd++[⟨(nd N J).text,d1⟩]},true,ot,Z,by simp [f.rc,d2],by simp [f.fd,c5];omega,?_⟩;have j6:U.ty.length=T.ty.length+d8.length:=by rw [h7];simp
     refine ⟨by simp [f.len,d.ml],hT,by have:=d.tl;simp only;omega,by simp only;rw [f.rn];exact d.rl,λd7 z=>?_,λb6 x g=>?_,by simp [f.fd];have:=d.fl;omega,by simp only;rw [f.fn,f.sl,f.va,f.pt];exact d.no⟩;simp only at z;rw [f.rc] at z;have:=d.rc d7 z;simp only [xB,List.length_singleton,f.fd];omega;simp only at g b6 ⊢;rcases xC.1 g with g|g;rw [f.fd] at g;have:=d.fd R x g;omega;simp at g;subst g;rcases c1 b6 with ⟨b,_⟩|⟨_,L,A,_⟩;omega;exact ⟨L,A⟩
    intro j3 M;apply ST.mk<;>intro b;simp [qq];refine b2 _ _ _ _ _ _ _ O n λm P=>?_;simp;exact M _ _ ⟨rfl,m,om,ot,Z,P⟩;exact M _ _ ⟨rfl,T,om,ot,rfl,n⟩
   intro j2 A;apply ST.dc<;>intro b;simp [qq];refine b2 _ _ _ _ _ _ _ O ⟨i1,i2,i5⟩ λm P=>?_;simp;exact A _ _ ⟨rfl,m,om,ot,Z,P⟩;exact A _ _ ⟨rfl,T,om,ot,rfl,i1,i2,i5⟩
  exact h8 _ om false c8 c9
end
section
variable {N:List Nd} {S D E T:SS} {J ot:Bool} {f fl nr w w' a b h p:Nat} {k':dL} {l' s:ae}
def HF (N:List Nd) (S:SS) (a h:Nat):Prop:=∃(ps:aA) (t b:Nat),FK N a ps t b/\(aN S.fn h).node=a/\(aN S.fn h).params=ps.length/\0<=(aN S.fn h).result/\(aN S.fn h).result<S.ty.length/\(aN S.fn h).ah=0/\∀p∈ps,1<=(aF S.ma p).type/\(aF S.ma p).type<S.ty.length
theorem HF.mono {h:Nat} (f:HF N S c h) (a:aN D.fn h=aN S.fn h) (n:∀p,c<p->p<c+1+sz N c->aF D.ma p=aF S.ma p) (r:S.ty.length<=D.ty.length):HF N D c h:=by obtain ⟨ps,t,b,d,g,i,j,o,l,m⟩:=f;refine ⟨ps,t,b,d,by rw [a,g],by rw [a,i],by rw [a];exact j,by rw [a];omega,by rw [a,l],λp e=>?_⟩;obtain ⟨a1,a2,a3,a4⟩:=d.ks.all p (by simp [e]);rw [n p O O];have:=m p e;omega
theorem Kk (h:bK i=48):i=14:=by
 unfold bK at h;repeat' split at h
 all_goals omega
theorem GK (h:bK i=112):i=5:=by
 unfold bK at h;repeat' split at h
 all_goals omega
theorem jb (h:bK i=98):i=6:=by
 unfold bK at h;repeat' split at h
 all_goals omega
theorem FK.of (m:WT N) (h:c<N.length) (j:(nd N c).kind=4):∃(ps:aA) (t b:Nat),FK N c ps t b:=by
 obtain ⟨g,n,f⟩:=m.jx c h;unfold cu dB at f;simp [j] at f;obtain ⟨P,t,d,q,k,e⟩:=f;obtain ⟨x,r,l,rfl⟩:∃x r,x++r=g/\ax N x=P:=by refine ⟨g.take P.length,g.drop P.length,wB _ _,?_⟩;unfold ax at d ⊢;rw [List.map_take,d];simp
 subst l;have a:ax N r=[t,98]:=by unfold ax at d ⊢;rw [xR] at d;exact List.append_cancel_left d
 obtain ⟨i,v,rfl⟩:∃i v,r=[i,v]:=by
  cases r with
  | nil=>simp [ax] at a
  | cons x r=>cases r with
   | nil=>simp [ax] at a
   | cons y r=>cases r with
    | nil=>exact ⟨x,y,rfl⟩
    | cons z r=>simp [ax] at a
 simp [ax] at a;refine ⟨x,i,v,h,j,n,λp o=>GK (k _ (dw o)),?_,jb a.2⟩;rcases e with e|e;exact .inr (hL (by rw [a.1,e]));exact .inl (Kk (by rw [a.1,e]))
structure IH (N:List Nd) (K:aA) (i p:Nat) (T:SS):Prop where
 ml:T.ma.length=N.length
 tg:TG T.ty T.rc.length
 tl:T.ty.length<=106+N.length+p
 rl:T.rn.length<=N.length
 rc:∀r∈T.rc,0<=r.fr/\0<=r.count/\r.fr+r.count<=T.fd.length
 fd:∀x∈T.fd,1<=x.type/\x.type<T.ty.length
 no:T.sl=[]/\T.va=[]/\T.pt=[]
 fl:T.fn.length=i
 fh:T.c=0->∀j,(h:j<K.length)->j<i->HF N T K[j] j
 fx:T.fd.length<=N.length
theorem IH.fault {K:aA} (a:IH N K h p T) (b:i≠0):IH N K h p {T with c:=i,l:=j,k:=k}:=⟨a.ml,a.tg,a.tl,a.rl,a.rc,a.fd,a.no,a.fl,λa=>absurd a b,a.fx⟩
theorem IH.mono {K:aA} {q:Nat} (a:IH N K h p T) (b:p<=q):IH N K h q T:=⟨a.ml,a.tg,by have:=a.tl;omega,a.rl,a.rc,a.fd,a.no,a.fl,a.fh,a.fx⟩
structure HG (N:List Nd) (K:aA) (S:SS):Prop where
 ml:S.ma.length=N.length
 tg:TG S.ty S.rc.length
 tl:S.ty.length<=106+N.length+N.length
 rl:S.rn.length<=N.length
 rc:∀r∈S.rc,0<=r.fr/\0<=r.count/\r.fr+r.count<=S.fd.length
 fd:∀x∈S.fd,1<=x.type/\x.type<S.ty.length
 no:S.sl=[]/\S.va=[]/\S.pt=[]
 fl:S.fn.length=K.length
 fh:∀j,(h:j<K.length)->HF N S K[j] j
 fx:S.fd.length<=N.length
def a1b (N:List Nd) (r:TV):Prop:=∃(D:SS) (J ot:Bool) (K:aA),r=D.v N J ot/\D.fn.length<=N.length/\(K.Pairwise λx y=>x+1+sz N x<=y)/\(∀k∈K,k+1+sz N k<=N.length)/\(D.c=0->HG N K D)
theorem cW {M:List Mk} {h:Nat} (a:h≠c) (m:Mk):aF (M.set h m) c=aF M c:=by simp only [aF,zG,yO,zO a]
theorem IH.typed {K:aA} {U:SS} {p':Nat} (b:IH N K h p T) (k:T.c=0) (a:Bd T U c (c+1+sz N c)) (i:TG U.ty T.rc.length) (l:h<K.length) (sp:K.Pairwise λx y=>x+1+sz N x<=y) (x:Mk) (n:K[h]<=d) (q:K[h]<=c) (o:p+(1+sz N c)<=p'):IH N K h p' {U with ma:=U.ma.set d x}:=by
 obtain ⟨y,m,r⟩:=a.ty;have s:U.ty.length=T.ty.length+y.length:=by rw [m];simp
 refine ⟨by simp [a.len,b.ml],by simp only;rw [a.rc];exact i,by have:=b.tl;simp only;omega,by simp only;rw [a.rn];exact b.rl,by simp only;rw [a.rc,a.fd];exact b.rc,λz e=>?_,by simp only;rw [a.sl,a.va,a.pt];exact b.no,by simp only;rw [a.fn];exact b.fl,λ_ j g f=>?_,by simp only;rw [a.fd];exact b.fx⟩;simp only at e ⊢;rw [a.fd] at e;have:=b.fd z e;omega;refine (b.fh k j g f).mono (by simp only;rw [a.fn]) (λz t z2=>?_) (by simp only;omega);have:=nZ sp f l;simp only;rw [cW O,kQ (a.ma z O)]
theorem m75 (E:WT N) (hS:RG N S) (h0:S.fn=[]/\S.sl=[]/\S.va=[]/\S.pt=[]) (i:S.c=0):EP prog 75 [S.v N J ot] (a1b N):=by
 refine EK.o e75 λs Q hQ=>?_;have hN:=E.mM;have c5:=E.len;have d2:=(E.te.g 0 O c5).1;have h8:=d2.le;have ⟨ks,c4,hf⟩:=E.jx 0 c5;simp at c4;have m1:=λfl l k=>CP.eq (fl:=fl) (l:=l) (s:=s) (k:=k) (PV O c5 d2 c4 4) rfl;obtain ⟨K,hK⟩:∃K,K=Ge N ks 4:=⟨_,rfl⟩;have ka:∀k∈K,k<N.length/\k+1+sz N k<=1+sz N 0/\1<=k/\(nd N k).kind=4:=by rw [hK];exact sB c4
 have b6:K.Pairwise λx b1=>x+1+sz N x<=b1:=by rw [hK];exact sA c4 4
 have kn:∀k∈K,k+1+sz N k<=N.length:=λk y=>by have:=(ka k y).2.1;omega
 have d1:K.length<=N.length:=by have:=lK b6 kn K.length (zC _);rwa [iC (zC _)] at this
 have e:(ks.filter λk=>decide ((nd N k).kind=4))=K:=hK.symm;rw [e] at m1;have e6:∀(fl:Nat) (l:ae) (b2:aA) (c:∀k∈b2,k<N.length) (hl:b2.length<=N.length) (j:Nat) (b:aU) (A:dL),(∀x:Bool,PR (A (B x) l s))->CL prog 115 [.sl false (N.map bG),.sl false ((b2.map bF).take j),.v (.string b)] fl A l s:=λfl l b2 c hl j b A y=>by rw [<-List.map_take];exact CP.o (PO O (b2.take j) (λk y=>c k (yM y)) W b) (by rintro _ ⟨x,rfl⟩;exact y x)
 simp [b75,m1];refine LP.ind (λx:SS×Bool×Bool×Nat=>K.length-x.2.2.2) (λx=>x.2.2.2<=K.length/\IH N K x.2.2.2 (pos N K x.2.2.2) x.1) (λx=>[.p false 0 0,.p false 1 0,.sl false (N.map bG),.sl false (K.map bF),I K.length,I x.2.2.2]) (λx=>[.row (ce (x.1.v N x.2.1 x.2.2.1)) 0,.row bR 0]) (λ_=>s) 2 (λ_ _=>⟨rfl,rfl,rfl⟩) (λx hx k y=>?_) (S,J,ot,0) ⟨Z,hS.ml,hS.tg,by have:=hS.tl;simp only;omega,hS.rl,hS.rc,hS.fd,h0.2,by simp only;rw [h0.1];rfl,λ_ j c h'=>by simp only at h';omega,hS.fx⟩;have ⟨T,J,ot,h⟩:=x;have ⟨g1,f⟩:=hx;simp only at g1 f;have f4:=λT J ot c h'=>hQ _ ⟨T,J,ot,K,rfl,c,b6,kn,h'⟩;simp [-dG,BO];apply ST.dc<;>intro C;rotate_left;have f9:h=K.length:=by omega
 subst f9;simp [IS];rw [iC (zC _)] at f;exact f4 T J ot (by rw [f.fl];exact d1) λi=>⟨f.ml,f.tg,f.tl,f.rl,f.rc,f.fd,f.no,f.fl,λj c=>f.fh i j c c,f.fx⟩;have H:=ka _ (zW C);have wi:=wn (j:=h) O;have qk:(K.map bF)[h]? =some [I K[h]]:=by simp [C]
 have ⟨ps,t,b,P⟩:=FK.of E H.1 H.2.2.2;have d5:(ps++[t,b]).length<=N.length:=by
  have:∀{a b l},Kc N a b l->a+l.length<=b:=λc=>by induction c <;> simp <;> omega
  have:=this P.ks;have:=kn _ (zW C);omega
 have d6:=P.ks.all;have m2:=λfl l k=>CP.eq (fl:=fl) (l:=l) (s:=s) (k:=k) (Au O H.1 ((E.te.g K[h] O H.1).1) P.ks) rfl;have h9:=lL b6 kn C;rw [pos_at C] at f;let c3:SS->Prop:=λT=>IH N K h K[h] T
 have c8:∀(T:SS) (J ot:Bool) (e:Int) (l:ae) (A:dL) (fl:Nat),e≠0->c3 T->(∀n:SS,c3 n->PR (A (n.v N J ot) l s))->CL prog 77 [T.v N J ot,I e,I K[h]] fl A l s:=λT J ot e l A fl he g c=>CP.o (Hi e he H.1) (by rintro _ ⟨f7,l,k,rfl,F⟩;exact c _ (g.fault F))
 simp [-dG,qk];refine eB (λl M=>s=M/\∃(T:SS) (J ot:Bool),l=[.row (ce (T.v N J ot)) 0,.row bR 0]/\c3 T) ?_ ?_;rotate_left;intro j1 w;apply ST.dc<;>intro c;simp;refine c8 _ _ _ _ _ _ _ O f λn R=>?_;simp;exact w _ _ ⟨rfl,n,J,ot,Z,R⟩;exact w _ _ ⟨rfl,T,J,ot,rfl,f⟩;clear f;rintro _ _ ⟨rfl,T,J,ot,rfl,g⟩;simp [-dG,xy (xZ C),aZ H.1];refine e6 _ _ K (λk y=>(ka k y).1) d1 h _ _ λx=>?_;have d9:∀x:Bool,jn (X:=KX prog s Q) (af 49 [.sl false (N.map bG),I K[h]] λf6=>ln 31 (bw f6) λg9=>bo .sub 3 g9 (I 2) λh4=>lp [1,2,3,4,5,6,7,8,9,20,21] (λk2=>JD (xf k k2)) [.p false 0 0,.p false 1 0,.sl false (N.map bG),.sl false (K.map bF),I h,I K[h],f6,h4,I 0,I K.length,I h]) (λd8=>br (B x) (lt true 13 (.p false 0 0) λh5=>cl 77 [h5,I 7,I K[h]] λh7=>st 13 (.p false 0 0) h7 λ_=>d8) d8) [.row (ce (T.v N J ot)) 0,.row bR 0] s:=λx=>by
  refine eB (λl M=>s=M/\∃(T:SS) (J ot:Bool),l=[.row (ce (T.v N J ot)) 0,.row bR 0]/\c3 T) ?_ ?_
  ·clear g;rintro _ _ ⟨rfl,T,J,ot,rfl,g⟩;have i1:ps.length+2<=N.length:=by simpa using d5
   simp [m2,show i64.wrap (ps.length:Int)=ps.length from bW O O];refine LP.ind (λx:SS×Bool×Bool×Nat=>ps.length-x.2.2.2) (λx=>x.2.2.2<=ps.length/\∃p,Kc N p (K[h]+1+sz N K[h]) (ps.drop x.2.2.2++[t,b])/\K[h]+1<=p/\IH N K h p x.1/\∀d,(c:d<ps.length)->d<x.2.2.2->ps[d]<p/\(x.1.c=0->1<=(aF x.1.ma ps[d]).type/\(aF x.1.ma ps[d]).type<x.1.ty.length)) (λx=>[.p false 0 0,.p false 1 0,.sl false (N.map bG),.sl false (K.map bF),I h,I K[h],.sl false (ps.map bF++[[I t],[I b]]),I ps.length,I x.2.2.2,I K.length,I h]) (λx=>[.row (ce (x.1.v N x.2.1 x.2.2.1)) 0,.row bR 0]) (λ_=>s) 2 (λ_ _=>⟨rfl,rfl,rfl⟩) (λx hx k2 g5=>?_) (T,J,ot,0) ⟨Z,K[h]+1,P.ks,O,g.mono O,λd _ c=>by simp at c⟩;clear g;have ⟨T,J,ot,j⟩:=x;have ⟨i0,p,i3,i4,m,i6⟩:=hx;simp only at i0 i3 m i6;have i2:=i3.le;have f5:∀(T:SS) (J ot:Bool) (p:Nat),IH N K h p T->T.c≠0->Q (T.v N J ot):=λT J ot p c h'=>f4 T J ot (by rw [c.fl];omega) (λc=>absurd c h');simp [-dG,xf];apply ST.dc<;>intro hj;rotate_left
   ·have:ps.drop j=[]:=yT O;rw [this] at i3;have g3:j=ps.length:=O;subst g3;have ⟨e1,t1,t2,t3,t4⟩:=i3.inv;subst e1;have t5:=t4.le;have qt:(ps.map bF++[[I t],[I b]])[ps.length]? =some [I t]:=by rw [zH Z];simp
    simp [IP];apply ST.dc<;>intro i;rotate_left;simp;exact f5 T J ot _ m i;have hh:=n118 E _ t (yF _) t2 P.tk T J ot m.ml i m.tg (Zo m.tl) (Zo m.rl);simp;apply CP.o hh;intro c7 z;have ⟨v,U,J,ot,z,r,hT,c1,c2⟩:=z;subst z;simp;refine CP.o (oB (by rw [r.len,m.ml];exact H.1) (by rw [r.len,m.ml];omega) v h 0) ?_;intro c7 z;subst z;have d3:U.fn.length=h:=by rw [r.fn];exact m.fl
    have ta:=λfl l s=>cG (fl:=fl) (l:=l) (s:=s) (o:=true) (b:=72) Wt O O U.fn [⟨(nd N K[h]).text,K[h],ps.length,v,0,0,0,0⟩] W;simp at ta;simp [aZ H.1,ta,IQ,wi];refine y ({U with ma:=U.ma.set K[h] ⟨v,h,0⟩,fn:=U.fn++[⟨(nd N K[h]).text,K[h],ps.length,v,0,0,0,0⟩]},true,ot,h+1) _ _ _ Z Z rfl ⟨C,?_⟩ W;have L:=m.typed (p':=pos N K (h+1)) i r hT C b6 ⟨v,h,0⟩ (zC _) O O;have ⟨b1,c6,g6⟩:=r.ty;have g7:U.ty.length=T.ty.length+b1.length:=by rw [c6];simp
    have h6:=m.tg.GN;have d7:0<=v/\v<U.ty.length:=by by_cases hu:U.c=0;rcases c1 hu with ⟨_,c⟩|⟨_,w,q,_⟩;omega;omega;have:=c2 hu;omega
    refine ⟨L.ml,L.tg,L.tl,L.rl,L.rc,L.fd,L.no,by simp [d3],λF j w q=>?_,L.fx⟩;have eF:aN (U.fn++[⟨(nd N K[h]).text,K[h],ps.length,v,0,0,0,0⟩]) h=⟨(nd N K[h]).text,K[h],ps.length,v,0,0,0,0⟩:=by simp [aN,zG,<-d3]
    have q:j<h+1:=q;by_cases g4:j=h;subst g4;refine ⟨ps,t,b,P,by simp only;rw [eF],by simp only;rw [eF],by simp only;rw [eF];exact d7.1,by simp only;rw [eF];exact d7.2,by simp only;rw [eF],λi7 hz=>?_⟩;obtain ⟨e2,hn,rfl⟩:=yA hz;have ⟨a1,a2⟩:=i6 e2 hn hn;have a3:=(d6 ps[e2] Z).1;have:=a2 i;simp only;rw [cW O,kQ (r.ma _ O)];omega;refine (L.fh F j w O).mono ?_ (λ_ _ _=>rfl) (zC _);simp only [aN,zG];rw [zD O]
   rw [yG hj] at i3;have ⟨q0,q1,q2,q3,q4⟩:=i3.inv;have d4:=P.pk _ (zW hj);rw [q0] at d4;have ⟨f1,f2,f3⟩:=so E q2 (.inr d4);have q5:=q4.le;have wj:=wn (j:=j) O;have wp:=wn (j:=p) O;have qq:(ps.map bF++[[I t],[I b]])[j]? =some [I p]:=by rw [zD (Zs hj)];simp [hj,q0]
   let J2:SS->Prop:=λT=>IH N K h p T/\∀d,(c:d<ps.length)->d<j->ps[d]<p/\(T.c=0->1<=(aF T.ma ps[d]).type/\(aF T.ma ps[d]).type<T.ty.length)
   have c9:∀(T:SS) (J ot:Bool) (e:Int) (l:ae) (A:dL) (fl:Nat),e≠0->J2 T->(∀n:SS,J2 n->PR (A (n.v N J ot) l s))->CL prog 77 [T.v N J ot,I e,I p] fl A l s:=λT J ot e l A fl he g c=>CP.o (Hi (S:=T) e he q2) (by rintro _ ⟨f7,l,k,rfl,F⟩;exact c _ ⟨g.1.fault F,λd w q=>⟨(g.2 d w q).1,λc=>absurd c F⟩⟩)
   refine eB (λl M=>s=M/\∃(T:SS) (J ot:Bool),l.take 2=[.row (ce (T.v N J ot)) 0,.row bR 0]/\IH N K h (p+1+sz N p) T/\∀d,(c:d<ps.length)->d<j+1->ps[d]<p+1+sz N p/\(T.c=0->1<=(aF T.ma ps[d]).type/\(aF T.ma ps[d]).type<T.ty.length)) ?_ ?_;rintro l _ ⟨rfl,T,J,ot,hl,j1,j2⟩;obtain ⟨l2,rfl⟩:∃l2,l= .row (ce (T.v N J ot)) 0:: .row bR 0::l2:=⟨l.drop 2,(wB 2 l).symm.trans (by rw [hl];rfl)⟩;simp [wj];exact g5 (T,J,ot,j+1) _ _ _ Z Z rfl ⟨hj,p+1+sz N p,q4,O,j1,j2⟩ W;intro j1 w;simp [-dG];refine eB (λl M=>s=M/\∃(T:SS) (J ot:Bool),l=[.row (ce (T.v N J ot)) 0,.row bR 0]/\J2 T) ?_ ?_
   ·clear m i6;rintro _ _ ⟨rfl,T,J,ot,rfl,g⟩;have g8:∀(l s:ae),aK prog 31 none (some (.v (.int .i64 (j:Int)))) none l s (.sl false (ps.map bF++[[I t],[I b]]))=some (.sl false (((ps++[t,b]).map bF).take j)):=λl s=>by
     have:=xy (l:=l) (s:=s) (K:=ps++[t,b]) (k:=.i64) (b:=j) W;simpa using this
    simp [-dG,-List.map_append,g8,qq,aZ q2];refine e6 _ _ (ps++[t,b]) (λk y=>(d6 k y).2.1) d5 j _ _ λx=>?_;simp [-dG];refine eB (λl M=>s=M/\∃(T:SS) (J ot:Bool),l=[.row (ce (T.v N J ot)) 0,.row bR 0]/\J2 T) ?_ ?_
    ·clear g;rintro _ _ ⟨rfl,T,J,ot,rfl,D,f8⟩;simp;apply ST.dc<;>intro i;rotate_left;simp;exact f5 T J ot _ D i;have hh:=n118 (nr:=T.rc.length) E _ (p+1) (yF _) f1 (.inr f2) T J ot D.ml i D.tg (Zo D.tl) (Zo D.rl);simp at hh;simp [qq,wp];apply CP.o hh;intro c7 z;have ⟨v,U,J,ot,z,r,hT,c1,c2⟩:=z;subst z;simp [qq];refine CP.o (oB (N:=N) (om:=J) (ot:=ot) (S:=U) (at_:=p) (by rw [r.len,D.ml];exact q2) (by rw [r.len,D.ml];omega) v 0 0) ?_;intro c7 z;subst z;have ⟨b1,c6,g6⟩:=r.ty;have g7:U.ty.length=T.ty.length+b1.length:=by rw [c6];simp
     simp;refine w _ _ ⟨rfl,{U with ma:=U.ma.set p ⟨v,0,0⟩},true,ot,Z,D.typed i r hT C b6 ⟨v,0,0⟩ O O O,λd z1 z2=>?_⟩;by_cases hz:d=j;subst hz;rw [q0];refine ⟨O,λF=>?_⟩;simp only at F ⊢;rw [ig (by rw [r.len,D.ml];exact q2)];rcases c1 F with ⟨c,_⟩|⟨_,w,q,_⟩;omega;exact ⟨w,q⟩;have ⟨a1,a2⟩:=f8 d z1 O;have:=a2 i;refine ⟨O,λ_=>?_⟩;simp only;rw [cW O,kQ (r.ma _ O)];omega
    intro j3 h3;apply ST.mk<;>intro c;simp [qq];refine c9 _ _ _ _ _ _ _ O g λn R=>?_;simp;exact h3 _ _ ⟨rfl,n,J,ot,Z,R⟩;exact h3 _ _ ⟨rfl,T,J,ot,rfl,g⟩
   intro j2 q;apply ST.dc<;>intro c;simp [qq];refine c9 _ _ _ _ _ _ _ O ⟨m,i6⟩ λn R=>?_;simp;exact q _ _ ⟨rfl,n,J,ot,Z,R⟩;exact q _ _ ⟨rfl,T,J,ot,rfl,m,i6⟩
  intro j2 q;apply ST.mk<;>intro c;simp;refine c8 _ _ _ _ _ _ _ O g λn R=>?_;simp;exact q _ _ ⟨rfl,n,J,ot,Z,R⟩;exact q _ _ ⟨rfl,T,J,ot,rfl,g⟩
 cases x;simp [-dG,aZ H.1];apply CP.o (PN _);rintro _ ⟨b1,rfl,_,_⟩;simp [-dG];exact d9 _;simp [-dG];exact d9 true
end
end T
namespace T
open Go V Q
variable {a b c d e f g:Nat} {u v w:Value} {i j k:Int} {t:TypeId} {p:List Value} {n:IntKind} {x y z:TV} {r s:List TO} {o:List TV}
section
variable {N:List Nd} {S D E T:SS} {J ot:Bool} {f fl nr w w' a h i p:Nat} {k':dL} {l' s:ae}
def FD (N:List Nd) (S:SS) (a i:Nat):Prop:=∃(ps:aA) (t h:Nat),FK N a ps t h/\(aN S.fn i).node=a/\(aN S.fn i).params=ps.length/\0<=(aN S.fn i).result/\(aN S.fn i).result<S.ty.length/\0<=(aN S.fn i).at_/\ps.length<=(aN S.fn i).ah/\(aN S.fn i).at_+(aN S.fn i).ah<=S.sl.length/\VM N S i h (h+1+sz N h)
theorem Eu {F a:List Fn} (h:a[b]? =F[b]?):aN a b=aN F b:=by simp [aN,zG,h]
theorem FD.mono (f:FD N S b e) (r:RFt i w c d S D) (E:e≠i) (hd:b+1+sz N b<=c):FD N D b e:=by
 obtain ⟨ps,t,h,l,v,x,y,R,z,A,X,C⟩:=f;obtain ⟨m,j,_⟩:=r.ty;obtain ⟨b1,F,_⟩:=r.sl;have a:=Eu (r.fn e E);obtain ⟨a1,a2,a3,a4⟩:=l.ks.all h Z;refine ⟨ps,t,h,l,by rw [a,v],by rw [a,x],by rw [a];exact y,by rw [a,j];simp;omega,by rw [a];exact z,by rw [a];exact A,by rw [a,F];simp;omega,λk H J=>?_⟩;obtain ⟨n,o,p,s⟩:=C k H J;have g:=kQ (r.ma k O);have hl:(D.ty.length:Int)=S.ty.length+m.length:=by rw [j];simp
 refine ⟨λf=>?_,λf=>?_,λf=>?_,λf=>?_⟩;have:=n f;rw [g,a];omega;have:=o f;rw [g,r.Bn];exact this;have:=p f;rw [g,a];omega;obtain ⟨K,L,M,P⟩:=s f;rw [g,j,xx O L];exact ⟨K,W,M,P⟩
structure IF (N:List Nd) (K:aA) (i p:Nat) (T:SS):Prop where
 ml:T.ma.length=N.length
 tg:TG T.ty T.rc.length
 tl:T.ty.length<=106+N.length+N.length+p*300000
 bl:T.sl.length<=p*300000/\T.va.length<=p*300000/\T.pt.length<=p*300000
 rl:T.rn.length<=N.length
 rc:∀r∈T.rc,0<=r.fr/\0<=r.count/\r.fr+r.count<=T.fd.length
 fd:∀x∈T.fd,1<=x.type/\x.type<T.ty.length
 sl:∀x∈T.sl,1<=x/\x<T.ty.length
 fl:T.fn.length=K.length
 fh:∀j,(h:j<K.length)->i<=j->HF N T K[j] j
 fg:∀j,(h:j<K.length)->j<i->FD N T K[j] j
 fx:T.fd.length<=N.length
structure I7 (N:List Nd) (K:aA) (S:SS):Prop where
 ml:S.ma.length=N.length
 tg:TG S.ty S.rc.length
 tl:S.ty.length<=99000000000
 bl:S.sl.length<=99000000000/\S.va.length<=99000000000/\S.pt.length<=99000000000
 rc:∀r∈S.rc,0<=r.fr/\0<=r.count/\r.fr+r.count<=S.fd.length
 fd:∀x∈S.fd,1<=x.type/\x.type<S.ty.length
 sl:∀x∈S.sl,1<=x/\x<S.ty.length
 fl:S.fn.length=K.length
 fg:∀j,(h:j<K.length)->FD N S K[j] j
 ks:K.Pairwise λx y=>x+1+sz N x<=y
 kn:∀k∈K,k+1+sz N k<=N.length
 fx:S.fd.length<=N.length
abbrev SS.q (N:List Nd) (s:SS):TV:=.ag [.sl false (N.map bG),.sl false (s.ma.map ic),.sl false (s.ty.map dM),.sl false (s.rc.map sR),.sl false (s.fd.map pN),.sl false (s.fn.map ju),.sl false (s.sl.map bt),.sl false (s.va.map s7),.sl false (s.pt.map vB)]
abbrev pz:TV:=.ag [.sl false [],.sl false [],.sl false [],.sl false [],.sl false [],.sl false [],.sl false [],.sl false [],.sl false []]
def a1d (N:List Nd) (r:TV):Prop:=(∃c l k:Int,c≠0/\r= .tu [pz,.ag [I c,I l,I k]])\/∃(S:SS) (K:aA),r= .tu [S.q N,.ag [I 0,I 0,I 0]]/\WT N/\I7 N K S
theorem m48 (hN:N.length<=300000):EP prog 48 [.sl false (N.map bG)] (a1d N):=by
 refine EP.o e48 λs Q hQ=>?_;simp [-dG,b48];apply CP.o (m72 hN);rintro _ ⟨x,rfl,w⟩;simp [-dG];apply ST.mk<;>intro a;rotate_left;simp;exact hQ _ (.inl ⟨1,0,0,O,rfl⟩);have F:=w a;have g5:=F.len;obtain ⟨o,d6⟩:∃o:List Mk,o=List.replicate N.length ⟨0,0,0⟩:=⟨_,rfl⟩;have d7:o.length=N.length:=by rw [d6];simp
 have tm:∀l s:ae,E9 0 3 24 [I 0,I 0,I 0] (I N.length) (I N.length) l s=some (.sl true (o.map ic),l,s):=λl s=>by
  have c7:o.map ic=mC N.length [I 0,I 0,I 0]:=by rw [d6];simp [mC]
  have hp:pK [I 0,I 0,I 0]:=rfl;have h3:((24:Nat):Int)*(N.length:Int)<=1099511627776:=O;unfold E9;simp [mT,c7,db,mC,g5];omega
 have P:jz (.sl false (N.map bG))= .sl false (N.map bG):=by cases N <;> rfl
 have R:∀d9:Bool,jz (.sl d9 (o.map ic))= .sl false (o.map ic):=λd9=>by
  cases o with
  | nil=>simp at d7;omega
  | cons x l=>rfl
 simp [-dG,tm,P,R];obtain ⟨S0,c6⟩:∃S0:SS,S0=⟨o,[],[],[],[],[],[],[],[],0,0,0⟩:=⟨_,rfl⟩;have c8:=m73 (S:=S0) (om:=false) (ot:=true) F (by rw [c6];exact d7) (by rw [c6];exact ⟨rfl,rfl,rfl,rfl,rfl,rfl,rfl,rfl⟩) (by rw [c6]);rw [c6] at c8;apply CP.o c8;intro e2 n;obtain ⟨S1,J,ot,n,c1,c2,c3,c4,c5⟩:=n;subst n;simp [-dG];let y:SS->Prop:=λT=>T.fn.length<=N.length/\∃K:aA,(K.Pairwise λx h5=>x+1+sz N x<=h5)/\(∀k∈K,k+1+sz N k<=N.length)/\(T.c=0->HG N K T)
 refine eB (λl s'=>s=s'/\∃(T:SS) (J ot:Bool),l=[.row pT 0,.row gJ 0,.row (ce (T.v N J ot)) 0]/\y T) ?_ ?_;rotate_left;intro j1 g;apply ST.dc<;>intro a;simp;apply CP.o (m75 F (c5 a) ⟨c1,c2,c3,c4⟩ a);intro e2 n;have ⟨D,g8,g9,K,n,d1,d2,d3,d4⟩:=n;subst n;simp;exact g _ _ ⟨rfl,D,g8,g9,Z,d1,K,d2,d3,d4⟩;exact g _ _ ⟨rfl,S1,J,ot,Z,by rw [c1];simp,[],.nil,Z,λh'=>absurd h' a⟩;clear c1 c2 c3 c4 c5 c8 S1;rintro _ _ ⟨rfl,T,J,ot,rfl,q⟩;simp [-dG];have jf:∀{T:SS},y T->∀c l k:Int,c≠0->y {T with c:=c,l:=l,k:=k}:=λa c l k e=>⟨a.1,[],.nil,Z,λh'=>absurd h' e⟩;refine eB (λl s'=>s=s'/\∃(T:SS) (J ot:Bool),l=[.row pT 0,.row gJ 0,.row (ce (T.v N J ot)) 0]/\y T) ?_ ?_;rotate_left;intro j1 g;apply ST.dc<;>intro a;simp;refine CP.o (m76 (Zo q.1) _) ?_;rintro _ ⟨x,rfl,y1,y2⟩;simp;apply ST.dc<;>intro b;simp;exact g _ _ ⟨rfl,{T with c:=11,l:=0,k:=0},J,ot,Z,jf q _ _ _ O⟩;obtain ⟨f,rfl⟩:=yE (show 0<=x by omega);have ⟨K,z,A,M⟩:=q.2;have hG:=M a;have v:f<T.fn.length:=O;have gA:=jj v;have gB:T.fn[f]=aN T.fn f:=by rw [zA v] at gA;exact yD gA
 have g3:f<K.length:=by rw [<-hG.fl];exact v
 have ⟨ps,e1,h,C,t,f3,f4,f5,f6,f7⟩:=hG.fh f g3;have i5:∀(i6:Bool) (kk:RA (PX prog s Q)),True->True:=λ_ _ _=>trivial;simp [gB,v,t];have bad:∀m:SS,y m->PR (st 13 (X:=PX prog s Q) (.p false 2 0) (m.v N J ot) (λ_=>j1) [.row pT 0,.row gJ 0,.row (ce (T.v N J ot)) 0] s):=λm E=>by simp;exact g _ _ ⟨rfl,m,J,ot,Z,E⟩
 have g6:=C.lt;have d5:∀(l:ae) (kk:dL) (fl:Nat),(∀m:SS,y m->PR (kk (m.v N J ot) l s))->CL prog 77 [T.v N J ot,I 11,I K[f]] fl kk l s:=λl kk fl a=>CP.o (Hi 11 O g6) (by rintro _ ⟨c,l,k,rfl,f9⟩;exact a _ (jf q _ _ _ f9))
 apply ST.dc<;>intro h3;simp [h3,gB,v,t];refine d5 _ _ _ λm E=>?_;simp;exact g _ _ ⟨rfl,m,J,ot,Z,E⟩;simp [h3,gB,v,t];apply ST.dc<;>intro h4;exact g _ _ ⟨rfl,T,J,ot,rfl,q⟩;simp [gB,v,t];refine d5 _ _ _ λm E=>?_;simp;exact g _ _ ⟨rfl,m,J,ot,Z,E⟩;exact g _ _ ⟨rfl,T,J,ot,rfl,q⟩;clear q;rintro _ _ ⟨rfl,T,J,ot,rfl,q⟩;simp;obtain ⟨f8,K,z,A,M⟩:=q;have h6:K.length<=N.length:=by have:=lK z A K.length (zC _);rwa [iC (zC _)] at this
 refine LP.ind (λx:SS×Bool×Bool×Nat=>T.fn.length-x.2.2.2) (λx=>x.2.2.2<=T.fn.length/\(x.1.c=0->K.length=T.fn.length/\IF N K x.2.2.2 (pos N K x.2.2.2) x.1)) (λx=>[.p false 0 0,.p false 1 0,.p false 2 0,I T.fn.length,I x.2.2.2]) (λx=>[.row pT 0,.row gJ 0,.row (ce (x.1.v N x.2.1 x.2.2.1)) 0]) (λ_=>s) 3 (λ_ _=>⟨rfl,rfl,rfl⟩) (λx w k hk=>?_) (T,J,ot,0) ⟨Z,λe=>⟨(M e).fl.symm,?_⟩⟩;rotate_left;have a:=M e;have ⟨z1,z2,z3⟩:=a.no;exact ⟨a.ml,a.tg,by have:=a.tl;simp only;omega,by simp [z1,z2,z3],a.rl,a.rc,a.fd,by simp [z1],a.fl,λj r _=>a.fh j r,λj _ a=>by simp at a,a.fx⟩;obtain ⟨c9,hn⟩:∃c9,c9=T.fn.length:=⟨_,rfl⟩;rw [<-hn] at w hk f8 ⊢;clear M hn T J ot;have ⟨T,J,ot,i⟩:=x;have ⟨g1,g2⟩:=w;simp only at g1 g2;simp [BZ];apply ST.dc<;>intro hi;have wi:=wn (j:=i) O;simp;apply ST.dc<;>intro e;have ⟨g,b⟩:=g2 e;have L:i<K.length:=O;have ⟨ps,e1,h,C,t,f3,f4,f5,f6,f7⟩:=b.fh i L (zC _);have i3:=lL z A L;have g7:pos N K i=K[i]:=pos_at L;have i2:=A _ (zW L);have ⟨P,R,b3⟩:=b.bl;have b4:=b.tl;have b5:=b.rl;have b6:=b.fl;have i4:pos N K (i+1)<=N.length:=by by_cases a:i+1<K.length;rw [pos_at a];have:=A _ (zW a);omega;rw [iC O];exact zC _
 rw [g7] at P R b3 b4;simp;apply CP.o (m78 F O C t f6 b.ml b.tg e b.sl f7 ⟨O,O,O,O,O,O⟩);intro e2 n;have ⟨U,J,ot,n,d,r2,r3,r4,r5,r6,r7⟩:=n;subst n;simp [wi];refine hk (U,J,ot,i+1) _ _ _ Z Z rfl ⟨hi,λhu=>⟨g,?_⟩⟩ W;have ⟨q1,q2,q3,q4⟩:=r7 hu;have ⟨c7,he,h9⟩:=d.ty;have ⟨e6,hd,h7⟩:=d.sl;have v1:=d.va;have v2:=d.pt;have i1:U.ty.length=T.ty.length+c7.length:=by rw [he];simp
 have h8:U.sl.length=T.sl.length+e6.length:=by rw [hd];simp
 have ⟨a1,a2,a3,a4⟩:=C.ks.all h Z;refine ⟨by rw [d.len];exact b.ml,by rw [d.rc];exact r2,by simp only;omega,by simp only;omega,by rw [d.rn];exact b5,by rw [d.rc,d.fd];exact b.rc,λx w=>?_,r3,by rw [d.Bn];exact b6,λj r H=>?_,λj r H=>?_,by simp only;rw [d.fd];exact b.fx⟩;rw [d.fd] at w;have:=b.fd x w;simp only;omega;have H:i+1<=j:=H;have:=nZ z (show i<j by omega) r;exact (b.fh j r O).mono (Eu (d.fn j O)) (λp p1 p2=>kQ (d.ma p O)) (by simp only;omega);have H:j<i+1:=H;by_cases d8:j=i;subst d8;exact ⟨ps,e1,h,C,by rw [r4,t],by rw [r5,f3],by rw [r6];exact f4,by rw [r6];simp only;omega,q1,q2,q3,q4⟩;have:=nZ z (show j<i by omega) L;exact (b.fg j r O).mono d d8 O;simp [wi];exact hk (T,J,ot,i+1) _ _ _ Z Z rfl ⟨hi,λa=>absurd a e⟩ W;have g4:i=c9:=by omega
 subst g4;simp [J6];apply ST.dc<;>intro e;have ⟨g,b⟩:=g2 e;have hp:pos N K i=N.length:=iC O;rw [hp] at b;have ⟨P,R,b3⟩:=b.bl;have b4:=b.tl;simp;exact hQ _ (.inr ⟨T,K,rfl,F,b.ml,b.tg,O,⟨O,O,O⟩,b.rc,b.fd,b.sl,b.fl,λj r=>b.fg j r O,z,A,b.fx⟩);simp;exact hQ _ (.inl ⟨T.c,T.l,T.k,e,rfl⟩)
end
end T
namespace T
open Go V Q
variable {a b c d e f g:Nat} {u v w:Value} {i j k:Int} {t:TypeId} {p:List Value} {q:Bool} {n:IntKind} {x y z:TV} {r s:List TO} {o:List TV}
abbrev CB (N:List Nd) (S:SS) (M:List Mk) (c l k res:Int):TV:=.ag [.sl false (N.map bG),.sl false (M.map ic),.sl false (N.map bG),.sl false (S.ma.map ic),.sl false (S.ty.map dM),.sl false (S.rc.map sR),.sl false (S.fd.map pN),.sl false (S.fn.map ju),.sl false (S.sl.map bt),.sl false (S.va.map s7),.sl false (S.pt.map vB),.sl false (S.ty.map dM),I c,I l,I k,I res]
section
variable {N:List Nd} {S:SS} {M:List Mk} {c l k res:Int} {at_ fl:Nat} {J:dL} {E D:ae}
theorem Jn (e:Int) (f:e≠0) (d:at_<N.length):EP prog 51 [CB N S M c l k res,I e,I at_] λr=>∃a E J:Int,r=CB N S M a E J res/\a≠0:=by refine EP.o e51 λD Q b=>?_;simp [b51];apply ST.dc<;>intro h;simp [aZ d];exact b _ ⟨_,_,_,rfl,f⟩;simp;exact b _ ⟨_,_,_,rfl,h⟩
theorem kS (x:Bool) (e:at_<N.length):EP prog 123 [CB N S M c l k res,B x,I at_] λr=>∃a E J:Int,r=CB N S M a E J res/\(a=0->c=0/\x):=by refine EP.o M7 λD Q d=>?_;simp [Uu];apply ST.mk<;>intro h;simp;exact d _ ⟨_,_,_,rfl,λb=>⟨b,h⟩⟩;simp;apply CP.o (Jn 9 O e);rintro _ ⟨a,E,J,rfl,f⟩;simp;exact d _ ⟨_,_,_,rfl,λb=>absurd b f⟩
theorem Ei (e:6<=S.ty.length) (f:S.ty.length<100000000000) (a b:Int):EP prog 124 [CB N S M c l k res,I a,I b] λr=>∃x:Bool,r=B x/\(x=true->0<=a/\0<=b/\a<S.ty.length/\b<S.ty.length/\(a=b\/a=5)):=by refine EP.o Sy λD Q d=>?_;simp [Ut];apply CP.o (ZV e a b f);rintro _ ⟨x,rfl,g⟩;simp;exact d _ ⟨x,rfl,g⟩
theorem n157 (e:0<=i) (g:i<S.ty.length):EP prog 157 [CB N S M c l k res,I i] λr=>r=U (eZ S.ty i.toNat).kind:=by
 refine EP.o Sa λD Q f=>?_;obtain ⟨n,rfl⟩:=yE e;have a:n<S.ty.length:=O;have b:=iW a;have d:S.ty[n]=eZ S.ty n:=by rw [zA a] at b;exact yD b
 simp [Ue,d,a];exact f _ rfl
theorem ZW (a:at_<M.length) (m:M.length<=1000000000000) (t:Int):EP prog 160 [CB N S M c l k res,I at_,I t] λr=>r=CB N S (M.set at_ {aF M at_ with type:=t}) c l k res:=by
 refine EP.o S7 λD Q j=>?_;have e:M.map ic≠[]:=by intro h;simp at h;rw [h] at a;simp at a
 have f:M≠[]:=by simpa using e
 have g:=λfl l D=>nX (fl:=fl) (l:=l) (s:=D) (o:=false) (b:=24) (KR M) (Zs m) O O e;have d:=kR a;have i:M[at_]=aF M at_:=by rw [zA a] at d;exact yD d
 have e3:cR 0 3 ((M.map ic).set at_ (ic {aF M at_ with type:=t})):=by have:=Zc (M.set at_ {aF M at_ with type:=t});rwa [yJ] at this
 have n:∀o:Bool,jz (.sl o ((M.map ic).set at_ [I t,I (aF M at_).ref,I (aF M at_).ai]))= .sl false ((M.map ic).set at_ [I t,I (aF M at_).ref,I (aF M at_).ai]):=λo=>by
  have:(M.map ic).set at_ [I t,I (aF M at_).ref,I (aF M at_).ai]≠[]:=by simpa using f
  revert this;generalize (M.map ic).set at_ [I t,I (aF M at_).ref,I (aF M at_).ai]=L;intro h;cases L with
  | nil=>exact absurd rfl h
  | cons x l=>rfl
 simp at g e3;simp [Ub,g,a,i,e3,f];have:=j _ rfl;simp only [CB,yJ] at this;exact this
theorem ZG (d:1<=a) (e:a<=8):EP prog 197 [I a] λr=>∃(b:aU) (t:Int),r= .tu [.v (.string b),I t]/\1<=t/\t<=4/\b.size=(if a=5 then 2 else if a=7 then 0 else 1):=by refine EP.o Rx λD Q c=>?_;have:a=1\/a=2\/a=3\/a=4\/a=5\/a=6\/a=7\/a=8:=O;rcases this with rfl|rfl|rfl|rfl|rfl|rfl|rfl|rfl <;> simp [TU] <;> exact c _ ⟨_,_,rfl,O,O,rfl⟩
theorem ST.de {c:Prop} {_:Decidable c} {p q:Prop} (a:c->c=True->p) (b:¬c->c=False->q):ST (decide c) p q:=ST.dc (λh=>a h (zL h)) λh=>b h (zB h)
theorem QF (b:TG S.ty a) (t:Int):t=0->(eZ S.ty t.toNat).kind=0:=λh=>by subst h;exact b.base 0 O
theorem ZF (g:TG S.ty a) (e:0<=i) (f:i<S.ty.length) (x:Int):EP prog 198 [CB N S M c l k res,I i,U x] λr=>∃b:Bool,r=B b/\(b=true->i≠0):=by refine EP.o Rw λD Q d=>?_;have m:=λfl E J=>CP.eq (fl:=fl) (l:=E) (s:=D) (k:=J) (n157 (N:=N) (M:=M) (c:=c) (l:=l) (k:=k) (res:=res) e f) rfl;have j:=QF g i;simp [TT];apply ST.dc<;>intro h;simp;exact d _ ⟨_,rfl,λh=>by simp at h;omega⟩;simp;apply ST.dc<;>intro h;simp;exact d _ ⟨_,rfl,λh=>by simp at h;omega⟩;simp;apply ST.dc<;>intro h;simp;apply ST.dc<;>intro h;simp [zL h];exact d _ ⟨true,Z,λ_=>O⟩;simp [zB h,m];exact d _ ⟨_,rfl,λh=>by simp at h;omega⟩;simp;apply ST.dc<;>intro h;simp [zL h];exact d _ ⟨true,Z,λ_=>O⟩;simp [zB h];apply ST.dc<;>intro h;simp [zL h];exact d _ ⟨true,Z,λ_=>O⟩;simp [zB h];exact d _ ⟨_,rfl,λh=>by simp at h;omega⟩
theorem ZX (g:TG S.ty a) (o:S.ty.length<100000000000) (n:0<=i) (b:i<S.ty.length) (d:0<=j) (f:j<S.ty.length) (y:Int):EP prog 159 [CB N S M c l k res,I y,I i,I j] λr=>∃t:Int,r=I t/\0<=t/\t<=4/\(0<t->i≠0/\j≠0):=by
 refine EP.o S8 λD Q m=>?_;have q:=λfl E J=>CP.eq (fl:=fl) (l:=E) (s:=D) (k:=J) (n157 (N:=N) (M:=M) (c:=c) (l:=l) (k:=k) (res:=res) n b) rfl;have s:=λfl E J=>CP.eq (fl:=fl) (l:=E) (s:=D) (k:=J) (n157 (N:=N) (M:=M) (c:=c) (l:=l) (k:=k) (res:=res) d f) rfl;have z:=QF g i;have A:=QF g j;have v:=m _ ⟨0,rfl,O,O,λh=>O⟩;have w:=λt b d f=>m _ ⟨t,rfl,b,d,λ_=>f⟩;simp [Uc,q,s];repeat' first
  | exact v
  | (refine w _ O O ⟨?_,?_⟩ <;> omega)
  | (refine ST.de (λh e=>?_) (λh e=>?_) <;> (try simp [e]))
  | (apply CP.o (Ei g.GN o _ _);rintro _ ⟨x,rfl,p⟩;clear p;cases x <;> simp)
end
def PU (N:List Nd) (S:SS) (i:Nat):Prop:=¬((nd N i).kind=27/\0<=(aF S.ma i).ref/\(aN S.fn (aF S.ma i).ref.toNat).result=0)
def ari (n:Int):Nat:=if n=5 then 2 else if n=7 then 0 else 1
def XG (N:List Nd) (S:SS) (i:Nat):Prop:=∀a,Kc N (i+1) (i+1+sz N i) a->
 ((nd N i).kind=27->((aF S.ma i).ref<0->a.length=ari (-(aF S.ma i).ref))/\(0<=(aF S.ma i).ref->(aN S.fn (aF S.ma i).ref.toNat).params=a.length)/\∀k∈a,PU N S k)/\
 (28<=(nd N i).kind->(nd N i).kind<=31->∀k∈a,PU N S k)/\((nd N i).kind=32->∀k∈a.drop 1,PU N S k)
structure MR (N:List Nd) (S:SS) (M:List Mk):Prop where
 len:M.length=N.length
 ref:∀i,(nd N i).kind≠29->(aF M i).ref=(aF S.ma i).ref
 type:∀i,(nd N i).kind=26\/(nd N i).kind=32\/(nd N i).kind<=20->(aF M i).type=(aF S.ma i).type
def jA (a b:Nat) (M c:List Mk):Prop:=∀i,¬(a<=i/\i<b)->aF c i=aF M i
def RF (N:List Nd) (S:SS) (M:List Mk) (a b:Nat):Prop:=∀i,a<=i->i<b->XG N S i/\(21<=(nd N i).kind->(nd N i).kind<=32->((aF M i).type≠0↔PU N S i))
section
variable {N:List Nd} {K:aA} {S:SS} {M J D:List Mk} {c l k res:Int} {a b d E at_ fl:Nat} {h:dL} {l' s:ae}
theorem jA.refl:jA a b M M:=λ_ _=>rfl
theorem jA.trans (h:jA a b M J) (d:jA a b J D):jA a b M D:=λi c=>(d i c).trans (h i c)
theorem jA.wide {a' b':Nat} (h:jA a b M J) (c:a'<=a) (d:b<=b'):jA a' b' M J:=λi e=>h i O
theorem RF.frame (h:RF N S M a b) (c:jA e f M J) (j:f<=a\/b<=e):RF N S J a b:=λi d g=>by have:=h i d g;rw [c i O];exact this
theorem RF.app (h:RF N S M a b) (c:RF N S M b d):RF N S M a d:=λi e f=>by by_cases g:i<b;exact h i e g;exact c i O f
theorem Kc.uniq {c d:Nat} {l l':aA} (h:Kc N c d l) (a:Kc N c d l'):l=l':=by
 induction h generalizing l' with
 | nil=>
  cases a with
  | nil=>rfl
  | cons e _ _ _=>omega
 | cons e k m n f=>
  cases a with
  | nil=>omega
  | cons g i j b=>rw [f b]
theorem MR.set (h:MR N S M) {i:Nat} (d:i<N.length) (t:Int) (f:21<=(nd N i).kind) (e:(nd N i).kind=26\/(nd N i).kind=32->t=(aF S.ma i).type):MR N S (M.set i {aF M i with type:=t}):=by refine ⟨by simp [h.len],λj c=>?_,λj c=>?_⟩;by_cases a:i=j;subst a;rw [ig (by rw [h.len];exact d)];exact h.ref i c;rw [cW a];exact h.ref j c;by_cases a:i=j;subst a;rw [ig (by rw [h.len];exact d)];exact e O;rw [cW a];exact h.type j c
theorem jA.set {i:Nat} (m:Mk) (c:a<=i) (d:i<b):jA a b M (M.set i m):=λj e=>cW O m
def Va (N:List Nd) (S:SS) (res:Int) (a:Nat) (M:List Mk) (c:Int) (r:TV):Prop:=∃(t:Int) (J:List Mk) (b l' h:Int),r= .tu [I t,CB N S J b l' h res]/\jA a (a+1+sz N a) M J/\MR N S J/\0<=t/\t<S.ty.length/\(b=0->c=0/\(t≠0↔PU N S a)/\RF N S J a (a+1+sz N a))
def qH (N:List Nd) (S:SS) (res:Int) (a:Nat):Prop:=∀(M:List Mk) (c l k:Int),MR N S M->EP prog 122 [CB N S M c l k res,I a] (Va N S res a M c)
def UW (N:List Nd) (S:SS) (res:Int) (a:Nat) (M:List Mk) (c:Int) (r:TV):Prop:=∃(t:Int) (J:List Mk) (b l' h:Int),r= .tu [I t,CB N S J b l' h res]/\jA a (a+1+sz N a) M J/\MR N S J/\0<=t/\t<S.ty.length/\(b=0->c=0/\(t≠0↔PU N S a)/\XG N S a/\RF N S J (a+1) (a+1+sz N a))
theorem n156 (hW:WT N) (A:I7 N K S) (ha:a<N.length) (hk:(nd N a).kind=27) (hV:MG N S E a) (hM:MR N S M) (hB:∀k,a<k->k<N.length->21<=(nd N k).kind->(nd N k).kind<=32->k+1+sz N k<=a+1+sz N a->qH N S res k):EP prog 156 [CB N S M c l k res,I a] (UW N S res a M c):=by
 refine EP.o Sb λs Q hQ=>?_;have hN:=hW.mM;have d8:=(hW.te.g a O ha).1;have i7:=d8.le;have ⟨d,b2,hf⟩:=hW.jx a ha;obtain ⟨en,c7⟩:∃en,en=a+1+sz N a:=⟨_,rfl⟩;have h9:∀c5∈d,21<=(nd N c5).kind/\(nd N c5).kind<=32:=λc5 hq=>by have hm:=dw (N:=N) hq;unfold cu dB at hf;simp [hk] at hf;exact aR (hf _ hm)
 have e6:=b2.all;have i9:d.length<=sz N a:=by
  have:∀{a b l},Kc N a b l->a+l.length<=b:=λh=>by induction h <;> simp <;> omega
  have:=this b2;omega
 have m2:=λfl l k=>CP.eq (fl:=fl) (l:=l) (s:=s) (k:=k) (Au O ha d8 b2) rfl;have i5:=A.tg.GN;simp [Uf,m2];refine LP.ind (λx:List Mk×Int×Int×Int×List Int×Nat=>d.length-x.2.2.2.2.2) (λx=>x.2.2.2.2.2<=d.length/\x.2.2.2.2.1.length=x.2.2.2.2.2/\(∀t∈x.2.2.2.2.1,0<=t/\t<S.ty.length)/\MR N S x.1/\∃p,Kc N p en (d.drop x.2.2.2.2.2)/\a+1<=p/\jA (a+1) p M x.1/\(x.2.1=0->c=0/\RF N S x.1 (a+1) p/\∀j (h:j<x.2.2.2.2.1.length) (R:j<d.length),x.2.2.2.2.1[j]≠0↔PU N S d[j])) (λx=>[I a,.p false 0 0,.p false 1 0,.sl false (d.map bF),.sl true (x.2.2.2.2.1.map bt),I d.length,I x.2.2.2.2.2]) (λx=>[.row (ce (CB N S x.1 x.2.1 x.2.2.1 x.2.2.2.1 res)) 0,.row ek 0]) (λ_=>s) 2 (λ_ _=>⟨rfl,rfl,rfl⟩) (λx f kk i2=>?_) (M,c,l,k,[],0) ⟨Z,rfl,Z,hM,a+1,by rw [c7];exact b2,O,jA.refl,λC=>⟨C,λd4 r v=>O,λj h=>by simp at h⟩⟩;clear hM;have ⟨y,c1,u1,w1,H,j⟩:=x;have ⟨g0,g1,g2,z,p,P,g5,g6,g7⟩:=f;simp only at g0 g1 g2 z P g6 g7;have q5:=P.le;simp [uv];apply ST.dc<;>intro g;rw [yG g] at P;have ⟨q0,q1,q2,q3,q4⟩:=P.inv;have d3:=h9 _ (zW g);rw [q0] at d3;have q6:=q4.le;have wj:=wn (j:=j) O;have qq:(d.map bF)[j]? =some [I p]:=by simp [g,q0]
 simp [qq];have i6:H.length<=N.length:=O;apply CP.o (hB p O q2 d3.1 d3.2 O y c1 u1 w1 z);intro j4 hv;have ⟨t,M2,e,u2,i,hv,r,v,w,X,h5⟩:=hv;subst hv;have ta:=λfl l s=>cG (fl:=fl) (l:=l) (s:=s) (o:=true) (b:=8) QJ O O H [t] W;simp at ta;simp [ta,wj];refine i2 (M2,e,u2,i,H++[t],j+1) _ _ _ Z Z rfl ⟨g,by simp [g1],λx f=>?_,v,p+1+sz N p,q4,O,?_,λC=>?_⟩ W;rcases xC.1 f with f|f;exact g2 x f;simp at f;subst f;exact ⟨w,X⟩;exact (g6.wide (zC _) O).trans (r.wide O (zC _));have ⟨r1,r2,r3⟩:=h5 C;have ⟨r4,r5,r6⟩:=g7 r1;refine ⟨r4,(r5.frame r (.inr (zC _))).app r3,λq L d2=>?_⟩;simp only at L;by_cases b1:q<H.length;simp only;rw [List.getElem_append_left b1];exact r6 q b1 d2;have:q=j:=by simp at L;omega
 subst this;simp only;rw [List.getElem_append_right O,q0];simpa [g1] using r2
 ·have hd:d.drop j=[]:=yT O;rw [hd] at P;have i4:=P.eC;rw [i4] at g5 g6 g7;have h8:j=d.length:=O;subst h8;simp [Di];have d5:=λt M2 e u2 i r v w X h5=>hQ _ ⟨t,M2,e,u2,i,rfl,by rw [<-c7];exact r,v,w,X,by rw [<-c7];exact h5⟩;have c6:jA a en M y:=g6.wide O (zC _);apply ST.dc<;>intro C;rotate_left;simp;exact d5 0 y c1 u1 w1 c6 z O O (λh=>absurd h C);have ⟨r1,r2,r3⟩:=g7 C;have gM:=kR (by rw [z.len];exact ha);have gR:=z.ref a O;obtain ⟨n,hn⟩:∃n,n=(aF S.ma a).ref:=⟨_,rfl⟩;rw [<-hn] at gR;have h6:=hV.2.1 hk;rw [<-hn] at h6;simp [gM,gR];have bad:=λe u2 i h=>d5 0 y e u2 i c6 z O O (λR=>absurd R h);have d6:∀(t e u2 i:Int),0<=t->t<S.ty.length->(t≠0↔PU N S a)->((n<0->d.length=ari (-n))/\(0<=n->(aN S.fn n.toNat).params=d.length))->(e=0->∀j (h:j<H.length),H[j]≠0)->Q (.tu [I t,CB N S y e u2 i res]):=λt e u2 i r v w X h5=>d5 t y e u2 i c6 z r v λh7=>⟨r1,w,λj3 i3=>by
   have:=i3.uniq b2;subst this;rw [<-hn];refine ⟨λ_=>⟨X.1,X.2,λc5 hq=>?_⟩,λh=>O,λh=>O⟩;obtain ⟨d4,hi,rfl⟩:=yA hq;exact (r3 d4 O hi).1 (h5 h7 d4 O),r2⟩
  apply ST.dc<;>intro h0
  ·obtain ⟨m,rfl⟩:∃m:Nat,n= -(m:Int):=⟨n.natAbs,O⟩;simp [show i64.wrap (m:Int)=m from bW O O];apply CP.o (ZG O O);rintro _ ⟨g9,t,rfl,t1,t2,t3⟩;simp;apply ST.dc<;>intro c4;rotate_left;simp;apply CP.o (Jn 10 O ha);rintro _ ⟨e,u2,i,rfl,h⟩;simp;exact bad _ _ _ h;simp;refine LP.ind (λx:Int×Int×Int×Nat=>d.length-x.2.2.2) (λx=>x.2.2.2<=d.length/\(x.1=0->∀j (h:j<H.length),j<x.2.2.2->H[j]≠0)) (λx=>[.p false 0 0,.p false 1 0,.sl false (d.map bF),.sl true (H.map bt),.v (.string g9),I t,I d.length,I x.2.2.2]) (λx=>[.row (ce (CB N S y x.1 x.2.1 x.2.2.1 res)) 0,.row ek 0]) (λ_=>s) 2 (λ_ _=>⟨rfl,rfl,rfl⟩) (λx f k2 c8=>?_) (c1,u1,w1,0) ⟨Z,λ_ j h R=>by simp at R⟩;have ⟨e,u2,i,j⟩:=x;have ⟨i0,F⟩:=f;simp only at i0 F;simp [ux];apply ST.dc<;>intro g;have b6:j<H.length:=by omega
   have c9:=e6 _ (zW g);have d7:=g2 _ (zW b6);have wj:=wn (j:=j) O;have qq:(d.map bF)[j]? =some [I d[j]]:=by simp [g]
   have qh:(H.map bt)[j]? =some [I H[j]]:=by simp [b6]
   simp [qq,qh,dD (b:=g9) (i:=j) O];apply CP.o (ZF A.tg d7.1 d7.2 _);rintro _ ⟨x,rfl,f⟩;simp;apply CP.o (kS x c9.2.1);rintro _ ⟨c3,u3,w3,rfl,w⟩;simp [wj];refine c8 (c3,u3,w3,j+1) _ _ _ Z Z rfl ⟨g,λD q L d2=>?_⟩ W;have ⟨e1,e2⟩:=w D;by_cases b1:q=j;subst b1;exact f e2;exact F e1 q L (by simp at d2;omega);simp [Dk];refine d6 t e u2 i O O ⟨λ_ h=>by have:=h.2.1;omega,λ_=>O⟩ ⟨λ_=>?_,λh=>O⟩ (λD q h=>F D q h O);unfold ari;rw [show -(-(m:Int))=(m:Int) by omega]
   (repeat' split at t3) <;> (repeat' split) <;> omega
  ·obtain ⟨m,rfl⟩:=yE (show 0<=n by omega);have hm:m<S.fn.length:=O;have ⟨ps,tt,b,f1,f2,f3,f4,f5,f6,f7,f8,f9⟩:=A.fg m (by rw [<-A.fl];exact hm);have gF:=jj hm;have gG:S.fn[m]=aN S.fn m:=by rw [zA hm] at gF;exact yD gF
   simp [hm,gG,f3];apply ST.dc<;>intro c4;rotate_left;simp;apply CP.o (Jn 10 O ha);rintro _ ⟨e,u2,i,rfl,h⟩;simp;exact bad _ _ _ h;simp;have ⟨J,d9⟩:=yE f6;have j1:=A.bl.1;refine LP.ind (λx:Int×Int×Int×Nat=>d.length-x.2.2.2) (λx=>x.2.2.2<=d.length/\(x.1=0->∀j (h:j<H.length),j<x.2.2.2->H[j]≠0)) (λx=>[.p false 0 0,.p false 1 0,.sl false (d.map bF),.sl true (H.map bt),.p false 2 0,I d.length,I x.2.2.2]) (λx=>[.row (ce (CB N S y x.1 x.2.1 x.2.2.1 res)) 0,.row ek 0,.row [.v (.string (aN S.fn m).name.val),I (aN S.fn m).node,I ps.length,I (aN S.fn m).result,I (aN S.fn m).at_,I (aN S.fn m).ah,I (aN S.fn m).first,I (aN S.fn m).ji] 0]) (λ_=>s) 3 (λ_ _=>⟨rfl,rfl,rfl⟩) (λx f k2 c8=>?_) (c1,u1,w1,0) ⟨Z,λ_ j h R=>by simp at R⟩;have ⟨e,u2,i,j⟩:=x;have ⟨i0,F⟩:=f;simp only at i0 F;simp [uw];apply ST.dc<;>intro g;have b6:j<H.length:=by omega
   have c9:=e6 _ (zW g);have wj:=wn (j:=j) O;have g8:J+j<S.sl.length:=O;have j2:=A.sl _ (zW g8);have qq:(d.map bF)[j]? =some [I d[j]]:=by simp [g]
   have qh:(H.map bt)[j]? =some [I H[j]]:=by simp [b6]
   have qs:=zA g8;have wa:i64.wrap ((J:Int)+j)=(J:Int)+j:=bW O O;have wb:(0:Int)<=(J:Int)+j:=O;have wc:((J:Int)+j).toNat=J+j:=O;simp [qq,qh,d9,wa,wb,wc,qs];refine CP.o (Ei i5 (Zo A.tl) _ _) ?_;rintro _ ⟨x,rfl,f⟩;simp;apply CP.o (kS x c9.2.1);rintro _ ⟨c3,u3,w3,rfl,w⟩;simp [wj];refine c8 (c3,u3,w3,j+1) _ _ _ Z (by simp [d9]) rfl ⟨g,λD q L d2=>?_⟩ W;have ⟨e1,e2⟩:=w D;by_cases b1:q=j;subst b1;have:=f e2;omega;exact F e1 q L (by simp at d2;omega);simp [Dj];refine d6 (aN S.fn m).result e u2 i f4 f5 ⟨λr v=>?_,λr v=>r ⟨hk,O,?_⟩⟩ ⟨λh=>O,λ_=>?_⟩ (λD q h=>F D q h O);have:=v.2.2;rw [<-hn] at this;exact r (Zs this);rw [<-hn];simpa using v;simp;rw [f3];exact c4
end
def OS (L:List Rc) (i:Nat):Rc:=L.getD i ⟨dm,0,0⟩
theorem Ku {L:List Rc} (h:a<L.length):L[a]? =some (OS L a):=getD_some h _
def fdA (L:List Fd) (i:Nat):Fd:=L.getD i ⟨dm,0⟩
theorem LK {L:List Fd} (h:a<L.length):L[a]? =some (fdA L a):=getD_some h _
section
variable {N:List Nd} {K:aA} {S:SS} {M J D:List Mk} {c l k res:Int} {a E h f at_ fl:Nat} {k':dL} {l' s:ae}
theorem MR.Kl (h:MR N S M) (e:b<N.length) (m:Mk) (d:(nd N b).kind=29):MR N S (M.set b m):=by refine ⟨by simp [h.len],λj c=>?_,λj c=>?_⟩;by_cases a:b=j;subst a;exact absurd d c;rw [cW a];exact h.ref j c;by_cases a:b=j;subst a;omega;rw [cW a];exact h.type j c
theorem PU.of (h:(nd N a).kind≠27):PU N S a:=λb=>h b.1
theorem n158 (hW:WT N) (f:I7 N K S) (w:a<N.length) (hk:(nd N a).kind=29) (hM:MR N S M) (c3:Kc N (a+1) (a+1+sz N a) [b]) (hB:qH N S res b):EP prog 158 [CB N S M c l k res,I a,I b] (UW N S res a M c):=by
 refine EP.o S9 λs Q hQ=>?_;have hN:=hW.mM;have ⟨X,q1,q2,q3,q4⟩:=c3.inv;have q5:=q4.eC;have d9:=f.tg.GN;have k0:=QF f.tg;have d7:M.length<=300000:=by rw [hM.len];exact hN
 have c7:=λc8 M2 g u2 p D o q v F=>hQ _ ⟨c8,M2,g,u2,p,rfl,D,o,q,v,F⟩;have q6:b<N.length:=by rw [X];exact q2
 simp [Ud];apply CP.o (hB M c l k hM);intro e1 R;have ⟨c8,d,c1,u1,w1,R,D,o,q,v,F⟩:=R;subst R;have b2:jA a (a+1+sz N a) M d:=D.wide O (by rw [X];omega);have bad:=λg u2 p h=>c7 0 d g u2 p b2 o O O (λh'=>absurd h' h);simp;apply ST.dc<;>intro r;rotate_left;simp [zB r];apply CP.o (Jn 9 O q6);rintro _ ⟨g,u2,p,rfl,h⟩;simp;exact bad _ _ _ h;simp [zL r];apply CP.o (n157 q v);rintro _ rfl;simp [zL r];apply ST.dc<;>intro H;rotate_left;simp;apply CP.o (Jn 9 O q6);rintro _ ⟨g,u2,p,rfl,h⟩;simp;exact bad _ _ _ h;have ⟨r1,r2,r3⟩:=F r;have t6:=yo f.tg q v (.inl H);obtain ⟨n,rfl⟩:=yE q;have z:n<S.ty.length:=O;have d3:=f.tg.ok n z O;simp at H;have d4:0<=(eZ S.ty n).of/\(eZ S.ty n).of<S.rc.length:=by rcases d3 with ⟨_,x,d5⟩|⟨h,_⟩;exact ⟨x,d5⟩;omega
 have ⟨m,hm⟩:=yE d4.1;have y:m<S.rc.length:=O;have gA:=iW z;have gB:S.ty[n]=eZ S.ty n:=by rw [zA z] at gA;exact yD gA
 have gC:=Ku y;have gD:S.rc[m]=OS S.rc m:=by rw [zA y] at gC;exact yD gC
 have A:=f.rc _ (zW y);rw [gD] at A;have ⟨e,P⟩:=yE A.1;have ⟨cn,J⟩:=yE A.2.1;rw [P,J] at A;simp [gB,z,hm,y,gD];have d6:=f.fx;refine LP.ind (λi:Nat=>cn-i) (λi=>i<=cn) (λi=>[I a,.p false 0 0,.p false 1 0,.p false 2 0,I i]) (λi=>[.row (ce (CB N S d c1 u1 w1 res)) 0,.row ek 0,.row [.v (.string (OS S.rc m).name.val),I (OS S.rc m).fr,I (OS S.rc m).count] 0]) (λ_=>s) 3 (λ_ _=>⟨rfl,rfl,rfl⟩) (λi hi kk d1=>?_) 0 O;simp [uu,J];apply ST.dc<;>intro hj;rotate_left;simp [Dh];apply CP.o (Jn 8 O w);rintro _ ⟨g,u2,p,rfl,h⟩;simp;exact bad _ _ _ h;have wi:=wn (j:=i) O;have wa:i64.wrap ((e:Int)+i)=(e:Int)+i:=bW O O;have wb:(0:Int)<=(e:Int)+i:=O;have wc:((e:Int)+i).toNat=e+i:=O;have L:e+i<S.fd.length:=O;have C:=LK L;have gF:S.fd[e+i]=fdA S.fd (e+i):=by rw [zA L] at C;exact yD C
 have b6:=f.fd _ (zW L);rw [gF] at b6;simp [P,wa,wb,wc,C,aZ w];apply ST.dc<;>intro he;rotate_left;simp [wi];exact d1 (i+1) _ _ _ Z (by simp [P,J]) rfl O O;have t:a<d.length:=by rw [o.len];exact w
 have c4:d.map ic≠[]:=by intro h;simp at h;rw [h] at t;simp at t
 have c5:d≠[]:=by simpa using c4
 have ta:=λfl l s=>nX (fl:=fl) (l:=l) (s:=s) (o:=false) (b:=24) (KR d) (by simp;rw [o.len];omega) O O c4;have gM:=kR t;have gN:d[a]=aF d a:=by rw [zA t] at gM;exact yD gM
 have e3:cR 0 3 ((d.map ic).set a (ic {aF d a with ref:=i})):=by have:=Zc (d.set a {aF d a with ref:=i});rwa [yJ] at this
 have bz:∀c6:Bool,jz (.sl c6 ((d.map ic).set a [I (aF d a).type,I i,I (aF d a).ai]))= .sl false ((d.map ic).set a [I (aF d a).type,I i,I (aF d a).ai]):=λc6=>by
  have:(d.map ic).set a [I (aF d a).type,I i,I (aF d a).ai]≠[]:=by simpa using c5
  revert this;generalize (d.map ic).set a [I (aF d a).type,I i,I (aF d a).ai]=c9;intro h;cases c9 with
  | nil=>exact absurd rfl h
  | cons x l=>rfl
 simp at ta e3;simp [ta,t,gN,e3,c5];have b1:=c7 (fdA S.fd (e+i)).type (d.set a {aF d a with ref:=i}) c1 u1 w1 (b2.trans (jA.set _ (zC _) O)) (o.Kl w _ hk) O b6.2 (λ_=>⟨r1,⟨λ_=>PU.of O,λ_=>O⟩,λd8 d2=>?_,?_⟩);simp only [CB,yJ] at b1;exact b1;have:=d2.uniq c3;subst this;refine ⟨λh=>O,λ_ _ x hx=>?_,λh=>O⟩;simp at hx;subst hx;exact r2.1 O;have:=r3.frame (jA.set (b:=a+1) (i:=a) {aF d a with ref:=i} (zC _) O) (.inl O);intro x x1 x2;exact this x O (by rw [X];omega)
end
section
variable {N:List Nd} {K:aA} {S:SS} {M J D:List Mk} {c l k res:Int} {a h d E at_ fl:Nat} {k':dL} {l' s:ae}
theorem Lz {a:aA} (h:ax N a=[]):a=[]:=by simpa [ax] using h
theorem oH {a:aA} (h:ax N a=[i]):∃b,a=[b]/\bK (nd N b).kind=i:=by
 cases a with
 | nil=>simp [ax] at h
 | cons y r=>cases r with
  | nil=>exact ⟨y,rfl,by simpa [ax] using h⟩
  | cons z r=>simp [ax] at h
theorem lR {a:aA} (h:ax N a=[i,j]):∃b c,a=[b,c]/\bK (nd N b).kind=i/\bK (nd N c).kind=j:=by
 cases a with
 | nil=>simp [ax] at h
 | cons d r=>cases r with
  | nil=>simp [ax] at h
  | cons v r=>cases r with
   | nil=>exact ⟨d,v,rfl,by simpa [ax] using h⟩
   | cons z r=>simp [ax] at h
theorem n122 (hW:WT N) (hR:I7 N K S) (X:a<N.length) (hk:21<=(nd N a).kind/\(nd N a).kind<=32) (hV:VM N S E a (a+1+sz N a)) (hB:∀k,a<k->k<N.length->21<=(nd N k).kind->(nd N k).kind<=32->k+1+sz N k<=a+1+sz N a->qH N S res k):qH N S res a:=by
 intro M c l k z;refine EP.o Sz λs Q hQ=>?_;have hN:=hW.mM;have e6:=(hW.te.g a O X).1;have f9:=e6.le;have ga:=aZ X;have ⟨ks,D,hf⟩:=hW.jx a X;obtain ⟨en,d7⟩:∃en,en=a+1+sz N a:=⟨_,rfl⟩;have f4:a<en:=O;have m2:=λfl l k=>CP.eq (fl:=fl) (l:=l) (s:=s) (k:=k) (Au O X e6 D) rfl;have g7:=hR.tg.GN;have gM:=kR (by rw [z.len];exact X);have k0:=QF hR.tg;have d8:=hV a (zC _) O;have e2:=λt d m u2 o y p w L C=>hQ _ ⟨t,d,m,u2,o,rfl,by rw [<-d7];exact y,p,w,L,by rw [<-d7];exact C⟩;have b2:∀(t:Int) (d:List Mk) (m u2 o:Int),jA a en M d->MR N S d->0<=t->t<S.ty.length->((nd N a).kind=26\/(nd N a).kind=32->t=(aF S.ma a).type)->(m=0->c=0/\(t≠0↔PU N S a)/\XG N S a/\RF N S d (a+1) en)->∀f:List Mk,f=d.set a {aF d a with type:=t}->Q (.tu [I t,CB N S f m u2 o res]):=λt d m u2 o y p w L C h6 f j=>by subst j;refine e2 t _ m u2 o (y.trans (jA.set _ (zC _) f4)) (p.set X t hk.1 C) w L λhc=>?_;have ⟨r1,r2,r3,r4⟩:=h6 hc;refine ⟨r1,r2,λc5 i1 i2=>?_⟩;by_cases hi:c5=a;subst hi;rw [ig (by rw [p.len];exact X)];exact ⟨r3,λ_ _=>r2⟩;rw [cW O];exact r4 c5 O i2
 have b1:∀(d:List Mk),MR N S d->∀(t m u2 o:Int) (fl:Nat) (l:ae) (H:dL),(∀f:List Mk,f=d.set a {aF d a with type:=t}->PR (H (CB N S f m u2 o res) l s))->CL prog 160 [CB N S d m u2 o res,I a,I t] fl H l s:=λd h t m u2 o fl l H hk=>CP.o (ZW (by rw [h.len];exact X) (by rw [h.len];omega) t) (by rintro _ rfl;exact hk _ rfl);simp [-dG,Uv];apply ST.dc<;>intro hc;rotate_left;simp;exact e2 0 M c l k jA.refl z O O λh=>absurd h hc;have f5:((21<=(nd N a).kind/\(nd N a).kind<=25))\/(nd N a).kind=26\/(nd N a).kind=27\/(nd N a).kind=28\/(nd N a).kind=29\/(nd N a).kind=30\/(nd N a).kind=31\/(nd N a).kind=32:=O;have leaf:(nd N a).kind<=26->XG N S a/\RF N S M (a+1) en:=λh=>by
  have:ks=[]:=by apply Lz (N:=N);unfold cu dB at hf;have e:∀x:Int,(x<21\/26<x)->¬(nd N a).kind=x:=λx n h'=>O;simp only [e 1 O,e 2 O,e 3 O,e 5 O,e 4 O,e 6 O,e 7 O,e 8 O,e 9 O,e 10 O,e 11 O,e 12 O,e 13 O,e 20 O,e 27 O,e 28 O,e 29 O,e 30 O,e 31 O,e 32 O,if_false,false_or,or_false] at hf;exact hf.1
  rw [this] at D;have:=D.eC;exact ⟨λd5 _=>⟨λh=>O,λh=>O,λh=>O⟩,λc5 y p=>O⟩
 rcases f5 with h|h|h|h|h|h|h|h;have e:(nd N a).kind=21\/(nd N a).kind=22\/(nd N a).kind=23\/(nd N a).kind=24\/(nd N a).kind=25:=by omega
 have lf:=leaf O;have P:PU N S a:=PU.of O;rcases e with e|e|e|e|e <;>
 ·simp [ga,gM,m2,e,show u8.wrap 0=0 from rfl,show u8.wrap 1=1 from rfl,show u8.wrap 2=2 from rfl,show u8.wrap 3=3 from rfl,show u8.wrap 4=4 from rfl];refine b1 M z _ _ _ _ _ _ _ λf j=>?_;simp;refine b2 _ M c l k jA.refl z ?_ ?_ (λh=>by omega) (λ_=>⟨hc,⟨λ_=>P,λ_=>?_⟩,lf⟩) f j <;> omega
 have lf:=leaf O;have P:PU N S a:=PU.of O;have ht:=z.type a (.inl h);have b:=d8.1 h;simp [ga,gM,m2,h,ht];refine b1 M z _ _ _ _ _ _ _ λf j=>?_;simp;exact b2 (aF S.ma a).type M c l k jA.refl z O O (λ_=>rfl) (λ_=>⟨hc,⟨λ_=>P,λ_=>O⟩,lf⟩) f j;simp [ga,gM,m2,h];apply CP.o (n156 hW hR X h d8 z hB);intro v b;have ⟨t,d,m,u2,o,b,y,p,w,L,C⟩:=b;subst b;simp;refine b1 d p _ _ _ _ _ _ _ λf j=>?_;simp;rw [<-d7] at y C;exact b2 t d m u2 o y p w L (λh=>by omega) C f j;have R:ax N ks=[101,101]:=by have:=hf;unfold cu dB at this;simpa [h] using this
 obtain ⟨q,r,rfl,hq,hr⟩:=lR R;have F:=aR hq;have c6:=aR hr;have P:PU N S a:=PU.of O;have ⟨J,q1,q2,q3,q4⟩:=D.inv;have ⟨r0,r1,r2,r3,r4⟩:=q4.inv;have r5:=r4.eC;have f1:sz N (a+1)=sz N q:=by rw [J]
 have f2:sz N (a+1+1+sz N (a+1))=sz N r:=by rw [r0]
 have r6:r+1+sz N r=en:=O;have c9:r<N.length:=O;simp [ga,gM,m2,h];apply CP.o (hB q O O F.1 F.2 O M c l k z);intro v b;have ⟨t1,M1,c1,u1,w1,b,y,p,w,L,C⟩:=b;subst b;simp;apply CP.o (hB r O c9 c6.1 c6.2 O M1 c1 u1 w1 p);intro v b;have ⟨t2,d,m,u2,o,b,g1,g2,g3,g4,g5⟩:=b;subst b;simp;have done:∀(t g u3 i:Int),0<=t->t<S.ty.length->(g=0->m=0/\0<t/\t1≠0/\t2≠0)->∀f:List Mk,f=d.set a {aF d a with type:=t}->Q (.tu [I t,CB N S f g u3 i res]):=λt g u3 i z1 z2 z3 f j=>b2 t d g u3 i ((y.wide O O).trans (g1.wide O O)) g2 z1 z2 (λh'=>by omega) (λA=>by have ⟨y1,y2,y3,y4⟩:=z3 A;have ⟨x1,x2,x3⟩:=g5 y1;have ⟨x4,x5,x6⟩:=C x1;refine ⟨x4,⟨λ_=>P,λ_=>O⟩,λd5 b6=>?_,?_⟩;have:=b6.uniq D;subst this;refine ⟨λh'=>O,λ_ _ x n=>?_,λh'=>O⟩;simp at n;rcases n with rfl|rfl;exact x5.1 y3;exact x2.1 y4;have a1:=x6.frame g1 (.inr O);rw [show q+1+sz N q=r by omega] at a1;rw [r6] at x3;rw [<-J];exact a1.app x3) f j
 apply CP.o (n157 w L);intro v b;subst b;have d9:∀(t:Int) (x:Bool),(x=true->0<t)->∀(fl:Nat) (l:ae) (H:dL),(∀g u3 i:Int,(g=0->m=0/\0<t)->PR (H (CB N S d g u3 i res) l s))->CL prog 123 [CB N S d m u2 o res,B x,I q] fl H l s:=λt x n fl l H hk=>CP.o (kS _ O) (by intro v b;have ⟨g,u3,i,b,c8⟩:=b;subst b;exact hk g u3 i λA=>⟨(c8 A).1,n (c8 A).2⟩)
 have e1:∀(g u3 i:Int) (fl:Nat) (l:ae) (H:dL),(∀c4 u4 w4:Int,(c4=0->g=0/\t2=1)->PR (H (CB N S d c4 u4 w4 res) l s))->CL prog 123 [CB N S d g u3 i res,B (decide (t2=1)),I r] fl H l s:=λg u3 i fl l H hk=>CP.o (kS _ c9) (by intro v b;have ⟨c4,u4,w4,b,c8⟩:=b;subst b;exact hk c4 u4 w4 λA=>⟨(c8 A).1,by simpa using (c8 A).2⟩)
 simp;have kt:=k0 t1;apply ST.dc<;>intro h7;have t6:=yo hR.tg w L (.inr h7);obtain ⟨c7,rfl⟩:=yE w;have hn:c7<S.ty.length:=O;have f6:=hR.tg.ok c7 hn O;simp at h7;have g6:1<=(eZ S.ty c7).of/\(eZ S.ty c7).of<S.ty.length:=by rcases f6 with ⟨h,_⟩|⟨_,x,f8⟩;omega;exact ⟨x,f8⟩
 have gA:=iW hn;have gB:S.ty[c7]=eZ S.ty c7:=by rw [zA hn] at gA;exact yD gA
 simp [gA,gB,hn];refine ST.de (λh8 e=>?_) (λh8 e=>?_);omega;simp;refine d9 ((eZ S.ty c7).of) _ (λh=>by first|omega|(simp at h;omega)|(simp at h)) _ _ _ (λg u3 i e3=>?_);simp;refine e1 g u3 i _ _ _ (λc4 u4 w4 e4=>?_);simp;refine b1 d g2 _ _ _ _ _ _ _ (λf j=>?_);simp;exact done ((eZ S.ty c7).of) c4 u4 w4 O O (λd6=>by have ⟨d1,d2⟩:=e4 d6;have ⟨d3,d4⟩:=e3 d1;exact ⟨d3,d4,O,O⟩) f j;simp;refine ST.de (λh8 e=>?_) (λh8 e=>?_);simp;refine d9 (1) _ (λh=>by first|omega|(simp at h;omega)|(simp at h)) _ _ _ (λg u3 i e3=>?_);simp;refine e1 g u3 i _ _ _ (λc4 u4 w4 e4=>?_);simp;refine b1 d g2 _ _ _ _ _ _ _ (λf j=>?_);simp;exact done (1) c4 u4 w4 O O (λd6=>by have ⟨d1,d2⟩:=e4 d6;have ⟨d3,d4⟩:=e3 d1;exact ⟨d3,d4,O,O⟩) f j;simp;refine d9 (0) _ (λh=>by first|omega|(simp at h;omega)|(simp at h)) _ _ _ (λg u3 i e3=>?_);simp;refine e1 g u3 i _ _ _ (λc4 u4 w4 e4=>?_);simp;refine b1 d g2 _ _ _ _ _ _ _ (λf j=>?_);simp;exact done (0) c4 u4 w4 O O (λd6=>by have ⟨d1,d2⟩:=e4 d6;have ⟨d3,d4⟩:=e3 d1;exact ⟨d3,d4,O,O⟩) f j;have R:ax N ks=[101]:=by have:=hf;unfold cu dB at this;simpa [h] using this
 obtain ⟨q,rfl,hq⟩:=oH R;have F:=aR hq;have ⟨J,q1,q2,q3,q4⟩:=D.inv;have q5:=q4.eC;simp [ga,gM,m2,h];refine CP.o (n158 hW hR X h z D (hB q O O F.1 F.2 (by rw [J];omega))) ?_;intro v b;have ⟨t,d,m,u2,o,b,y,p,w,L,C⟩:=b;subst b;simp;refine b1 d p _ _ _ _ _ _ _ λf j=>?_;simp;rw [<-d7] at y C;exact b2 t d m u2 o y p w L (λh=>by omega) C f j;have R:ax N ks=[101]:=by have:=hf;unfold cu dB at this;simpa [h] using this
 obtain ⟨q,rfl,hq⟩:=oH R;have F:=aR hq;have P:PU N S a:=PU.of O;have ⟨J,q1,q2,q3,q4⟩:=D.inv;have q5:=q4.eC;rw [<-J] at q1 q2;have q6:q+1+sz N q=en:=by rw [J];omega
 simp [ga,gM,m2,h];apply CP.o (hB q O O F.1 F.2 O M c l k z);intro v b;have ⟨t,d,m,u2,o,b,y,p,w,L,C⟩:=b;subst b;have done:∀(g u3 i:Int),(g=0->m=0/\t≠0)->∀f:List Mk,f=d.set a {aF d a with type:=t}->Q (.tu [I t,CB N S f g u3 i res]):=λg u3 i z3 f j=>b2 t d g u3 i (y.wide O O) p w L (λh'=>by omega) (λA=>by have ⟨y1,y2⟩:=z3 A;have ⟨x1,x2,x3⟩:=C y1;refine ⟨x1,⟨λ_=>P,λ_=>y2⟩,λd5 b6=>?_,?_⟩;have:=b6.uniq D;subst this;refine ⟨λh'=>O,λ_ _ x n=>?_,λh'=>O⟩;simp at n;subst n;exact x2.1 y2;rw [q6] at x3;rw [<-J];exact x3) f j
 have f7:∀(x:Bool) (n:x->t≠0) (fl:Nat) (l:ae) (H:dL),(∀g u3 i:Int,(g=0->m=0/\t≠0)->PR (H (CB N S d g u3 i res) l s))->CL prog 123 [CB N S d m u2 o res,B x,I q] fl H l s:=λx n fl l H hk=>CP.o (kS x O) (by intro v b;have ⟨g,u3,i,b,c8⟩:=b;subst b;exact hk g u3 i λA=>⟨(c8 A).1,n (c8 A).2⟩)
 simp;repeat' first
  | (with_reducible refine ST.de (λh e=>?_) (λh e=>?_) <;> (try simp [e]))
  | (with_reducible refine f7 _ (by first|(intro _;omega)|(intro h;simp at h;omega)|(intro h;simp at h)) _ _ _ (λg u3 i w=>?_);simp;refine b1 d p _ _ _ _ _ _ _ (λf j=>?_);simp;exact done g u3 i w f j)
 have R:ax N ks=[101,101]:=by have:=hf;unfold cu dB at this;simpa [h] using this
 obtain ⟨q,r,rfl,hq,hr⟩:=lR R;have F:=aR hq;have c6:=aR hr;have P:PU N S a:=PU.of O;have ⟨J,q1,q2,q3,q4⟩:=D.inv;have ⟨r0,r1,r2,r3,r4⟩:=q4.inv;have r5:=r4.eC;have f1:sz N (a+1)=sz N q:=by rw [J]
 have f2:sz N (a+1+1+sz N (a+1))=sz N r:=by rw [r0]
 have r6:r+1+sz N r=en:=O;have c9:r<N.length:=O;simp [ga,gM,m2,h];apply CP.o (hB q O O F.1 F.2 O M c l k z);intro v b;have ⟨t1,M1,c1,u1,w1,b,y,p,w,L,C⟩:=b;subst b;simp;apply CP.o (hB r O c9 c6.1 c6.2 O M1 c1 u1 w1 p);intro v b;have ⟨t2,d,m,u2,o,b,g1,g2,g3,g4,g5⟩:=b;subst b;simp;refine CP.o (ZX hR.tg (Zo hR.tl) w L g3 g4 _) ?_;intro v b;have ⟨t,b,z1,z2,z3⟩:=b;subst b;simp;apply CP.o (kS _ X);intro v b;have ⟨g,u3,i,b,z4⟩:=b;subst b;simp;refine b1 d g2 _ _ _ _ _ _ _ (λf j=>?_);simp;refine b2 t d g u3 i ((y.wide O O).trans (g1.wide O O)) g2 z1 O (λh'=>by omega) (λA=>?_) f j;have ⟨y1,y2⟩:=z4 A;have y2:0<t:=by simpa using y2
 have ⟨y3,y4⟩:=z3 y2;have ⟨x1,x2,x3⟩:=g5 y1;have ⟨x4,x5,x6⟩:=C x1;refine ⟨x4,⟨λ_=>P,λ_=>O⟩,λd5 b6=>?_,?_⟩;have:=b6.uniq D;subst this;refine ⟨λh'=>O,λ_ _ x n=>?_,λh'=>O⟩;simp at n;rcases n with rfl|rfl;exact x5.1 y3;exact x2.1 y4;have a1:=x6.frame g1 (.inr O);rw [show q+1+sz N q=r by omega] at a1;rw [r6] at x3;rw [<-J];exact a1.app x3;have ht:=z.type a (.inr (.inl h));have b:=d8.2.2.2 h;have P:PU N S a:=PU.of O;have f3:ax N ks=[116]\/ax N ks=[116,101]:=by have:=hf;unfold cu dB at this;simp only [h] at this;simp at this;rcases this with ⟨x,_⟩|⟨x,_⟩;exact .inl x;exact .inr x
 rcases f3 with R|R;obtain ⟨q,rfl,hq⟩:=oH R;have F:=hL hq;have ⟨J,q1,q2,q3,q4⟩:=D.inv;have q5:=q4.eC;simp [ga,gM,m2,h,ht];refine b1 M z _ _ _ _ _ _ _ λf j=>?_;simp;refine b2 (aF S.ma a).type M c l k jA.refl z O O (λ_=>rfl) (λ_=>⟨hc,⟨λ_=>P,λ_=>O⟩,λd5 b6=>?_,λc5 i1 i2=>?_⟩) f j;have:=b6.uniq D;subst this;exact ⟨λh=>O,λh=>O,λ_ x n=>by simp at n⟩;have:=types hW O F (i:=c5) O (by rw [J];omega);exact ⟨λd5 _=>⟨λh=>O,λh=>O,λh=>O⟩,λh=>O⟩;obtain ⟨q,r,rfl,hq,hr⟩:=lR R;have F:=hL hq;have c6:=aR hr;have ⟨J,q1,q2,q3,q4⟩:=D.inv;have ⟨r0,r1,r2,r3,r4⟩:=q4.inv;have r5:=r4.eC;have f1:sz N (a+1)=sz N q:=by rw [J]
 have f2:sz N (a+1+1+sz N (a+1))=sz N r:=by rw [r0]
 have r6:r+1+sz N r=en:=O;have c9:r<N.length:=O;simp [ga,gM,m2,h,ht];apply CP.o (hB r O c9 c6.1 c6.2 O M c l k z);intro v b;have ⟨t2,d,m,u2,o,b,g1,g2,g3,g4,g5⟩:=b;subst b;simp;apply CP.o (kS _ c9);intro v b;have ⟨g,u3,i,b,z4⟩:=b;subst b;simp;refine b1 d g2 _ _ _ _ _ _ _ (λf j=>?_);simp;refine b2 (aF S.ma a).type d g u3 i (g1.wide O O) g2 O O (λ_=>rfl) (λA=>?_) f j;have ⟨y1,y2⟩:=z4 A;have y2:t2=1:=by simpa using y2
 have ⟨x1,x2,x3⟩:=g5 y1;refine ⟨x1,⟨λ_=>P,λ_=>O⟩,λd5 b6=>?_,λc5 i1 i2=>?_⟩;have:=b6.uniq D;subst this;refine ⟨λh=>O,λh=>O,λ_ x n=>?_⟩;simp at n;subst n;exact x2.1 O;by_cases hi:c5<r;have:=types hW O F (i:=c5) O O;exact ⟨λd5 _=>⟨λh=>O,λh=>O,λh=>O⟩,λh=>O⟩;exact x3 c5 O O
theorem a0c (g:WT N) (f:I7 N K S):∀(n a:Nat),N.length-a<n->a<N.length->21<=(nd N a).kind->(nd N a).kind<=32->VM N S E a (a+1+sz N a)->qH N S res a:=by
 intro n;induction n with
 | zero=>intro a h;omega
 | succ n l=>intro a h j m o b;exact n122 g f j ⟨m,o⟩ b λk p c d e q=>l k O c d e λi r s=>b i O O
end
inductive eL (N:List Nd):Nat->Prop
 | ret {a:Nat}:(nd N a).kind=11->eL N a
 | Wo {a e b d:Nat}:(nd N a).kind=9->Kc N (a+1) (a+1+sz N a) [e,b,d]->eL N b->eL N d->eL N a
 | WE {a k:Nat} {ks:aA}:(nd N a).kind=6->Kc N (a+1) (a+1+sz N a) (ks++[k])->eL N k->eL N a
def SG (N:List Nd) (S:SS) (res:Int) (i:Nat):Prop:=∀a,Kc N (i+1) (i+1+sz N i) a->
 ((nd N i).kind=7\/(nd N i).kind=8->∀k∈a.drop 1,PU N S k)/\(9<=(nd N i).kind->(nd N i).kind<=12->∀k∈a.take 1,PU N S k)/\((nd N i).kind=11->(a=[]↔res=0))
def RZ (N:List Nd) (S:SS) (res:Int) (M:List Mk) (a b:Nat):Prop:=∀i,a<=i->i<b->(XG N S i/\(21<=(nd N i).kind->(nd N i).kind<=32->((aF M i).type≠0↔PU N S i)))/\SG N S res i
section
variable {N:List Nd} {K:aA} {S:SS} {M J D:List Mk} {c l k res:Int} {a E d h at_ fl:Nat} {k':dL} {l' s:ae}
theorem RZ.frame (h:RZ N S res M a E) (c:jA b e M J) (g:e<=a\/E<=b):RZ N S res J a E:=λi d f=>by have:=h i d f;rw [c i O];exact this
theorem RZ.app (h:RZ N S res M a E) (b:RZ N S res M E d):RZ N S res M a d:=λi c e=>by by_cases f:i<E;exact h i c f;exact b i O e
theorem RZ.one (h:(nd N a).kind<21) (b:SG N S res a):RZ N S res M a (a+1):=λi c d=>by have:i=a:=O;subst this;exact ⟨⟨λe _=>⟨λh=>O,λh=>O,λh=>O⟩,λh=>O⟩,b⟩
theorem SG.of (h:(nd N a).kind<7\/12<(nd N a).kind):SG N S res a:=λb _=>⟨λh=>O,λh=>O,λh=>O⟩
theorem RF.Gf (d:WT N) (e:a<N.length) (f:15<=(nd N a).kind/\(nd N a).kind<=32) (h:RF N S M a (a+1+sz N a)):RZ N S res M a (a+1+sz N a):=λi b c=>⟨h i b c,SG.of (Zo (exprs d e f b c))⟩
theorem RZ.types (d:WT N) (e:a<N.length) (f:15<=(nd N a).kind/\(nd N a).kind<=20):RZ N S res M a (a+1+sz N a):=λi b c=>by have:=T.types d e f b c;exact ⟨⟨λg _=>⟨λh=>O,λh=>O,λh=>O⟩,λh=>O⟩,SG.of O⟩
def UX (N:List Nd) (S:SS) (res:Int) (a:Nat) (M:List Mk) (c:Int) (r:TV):Prop:=∃(e:Bool) (J:List Mk) (b l' k':Int),r= .tu [B e,CB N S J b l' k' res]/\jA a (a+1+sz N a) M J/\MR N S J/\(b=0->c=0/\RZ N S res J a (a+1+sz N a)/\(e=true->eL N a))
def Na (N:List Nd) (S:SS) (res:Int) (a:Nat):Prop:=∀(M:List Mk) (c l k:Int),MR N S M->EP prog 79 [CB N S M c l k res,I a] (UX N S res a M c)
def Fp (N:List Nd) (S:SS) (res:Int) (a:Nat):Prop:=∀(M:List Mk) (c l k:Int),MR N S M->EP prog 50 [CB N S M c l k res,I a] (UX N S res a M c)
theorem n50 (o:WT N) (q:a<N.length) (P:(nd N a).kind=6) (hB:∀k,a<k->k<N.length->7<=(nd N k).kind->(nd N k).kind<=13->k+1+sz N k<=a+1+sz N a->Na N S res k):Fp N S res a:=by
 intro M c l k K;refine EP.o e50 λs Q hQ=>?_;have hN:=o.mM;have L:=(o.te.g a O q).1;have c4:=L.le;have ⟨b,r,hf⟩:=o.jx a q;obtain ⟨t,y⟩:∃t,t=a+1+sz N a:=⟨_,rfl⟩;have m2:=λfl l k=>CP.eq (fl:=fl) (l:=l) (s:=s) (k:=k) (Au O q L r) rfl;have c5:b.length<=sz N a:=by
  have:∀{a E l},Kc N a E l->a+l.length<=E:=λh=>by induction h <;> simp <;> omega
  have:=this r;omega
 simp [b50,m2];refine LP.ind (λx:List Mk×Int×Int×Int×Bool×Nat=>b.length-x.2.2.2.2.2) (λx=>x.2.2.2.2.2<=b.length/\MR N S x.1/\∃p,Kc N p t (b.drop x.2.2.2.2.2)/\a+1<=p/\jA (a+1) p M x.1/\(x.2.1=0->c=0/\RZ N S res x.1 (a+1) p/\(x.2.2.2.2.1=true->∃j,∃h:j<b.length,j+1=x.2.2.2.2.2/\eL N b[j]))) (λx=>[.p false 0 0,.p false 1 0,.sl false (b.map bF),B x.2.2.2.2.1,I b.length,I x.2.2.2.2.2]) (λx=>[.row (ce (CB N S x.1 x.2.1 x.2.2.1 x.2.2.2.1 res)) 0,.row ek 0]) (λ_=>s) 2 (λ_ _=>⟨rfl,rfl,rfl⟩) (λx hx kk b6=>?_) (M,c,l,k,false,0) ⟨Z,K,a+1,by rw [y];exact r,O,jA.refl,λg=>⟨g,λc6 f n=>O,λh=>by cases h⟩⟩;clear K;have ⟨J,c1,X,w1,b1,j⟩:=x;have ⟨g0,v,p,d,g5,i,m⟩:=hx;simp only at g0 v d i m;have q5:=d.le;simp [BX];apply ST.dc<;>intro e;rw [yG e] at d;have ⟨C,q1,q2,q3,R⟩:=d.inv;have z:=bkk o q hf P _ (zW e);rw [C] at z;have q6:=R.le;have wj:=wn (j:=j) O;have qq:(b.map bF)[j]? =some [I p]:=by simp [e,C]
 simp [qq];apply CP.o (hB p O q2 z.1 z.2 O J c1 X w1 v);intro c7 A;have ⟨e2,M2,c2,u2,w2,A,f,n,h3⟩:=A;subst A;simp [wj];refine b6 (M2,c2,u2,w2,e2,j+1) _ _ _ Z Z rfl ⟨e,n,p+1+sz N p,R,O,(i.wide (zC _) O).trans (f.wide O (zC _)),λg=>?_⟩ W;have ⟨D,F,H⟩:=h3 g;have ⟨r4,r5,r6⟩:=m D;exact ⟨r4,(r5.frame f (.inr (zC _))).app F,λw=>⟨j,e,rfl,by rw [C];exact H w⟩⟩;have hd:b.drop j=[]:=yT O;rw [hd] at d;have c3:=d.eC;rw [c3] at g5 i m;have b2:j=b.length:=O;subst b2;simp [J4];refine hQ _ ⟨b1,J,c1,X,w1,rfl,by rw [<-y];exact i.wide O (zC _),v,λg=>?_⟩;have ⟨D,F,H⟩:=m g;refine ⟨D,?_,λw=>?_⟩;rw [<-y];exact (RZ.one O (SG.of O)).app F;have ⟨j,h,f,n⟩:=H w;refine .WE P (ks:=b.take j) ?_ n;have:b.take j++[b[j]]=b:=by rw [List.take_append_getElem,f];exact wH
 rw [this];exact r
theorem QE {a:aA} {z:Int} (h:ax N a=[i,j,z]):∃b c d,a=[b,c,d]/\bK (nd N b).kind=i/\bK (nd N c).kind=j/\bK (nd N d).kind=z:=by
 cases a with
 | nil=>simp [ax] at h
 | cons e r=>cases r with
  | nil=>simp [ax] at h
  | cons v r=>cases r with
   | nil=>simp [ax] at h
   | cons w r=>cases r with
    | nil=>exact ⟨e,v,w,rfl,by simpa [ax] using h⟩
    | cons z r=>simp [ax] at h
theorem KF (hN:N.length<=300000) {bs:aA} (c4:Kc N (a+1) e (b::bs)) (c9:∀x∈bs,Fp N S res x) (hM:MR N S M) {M0:List Mk} {A0:Prop} (hF:jA (a+1) (b+1+sz N b) M0 M) (d:c=0->A0/\RZ N S res M (a+1) (b+1+sz N b)) {Q:TV->Prop} (b2:∀(m:Bool) (f:List Mk) (t u2 J:Int),jA (a+1) e M0 f->MR N S f->(t=0->A0/\RZ N S res f (a+1) e/\(m=true->(b::bs).length=3/\∀x∈bs,eL N x))->Q (.tu [B m,CB N S f t u2 J res])) {b1:TO} (d7:e<=N.length) (K:Bool) (c3:K->(b::bs).length=3):LP (r:=RP Q s) prog s.length [2,5,6,14,15] (λk=>a5 (xe k)) [.p false 0 0,.p false 1 0,.sl false ((b::bs).map bF),B K,I 1] [.row (ce (CB N S M c l k res)) 0,.row ek 0,b1] s:=by
 have d5:(b::bs).length<=N.length:=by
  have:∀{a E l},Kc N a E l->a+l.length<=E:=λh=>by induction h <;> simp <;> omega
  have:=this c4;omega
 have ⟨q,q1,q2,q3,F⟩:=c4.inv;have d8:sz N (a+1)=sz N b:=by rw [q]
 obtain ⟨L,g⟩:∃L,L=b::bs:=⟨_,rfl⟩;have c6:∀i (h:i<L.length),1<=i->L[i]∈bs:=λi h C=>by subst g;obtain ⟨i,rfl⟩:∃j,i=j+1:=⟨i-1,O⟩;simp
 have c8:L.drop 1=bs:=by rw [g];rfl
 rw [<-g] at b2 c3 d5 ⊢;have c7:1<=L.length:=by rw [g];simp
 refine LP.ind (λx:List Mk×Int×Int×Int×Bool×Nat=>L.length-x.2.2.2.2.2) (λx=>1<=x.2.2.2.2.2/\x.2.2.2.2.2<=L.length/\MR N S x.1/\∃p,Kc N p e (L.drop x.2.2.2.2.2)/\a+1<=p/\jA (a+1) p M0 x.1/\(x.2.1=0->A0/\RZ N S res x.1 (a+1) p)/\(x.2.2.2.2.1=true->L.length=3/\(x.2.1=0->∀i (h:i<L.length),1<=i->i<x.2.2.2.2.2->eL N L[i]))) (λx=>[.p false 0 0,.p false 1 0,.sl false (L.map bF),B x.2.2.2.2.1,I x.2.2.2.2.2]) (λx=>[.row (ce (CB N S x.1 x.2.1 x.2.2.1 x.2.2.2.1 res)) 0,.row ek 0,b1]) (λ_=>s) 3 (λ_ _=>⟨rfl,rfl,rfl⟩) (λx hx kk d3=>?_) (M,c,l,k,K,1) ⟨Z,by simpa using c7,hM,b+1+sz N b,by rw [c8,q];exact F,O,hF,d,λh=>⟨c3 h,λ_ i C h2 D=>by simp at D;omega⟩⟩;clear hM hF d;have ⟨M1,c1,u1,w1,m,j⟩:=x;have ⟨b6,g0,P,p,n,g5,z,A,v⟩:=hx;simp only at b6 g0 P n z A v;have q5:=n.le;simp [xe];apply ST.dc<;>intro w;rw [yG w] at n;have ⟨q,q1,q2,q3,F⟩:=n.inv;have c5:=c9 _ (c6 j w b6);rw [q] at c5;have q6:=F.le;have wj:=wn (j:=j) O;have qq:(L.map bF)[j]? =some [I p]:=by simp [w,q]
 simp [qq];apply CP.o (c5 M1 c1 u1 w1 P);intro d9 X;have ⟨e2,f,t,u2,J,X,C,h2,D⟩:=X;subst X;have nx:∀e3,(e3=true->m/\e2)->∀l',l'.take 3=[.row (ce (CB N S f t u2 J res)) 0,.row ek 0,b1]->kk [.p false 0 0,.p false 1 0,.sl false (L.map bF),B e3,I ((j:Int)+1)] l' s:=λe3 R l' d4=>d3 (f,t,u2,J,e3,j+1) _ _ _ Z d4 rfl ⟨Z,w,h2,p+1+sz N p,F,O,(z.wide (zC _) O).trans (C.wide O (zC _)),λd=>by
   have ⟨y,H,r3⟩:=D d;have ⟨r4,r5⟩:=A y;exact ⟨r4,(r5.frame C (.inr (zC _))).app H⟩,λo=>⟨(v (R o).1).1,λd i i1 i2 i3=>by
   have ⟨y,H,r3⟩:=D d;by_cases d1:i=j;subst d1;rw [q];exact r3 (R o).2;exact (v (R o).1).2 y i i1 i2 (by simp at i3;omega)⟩⟩ W
 cases m;simp [wj];exact nx false (λh=>by cases h) _ Z;simp [wj];exact nx e2 (λh=>⟨rfl,h⟩) _ Z;have hd:L.drop j=[]:=yT O;rw [hd] at n;have d6:=n.eC;rw [d6] at g5 z A;have d2:j=L.length:=O;subst d2;simp [IJ];refine b2 m M1 c1 u1 w1 z P λd=>?_;have ⟨y,H⟩:=A d;refine ⟨y,H,λo=>⟨(v o).1,λx hx=>?_⟩⟩;obtain ⟨i,hi,rfl⟩:=yA hx;have:=(v o).2 d (i+1) (by rw [g];simp;omega) O (by rw [g];simp;omega);simpa [g] using this
theorem n79 (J:WT N) (hR:I7 N K S) (ha:a<N.length) (hk:7<=(nd N a).kind/\(nd N a).kind<=13) (hV:VM N S h a (a+1+sz N a)) (hB:∀k,a<k->k<N.length->(nd N k).kind=6->k+1+sz N k<=a+1+sz N a->Fp N S res k):Na N S res a:=by
 intro M c l k hM;refine EP.o e79 λs Q hQ=>?_;have hN:=J.mM;have f4:=(J.te.g a O ha).1;have i7:=f4.le;have ga:=aZ ha;have ⟨ks,g,hf⟩:=J.jx a ha;obtain ⟨en,c7⟩:∃en,en=a+1+sz N a:=⟨_,rfl⟩;have i5:a<en:=O;have m2:=λfl l k=>CP.eq (fl:=fl) (l:=l) (s:=s) (k:=k) (Au O ha f4 g) rfl;have f2:=hR.tg.GN;have g6:=hV a (zC _) O;have c6:∀q,a<q->q<N.length->21<=(nd N q).kind->(nd N q).kind<=32->q+1+sz N q<=a+1+sz N a->qH N S res q:=λq H E h3 h4 X=>a0c J hR _ q (yF _) E h3 h4 λf6 i1 i2=>hV f6 O O;have c4:∀e (y:List Mk) (R u2 w2:Int),jA a en M y->MR N S y->(R=0->c=0/\RZ N S res y (a+1) en/\SG N S res a/\(e=true->eL N a))->Q (.tu [B e,CB N S y R u2 w2 res]):=λe y R u2 w2 H E h3=>hQ _ ⟨e,y,R,u2,w2,rfl,by rw [<-c7];exact H,E,λhc=>by have ⟨r1,r2,r3,r4⟩:=h3 hc;rw [<-c7];exact ⟨r1,(RZ.one O r3).app r2,r4⟩⟩
 simp [-dG,b79];apply ST.dc<;>intro hc;rotate_left;simp;exact c4 false M c l k jA.refl hM λd=>absurd d hc;have g8:(nd N a).kind=7\/(nd N a).kind=8\/(nd N a).kind=9\/(nd N a).kind=10\/(nd N a).kind=11\/(nd N a).kind=12\/(nd N a).kind=13:=O;rcases g8 with d|d|d|d|d|d|d;have C:ax N ks=[116,101]:=by have:=hf;unfold cu dB at this;simpa [d] using this
 obtain ⟨q,r,rfl,m,hr⟩:=lR C;have w:=hL m;have d6:=aR hr;have ⟨t,q1,q2,q3,L⟩:=g.inv;have ⟨r0,r1,r2,r3,r4⟩:=L.inv;have r5:=r4.eC;have d1:sz N (a+1)=sz N q:=by rw [t]
 have h9:sz N (a+1+1+sz N (a+1))=sz N r:=by rw [r0]
 have r6:r+1+sz N r=en:=O;have c9:r<N.length:=O;simp [ga,m2,d];apply CP.o (c6 r O c9 d6.1 d6.2 O M c l k hM);intro v b;have ⟨t2,y,R,u2,w2,b,g1,g2,g3,g4,g5⟩:=b;subst b;have gM:=kR (by rw [g2.len];exact ha);have ht:=g2.type a O;have i9:=g6.2.2.1 d;simp [gM,ht];refine CP.o (Ei f2 (Zo hR.tl) _ _) ?_;intro v b;have ⟨x,b,f⟩:=b;subst b;simp;apply CP.o (kS _ c9);intro v b;have ⟨n,u3,o,b,P⟩:=b;subst b;simp;refine c4 false y n u3 o (g1.wide O O) g2 λp=>?_;have ⟨z,A⟩:=P p;have y3:=f A;have ⟨x1,x2,x3⟩:=g5 z;refine ⟨x1,?_,λd2 D=>?_,λd=>by cases d⟩;have a1:=RZ.types (res:=res) (S:=S) (M:=y) J O w;have a2:=x3.Gf (res:=res) J c9 O;rw [show q+1+sz N q=r by omega] at a1;rw [r6] at a2;rw [<-t];exact a1.app a2;have:=D.uniq g;subst this;refine ⟨λ_ x f=>?_,λd=>O,λd=>O⟩;simp at f;subst f;exact x2.1 O;have C:ax N ks=[101,101]/\(LJ N ks=26\/LJ N ks=28\/LJ N ks=29):=by have:=hf;unfold cu dB at this;simp only [d] at this;simp at this;exact this
 have ⟨C,f5⟩:=C;obtain ⟨q,r,rfl,m,hr⟩:=lR C;have f5:(nd N q).kind=26\/(nd N q).kind=28\/(nd N q).kind=29:=f5;have w:=aR m;have d6:=aR hr;have ⟨t,q1,q2,q3,L⟩:=g.inv;have ⟨r0,r1,r2,r3,r4⟩:=L.inv;have r5:=r4.eC;have d1:sz N (a+1)=sz N q:=by rw [t]
 have h9:sz N (a+1+1+sz N (a+1))=sz N r:=by rw [r0]
 have r6:r+1+sz N r=en:=O;have c9:r<N.length:=O;have i:q<N.length:=O;have i3:PU N S q:=PU.of O;simp [ga,m2,d];apply CP.o (c6 q O i w.1 w.2 O M c l k hM);intro v b;have ⟨F,M1,c1,u1,w1,b,H,E,h3,h4,X⟩:=b;subst b;simp;apply CP.o (c6 r O c9 d6.1 d6.2 O M1 c1 u1 w1 E);intro v b;have ⟨t2,y,R,u2,w2,b,g1,g2,g3,g4,g5⟩:=b;subst b;have d9:∀c8 d7 d8,(c8=0->R=0)->∀fl (l:ae) (kk:dL),(∀x,(x=true->0<=t2/\0<=F/\t2<S.ty.length/\F<S.ty.length/\(t2=F\/t2=5))->PR (kk (B x) l s))->CL prog 124 [CB N S y c8 d7 d8 res,I t2,I F] fl kk l s:=λc8 d7 d8 _ fl l kk hk=>CP.o (Ei f2 (Zo hR.tl) _ _) (by intro v b;have ⟨x,b,f⟩:=b;subst b;exact hk x f)
 have d3:∀c8 d7 d8,(c8=0->R=0)->∀x,(x=true->t2=F\/t2=5)->∀fl (l:ae) (kk:dL),(∀n u3 o,Q (.tu [B false,CB N S y n u3 o res])->PR (kk (CB N S y n u3 o res) l s))->CL prog 123 [CB N S y c8 d7 d8 res,B x,I r] fl kk l s:=λc8 d7 d8 g7 x f fl l kk hk=>CP.o (kS _ c9) (by intro v b;have ⟨n,u3,o,b,P⟩:=b;subst b;refine hk n u3 o (c4 false y n u3 o ((H.wide O O).trans (g1.wide O O)) g2 λp=>?_);have ⟨z,A⟩:=P p;have y3:=f A;have ⟨x1,x2,x3⟩:=g5 (g7 z);have ⟨x4,x5,x6⟩:=X x1;have tq:=x5.2 i3;refine ⟨x4,?_,λd2 D=>?_,λd=>by cases d⟩;have a1:=(x6.frame g1 (.inr O)).Gf (res:=res) J i O;have a2:=x3.Gf (res:=res) J c9 O;rw [show q+1+sz N q=r by omega] at a1;rw [r6] at a2;rw [<-t];exact a1.app a2;have:=D.uniq g;subst this;refine ⟨λ_ x f=>?_,λd=>O,λd=>O⟩;simp at f;subst f;exact x2.1 O)
 simp;have i4:(nd N q).kind=28->q+1<N.length:=λf8=>by
  have ⟨qs,h7,g9⟩:=J.jx q i;have f9:ax N qs=[101,101]:=by have:=g9;unfold cu dB at this;simpa [f8] using this
  obtain ⟨j1,j2,rfl,_,_⟩:=lR f9;exact h7.inv.2.2.1
 have gq:=aZ i;have wq:=wn (j:=q) O;have h8:(0:Int)<=(q:Int)+1:=O;refine ST.de (λe1 e=>?_) (λe1 e=>?_);simp [e,gq];refine ST.de (λe2 e'=>?_) (λe2 e'=>?_);have gM:=kR (by rw [g2.len];exact i4 e2);simp [e',gM,wq,h8];refine ST.de (λe3 f7=>?_) (λe3 f7=>?_);simp;apply CP.o (Jn 9 O i);intro v b;have ⟨c5,u5,w5,b,f3⟩:=b;subst b;simp;refine d9 _ _ _ (λd=>absurd d f3) _ _ _ (λx f=>?_);simp;refine d3 _ _ _ (λd=>absurd d f3) x (λd=>(f d).2.2.2.2) _ _ _ (λn u3 o m=>?_);simp;exact m;simp;refine d9 _ _ _ (λd=>d) _ _ _ (λx f=>?_);simp;refine d3 _ _ _ (λd=>d) x (λd=>(f d).2.2.2.2) _ _ _ (λn u3 o m=>?_);simp;exact m;simp [e'];refine d9 _ _ _ (λd=>d) _ _ _ (λx f=>?_);simp;refine d3 _ _ _ (λd=>d) x (λd=>(f d).2.2.2.2) _ _ _ (λn u3 o m=>?_);simp;exact m;simp [e];refine d9 _ _ _ (λd=>d) _ _ _ (λx f=>?_);simp;refine d3 _ _ _ (λd=>d) x (λd=>(f d).2.2.2.2) _ _ _ (λn u3 o m=>?_);simp;exact m;have e6:ax N ks=[101,98]\/ax N ks=[101,98,98]:=by have:=hf;unfold cu dB at this;simp only [d] at this;simp at this;exact this
 rcases e6 with C|C;obtain ⟨q,b1,rfl,m,b6⟩:=lR C;have b6:=jb b6;have w:=aR m;have ⟨t,q1,q2,q3,L⟩:=g.inv;have d1:sz N (a+1)=sz N q:=by rw [t]
 have i:q<N.length:=O;have q7:=L.le;have d5:=g.all;have d4:=λx f=>by have:=d5 x (yU _ f);refine hB x O O ?_ O;simp at f;subst f;exact b6
 simp [ga,m2,d];apply CP.o (c6 q O i w.1 w.2 O M c l k hM);intro v b;have ⟨F,M1,c1,u1,w1,b,H,E,h3,h4,X⟩:=b;subst b;simp;apply CP.o (kS _ i);intro v b;have ⟨n,u3,o,b,P⟩:=b;subst b;simp;rw [<-c7] at g;refine KF (A0:=c=0/\PU N S q) hN g d4 E (H.wide O (zC _)) (λp=>?_) (λe y R u2 w2 e1 e2 e3=>?_) O false Z;have ⟨z,A⟩:=P p;have y3:F=2:=by simpa using A
 have ⟨x4,x5,x6⟩:=X z;have a1:=x6.Gf (res:=res) J i O;rw [<-t];exact ⟨⟨x4,x5.1 O⟩,a1⟩;refine c4 e y R u2 w2 (e1.wide O (zC _)) e2 λp=>?_;have ⟨⟨z,A⟩,y3,y4⟩:=e3 p;refine ⟨z,y3,λd2 D=>?_,λhe=>?_⟩;rw [<-c7] at D;have:=D.uniq g;subst this;refine ⟨λd=>O,λ_ _ x f=>?_,λd=>O⟩;simp at f;subst f;exact A;have:=(y4 he).1;simp at this;obtain ⟨q,b1,b2,rfl,m,b6,f1⟩:=QE C;have b6:=jb b6;have f1:=jb f1;have w:=aR m;have ⟨t,q1,q2,q3,L⟩:=g.inv;have d1:sz N (a+1)=sz N q:=by rw [t]
 have i:q<N.length:=O;have q7:=L.le;have d5:=g.all;have d4:=λx f=>by have:=d5 x (yU _ f);refine hB x O O ?_ O;simp at f;rcases f with rfl|rfl;exact b6;exact f1
 simp [ga,m2,d];apply CP.o (c6 q O i w.1 w.2 O M c l k hM);intro v b;have ⟨F,M1,c1,u1,w1,b,H,E,h3,h4,X⟩:=b;subst b;simp;apply CP.o (kS _ i);intro v b;have ⟨n,u3,o,b,P⟩:=b;subst b;simp;rw [<-c7] at g;refine KF (A0:=c=0/\PU N S q) (M0:=M) hN g d4 E (H.wide O (zC _)) (λp=>?_) (λe y R u2 w2 e1 e2 e3=>?_) O true Z;have ⟨z,A⟩:=P p;have y3:F=2:=by simpa using A
 have ⟨x4,x5,x6⟩:=X z;have a1:=x6.Gf (res:=res) J i O;rw [<-t];exact ⟨⟨x4,x5.1 O⟩,a1⟩;refine c4 e y R u2 w2 (e1.wide O (zC _)) e2 λp=>?_;have ⟨⟨z,A⟩,y3,y4⟩:=e3 p;refine ⟨z,y3,λd2 D=>?_,λhe=>?_⟩;rw [<-c7] at D;have:=D.uniq g;subst this;refine ⟨λd=>O,λ_ _ x f=>?_,λd=>O⟩;simp at f;subst f;exact A;have:=(y4 he).2;rw [c7] at g;exact .Wo d g (this b1 Z) (this b2 Z);have C:ax N ks=[101,98]:=by have:=hf;unfold cu dB at this;simpa [d] using this
 obtain ⟨q,b1,rfl,m,b6⟩:=lR C;have b6:=jb b6;have w:=aR m;have ⟨t,q1,q2,q3,L⟩:=g.inv;have d1:sz N (a+1)=sz N q:=by rw [t]
 have i:q<N.length:=O;have q7:=L.le;have d5:=g.all;have d4:=λx f=>by have:=d5 x (yU _ f);refine hB x O O ?_ O;simp at f;subst f;exact b6
 simp [ga,m2,d];apply CP.o (c6 q O i w.1 w.2 O M c l k hM);intro v b;have ⟨F,M1,c1,u1,w1,b,H,E,h3,h4,X⟩:=b;subst b;simp;apply CP.o (kS _ i);intro v b;have ⟨n,u3,o,b,P⟩:=b;subst b;simp;rw [<-c7] at g;refine KF (a:=a) (A0:=c=0/\PU N S q) (M0:=M) hN g d4 E (H.wide O (zC _)) (λp=>?_) (λe y R u2 w2 e1 e2 e3=>?_) O false Z;have ⟨z,A⟩:=P p;have y3:F=2:=by simpa using A
 have ⟨x4,x5,x6⟩:=X z;have a1:=x6.Gf (res:=res) J i O;rw [<-t];exact ⟨⟨x4,x5.1 O⟩,a1⟩;refine c4 e y R u2 w2 (e1.wide O (zC _)) e2 λp=>?_;have ⟨⟨z,A⟩,y3,y4⟩:=e3 p;refine ⟨z,y3,λd2 D=>?_,λhe=>?_⟩;rw [<-c7] at D;have:=D.uniq g;subst this;refine ⟨λd=>O,λ_ _ x f=>?_,λd=>O⟩;simp at f;subst f;exact A;have:=(y4 he).1;simp at this;have e6:ax N ks=[]\/ax N ks=[101]:=by have:=hf;unfold cu dB at this;simp only [d] at this;simp at this;exact this
 rcases e6 with C|C;have h6:=Lz (N:=N) C;subst h6;have i6:=g.eC;simp [ga,m2,d];apply CP.o (kS _ ha);intro v b;have ⟨n,u3,o,b,P⟩:=b;subst b;simp;refine c4 true M n u3 o jA.refl hM λp=>?_;have ⟨z,A⟩:=P p;refine ⟨z,λf6 i1 i2=>O,λd2 D=>?_,λ_=>.ret d⟩;have:=D.uniq g;subst this;exact ⟨λd=>O,λ_ _ x f=>by simp at f,λ_=>⟨λ_=>by simpa using A,λ_=>rfl⟩⟩;obtain ⟨q,rfl,m⟩:=oH C;have w:=aR m;have ⟨t,q1,q2,q3,L⟩:=g.inv;have q5:=L.eC;have d1:sz N (a+1)=sz N q:=by rw [t]
 have q6:q+1+sz N q=en:=O;have i:q<N.length:=O;simp [ga,m2,d];apply CP.o (c6 q O i w.1 w.2 O M c l k hM);intro v b;have ⟨F,M1,c1,u1,w1,b,H,E,h3,h4,X⟩:=b;subst b;have d3:∀x,(x=true->res≠0/\(F=res\/F=5))->∀fl (l:ae) (kk:dL),(∀n u3 o,Q (.tu [B true,CB N S M1 n u3 o res])->PR (kk (CB N S M1 n u3 o res) l s))->CL prog 123 [CB N S M1 c1 u1 w1 res,B x,I q] fl kk l s:=λx f fl l kk hk=>CP.o (kS _ i) (by intro v b;have ⟨n,u3,o,b,P⟩:=b;subst b;refine hk n u3 o (c4 true M1 n u3 o (H.wide O O) E λp=>?_);have ⟨z,A⟩:=P p;have y3:=f A;have ⟨x4,x5,x6⟩:=X z;have pq:=x5.1 O;refine ⟨x4,?_,λd2 D=>?_,λ_=>.ret d⟩;have a1:=x6.Gf (res:=res) J i O;rw [q6] at a1;rw [<-t];exact a1;have:=D.uniq g;subst this;refine ⟨λd=>O,λ_ _ x f=>?_,λ_=>⟨λd=>by simp at d,λd=>absurd d y3.1⟩⟩;simp at f;subst f;exact pq)
 simp;refine ST.de (λe1 e=>?_) (λe1 e=>?_);simp [e];refine d3 false (λd=>by cases d) _ _ _ (λn u3 o m=>?_);simp;exact m;simp [e];refine CP.o (Ei f2 (Zo hR.tl) _ _) ?_;intro v b;have ⟨x,b,f⟩:=b;subst b;simp;refine d3 x (λd=>⟨e1,(f d).2.2.2.2⟩) _ _ _ (λn u3 o m=>?_);simp;exact m;have C:ax N ks=[101]:=by have:=hf;unfold cu dB at this;simpa [d] using this
 obtain ⟨q,rfl,m⟩:=oH C;have w:=aR m;have ⟨t,q1,q2,q3,L⟩:=g.inv;have q5:=L.eC;have d1:sz N (a+1)=sz N q:=by rw [t]
 have q6:q+1+sz N q=en:=O;have i:q<N.length:=O;simp [ga,m2,d];apply CP.o (c6 q O i w.1 w.2 O M c l k hM);intro v b;have ⟨F,M1,c1,u1,w1,b,H,E,h3,h4,X⟩:=b;subst b;simp;apply CP.o (kS _ i);intro v b;have ⟨n,u3,o,b,P⟩:=b;subst b;simp;refine c4 false M1 n u3 o (H.wide O O) E λp=>?_;have ⟨z,A⟩:=P p;have y3:F≠0:=by simpa using A
 have ⟨x4,x5,x6⟩:=X z;refine ⟨x4,?_,λd2 D=>?_,λd=>by cases d⟩;have a1:=x6.Gf (res:=res) J i O;rw [q6] at a1;rw [<-t];exact a1;have:=D.uniq g;subst this;refine ⟨λd=>O,λ_ _ x f=>?_,λd=>O⟩;simp at f;subst f;exact x5.1 y3;have C:ax N ks=[101]:=by have:=hf;unfold cu dB at this;simp only [d] at this;simp at this;exact this.1
 obtain ⟨q,rfl,m⟩:=oH C;have w:=aR m;have ⟨t,q1,q2,q3,L⟩:=g.inv;have q5:=L.eC;have d1:sz N (a+1)=sz N q:=by rw [t]
 have q6:q+1+sz N q=en:=O;have i:q<N.length:=O;simp [ga,m2,d,IK];apply CP.o (c6 q O i w.1 w.2 O M c l k hM);intro v b;have ⟨F,M1,c1,u1,w1,b,H,E,h3,h4,X⟩:=b;subst b;simp;refine c4 false M1 c1 u1 w1 (H.wide O O) E λp=>?_;have ⟨x4,x5,x6⟩:=X p;refine ⟨x4,?_,SG.of O,λd=>by cases d⟩;have a1:=x6.Gf (res:=res) J i O;rw [q6] at a1;rw [<-t];exact a1
theorem Pm (g:WT N) (p:I7 N K S):∀(n a:Nat),N.length-a<n->a<N.length->VM N S h a (a+1+sz N a)->(7<=(nd N a).kind/\(nd N a).kind<=13->Na N S res a)/\((nd N a).kind=6->Fp N S res a):=by
 intro n;induction n with
 | zero=>intro a m;omega
 | succ n l=>intro a m j e;refine ⟨λb=>n79 g p j b e λk o c d f=>(l k O c λi q r=>e i O O).2 d,λb=>n50 g j b λk o c d f s=>(l k O c λi q r=>e i O O).1 ⟨d,f⟩⟩
theorem m50 (e:WT N) (c:I7 N K S) (f:a<N.length) (d:VM N S h a (a+1+sz N a)) (b:(nd N a).kind=6):Fp N S res a:=(Pm e c _ a (yF _) f d).2 b
end
def CG (N:List Nd) (S:SS) (M:List Mk) (a i:Nat):Prop:=∃(ps:aA) (t b:Nat),FK N a ps t b/\(aN S.fn i).node=a/\(aN S.fn i).params=ps.length/\0<=(aN S.fn i).result/\(aN S.fn i).result<S.ty.length/\0<=(aN S.fn i).at_/\ps.length<=(aN S.fn i).ah/\(aN S.fn i).at_+(aN S.fn i).ah<=S.sl.length/\VM N S i b (b+1+sz N b)/\RZ N S (aN S.fn i).result M b (b+1+sz N b)/\((aN S.fn i).result≠0->eL N b)
structure NK (N:List Nd) (K:aA) (S:SS) (M:List Mk):Prop where
 wt:WT N
 res:I7 N K S
 mr:MR N S M
 cg:∀j,(h:j<K.length)->CG N S M K[j] j
def UY (N:List Nd) (r:TV):Prop:=(∃c l k:Int,c≠0/\r= .tu [pz,.ag [I c,I l,I k]])\/∃(S:SS) (K:aA) (M:List Mk),r= .tu [SS.q N {S with ma:=M},.ag [I 0,I 0,I 0]]/\NK N K S M
section
variable {N:List Nd} {K:aA} {S:SS} {M J D:List Mk} {c l k res:Int} {a E h f at_ fl:Nat} {k':dL} {l' s:ae}
theorem Ta (a:cD):jz (.sl false a)= .sl false a:=by cases a <;> rfl
theorem m27 (hN:N.length<=300000):EP prog 27 [.sl false (N.map bG)] (UY N):=by
 refine EP.o Wv λs Q z=>?_;simp [b27];apply CP.o (m48 hN);intro b2 b;rcases b with ⟨c,l,k,m,b⟩|⟨S,K,b,A,d⟩;subst b;simp [m];exact z _ (.inl ⟨c,l,k,m,rfl⟩);subst b;simp [Ta];have d5:K.length<=N.length:=by have:=lK d.ks d.kn K.length (zC _);rwa [iC (zC _)] at this
 have c5:=d.fl;refine LP.ind (λx:List Mk×Int×Int×Int×Int×Nat=>K.length-x.2.2.2.2.2) (λx=>x.2.2.2.2.2<=K.length/\MR N S x.1/\(x.2.1=0->∀j,(h:j<K.length)->j<x.2.2.2.2.2->CG N S x.1 K[j] j)) (λx=>[.sl false (N.map bG),.p false 0 0,.p false 1 0,.p false 2 0,.p false 4 0,I S.fn.length,I x.2.2.2.2.2]) (λx=>[.row pT 0,.row gJ 0,.row (ce (S.q N)) 0,.row gJ 0,.row (ce (CB N S x.1 x.2.1 x.2.2.1 x.2.2.2.1 x.2.2.2.2.1)) 0]) (λ_=>s) 5 (λ_ _=>⟨rfl,rfl,rfl⟩) (λx hx kk c8=>?_) (S.ma,0,0,0,0,0) ⟨Z,⟨d.ml,λ_ _=>rfl,λ_ _=>rfl⟩,λ_ j _ h=>by simp at h⟩;have ⟨M,c,l,k,res,i⟩:=x;have ⟨g1,w,y⟩:=hx;simp only at g1 w y;simp [C9,c5];apply ST.dc<;>intro n;have C:=wn (j:=i) O;have q:i<S.fn.length:=O;have ⟨ps,b1,E,f,v,f3,f4,f5,f6,f7,f8,J⟩:=d.fg i n;have L:=jj q;have P:S.fn[i]=aN S.fn i:=by rw [zA q] at L;exact yD L
 have b6:=(f.ks.all E Z);have d6:=d.kn _ (zW n);have d7:ps.length+2<=N.length:=by
  have:∀{a E l},Kc N a E l->a+l.length<=E:=λh=>by induction h <;> simp <;> omega
  have:=this f.ks;simp at this;omega
 have m2:=λfl l k=>CP.eq (fl:=fl) (l:=l) (s:=s) (k:=k) (Au O f.lt ((A.te.g K[i] O f.lt).1) f.ks) rfl;have q2:(ps.map bF++[[I b1],[I E]])[ps.length+1]? =some [I E]:=by rw [zH Z];simp
 have wp:i64.wrap ((ps.length:Int)+2-1)=(ps.length:Int)+1:=by rw [bW O O];omega
 have wq:(0:Int)<=(ps.length:Int)+1:=O;simp [P,q,v,m2,wp,wq];apply CP.o (m50 A d b6.2.1 J f.bk M c l k w);intro b2 b;have ⟨e,D,t,u2,w2,b,h1,h2,h3⟩:=b;subst b;have nx:∀(g u3 o:Int),(g=0->t=0/\((aN S.fn i).result≠0->e))->∀l',l'.take 5=[.row pT 0,.row gJ 0,.row (ce (S.q N)) 0,.row gJ 0,.row (ce (CB N S D g u3 o (aN S.fn i).result)) 0]->kk [.sl false (N.map bG),.p false 0 0,.p false 1 0,.p false 2 0,.p false 4 0,I S.fn.length,I ((i:Int)+1)] l' s:=λg u3 o d4 l' c9=>c8 (D,g,u3,o,(aN S.fn i).result,i+1) _ _ _ Z c9 rfl ⟨n,h2,λc4 j r R=>by have R:j<i+1:=R;have ⟨y1,y2⟩:=d4 c4;have ⟨x1,x2,x3⟩:=h3 y1;by_cases c7:j=i;subst c7;exact ⟨ps,b1,E,f,v,f3,f4,f5,f6,f7,f8,J,x2,λhr=>x3 (y2 hr)⟩;have ⟨d3,t',F,X,k2,k3,k4,k5,k6,k7,k8,k9,d1,d2⟩:=y x1 j r O;have sp:=nZ d.ks (show j<i by omega) n;have kb:=X.ks.all F Z;exact ⟨d3,t',F,X,k2,k3,k4,k5,k6,k7,k8,k9,d1.frame h1 (.inr O),d2⟩⟩ W
 simp;refine ST.de (λH p=>?_) (λH p=>?_);simp [p,C];exact nx t u2 w2 (λh=>⟨h,λh'=>absurd H h'⟩) _ Z;cases e;simp [p,P,q,v];apply CP.o (Jn 12 O f.lt);intro b2 b;have ⟨g,u3,o,b,h5⟩:=b;subst b;simp [C];exact nx g u3 o (λh=>absurd h h5) _ Z;simp [p,C];exact nx t u2 w2 (λh=>⟨h,λ_=>rfl⟩) _ Z;have c6:i=K.length:=by omega
 subst c6;simp [Jb];apply ST.dc<;>intro m;simp;exact z _ (.inr ⟨S,K,M,rfl,A,d,w,λj r=>y m j r r⟩);simp;exact z _ (.inl ⟨c,l,k,m,rfl⟩)
theorem m14 (E:aU) (g:E.size<=2000):EP prog 14 [.v (.string E)] λr=>∃N,UY N r:=by refine EP.o ND λs Q d=>?_;simp [b14];apply CP.o (m26 E g);intro v a;have ⟨N,c,l,k,a,f⟩:=a;subst a;simp;apply ST.dc<;>intro b;simp;apply CP.o (m27 f);intro v a;rcases a with ⟨c,l,k,b,a⟩|⟨S,K,M,a,e⟩;subst a;simp;exact d _ ⟨N,.inl ⟨c,l,k,b,rfl⟩⟩;subst a;simp;exact d _ ⟨N,.inr ⟨S,K,M,rfl,e⟩⟩;simp;exact d _ ⟨N,.inl ⟨c,l,k,b,rfl⟩⟩
theorem m4 (E:aU):EP prog 4 [.v (.string E)] λr=>r= .tu [pz,B false]\/∃(N:List Nd) (S:SS) (K:aA) (M:List Mk),r= .tu [SS.q N {S with ma:=M},B true]/\NK N K S M:=by refine EP.o e4 λs Q b=>?_;simp [b4];apply ST.dc<;>intro f;simp;exact b _ (.inl rfl);simp;apply CP.o (m14 E O);intro v a;have ⟨N,a⟩:=a;rcases a with ⟨c,l,k,e,a⟩|⟨S,K,M,a,d⟩;subst a;simp [e];exact b _ (.inl rfl);subst a;simp;exact b _ (.inr ⟨N,S,K,M,rfl,d⟩)
end
structure Ec where
 at_:Int
 len:Int
 params:Int
 ah:Int
 res:Int
@[simp] def rR (x:Ec):ao:=[I x.at_,I x.len,I x.params,I x.ah,I x.res]
@[simp] def eV (x:IN):ao:=[U x.op,I x.a,I x.line]
theorem inZ (L:List IN):cR 0 3 (L.map eV):=bD (λx=>rfl) L
theorem ecZ (L:List Ec):cR 0 5 (L.map rR):=bD (λx=>rfl) L
def GG (x:Tx):ao:=[.v (.string x.1)]
theorem stZ (L:List Tx):cR 0 1 (L.map GG):=bD (λx=>rfl) L
structure GS where
 ins:List IN
 fns:List Ec
 strs:List Tx
 fr:Nat
 tx:Array MapEntry
 cl:Nat
def kT (b:Nat) (L:List IN):TV:=if L=[] then .sl true [] else .m true (b+2) (L.length-1) 0 L.length 3
def GS.cs (N:List Nd) (S:SS) (b:Nat) (g:GS):ao:=[.sl false (N.map bG),.sl false (S.ma.map ic),.sl false (S.ty.map dM),.sl false (S.rc.map sR),.sl false (S.fd.map pN),.sl false (S.fn.map ju),.sl false (S.sl.map bt),.sl false (S.va.map s7),.sl false (S.pt.map vB),kT b g.ins,.sl true (g.fns.map rR),.sl true (g.strs.map GG),I g.fr,.mp b]
def AF (L:List IN):ae:=if L=[] then [] else [.aY (L.length-1) 3 (L.map eV)]
def GS.rows (N:List Nd) (S:SS) (b:Nat) (g:GS):ae:=.mp g.tx g.cl:: .row (g.cs N S b) 0::AF g.ins
def GS.mem (N:List Nd) (S:SS) (a:ae) (g:GS):ae:=a++g.rows N S a.length
section
variable {N:List Nd} {S:SS} {pre:ae} {g:GS} {fl:Nat}
theorem GS.g0:(g.mem N S pre)[pre.length]? =some (.mp g.tx g.cl):=by rw [GS.mem,gp0];rfl
theorem GS.g1:(g.mem N S pre)[pre.length+1]? =some (.row (g.cs N S pre.length) 0):=by rw [GS.mem,gp];rfl
theorem w00:i64.wrap 0=0:=bW O O
theorem GS.g2 (h:g.ins≠[]):(g.mem N S pre)[pre.length+2]? =some (.aY (g.ins.length-1) 3 (g.ins.map eV)):=by rw [GS.mem,gp];simp only [GS.rows,AF,zO h];rfl
@[simp] theorem Wn {L:List IN}:bw (kT a L)=dz (kT a L):=by unfold kT;split <;> rfl
theorem y5 {L:List IN}:eO prog 66 (dz (kT a L)) r s=some (I (L.length:Nat)):=by unfold kT;split;rename_i h;subst h;exact bX rfl;exact fW rfl
@[simp] theorem Zb {L:List IN}:dX (dz (kT a L))=dz (kT a L):=by unfold kT;split <;> rfl
theorem m39 (h:g.fr<=g.ins.length) (b:g.ins.length<1000000000000):EN prog 39 [.p true (pre.length+1) 0] (g.mem N S pre) fl λr a=>r=I ((g.ins.length-g.fr:Nat):Int)/\a=g.mem N S pre:=by
 apply EN.o e39;have w:i64.wrap ((g.ins.length:Int)-g.fr)=((g.ins.length-g.fr:Nat):Int):=by rw [bW O O];omega
 simp [b39,GS.g1,GS.cs,y5,w]
theorem hZ (P:N.length<1000000000) {e:aA} (t:a<N.length) (M:0<=(nd N a).size) (d:Kc N (a+1) (a+1+sz N a) e) (v:a+1+sz N a<=N.length):EN prog 36 [.p true (pre.length+1) 0,I a] (g.mem N S pre) fl λr F=>r= .sl false (e.map bF)/\F=g.mem N S pre:=by
 apply EN.o e36;have H:=wn (j:=a) O;have q:=aZ t;have z:(nd N a).size=(sz N a:Int):=by unfold sz;omega
 have J:i64.wrap ((a:Int)+(sz N a:Int))=(a:Int)+(sz N a:Int):=bW O O;simp [b36,H,GS.g1,GS.cs];obtain ⟨st,w⟩:∃st,st=a+1+sz N a:=⟨_,rfl⟩;rw [<-w] at d v;refine LP.ind (λx:aA×aA×Nat=>st-x.2.2) (λx=>e=x.1++x.2.1/\Kc N x.2.2 st x.2.1/\x.1.length<=x.2.2) (λx=>[I a,.sl true (x.1.map bF),.sl false (N.map bG),I x.2.2]) (λ_=>[]) (λ_=>g.mem N S pre) 0 (λ_ _=>⟨rfl,rfl,rfl⟩) (λx y k d=>?_) ([],e,a+1) ⟨rfl,d,Z⟩;have ⟨D,R,j⟩:=x;have ⟨f,c,p⟩:=y;simp only at f c p;have X:=c.le;simp [C7,q,z,J];apply ST.dc<;>intro h;cases c with
 | nil=>omega
 | cons C m E i=>
  rename_i R;have A:(nd N j).size=(sz N j:Int):=by unfold sz;omega
  have:=i.le;have K:i64.wrap (1+(sz N j:Int))=1+(sz N j:Int):=bW O O;have L:i64.wrap ((j:Int)+(1+(sz N j:Int)))=((j+1+sz N j:Nat):Int):=by rw [bW O O];omega
  have n:=λfl l s=>dO (fl:=fl) (l:=l) (s:=s) (o:=true) (b:=8) KE O O D [j] W;simp at n;simp [n,aZ m,K,A,L];refine d (D++[j],R,j+1+sz N j) _ _ _ Z rfl rfl ⟨by simp [f],i,W⟩ W
 cases c with
 | nil=>simp [J9];rw [f];simp
 | cons C m E i=>omega
theorem Zh {op a:Int} (p:c<N.length) (h:g.fr<=g.ins.length) (A:g.ins.length<100000000000) (z:fl<=pre.length):EN prog 38 [.p true (pre.length+1) 0,U op,I a,I c] (g.mem N S pre) fl λr v=>r=I ((g.ins.length-g.fr:Nat):Int)/\v=({g with ins:=g.ins++[⟨op,a,(nd N c).line⟩]}:GS).mem N S pre:=by
 apply EW.o e38;have w:i64.wrap ((g.ins.length:Int)-g.fr)=((g.ins.length-g.fr:Nat):Int):=by rw [bW O O];omega
 have C:i64.wrap ((g.ins.length:Int)+1-1)=(g.ins.length:Int):=by rw [bW O O];omega
 have m:Nat.ble fl (pre.length+1):=zX O;have q:Nat.ble fl (pre.length+2):=zX O;have j:=aZ p;by_cases d:g.ins=[];have o:g.fr=0:=by rw [d] at h;simpa using h
 have f:=λ(s:ae)=>fB (k:=true) (e:=3) (b:=24) (an:=2) (fl:=fl) (l:=[]) (s:=s) (y:=.sl true [[U op,I a,I (nd N c).line]]) rfl;simp [db,fits] at f;simp [b38,GS.mem,GS.rows,GS.cs,kT,AF,d,m,j,f,o,w00];have f:=λ(s:ae)=>kI (e:=3) (b:=24) (an:=2) (fl:=fl) (l:=[]) (s:=s) (id:=pre.length+2) (az:=g.ins.length-1) (n:=g.ins.length) (sz:=3) (y:=.sl true [[U op,I a,I (nd N c).line]]) rfl;have t:fits (g.ins.length+1) 24:=by unfold fits;exact decide_eq_true ⟨O,O⟩
 simp [b38,GS.mem,GS.rows,GS.cs,kT,AF,d,m,q,j,f,t,w,bW (x:=(g.ins.length:Int)) O O,show g.ins.length-1+1=g.ins.length by have:=List.length_pos_iff.2 d;omega,yC (l:=g.ins.map eV) (i:=g.ins.length) Z]
theorem m88 {x:IN} (h:g.fr<=g.ins.length) (o:g.ins.length<100000000000) (f:g.ins[g.fr+b]? =some x) (n:fl<=pre.length):EN prog 88 [.p true (pre.length+1) 0,I b] (g.mem N S pre) fl λr m=>r= .tu []/\m=({g with ins:=g.ins.set (g.fr+b) {x with a:=((g.ins.length-g.fr:Nat):Int)}}:GS).mem N S pre:=by
 apply EW.o e88;have i:=ab f;have d:g.ins≠[]:=λe=>by rw [e] at i;cases i
 have w:i64.wrap ((g.fr:Int)+b)=((g.fr+b:Nat):Int):=by rw [bW O O];omega
 have k:Nat.ble fl (pre.length+2):=zX O;have c:=m39 (N:=N) (S:=S) (pre:=pre) (fl:=fl) h O;simp only [GS.mem,GS.rows,GS.cs] at c;have j:(g.ins.set (g.fr+b) {x with a:=((g.ins.length-g.fr:Nat):Int)}=[])=False:=by simp [d]
 have l:(g.ins.map eV)[g.fr+b]? =some (eV x):=by rw [zJ,f];rfl
 simp [b88,GS.mem,GS.rows,GS.cs,kT,AF,d,w];simp [kT,AF,d] at c;simp [CL.q c,k,l,j,show (0:Int)<=(g.fr:Int)+b by omega,show (g.fr:Int)+b<g.ins.length by omega,show ((g.fr:Int)+b).toNat=g.fr+b by omega]
end
def Bc (t:Array MapEntry) (n:Nat):Prop:=∀e∈t.toList,∃(b:aU) (k:Nat),e.key= .string b/\e.val= .int .i64 k/\k<n
theorem QR (b:aU):∀(L:List MapEntry) (i:Nat),(∀e∈L,∃(b:aU) (k:Nat),e.key= .string b/\e.val= .int .i64 k)->Instr.findNow .string (.string b) L i=some none\/∃j,∃e∈L,Instr.findNow .string (.string b) L i=some (some (j,e.val)):=by
 intro L;induction L with
 | nil=>intro i _;exact .inl rfl
 | cons e L n=>
  intro i h;have ⟨f,k,g,o⟩:=h e (xO ..);have a:Instr.sameNow .string (.string b) e.key=some (b==f):=by rw [g];rfl
  cases d:b==f with
  | true=>exact .inr ⟨i,e,xO ..,by simp only [Instr.findNow,a,d]⟩
  | false=>rcases n (i+1) (λx m=>h x (yU _ m)) with c|⟨j,x,c,l⟩;exact .inl (by simp only [Instr.findNow,a,d];exact c);exact .inr ⟨j,x,yU _ c,by simp only [Instr.findNow,a,d];exact l⟩
section
variable {N:List Nd} {S:SS} {E:GS}
def Gh (b:aU):Option TO->eh
 | some (.mp a _)=>match Instr.findNow .string (.string b) a.toList 0 with
  | some (some (_,v))=>some (.tu [c1 v,B true])
  | some none=>some (.tu [I 0,B false])
  | none=>none
 | _=>none
theorem Ip (b:aU) (a:Nat) (l s:ae):Ft prog 115 true (.mp a) (.v (.string b)) l s=Gh b s[a]? :=by have c:prog.underlying 115=some (.map 9 3):=Y;have d:prog.underlying 9=some .string:=Y;have e:(prog.info? 3).bind (·.zero)=some (.int .i64 0):=Y;unfold Ft;rw [c];simp;unfold sD Gh;simp;rcases s[a]? with _|o;rfl;cases o <;> rfl
def K3 (b:aU) (k:Int) (d c:Nat) (l s:ae):Option TO->Option (ae×ae)
 | some (.mp a cl)=>if Nat.ble d c=true then match Instr.findNow .string (.string b) a.toList 0 with
   | some (some (i,_))=>if Instr.sameBits 10000 (((a[i]?).map (·.key)).getD (.string b)) (.string b)=true then some (l,s.set c (.mp (a.modify i λe=>{e with key:=.string b,val:=.int .i64 k}) cl)) else none
   | some none=>some (l,s.set c (.mp (a.push {key:=.string b,val:=.int .i64 k,born:=cl}) (cl+1)))
   | none=>none
  else none
 | _=>none
theorem Z9 (b:aU) (k:Int) (a c:Nat) (l s:ae):Q.KM prog 115 c (.mp a) (.v (.string b)) (I k) l s=K3 b k c a l s s[a]? :=by have d:prog.underlying 115=some (.map 9 3):=Y;have e:prog.underlying 9=some .string:=Y;unfold Q.KM;rw [d];simp;unfold zy K3;simp only [T.ob,cond_true,keyed,ak,wr,put,true_and];rcases s[a]? with _|o;rfl;cases o <;> rfl
theorem GS.Yt {t:Array MapEntry}:(E.mem N S r).set r.length (.mp t a)=({E with tx:=t,cl:=a}:GS).mem N S r:=by simp [GS.mem,GS.rows,GS.cs]
theorem ZU (b:Tx) (i:Bc E.tx E.strs.length) (z:E.strs.length<10000000):∃(k:Nat) (a:GS),k<a.strs.length/\Bc a.tx a.strs.length/\a.ins=E.ins/\a.fns=E.fns/\a.fr=E.fr/\E.strs.length<=a.strs.length/\a.strs.length<=E.strs.length+1/\
  ∀(f:ae) (c:Nat),c<=f.length->EN prog 163 [.p true (f.length+1) 0,.v (.string b.1)] (E.mem N S f) c λr x=>r=I k/\x=a.mem N S f:=by
 rcases QR b.1 E.tx.toList 0 (λe d=>by have ⟨b,k,g,h,_⟩:=i e d;exact ⟨b,k,g,h⟩) with g|⟨j,e,d,g⟩;refine ⟨E.strs.length,{E with strs:=E.strs++[b],tx:=E.tx.push {key:=.string b.1,val:=.int .i64 E.strs.length,born:=E.cl},cl:=E.cl+1},Z,λe d=>?_,rfl,rfl,rfl,Z,Z,λf c w=>?_⟩;simp at d;rcases d with d|rfl;have ⟨b,k,g,h,m⟩:=i e (Zs d);exact ⟨b,k,g,h,W⟩;exact ⟨b.1,E.strs.length,rfl,rfl,Z⟩;apply EW.o LW;have q:=zX O;have v:Nat.ble c (f.length+1):=zX O;have n:=λc l s=>dO (fl:=c) (l:=l) (s:=s) (o:=true) (b:=16) stZ O O E.strs [b] W;simp [show GG b=[.v (.string b.1)] from rfl] at n;simp [MN,GS.g1,GS.g0,GS.cs,Ip,Z9,Gh,K3,g,q,v,GS.Yt,n,bX (t:=68) rfl];simp [GS.mem,GS.rows,GS.cs,show c<=f.length+1 by omega,show GG b=[.v (.string b.1)] from rfl];have ⟨y,k,h,m,p⟩:=i e d;refine ⟨k,E,p,i,rfl,rfl,rfl,zC _,O,λf c w=>?_⟩;apply EW.o LW;simp [MN,GS.g1,GS.g0,GS.cs,Ip,Gh,g,m,c1]
structure jl (g g':GS) (X:List IN):Prop where
 ins:g'.ins=g.ins++X
 fns:g'.fns=g.fns
 fr:g'.fr=g.fr
 tx:Bc g'.tx g'.strs.length
 lo:g.strs.length<=g'.strs.length
 hi:g'.strs.length<=g.strs.length+X.length
def fR (S:SS) (i:Nat):FX:={ah:=(aN S.fn i).ah.toNat,res:=decide ((aN S.fn i).result≠0),fns:=S.fn.map λf=>(f.params.toNat,decide (f.result≠0)),ty:=S.ty.length,rc:=S.rc.length}
def vA (N:List Nd) (S:SS) (a:Nat):Nat:=if (nd N a).kind=27/\0<=(aF S.ma a).ref/\(aN S.fn (aF S.ma a).ref.toNat).result=0 then 0 else 1
theorem gb:PU N S a↔vA N S a=1:=by unfold PU vA;split <;> simp_all
def GL (N:List Nd) (S:SS) (f a:Nat) (b:aA) (c:Nat) (e x:Int):Prop:=∀(d p:Nat) (l:Int),Good (fR S f) c (λ_=>some (d+vA N S a)) (λ_=>False) p (d+(if (nd N a).kind=32 then b.drop 1 else b).length) ⟨e,x,l⟩
end
section
variable {N:List Nd} {S:SS} {M:List Mk} {g:GS} {J a:Nat} {D:aA}
structure XN (N:List Nd) (S:SS) (M:List Mk) (f a:Nat) (ks:aA):Prop where
 wt:WT N
 mr:MR N S M
 tg:TG S.ty S.rc.length
 lt:a<N.length
 k0:21<=(nd N a).kind
 k1:(nd N a).kind<=32
 kc:Kc N (a+1) (a+1+sz N a) ks
 jx:cu N a ks
 mg:MG N S f a
 xg:XG N S a
theorem XN.n0 (h:XN N S M J a D) (b:(nd N a).kind<=26):D.length=0:=by have c:=h.jx;have d:=h.k0;unfold cu dB at c;have b:(nd N a).kind=21\/(nd N a).kind=22\/(nd N a).kind=23\/(nd N a).kind=24\/(nd N a).kind=25\/(nd N a).kind=26:=O;rcases b with b|b|b|b|b|b <;> · simp [b] at c;simpa [ax] using yH List.length c
theorem XN.n1 (h:XN N S M J a D) (b:(nd N a).kind=29\/(nd N a).kind=30):D.length=1:=by have c:=h.jx;unfold cu dB at c;rcases b with b|b <;> · simp [b] at c;simpa [ax] using yH List.length c
theorem XN.n2 (h:XN N S M J a D) (b:(nd N a).kind=28\/(nd N a).kind=31):D.length=2:=by have c:=h.jx;unfold cu dB at c;rcases b with b|b <;> · simp [b] at c;simpa [ax] using yH List.length c
theorem XN.n32 (h:XN N S M J a D) (i:(nd N a).kind=32):1<=(aF S.ma a).type/\(aF S.ma a).type<S.ty.length/\
  (((eZ S.ty (aF S.ma a).type.toNat).kind=6/\0<=(eZ S.ty (aF S.ma a).type.toNat).of/\(eZ S.ty (aF S.ma a).type.toNat).of<S.rc.length/\(D.drop 1).length=0)\/((eZ S.ty (aF S.ma a).type.toNat).kind=7/\0<=(eZ S.ty (aF S.ma a).type.toNat).of/\(eZ S.ty (aF S.ma a).type.toNat).of<S.ty.length/\(D.drop 1).length=1)):=by
 have g:=h.jx;unfold cu dB at g;simp [i] at g;obtain ⟨r,s,t,v⟩:=h.mg.2.2.2 i;refine ⟨r,s,?_⟩;have m:∀k,LJ N D=k->k≠0->(nd N (a+1)).kind=k:=λk e q=>by
  have l:=h.kc;generalize a+1+sz N a=b at l;cases l with
  | nil=>exact absurd e.symm q
  | cons w x y z=>exact e
 have o:∀k:Int,(k=6\/k=7)->(eZ S.ty (aF S.ma a).type.toNat).kind=k->6<=(aF S.ma a).type.toNat:=λk i e=>by by_cases p:(aF S.ma a).type.toNat<6;have:=h.tg.base _ p;omega;omega
 have n:(aF S.ma a).type.toNat<S.ty.length:=O;rcases g with ⟨d,f⟩|⟨d,f⟩;have j:D.length=1:=by simpa [ax] using yH List.length d
 have e:=t (m 19 f O);rcases h.tg.ok _ n (o 6 (.inl rfl) e) with c|c;exact .inl ⟨e,c.2.1,c.2.2,by simp [j]⟩;omega;have j:D.length=2:=by simpa [ax] using yH List.length d
 have e:=v (m 20 f O);rcases h.tg.ok _ n (o 7 (.inr rfl) e) with c|c;omega;exact .inr ⟨e,O,c.2.2,by simp [j]⟩
abbrev SM (S:SS) (M:List Mk):SS:={S with ma:=M}
theorem a0a (h:XN N S M J a D) (L:Bc g.tx g.strs.length) (hl:g.strs.length<10000000):∃(o x:Int) (i:GS),Bc i.tx i.strs.length/\i.ins=g.ins/\i.fns=g.fns/\i.fr=g.fr/\g.strs.length<=i.strs.length/\i.strs.length<=g.strs.length+1/\GL N S J a D i.strs.length o x/\
  ∀(c:ae) (f:Nat),f<=c.length->EN prog 128 [.p true (c.length+1) 0,.ag (bG (nd N a)),.ag (ic (aF M a))] (g.mem N (SM S M) c) f λr t=>r= .tu [U o,I x]/\t=i.mem N (SM S M) c:=by
 have k0:=h.k0;have k1:=h.k1;have k:∀(o x:Int),GL N S J a D g.strs.length o x->(∀(c:ae) (f:Nat),f<=c.length->EN prog 128 [.p true (c.length+1) 0,.ag (bG (nd N a)),.ag (ic (aF M a))] (g.mem N (SM S M) c) f λr t=>r= .tu [U o,I x]/\t=g.mem N (SM S M) c)->∃(o x:Int) (i:GS),Bc i.tx i.strs.length/\i.ins=g.ins/\i.fns=g.fns/\i.fr=g.fr/\g.strs.length<=i.strs.length/\i.strs.length<=g.strs.length+1/\GL N S J a D i.strs.length o x/\
   ∀(c:ae) (f:Nat),f<=c.length->EN prog 128 [.p true (c.length+1) 0,.ag (bG (nd N a)),.ag (ic (aF M a))] (g.mem N (SM S M) c) f λr t=>r= .tu [U o,I x]/\t=i.mem N (SM S M) c:=
  λo x q z=>⟨o,x,g,L,rfl,rfl,rfl,zC _,O,q,z⟩
 have m:(nd N a).kind≠27->vA N S a=1:=λb=>zO λe=>b e.1;have b:(nd N a).kind=21\/(nd N a).kind=22\/(nd N a).kind=23\/(nd N a).kind=24\/(nd N a).kind=25\/(nd N a).kind=26\/(nd N a).kind=27\/(nd N a).kind=28\/(nd N a).kind=29\/(nd N a).kind=30\/(nd N a).kind=31\/(nd N a).kind=32:=O;rcases b with b|b|b|b|b|b|b|b|b|b|b|b;refine k 2 (nd N a).num (λd p l=>?_) λc f j=>?_;rw [m O,zO O,h.n0 O];exact .lit (.inl rfl) (λ_=>Nd.fH _) rfl;apply EW.o kX;simp [l9,b];refine k 4 (nd N a).num (λd p l=>?_) λc f j=>?_;rw [m O,zO O,h.n0 O];exact .lit (.inr (.inr (.inl rfl))) (λh=>absurd h (by decide)) rfl;apply EW.o kX;simp [l9,b];have ⟨b1,i,q,z,R,X,h5,h6,h7,h8⟩:=ZU (N:=N) (S:=SM S M) (nd N a).text L hl;refine ⟨5,b1,i,z,R,X,h5,h6,h7,λd p l=>?_,λc f j=>?_⟩;rw [m O,zO O,h.n0 O];exact .str O O rfl;apply EW.o kX;simp [l9,b];simp [CL.q (h8 c f j)];refine k 3 (nd N a).num (λd p l=>?_) λc f j=>?_;rw [m O,zO O,h.n0 O];exact .lit (.inr (.inl rfl)) (λh=>absurd h (by decide)) rfl;apply EW.o kX;simp [l9,b];refine k 6 0 (λd p l=>?_) λc f j=>?_;rw [m O,zO O,h.n0 O];exact .lit (.inr (.inr (.inr rfl))) (λh=>absurd h (by decide)) rfl;apply EW.o kX;simp [l9,b];have ⟨r1,r2,_⟩:=h.mg.1 b;refine k 7 (aF M a).ref (λd p l=>?_) λc f j=>?_;rw [m O,zO O,h.n0 O,h.mr.ref a O];exact .load r1 (by simp only [fR];omega) rfl;apply EW.o kX;simp [l9,b];have F:=h.mr.ref a O;have ⟨x1,v,_⟩:=(h.xg D h.kc).1 b;by_cases C:(aF S.ma a).ref<0;have hm:-8<=(aF S.ma a).ref:=by rcases h.mg.2.1 b with q|q <;> omega
 refine k 20 (-(aF S.ma a).ref) (λd p l=>?_) λc f j=>?_;rw [zO O,x1 C,show vA N S a=1 from zO λe=>O];exact .built O O rfl;apply EW.o kX;have b2:i64.wrap (0-(aF S.ma a).ref)= -(aF S.ma a).ref:=by rw [bW O O];omega
 have w':i64.wrap (-(aF S.ma a).ref)= -(aF S.ma a).ref:=bW O O;simp [l9,b,F,C,w'];have hm:(aF S.ma a).ref<S.fn.length:=by rcases h.mg.2.1 b with q|q <;> omega
 refine k 19 (aF S.ma a).ref (λd p l=>?_) λc f j=>?_;rw [zO O];obtain ⟨n,s⟩:∃n:Nat,(aF S.ma a).ref=n:=⟨(aF S.ma a).ref.toNat,O⟩;have v:=v O;have A:n<S.fn.length:=O;rw [s] at v ⊢;have j:(fR S J).fns[n]? =some (D.length,decide ((aN S.fn n).result≠0)):=by simp only [fR,zJ];rw [show S.fn[n]? =some (aN S.fn n) from getD_some A _];simp;have:(aN S.fn n).params=D.length:=v;omega
 refine .call j ?_;have:vA N S a=(bif decide ((aN S.fn n).result≠0) then 1 else 0):=by unfold vA;rw [s];by_cases K:(aN S.fn n).result=0;simp [b,K];simp [K]
 rw [this];apply EW.o kX;simp [l9,b,F,C];refine k 15 0 (λd p l=>?_) λc f j=>?_;rw [m O,zO O,h.n2 O];exact .index rfl;apply EW.o kX;simp [l9,b];refine k 17 (aF M a).ref (λd p l=>?_) λc f j=>?_;rw [m O,zO O,h.n1 O];exact .field rfl;apply EW.o kX;simp [l9,b];refine k 9 (nd N a).num (λd p l=>?_) λc f j=>?_;rw [m O,zO O,h.n1 O];exact .un rfl;apply EW.o kX;simp [l9,b];refine k 10 (nd N a).num (λd p l=>?_) λc f j=>?_;rw [m O,zO O,h.n2 O];exact .bin rfl;apply EW.o kX;simp [l9,b];have ⟨t1,t2,E⟩:=h.n32 b;have H:=h.mr.type a O;obtain ⟨n,s⟩:∃n:Nat,(aF S.ma a).type=n:=⟨(aF S.ma a).type.toNat,O⟩;have A:n<S.ty.length:=O;have P:S.ty[n]? =some (eZ S.ty n):=getD_some A _;rw [s] at E;simp only [yV] at E;rcases E with ⟨w,y,e3,e4⟩|⟨w,y,e3,e4⟩;refine k 22 (eZ S.ty n).of (λd p l=>?_) λc f j=>?_;rw [m O,zP b,e4];exact .mk y e3 rfl;apply EW.o kX;simp [l9,b,GS.g1,GS.cs,H,s,P,w];refine k 21 (eZ S.ty n).of (λd p l=>?_) λc f j=>?_;rw [m O,zP b,e4];exact .list y e3 rfl;apply EW.o kX;simp [l9,b,GS.g1,GS.cs,H,s,P,w]
end
section
variable {N:List Nd} {S:SS} {M:List Mk} {E:GS} {J a D h:Nat} {ks:aA} {res:Int}
structure BK (N:List Nd) (S:SS) (M:List Mk) (res:Int) (f lo hi:Nat):Prop where
 wt:WT N
 mr:MR N S M
 tg:TG S.ty S.rc.length
 vm:VM N S f lo hi
 rz:RZ N S res M lo hi
 rs:res=(aN S.fn f).result
structure GI (g:GS) (n:Nat):Prop where
 fr:g.fr<=g.ins.length
 tx:Bc g.tx g.strs.length
 sl:g.strs.length<=g.ins.length
 il:g.ins.length+4*n<=9000000
theorem GI.le (h:GI E b) (a:c<=b):GI E c:=⟨h.fr,h.tx,h.sl,by have:=h.il;omega⟩
theorem jl.gi {a:GS} {X:List IN} {n m:Nat} (h:jl E a X) (b:GI E (n+m)) (i:X.length<=4*n):GI a m:=by
 have c:=b.fr;have d:=b.sl;have f:=b.il;have g:=h.hi;have e:a.ins.length=E.ins.length+X.length:=by rw [h.ins];simp
 exact ⟨by rw [h.fr];omega,h.tx,O,O⟩
theorem jl.trans {b c:GS} {X a:List IN} (h:jl E b X) (k:jl b c a):jl E c (X++a):=by have d:=h.lo;have e:=h.hi;have f:=k.lo;have g:=k.hi;exact ⟨by rw [k.ins,h.ins,yW],k.fns.trans h.fns,k.fr.trans h.fr,k.tx,O,W⟩
theorem jl.nil (h:Bc E.tx E.strs.length):jl E E []:=⟨Z,rfl,rfl,h,zC _,Z⟩
theorem jl.put {a:GS} {X:List IN} (h:jl E a X) (x:IN):jl E {a with ins:=a.ins++[x]} (X++[x]):=by have b:=h.lo;have c:=h.hi;exact ⟨by simp only [h.ins,yW],h.fns,h.fr,h.tx,b,W⟩
def wY (N:List Nd) (S:SS) (M:List Mk) (J a:Nat):Prop:=∀E:GS,GI E (1+sz N a)->∃(c:GS) (X:List IN),jl E c X/\X.length<=4*(1+sz N a)/\(∀d,fP (fR S J) c.strs.length (E.ins.length-E.fr) X (some d) (some (d+vA N S a)))/\
 ∀(b:ae) (e:Nat),e<=b.length->EN prog 86 [.p true (b.length+1) 0,I a] (E.mem N (SM S M) b) e λr f=>r= .tu []/\f=c.mem N (SM S M) b
theorem EJ:∀(ks:aA) (D h:Nat),Kc N D h ks->(∀k∈ks,wY N S M J k/\vA N S k=1)->∀E:GS,GI E (h-D)->∃(G:Nat->GS) (X:List IN),G 0=E/\jl E (G ks.length) X/\X.length<=4*(h-D)/\
  (∀d,fP (fR S J) (G ks.length).strs.length (E.ins.length-E.fr) X (some d) (some (d+ks.length)))/\
  ∀(j k:Nat),ks[j]? =some k->∀(a:ae) (b:Nat),b<=a.length->EN prog 86 [.p true (a.length+1) 0,I k] ((G j).mem N (SM S M) a) b λr l=>r= .tu []/\l=(G (j+1)).mem N (SM S M) a:=by
 intro ks;induction ks with
 | nil=>intro D h _ _ E f;exact ⟨λ_=>E,[],rfl,.nil f.tx,Z,λd=>.nil,λj k c=>by simp at c⟩
 | cons k ks y=>
  intro D h i p E f;obtain ⟨rfl,C,F,H,s⟩:=i.inv;have:=s.le;have ⟨w,x⟩:=p k (xO ..);have q:GI E ((1+sz N k)+(h-(k+1+sz N k))):=f.le O;have ⟨g,X,a1,a2,a3,a4⟩:=w E (q.le O);have ⟨G,t,v,m,A,b3,b4⟩:=y _ h s (λk i=>p k (yU _ i)) g (a1.gi q a2);refine ⟨λj=>match j with|0=>E|j+1=>G j,X++t,rfl,a1.trans m,W,λd=>?_,λj z c=>?_⟩;have n:=(a3 d).mono m.lo;have o:=b3 (d+1);rw [x] at n;have e:g.ins.length-g.fr=E.ins.length-E.fr+X.length:=by rw [a1.ins,a1.fr];have:=f.fr;simp;omega
  rw [e] at o;have:=n.app o;simpa [Nat.add_assoc,Nat.add_comm 1] using this;cases j with
  | zero=>cases c;show ∀(a:ae) (b:Nat),b<=a.length->EN prog 86 [.p true (a.length+1) 0,I k] (E.mem N (SM S M) a) b λr l=>r= .tu []/\l=(G 0).mem N (SM S M) a;rw [v];exact a4
  | succ j=>exact b4 j z (Zs c)
theorem If (b:BK N S M res J D h) (e:a<N.length) (c:D<=a) (d:a<h) (f:21<=(nd N a).kind/\(nd N a).kind<=32):∃ks,XN N S M J a ks:=by have ⟨ks,i,g⟩:=b.wt.jx a e;exact ⟨ks,b.wt,b.mr,b.tg,e,f.1,f.2,i,g,b.vm a c d,(b.rz a c d).1.1⟩
theorem XN.push (h:XN N S M J a ks):∀k∈(if (nd N a).kind=32 then ks.drop 1 else ks),vA N S k=1/\21<=(nd N k).kind/\(nd N k).kind<=32:=by
 intro k c;have i:=h.k0;have o:=h.k1;obtain ⟨p,q,r⟩:=h.xg ks h.kc;by_cases e:(nd N a).kind=32;rw [zP e] at c;refine ⟨gb.1 (r e k c),?_⟩;have d:=h.jx;unfold cu dB at d;simp [e] at d;rcases d with ⟨g,l⟩|⟨g,l⟩;obtain ⟨i,rfl,_⟩:=oH g;simp at c;obtain ⟨i,o,rfl,_,m⟩:=lR g;simp at c;subst c;exact aR m;rw [zO e] at c;have d:=h.jx;have f:=dw (N:=N) c;have n:bK (nd N k).kind=101:=by unfold cu dB at d;have b:(nd N a).kind=21\/(nd N a).kind=22\/(nd N a).kind=23\/(nd N a).kind=24\/(nd N a).kind=25\/(nd N a).kind=26\/(nd N a).kind=27\/(nd N a).kind=28\/(nd N a).kind=29\/(nd N a).kind=30\/(nd N a).kind=31:=O;rcases b with b|b|b|b|b|b|b|b|b|b|b <;> simp [b] at d <;> first|exact d _ f|(rw [d] at f;simp at f <;> first|exact f|omega)|(rw [d.1] at f;simp at f)
 refine ⟨gb.1 ?_,aR n⟩;by_cases Wv:(nd N a).kind=27;exact (p Wv).2.2 k c;by_cases j:28<=(nd N a).kind;exact q j O k c;exfalso;have:=h.n0 O;rw [List.length_eq_zero_iff] at this;rw [this] at c;cases c
theorem ft {a:GS} {X:List IN} (h:jl E a X) (b:E.fr<=E.ins.length):a.ins.length-a.fr=E.ins.length-E.fr+X.length:=by rw [h.ins,h.fr];simp;omega
theorem iQ {M:List Mk} (h:MR N S M) (b:a<N.length):M[a]? =some (aF M a):=getD_some (by rw [h.len];exact b) _
theorem Yr (ks:aA) (h:1<=ks.length):aK prog 31 (some (I 1)) none none r s (.sl q (ks.map bF))=some (.sl false ((ks.drop 1).map bF)):=by
 have e:Ex 1 (ks.map bF):=by
  induction ks with
  | nil=>rfl
  | cons a ks g=>
   cases ks with
   | nil=>rfl
   | cons b ks=>simp [Ex];simpa [Ex] using g Z
 have c:prog.underlying 31=some (.slice 3):=Y;have d:me prog 3=some 1:=Y;unfold aK;simp only [c,d,zR,Bj,pC,yQ];have f:ks≠[]:=λe=>by rw [e] at h;simp at h
 simp [e,h,f,yC]
theorem Kc.length_le {l:aA} (h:Kc N b c l):l.length+b<=c:=by induction h <;> simp <;> omega
theorem n86 (hB:BK N S M res J D h) (A:a<N.length) (X:D<=a) (h2:a+1+sz N a<=h) (v:21<=(nd N a).kind/\(nd N a).kind<=32) (ih:∀k,a<k->k<N.length->k+1+sz N k<=a+1+sz N a->21<=(nd N k).kind->(nd N k).kind<=32->wY N S M J k):wY N S M J a:=by
 intro E P;have ⟨ks,K⟩:=If hB A X O v;have hN:=hB.wt.mM;have d8:=(hB.wt.te.g a O A).1;have f9:=d8.le;have h0:=d8.nn;have C:=K.kc;have ga:=aZ A;have gm:=iQ hB.mr A;have F:=λ(c:ae) (g:Nat)=>hZ (S:=SM S M) (pre:=c) (g:=E) (fl:=g) O A h0 C f9;have h6:(SM S M).ma=M:=rfl;by_cases c7:(nd N a).kind=31/\((nd N a).num=14\/(nd N a).num=15);have ⟨d9,g4⟩:=c7;have y:=K.push;rw [zO O] at y;obtain ⟨q,l,rfl⟩:∃q l,ks=[q,l]:=by
  have:=K.n2 (.inr d9);match ks,this with
  | [q,l],_=>exact ⟨q,l,rfl⟩
 have f1:=C.all q Z;have f2:=C.all l Z;have ⟨i1,i2,i3,i4,i5⟩:=C.inv;have ⟨i6,_,_,_,i7⟩:=i5.inv;have i8:=i7.eC;have h8:(1+sz N q)+(1+sz N l)=sz N a:=by rw [i6,i1];omega
 have ⟨p0,f4⟩:=y q Z;have ⟨p1,f5⟩:=y l Z;have ⟨e,c5,a1,a2,a3,a4⟩:=ih q O f1.2.1 f1.2.2.2 f4.1 f4.2 E (P.le O);have f:GI e (1+(1+sz N l)):=a1.gi (P.le O) a2;obtain ⟨o,ho⟩:∃o:Int,o=if (nd N a).num=15 then 14 else 13:=⟨_,rfl⟩
 have g5:o=13\/o=14:=by rw [ho];split <;> simp
 obtain ⟨H,t⟩:∃H:GS,H={e with ins:=e.ins++[⟨o,0,(nd N a).line⟩]}:=⟨_,rfl⟩;have c8:GI H (1+sz N l):=by rw [t];have:=f.fr;have:=f.sl;have:=f.il;exact ⟨W,f.tx,W,W⟩
 have ⟨b,B,p,b2,b3,b4⟩:=ih l O f2.2.1 f2.2.2.2 f5.1 f5.2 H c8;have h4:=P.fr;have h9:=ft a1 P.fr;have h5:=f.fr;have q':H.ins.length-H.fr=E.ins.length-E.fr+c5.length+1:=by rw [t];simp;omega
 have q2:b.ins.length-b.fr=E.ins.length-E.fr+c5.length+1+B.length:=by rw [ft p c8.fr,q']
 have r:b.ins=e.ins++⟨o,0,(nd N a).line⟩::B:=by rw [p.ins,t];simp
 have d6:b.fr+(e.ins.length-e.fr)=e.ins.length:=by rw [p.fr,t];simp only;omega
 have g6:∀d2,b.ins.set (b.fr+(e.ins.length-e.fr)) d2=e.ins++d2::B:=λd2=>by rw [d6,r,List.set_append_right _ _ (zC _)];simp
 refine ⟨{b with ins:=b.ins.set (b.fr+(e.ins.length-e.fr)) ⟨o,((b.ins.length-b.fr:Nat):Int),(nd N a).line⟩},c5++⟨o,((b.ins.length-b.fr:Nat):Int),(nd N a).line⟩::B,⟨(g6 _).trans (by rw [a1.ins,yW]),by simp only [p.fns,t,a1.fns],by simp only [p.fr,t,a1.fr],p.tx,?_,?_⟩,W,λd=>?_,λc g i=>?_⟩;have:=a1.lo;have:=p.lo;rw [t] at this;simp only at this ⊢;omega;have:=a1.hi;have:=p.hi;rw [t] at this;simp at this ⊢;omega;have s1:=(a3 d).mono (show e.strs.length<=b.strs.length by have:=p.lo;rw [t] at this;exact this);have s2:=b3 d;rw [p0] at s1;rw [p1,q'] at s2;rw [q2,show vA N S a=1 from zO λd5=>O];exact s1.app (s2.qB g5);apply EW.o e86;have F:=F c g;have a4:=a4 c g i;have b4:=b4 c g i;have b6:=Zh (S:=SM S M) (op:=o) (a:=0) A f.fr (Zo f.il) i;rw [<-t] at b6;have f8:b.ins.length<100000000000:=by rw [r];have:=f.il;have:=b2;simp;omega
 have d4:=m88 (N:=N) (S:=SM S M) (x:=⟨o,0,(nd N a).line⟩) (by rw [p.fr,p.ins];have:=c8.fr;simp;omega) f8 (by rw [d6,r];simp) i;simp only at d4;simp [b86,GS.g1,GS.cs,ga,gm,CL.q F];simp [zL d9,show ¬(nd N a).kind=32 by omega];have f3:∀(d1:TV) (c2:ae),d1=U o->CL prog 38 [.p true (c.length+1) 0,d1,I 0,I a] g (λg8 c2 g7=>ia 1 (.sl false [bF q,bF l]) (I 1) (λg9=>l1 g9 λh3=>af 86 [.p true (c.length+1) 0,h3] λi9=>af 88 [.p true (c.length+1) 0,g8] λv59=>rt (X:=Xc prog g (RW λc4 s'=>c4= .tu []/\s'=({b with ins:=b.ins.set (b.fr+(e.ins.length-e.fr)) ⟨o,((b.ins.length-b.fr:Nat):Int),(nd N a).line⟩}:GS).mem N (SM S M) c)) (.tu [])) c2 g7) c2 (e.mem N (SM S M) c):=by intro d1 c2 hv;subst hv;simp only [CL.q b6];simp [CL.q b4,CL.q d4]
 rcases g4 with f6|d7;have:o=13:=by rw [ho,zO O]
 simp [f6,CL.q a4];exact f3 (U 13) _ (by rw [this]);have:o=14:=by rw [ho,zP d7]
 simp [d7,CL.q a4];exact f3 (U 14) _ (by rw [this]);have y:=K.push;obtain ⟨L,z⟩:∃L,L=(if (nd N a).kind=32 then ks.drop 1 else ks):=⟨_,rfl⟩;rw [<-z] at y;obtain ⟨c3,c6⟩:∃c3,a+1<=c3/\Kc N c3 (a+1+sz N a) L:=by
  rw [z];split;cases ks with
  | nil=>exact ⟨_,zC _,C⟩
  | cons x c4=>have:=C.inv;exact ⟨_,O,this.2.2.2.2⟩
  exact ⟨_,zC _,C⟩
 have c9:=c6.2.all;have ⟨G,d3,e1,r,e3,e4,e5⟩:=EJ L c3 _ c6.2 (λk v=>⟨ih k (Zo (c9 k v)) (c9 k v).2.1 (c9 k v).2.2.2 (y k v).2.1 (y k v).2.2,(y k v).1⟩) E (P.le O);have f:=r.gi (n:=sz N a) (m:=1) (P.le O) O;have ⟨op,x,b,q1,q2,q3,q4,q5,q6,q7,q8⟩:=a0a (g:=G L.length) K f.tx (by have:=f.il;have:=f.sl;omega);have q7:=q7;unfold GL at q7;rw [<-z] at q7;refine ⟨{b with ins:=b.ins++[⟨op,x,(nd N a).line⟩]},d3++[⟨op,x,(nd N a).line⟩],⟨by simp only [q2,r.ins,yW],q3.trans r.fns,q4.trans r.fr,q1,by have:=r.lo;simp only;omega,by have:=r.hi;simp;omega⟩,W,λd=>?_,λc g i=>?_⟩;have s1:=(e4 d).mono q5;have s2:fP (fR S J) b.strs.length (E.ins.length-E.fr+d3.length) [⟨op,x,(nd N a).line⟩] (some (d+L.length)) (some (d+vA N S a)):=fP.one (q7 d _ _);exact s1.app s2;apply EW.o e86;have F:=F c g;have h7:L.length<1000000:=by have:=Kc.length_le c6.2;omega
 have w:LP prog g (RW λc4 s'=>c4= .tu []/\s'=({b with ins:=b.ins++[⟨op,x,(nd N a).line⟩]}:GS).mem N (SM S M) c) [0,1,4,5,72,73,74] (λk=>a7 (xc k))
   [.p true (c.length+1) 0,I a,.p false 0 0,.p false 1 0,.sl false (L.map bF),I L.length,I (0:Nat)] [.row (bG (nd N a)) 0,.row (ic (aF M a)) 0] ((G 0).mem N (SM S M) c):=by
  refine LP.ind (λj:Nat=>L.length-j) (λj=>j<=L.length) (λj=>[.p true (c.length+1) 0,I a,.p false 0 0,.p false 1 0,.sl false (L.map bF),I L.length,I j]) (λ_=>[.row (bG (nd N a)) 0,.row (ic (aF M a)) 0]) (λj=>(G j).mem N (SM S M) c) 2 (λ_ _=>⟨rfl,rfl,rfl⟩) (λj hj k v=>?_) 0 O;simp [xc];apply ST.dc<;>intro s;have g3:j<L.length:=by omega
  obtain ⟨kk,e6⟩:∃kk,L[j]? =some kk:=⟨_,zA g3⟩;simp [e6,CL.q (e5 j kk e6 c g i),wn (j:=j) O];exact v (j+1) _ _ _ Z rfl rfl O O;have:j=L.length:=by omega
  subst this;have q8:=q8 c g i;simp at q8;simp [ID];simp [CL.q q8];have b6:=Zh (g:=b) (S:=SM S M) (pre:=c) (fl:=g) (op:=op) (a:=x) A (by rw [q2,q4];exact f.fr) (by rw [q2];have:=f.il;omega) i;simp [CL.q b6]
 simp [b86,GS.g1,GS.cs,ga,gm,CL.q F];refine ST.de (λs d5=>?_) λs d5=>?_;rw [zP s] at z;have f7:1<=ks.length:=by have i:=K.jx;unfold cu dB at i;simp [s] at i;rcases i with ⟨X,_⟩|⟨X,_⟩;obtain ⟨q,rfl,_⟩:=oH X;simp;obtain ⟨q,l,rfl,_⟩:=lR X;simp
 rw [e1] at w;simp [Yr ks f7,<-z];exact w;rw [zO s] at z;rw [e1,z] at w;have w:=w;simp at w;simp;refine ST.de (λR e'=>?_) λR e'=>?_;have n1:¬(nd N a).num=14:=λs=>c7 ⟨R,.inl s⟩;have n2:¬(nd N a).num=15:=λs=>c7 ⟨R,.inr s⟩;simp [zL R,n1,n2];exact w;simp [zB R];exact w
theorem x86 (e:BK N S M res J D h):∀(n a:Nat),N.length-a<n->a<N.length->D<=a->a+1+sz N a<=h->21<=(nd N a).kind->(nd N a).kind<=32->wY N S M J a:=by
 intro n;induction n with
 | zero=>intro a b;omega
 | succ n g=>intro a b f c d i j;exact n86 e f c d ⟨i,j⟩ λk p l q m o=>g k O l O O m o
end
section
variable {N:List Nd} {S:SS} {M:List Mk} {g D E:GS} {J a h hi ns:Nat} {ks:aA} {res:Int} {X YY9:List IN} {d e e':di} {Γ:FX}
def GS.put (g:GS) (b a l:Int):GS:={g with ins:=g.ins++[⟨b,a,l⟩]}
@[simp] theorem rC:(g.put i j k).ins.length=g.ins.length+1:=by simp [GS.put]
@[simp] theorem YA:(g.put i j k).fr=g.fr:=rfl
@[simp] theorem OT:(g.put i j k).strs=g.strs:=rfl
@[simp] theorem Yz:(g.put i j k).tx=g.tx:=rfl
structure ko (Γ:FX) (g g':GS) (X:List IN) (d e:di):Prop where
 ad:jl g g' X
 fr:g.fr<=g.ins.length
 sg:fP Γ g'.strs.length (g.ins.length-g.fr) X d e
theorem ko.trans (h:ko Γ g D X d e) (k:ko Γ D E YY9 e e'):ko Γ g E (X++YY9) d e':=by refine ⟨h.ad.trans k.ad,h.fr,?_⟩;have b:=h.sg.mono k.ad.lo;have a:=k.sg;rw [ft h.ad h.fr] at a;exact b.app a
theorem jl.one (c:g.fr<=g.ins.length) (b:Bc g.tx g.strs.length) (a x l:Int):jl g (g.put a x l) [⟨a,x,l⟩]:=⟨rfl,rfl,rfl,b,zC _,Z⟩
theorem ko.put {a x l:Int} {k c:Nat} (b:g.fr<=g.ins.length) (e:Bc g.tx g.strs.length) (h:∀q,Good Γ g.strs.length (λ_=>some c) (λ_=>False) q k ⟨a,x,l⟩):ko Γ g (g.put a x l) [⟨a,x,l⟩] (some k) (some c):=⟨jl.one b e ..,b,fP.one (h _)⟩
theorem ko.end_ (a:g.fr<=g.ins.length) (c:Bc g.tx g.strs.length) (h:∀q,Good Γ g.strs.length (λ_=>none) (λ_=>False) q b ⟨i,j,k⟩):ko Γ g (g.put i j k) [⟨i,j,k⟩] (some b) none:=⟨jl.one a c ..,a,fP.end_ (h _)⟩
theorem ko.pt {x l:Int} (a:g.fr<=g.ins.length) (b:Bc g.tx g.strs.length):ko Γ g (g.put 1 x l) [⟨1,x,l⟩] (some 0) (some 0):=.put a b λq=>.ai rfl
theorem ko.AB (h:ko Γ g D X d e):D.fr<=D.ins.length:=by rw [h.ad.fr,h.ad.ins];have:=h.fr;simp;omega
theorem GI.put {n m:Nat} (h:GI g n) (b:m<n) (a x l:Int):GI (g.put a x l) m:=⟨by simp;have:=h.fr;omega,h.tx,by simp;have:=h.sl;omega,by simp;have:=h.il;omega⟩
def qJ (K:Nat) (N:List Nd) (S:SS) (M:List Mk) (J a:Nat):Prop:=∀g:GS,GI g (1+sz N a)->∃(D:GS) (X:List IN) (e:di),ko (fR S J) g D X (some 0) e/\X.length<=4*(1+sz N a)/\(e=none\/e=some 0)/\(eL N a->e=none)/\(X=[]\/∃x YY9,X=x::YY9/\x.op=1)/\
 ∀(b:ae) (c:Nat),c<=b.length->EN prog K [.p true (b.length+1) 0,I a] (g.mem N (SM S M) b) c λr d=>r= .tu []/\d=D.mem N (SM S M) b
theorem gO {op x:Int} {pre:ae} (c:a<N.length) (h:g.fr<=g.ins.length) (f:g.ins.length<100000000) (d:b<=pre.length):EN prog 38 [.p true (pre.length+1) 0,U op,I x,I a] (g.mem N S pre) b λr e=>r=I ((g.ins.length-g.fr:Nat):Int)/\e=(g.put op x (nd N a).line).mem N S pre:=Zh c h O d
theorem eL.kd (h:eL N a):(nd N a).kind=11\/(nd N a).kind=9\/(nd N a).kind=6:=by cases h <;> simp [*]
structure YN (N:List Nd) (S:SS) (M:List Mk) (res:Int) (f a:Nat) (ks:aA):Prop where
 wt:WT N
 mr:MR N S M
 tg:TG S.ty S.rc.length
 lt:a<N.length
 kc:Kc N (a+1) (a+1+sz N a) ks
 jx:cu N a ks
 mg:MG N S f a
 rz:(XG N S a/\(21<=(nd N a).kind->(nd N a).kind<=32->((aF M a).type≠0↔PU N S a)))/\SG N S res a
 rs:res=(aN S.fn f).result
 nn:0<=(nd N a).size
 le:a+1+sz N a<=N.length
theorem NT (b:BK N S M res J h hi) (c:a<N.length) (d:h<=a) (e:a<hi):∃ks,YN N S M res J a ks:=by have ⟨ks,i,g⟩:=b.wt.jx a c;have f:=(b.wt.te.g a O c).1;exact ⟨ks,b.wt,b.mr,b.tg,c,i,g,b.vm a d e,b.rz a d e,b.rs,f.nn,f.le⟩
theorem wY.Jl (h:wY N S M J b) (e:GI g (1+sz N b)):∃(D:GS) (X:List IN),(∀d,ko (fR S J) g D X (some d) (some (d+vA N S b)))/\X.length<=4*(1+sz N b)/\
  ∀(a:ae) (c:Nat),c<=a.length->EN prog 86 [.p true (a.length+1) 0,I b] (g.mem N (SM S M) a) c λr l=>r= .tu []/\l=D.mem N (SM S M) a:=by
 obtain ⟨D,X,f,i,j,k⟩:=h g e;exact ⟨D,X,λd=>⟨f,e.fr,j d⟩,i,k⟩
section
variable (hY:YN N S M res J a ks)
include hY
theorem Pk (c:(nd N a).kind=7) (C:∀k∈ks,21<=(nd N k).kind->(nd N k).kind<=32->wY N S M J k):qJ 58 N S M J a:=by
 intro g b;have H:=hY.wt.mM;have h:=hY.jx;unfold cu dB at h;simp [c] at h;obtain ⟨K,d,rfl,_,t⟩:=lR h;have v:=hY.kc.all d Z;have m:=aR t;have ⟨L,P,_⟩:=hY.mg.2.2.1 c;have w:=gb.1 ((hY.rz.2 _ hY.kc).1 (.inl c) d Z);have F:=hY.mr.ref a O;have z:1+sz N d<1+sz N a:=by have:=v.1;omega
 have ⟨e,A,a1,a2,a3⟩:=(C d Z m.1 m.2).Jl (b.put z 1 (aF M a).ai (nd N a).line);have D:=ko.pt (Γ:=fR S J) (x:=(aF M a).ai) (l:=(nd N a).line) b.fr b.tx;have a1:=a1 0;rw [w] at a1;have E:ko (fR S J) e (e.put 8 (aF M a).ref (nd N a).line) [⟨8,(aF M a).ref,(nd N a).line⟩] (some 1) (some 0):=.put a1.AB a1.ad.tx λq=>.store O (by simp only [fR];omega) rfl;have s:e.ins.length<100000000:=by rw [a1.ad.ins];have:=b.il;simp;omega
 refine ⟨_,_,_,D.trans (a1.trans E),W,.inr rfl,λy=>by have:=y.kd;omega,.inr ⟨_,_,rfl,rfl⟩,λn j f=>?_⟩;apply EW.o ua;have p:=aZ hY.lt;have r:=iQ hY.mr hY.lt;have i:=hZ (S:=SM S M) (pre:=n) (g:=g) (fl:=j) O hY.lt hY.nn hY.kc hY.le;have c0:=gO (S:=SM S M) (op:=1) (x:=(aF M a).ai) hY.lt b.fr (Zo b.il) f;have o:=gO (S:=SM S M) (op:=8) (x:=(aF M a).ref) hY.lt a1.AB s f;simp at i;simp [F2,GS.g1,GS.cs,CL.q i,r,CL.q c0,p,c,CL.q (a3 n j f),CL.q o]
theorem KJ (j:(nd N a).kind=12) (C:∀k∈ks,21<=(nd N k).kind->(nd N k).kind<=32->wY N S M J k):qJ 58 N S M J a:=by
 intro g b;have F:=hY.wt.mM;have f:=hY.jx;unfold cu dB at f;simp [j] at f;obtain ⟨c,rfl,t⟩:=oH f;have v:=hY.kc.all c Z;have m:=aR t;have w:=gb.1 ((hY.rz.2 _ hY.kc).2.1 O O c Z);have z:1+sz N c<1+sz N a:=by have:=v.1;omega
 have ⟨d,A,a1,a2,a3⟩:=(C c Z m.1 m.2).Jl (b.put z 1 (aF M a).ai (nd N a).line);have D:=ko.pt (Γ:=fR S J) (x:=(aF M a).ai) (l:=(nd N a).line) b.fr b.tx;have a1:=a1 0;rw [w] at a1;have s:d.ins.length<100000000:=by rw [a1.ad.ins];have:=b.il;simp;omega
 have E:ko (fR S J) d (d.put 23 0 (nd N a).line) [⟨23,0,(nd N a).line⟩] (some 1) (some 0):=.put a1.AB a1.ad.tx λq=>.print rfl;refine ⟨_,_,_,D.trans (a1.trans E),W,.inr rfl,λy=>by have:=y.kd;omega,.inr ⟨_,_,rfl,rfl⟩,λn i e=>?_⟩;apply EW.o ua;have p:=aZ hY.lt;have r:=iQ hY.mr hY.lt;have h:=hZ (S:=SM S M) (pre:=n) (g:=g) (fl:=i) O hY.lt hY.nn hY.kc hY.le;have c0:=gO (S:=SM S M) (op:=1) (x:=(aF M a).ai) hY.lt b.fr (Zo b.il) e;have o:=gO (S:=SM S M) (op:=23) (x:=0) hY.lt a1.AB s e;simp at h;simp [F2,GS.g1,GS.cs,CL.q h,r,CL.q c0,p,j,CL.q (a3 n i e),CL.q o]
theorem KK (i:(nd N a).kind=11) (n:res≠0) (E:∀k∈ks,21<=(nd N k).kind->(nd N k).kind<=32->wY N S M J k):qJ 58 N S M J a:=by
 intro g c;have K:=hY.wt.mM;have f:=hY.jx;unfold cu dB at f;simp [i] at f;have z:=λh=>n (((hY.rz.2 _ hY.kc).2.2 i).1 h);obtain ⟨b,rfl,w⟩:∃b,ks=[b]/\bK (nd N b).kind=101:=by rcases f with h|h;exact absurd (Lz h) z;exact oH h
 have y:=hY.kc.all b Z;have o:=aR w;have C:=gb.1 ((hY.rz.2 _ hY.kc).2.1 O O b Z);have D:1+sz N b<1+sz N a:=by have:=y.1;omega
 have ⟨d,A,a1,a2,a3⟩:=(E b Z o.1 o.2).Jl (c.put D 1 (aF M a).ai (nd N a).line);have F:=ko.pt (Γ:=fR S J) (x:=(aF M a).ai) (l:=(nd N a).line) c.fr c.tx;have a1:=a1 0;rw [C] at a1;have v:d.ins.length<100000000:=by rw [a1.ad.ins];have:=c.il;simp;omega
 have H:ko (fR S J) d (d.put 25 0 (nd N a).line) [⟨25,0,(nd N a).line⟩] (some 1) none:=.end_ a1.AB a1.ad.tx λq=>.ret (by simp only [fR];exact decide_eq_true (by rw [<-hY.rs];exact n));refine ⟨_,_,_,F.trans (a1.trans H),W,.inl rfl,λ_=>rfl,.inr ⟨_,_,rfl,rfl⟩,λp m e=>?_⟩;apply EW.o ua;have s:=aZ hY.lt;have t:=iQ hY.mr hY.lt;have j:=hZ (S:=SM S M) (pre:=p) (g:=g) (fl:=m) O hY.lt hY.nn hY.kc hY.le;have c0:=gO (S:=SM S M) (op:=1) (x:=(aF M a).ai) hY.lt c.fr (Zo c.il) e;have r:=gO (S:=SM S M) (op:=25) (x:=0) hY.lt a1.AB v e;simp at j;simp [F2,GS.g1,GS.cs,CL.q j,t,CL.q c0,s,i,CL.q (a3 p m e),CL.q r]
theorem Hf (h:(nd N a).kind=11) (e:res=0):qJ 58 N S M J a:=by intro g b;have s:=hY.wt.mM;have n:=((hY.rz.2 _ hY.kc).2.2 h).2 e;subst n;have o:=ko.pt (Γ:=fR S J) (x:=(aF M a).ai) (l:=(nd N a).line) b.fr b.tx;have c:GI (g.put 1 (aF M a).ai (nd N a).line) 0:=b.put O 1 (aF M a).ai (nd N a).line;have p:ko (fR S J) (g.put 1 (aF M a).ai (nd N a).line) ((g.put 1 (aF M a).ai (nd N a).line).put 26 0 (nd N a).line) [⟨26,0,(nd N a).line⟩] (some 0) none:=.end_ c.fr c.tx λq=>.leave (by simp only [fR];exact decide_eq_false (by rw [<-hY.rs];simpa using e));refine ⟨_,_,_,o.trans p,W,.inl rfl,λ_=>rfl,.inr ⟨_,_,rfl,rfl⟩,λr j f=>?_⟩;apply EW.o ua;have k:=aZ hY.lt;have m:=iQ hY.mr hY.lt;have d:=hZ (S:=SM S M) (pre:=r) (g:=g) (fl:=j) O hY.lt hY.nn hY.kc hY.le;have c0:=gO (S:=SM S M) (op:=1) (x:=(aF M a).ai) hY.lt b.fr (Zo b.il) f;have i:=gO (S:=SM S M) (op:=26) (x:=0) hY.lt c.fr (by have:=b.il;simp;omega) f;simp at d;simp [F2,GS.g1,GS.cs,CL.q d,m,CL.q c0,k,h,CL.q i]
theorem KH (t:(nd N a).kind=13) (o:∀k∈ks,21<=(nd N k).kind->(nd N k).kind<=32->((aF M k).type≠0↔PU N S k)) (K:∀k∈ks,21<=(nd N k).kind->(nd N k).kind<=32->wY N S M J k):qJ 58 N S M J a:=by
 intro g b;have P:=hY.wt.mM;have s:=hY.jx;unfold cu dB at s;simp [t] at s;obtain ⟨e,rfl,E⟩:=oH s.1;have y:=hY.kc.all e Z;have n:=aR E;have o:=o e Z n.1 n.2;have H:1+sz N e<1+sz N a:=by have:=y.1;omega
 have ⟨j,A,a1,a2,a3⟩:=(K e Z n.1 n.2).Jl (b.put H 1 (aF M a).ai (nd N a).line);have z:=ko.pt (Γ:=fR S J) (x:=(aF M a).ai) (l:=(nd N a).line) b.fr b.tx;have a1:=a1 0;have D:j.ins.length<100000000:=by rw [a1.ad.ins];have:=b.il;simp;omega
 have w:=iQ hY.mr y.2.1;by_cases m:(aF M e).type=0;have F:vA N S e=0:=by have:=λh=>o.2 h m;rw [gb] at this;unfold vA at this ⊢;split;rfl;rename_i h;rw [zO h] at this;exact absurd rfl this
 rw [F] at a1;refine ⟨_,_,_,z.trans a1,W,.inr rfl,λv=>by have:=v.kd;omega,.inr ⟨_,_,rfl,rfl⟩,λc i d=>?_⟩;apply EW.o ua;have p:=aZ hY.lt;have r:=iQ hY.mr hY.lt;have f:=hZ (S:=SM S M) (pre:=c) (g:=g) (fl:=i) O hY.lt hY.nn hY.kc hY.le;have c0:=gO (S:=SM S M) (op:=1) (x:=(aF M a).ai) hY.lt b.fr (Zo b.il) d;simp at f;simp [F2,GS.g1,GS.cs,CL.q f,r,CL.q c0,p,t,CL.q (a3 c i d),w,m];rw [gb.1 (o.1 m)] at a1;have L:ko (fR S J) j (j.put 24 0 (nd N a).line) [⟨24,0,(nd N a).line⟩] (some 1) (some 0):=.put a1.AB a1.ad.tx λq=>.pop rfl;refine ⟨_,_,_,z.trans (a1.trans L),W,.inr rfl,λv=>by have:=v.kd;omega,.inr ⟨_,_,rfl,rfl⟩,λc i d=>?_⟩;apply EW.o ua;have p:=aZ hY.lt;have r:=iQ hY.mr hY.lt;have f:=hZ (S:=SM S M) (pre:=c) (g:=g) (fl:=i) O hY.lt hY.nn hY.kc hY.le;have c0:=gO (S:=SM S M) (op:=1) (x:=(aF M a).ai) (pre:=c) hY.lt b.fr (Zo b.il) d;have C:=gO (S:=SM S M) (g:=j) (op:=24) (x:=0) (pre:=c) hY.lt a1.AB D d;simp at f;simp [F2,GS.g1,GS.cs,CL.q f,r,CL.q c0,p,t,CL.q (a3 c i d),w,m,CL.q C]
end
end
section
variable {N:List Nd} {S:SS} {M:List Mk} {E D J:GS} {h a lo hi ns:Nat} {ks:aA} {res:Int}
theorem Pj (d:YN N S M res h a ks) (e:(nd N a).kind=8) (hX:∀k∈ks,21<=(nd N k).kind->(nd N k).kind<=32->∃l,XN N S M h k l) (ih:∀k,a<k->k<N.length->k+1+sz N k<=a+1+sz N a->21<=(nd N k).kind->(nd N k).kind<=32->wY N S M h k):qJ 58 N S M h a:=by
 intro E s;have hN:=d.wt.mM;have r:=d.jx;unfold cu dB at r;simp [e] at r;have ⟨r,z⟩:=r;obtain ⟨b,m,rfl,c7,c8⟩:=lR r;have z:(nd N b).kind=26\/(nd N b).kind=28\/(nd N b).kind=29:=z;have o:=d.kc.all b Z;have P:=d.kc.all m Z;have X:=aR c7;have b1:=aR c8;have ⟨L,f⟩:=hX b Z X.1 X.2;have d2:=gb.1 ((d.rz.2 _ d.kc).1 (.inr e) m Z);have ⟨i1,i2,i3,i4,i5⟩:=d.kc.inv;have ⟨i6,_,_,_,i7⟩:=i5.inv;have i8:=i7.eC;have d7:(1+sz N b)+(1+sz N m)=sz N a:=by rw [i6,i1];omega
 have v:=f.push;rw [zO O] at v;have y:=f.kc.all;have d3:b+1+sz N b<=N.length:=by have:=d.le;have:=o.2.2.2;omega
 have A:GI (E.put 1 (aF M a).ai (nd N a).line) (sz N b+(1+sz N m)):=s.put O ..;have ⟨G,b2,e1,H,e3,e4,e5⟩:=EJ L (b+1) _ f.kc (λk e=>⟨ih k (Zo (y k e)) (y k e).2.1 (Zo (y k e)) (v k e).2.1 (v k e).2.2,(v k e).1⟩) (E.put 1 (aF M a).ai (nd N a).line) (A.le O);have J:=H.gi A O;have ⟨n,d5,a1,a2,a3⟩:=(ih m O P.2.1 P.2.2.2 b1.1 b1.2).Jl J;have p0:=ko.pt (Γ:=fR S h) (x:=(aF M a).ai) (l:=(nd N a).line) s.fr s.tx;have pX:ko (fR S h) (E.put 1 (aF M a).ai (nd N a).line) (G L.length) b2 (some 0) (some L.length):=⟨H,A.fr,by simpa using e4 0⟩;have a1:=a1 L.length;rw [d2] at a1;have c5:n.ins.length<100000000:=by rw [a1.ad.ins];have:=J.il;simp;omega
 have d6:L.length<1000000:=by have:=f.kc.length_le;omega
 obtain ⟨i,x,ln,R,c6⟩:∃(i x:Int) (ln:Nat),((nd N b).kind=26/\i=8/\x=(aF M b).ref/\ln=a\/(nd N b).kind=28/\i=16/\x=0/\ln=b\/(nd N b).kind=29/\i=18/\x=(aF M b).ref/\ln=b)/\∀q l,Good (fR S h) n.strs.length (λ_=>some 0) (λ_=>False) q (L.length+1) ⟨i,x,l⟩:=by rcases z with c|c|c;refine ⟨8,(aF M b).ref,a,.inl ⟨c,rfl,rfl,rfl⟩,λq l=>?_⟩;have ⟨r1,r2,_⟩:=f.mg.1 c;rw [f.n0 O,f.mr.ref b O];exact .store O (by simp only [fR];omega) rfl;refine ⟨16,0,b,.inr (.inl ⟨c,rfl,rfl,rfl⟩),λq l=>?_⟩;rw [f.n2 (.inl c)];exact .put rfl;refine ⟨18,(aF M b).ref,b,.inr (.inr ⟨c,rfl,rfl,rfl⟩),λq l=>?_⟩;rw [f.n1 (.inl c)];exact .GQ rfl
 have c9:ln<N.length:=by rcases R with c|c|c <;> rw [c.2.2.2] <;> first|exact d.lt|exact o.2.1
 have p2:ko (fR S h) n (n.put i x (nd N ln).line) [⟨i,x,(nd N ln).line⟩] (some (L.length+1)) (some 0):=.put a1.AB a1.ad.tx λq=>c6 q _;refine ⟨_,_,_,p0.trans (pX.trans (a1.trans p2)),W,.inr rfl,λhs=>by have:=hs.kd;omega,.inr ⟨_,_,rfl,rfl⟩,λg p t=>?_⟩;have ga:=aZ d.lt;have gm:=iQ d.mr d.lt;have c3:=aZ o.2.1;have c4:=iQ d.mr o.2.1;have D:=hZ (S:=SM S M) (pre:=g) (g:=E) (fl:=p) O d.lt d.nn d.kc d.le;have b6:=hZ (S:=SM S M) (pre:=g) (g:=E.put 1 (aF M a).ai (nd N a).line) (fl:=p) O o.2.1 o.2.2.1 f.kc d3;have c0:=gO (S:=SM S M) (op:=1) (x:=(aF M a).ai) d.lt s.fr (Zo s.il) t;have w:=gO (S:=SM S M) (g:=n) (op:=i) (x:=x) (pre:=g) c9 a1.AB c5 t;have F:EN prog 87 [.p true (g.length+1) 0,I a,.sl false ([b,m].map bF)] ((E.put 1 (aF M a).ai (nd N a).line).mem N (SM S M) g) p λd4 s'=>d4= .tu []/\s'=(n.put i x (nd N ln).line).mem N (SM S M) g:=by
  apply EW.o e87;simp [b87,CL.q b6];rw [<-e1];refine LP.ind (λj:Nat=>L.length-j) (λj=>j<=L.length) (λj=>[.p true (g.length+1) 0,I a,.sl false ([b,m].map bF),.sl false (L.map bF),I L.length,I j]) (λ_=>[]) (λj=>(G j).mem N (SM S M) g) 0 (λ_ _=>⟨rfl,rfl,rfl⟩) (λj hj k e=>?_) 0 O;simp [BI];apply ST.dc<;>intro c;have d1:j<L.length:=by omega
  obtain ⟨C,K⟩:∃C,L[j]? =some C:=⟨_,zA d1⟩;simp [K,CL.q (e5 j C K g p t),wn (j:=j) O];exact e (j+1) _ _ _ Z rfl rfl O O;have:j=L.length:=by omega
  subst this;simp [IC,CL.q (a3 g p t),GS.g1,GS.cs,c3,c4];rcases R with ⟨c,rfl,rfl,rfl⟩|⟨c,rfl,rfl,rfl⟩|⟨c,rfl,rfl,rfl⟩;simp [c,CL.q w];simp [c,CL.q w];simp [c,CL.q w]
 apply EW.o ua;simp at D F;simp [F2,GS.g1,GS.cs,CL.q D,gm,CL.q c0,ga,e,CL.q F]
end
section
variable {N:List Nd} {S:SS} {M:List Mk} {J D E h:GS} {f a lo hi ns:Nat} {ks:aA} {res:Int} {A B:List IN}
theorem land_eq (h:jl (D.put i j k) E B) (a:D.fr<=D.ins.length) (y:IN):E.ins.set (E.fr+(D.ins.length-D.fr)) y=D.ins++y::B:=by
 have e:E.fr+(D.ins.length-D.fr)=D.ins.length:=by rw [h.fr];simp;omega
 rw [e,h.ins];simp [GS.put]
theorem Ej (h:jl (D.put i j k) E B) (a:D.fr<=D.ins.length):E.ins[E.fr+(D.ins.length-D.fr)]? =some ⟨i,j,k⟩:=by
 have e:E.fr+(D.ins.length-D.fr)=D.ins.length:=by rw [h.fr];simp;omega
 rw [e,h.ins];simp [GS.put]
theorem lQ (h:jl (D.put i j k) E B) (a:D.fr<=D.ins.length):E.ins.length-E.fr=D.ins.length-D.fr+1+B.length/\E.fr<=E.ins.length:=by rw [h.ins,h.fr];simp;omega
theorem Hh {pre:ae} (h:jl (D.put i j k) E B) (a:D.fr<=D.ins.length) (f:E.ins.length<100000000) (d:b<=pre.length):EN prog 88 [.p true (pre.length+1) 0,I ((D.ins.length-D.fr:Nat):Int)] (E.mem N S pre) b λr e=>r= .tu []/\e=({E with ins:=D.ins++⟨i,((D.ins.length-D.fr+1+B.length:Nat):Int),k⟩::B}:GS).mem N S pre:=by have c:=lQ h a;have:=m88 (N:=N) (S:=S) c.2 O (Ej h a) d;simp only [land_eq h a,c.1] at this;exact this
theorem jl.land {l:Int} (h:jl J D A) (a:jl (D.put i j l) E B):jl J {E with ins:=D.ins++⟨i,k,l⟩::B} (A++⟨i,k,l⟩::B):=by have d:=h.lo;have e:=h.hi;have b:=a.lo;have c:=a.hi;simp at b c;exact ⟨by simp only [h.ins,yW],a.fns.trans h.fns,a.fr.trans h.fr,a.tx,by simp only;omega,W⟩
theorem qJ.ua (h:qJ 37 N S M f b) (m:GI J (1+sz N b)):∃(a:GS) (X:List IN) (e:di),ko (fR S f) J a X (some 0) e/\X.length<=4*(1+sz N b)/\(e=none\/e=some 0)/\(eL N b->e=none)/\
  ∀(c:ae) (d:Nat),d<=c.length->EN prog 37 [.p true (c.length+1) 0,I b] (J.mem N (SM S M) c) d λr n=>r= .tu []/\n=a.mem N (SM S M) c:=by
 obtain ⟨a,X,e,g,i,j,k,_,l⟩:=h J m;exact ⟨a,X,e,g,i,j,k,l⟩
theorem GI.of {a:GS} {X:List IN} (d:GI J b) (h:jl J a X) (k:X.length+4*c<=4*b):GI a c:=by
 have f:=d.fr;have g:=d.sl;have i:=d.il;have j:=h.hi;have e:a.ins.length=J.ins.length+X.length:=by rw [h.ins];simp
 exact ⟨by rw [h.fr];omega,h.tx,O,O⟩
theorem jl.Ap {a:GS} {X:List IN} (h:jl J a X) (b x l:Int):jl J (a.put b x l) (X++[⟨b,x,l⟩]):=h.put _
section
variable (hY:YN N S M res f a ks)
include hY
theorem Ph (r:(nd N a).kind=9) (h3:ks.length=2) (ih:∀k,a<k->k<N.length->k+1+sz N k<=a+1+sz N a->21<=(nd N k).kind->(nd N k).kind<=32->wY N S M f k) (ib:∀k,a<k->k<N.length->k+1+sz N k<=a+1+sz N a->(nd N k).kind=6->qJ 37 N S M f k):qJ 58 N S M f a:=by
 intro J b;have hN:=hY.wt.mM;have e:=hY.jx;unfold cu dB at e;simp [r] at e;have e:ax N ks=[101,98]:=by rcases e with h|h;exact h;have:=yH List.length h;simp [ax] at this;omega
 obtain ⟨g,i,rfl,P,R⟩:=lR e;have s:=hY.kc.all g Z;have t:=hY.kc.all i Z;have v:=aR P;have b6:=jb R;have ⟨i1,i2,i3,i4,i5⟩:=hY.kc.inv;have ⟨i6,_,_,_,i7⟩:=i5.inv;have i8:=i7.eC;have c7:(1+sz N g)+(1+sz N i)=sz N a:=by rw [i6,i1];omega
 have X:=gb.1 ((hY.rz.2 _ hY.kc).2.1 O O g Z);have H:GI (J.put 1 (aF M a).ai (nd N a).line) (1+sz N g):=b.put O ..;have ⟨D,A,a1,a2,a3⟩:=(ih g O s.2.1 s.2.2.2 v.1 v.2).Jl H;have a1:=a1 0;rw [X] at a1;have p0:=ko.pt (Γ:=fR S f) (x:=(aF M a).ai) (l:=(nd N a).line) b.fr b.tx;have j:=p0.trans a1;have p:GI (D.put 12 0 (nd N a).line) (1+sz N i):=b.of (j.ad.Ap ..) W;have ⟨E,B,c4,c,b2,b3,b4,b5⟩:=(ib i O t.2.1 t.2.2.2 b6).ua p;have o:=a1.AB;have c5:D.ins.length+1<=9000000:=by have:=p.il;simp at this;omega
 have L:E.ins.length<100000000:=by have:=p.il;rw [c.ad.ins];simp at this ⊢;omega
 have c6:=lQ c.ad o;have K:=ft j.ad b.fr;have c3:ko (fR S f) J {E with ins:=D.ins++⟨12,((D.ins.length-D.fr+1+B.length:Nat):Int),(nd N a).line⟩::B} ((⟨1,(aF M a).ai,(nd N a).line⟩::A)++⟨12,((D.ins.length-D.fr+1+B.length:Nat):Int),(nd N a).line⟩::B) (some 0) (some 0):=by refine ⟨jl.land j.ad c.ad,b.fr,?_⟩;have s1:=j.sg.mono (show D.strs.length<=E.strs.length from c.ad.lo);have w:=c.sg;rw [show (D.put 12 0 (nd N a).line).ins.length-(D.put 12 0 (nd N a).line).fr=D.ins.length-D.fr+1 by simp;omega] at w;have s3:=fP.br (l:=(nd N a).line) w b3;have:=s1.app (by rw [<-K];exact s3);exact this
 refine ⟨_,_,_,c3,W,.inr rfl,λhs=>?_,.inr ⟨_,_,rfl,rfl⟩,λm n d=>?_⟩;exfalso;cases hs with
 | ret h=>omega
 | Wo h F _ _=>have:=F.uniq hY.kc;simp at this
 | WE h _ _=>omega
 apply EW.o ua;have z:=aZ hY.lt;have C:=iQ hY.mr hY.lt;have q:=hZ (S:=SM S M) (pre:=m) (g:=J) (fl:=n) O hY.lt hY.nn hY.kc hY.le;have c0:=gO (S:=SM S M) (op:=1) (x:=(aF M a).ai) hY.lt b.fr (Zo b.il) d;have c1:=gO (S:=SM S M) (op:=12) (x:=0) hY.lt o O d;have y:=Hh (S:=SM S M) (N:=N) (pre:=m) c.ad o L d;simp at q;simp [F2,GS.g1,GS.cs,CL.q q,C,CL.q c0,z,r,CL.q (a3 m n d),CL.q c1,CL.q (b5 m n d),CL.q y]
theorem KG (hk:(nd N a).kind=9) (h3:ks.length≠2) (ih:∀k,a<k->k<N.length->k+1+sz N k<=a+1+sz N a->21<=(nd N k).kind->(nd N k).kind<=32->wY N S M f k) (ib:∀k,a<k->k<N.length->k+1+sz N k<=a+1+sz N a->(nd N k).kind=6->qJ 37 N S M f k):qJ 58 N S M f a:=by
 intro J c;have hN:=hY.wt.mM;have n:=hY.jx;unfold cu dB at n;simp [hk] at n;have n:ax N ks=[101,98,98]:=by rcases n with d|d;have:=yH List.length d;simp [ax] at this;omega;exact d
 obtain ⟨o,t,v,rfl,e1,e6,f1⟩:=QE n;have c6:=hY.kc.all o Z;have c7:=hY.kc.all t Z;have c8:=hY.kc.all v Z;have c9:=aR e1;have f5:=jb e6;have f6:=jb f1;have ⟨i1,i2,i3,i4,i5⟩:=hY.kc.inv;have ⟨i6,_,_,_,i7⟩:=i5.inv;have ⟨i9,_,_,_,f7⟩:=i7.inv;have i8:=f7.eC;have g7:(1+sz N o)+(1+sz N t)+(1+sz N v)=sz N a:=by rw [i9,i6,i1];omega
 have f4:=gb.1 ((hY.rz.2 _ hY.kc).2.1 O O o Z);have d8:GI (J.put 1 (aF M a).ai (nd N a).line) (1+sz N o):=c.put O ..;have ⟨D,A,a1,a2,a3⟩:=(ih o O c6.2.1 c6.2.2.2 c9.1 c9.2).Jl d8;have a1:=a1 0;rw [f4] at a1;have p0:=ko.pt (Γ:=fR S f) (x:=(aF M a).ai) (l:=(nd N a).line) c.fr c.tx;have w:=p0.trans a1;have z:GI (D.put 12 0 (nd N a).line) (1+sz N t):=c.of (w.ad.Ap ..) W;have ⟨E,B,e,m,b2,b3,b4,b5⟩:=(ib t O c7.2.1 c7.2.2.2 f5).ua z;have y:=a1.AB;have g5:D.ins.length+1<=9000000:=by have:=z.il;simp at this;omega
 have f2:=lQ m.ad y;have g6:E.ins.length<9100000:=by have:=z.il;rw [m.ad.ins];simp at this ⊢;omega
 have b6:=ft w.ad c.fr;have bB:jl (D.put 12 0 (nd N a).line) (E.put 11 0 (nd N a).line) (B++[⟨11,0,(nd N a).line⟩]):=m.ad.Ap ..;obtain ⟨j,d5⟩:∃j:Int,j=((D.ins.length-D.fr+1+(B++[(⟨11,0,(nd N a).line⟩:IN)]).length:Nat):Int):=⟨_,rfl⟩;obtain ⟨b,C⟩:∃b:GS,b={E with ins:=D.ins++⟨12,j,(nd N a).line⟩::B}:=⟨_,rfl⟩;have p:jl J b (([⟨1,(aF M a).ai,(nd N a).line⟩]++A)++⟨12,j,(nd N a).line⟩::B):=by rw [C];exact jl.land w.ad m.ad
 have e2:({E.put 11 0 (nd N a).line with ins:=D.ins++⟨12,j,(nd N a).line⟩::(B++[⟨11,0,(nd N a).line⟩])}:GS)=b.put 11 0 (nd N a).line:=by rw [C];simp [GS.put]
 have d7:b.fr<=b.ins.length:=by rw [p.fr,p.ins];have:=c.fr;simp;omega
 have f3:b.ins.length-b.fr=D.ins.length-D.fr+1+B.length:=by rw [ft p c.fr];simp at b6 ⊢;omega
 have X:GI (b.put 11 0 (nd N a).line) (1+sz N v):=c.of (p.Ap ..) W;have ⟨h,q,e',c1,c2,K,c4,c5⟩:=(ib v O c8.2.1 c8.2.2.2 f6).ua X;have d9:h.ins.length<100000000:=by have:=X.il;rw [c1.ad.ins];simp at this ⊢;omega
 have f8:ko (fR S f) J {h with ins:=b.ins++⟨11,((b.ins.length-b.fr+1+q.length:Nat):Int),(nd N a).line⟩::q} ((([⟨1,(aF M a).ai,(nd N a).line⟩]++A)++⟨12,j,(nd N a).line⟩::B)++⟨11,((b.ins.length-b.fr+1+q.length:Nat):Int),(nd N a).line⟩::q) (some 0) (if e=none then e' else some 0):=by
  refine ⟨jl.land p c1.ad,c.fr,?_⟩;have f9:=c1.ad.lo;have g8:b.strs.length=E.strs.length:=by rw [C]
  have g4:=m.ad.lo;simp at f9 g4;have s1:=w.sg.mono (show D.strs.length<=h.strs.length by omega);have F:=m.sg.mono (show E.strs.length<=h.strs.length by omega);have H:=c1.sg;rw [show (D.put 12 0 (nd N a).line).ins.length-(D.put 12 0 (nd N a).line).fr=D.ins.length-D.fr+1 by simp;omega] at F;rw [show (b.put 11 0 (nd N a).line).ins.length-(b.put 11 0 (nd N a).line).fr=D.ins.length-D.fr+1+B.length+1 by simp;omega] at H;have hv:j=((D.ins.length-D.fr+1+B.length+1:Nat):Int):=by rw [d5];simp;omega
  rw [hv,f3,yW];apply s1.app;rw [<-b6];by_cases s:e=none;rw [zP s];exact fP.br2 F H (.inl s);rw [zO s];have d6:e=some 0:=by rcases b3 with d|d;exact absurd d s;exact d
  exact fP.br2 F (H.wk1 K) (.inr ⟨d6,rfl⟩)
 refine ⟨_,_,_,f8,W,?_,λhs=>?_,.inr ⟨_,_,rfl,rfl⟩,λi r g=>?_⟩;split;exact K;exact .inr rfl;cases hs with
 | ret d=>omega
 | Wo d hc q1 q2=>have:=hc.uniq hY.kc;simp at this;obtain ⟨rfl,rfl,rfl⟩:=this;rw [zP (b4 q1)];exact c4 q2
 | WE d _ _=>omega
 apply EW.o ua;have ga:=aZ hY.lt;have gm:=iQ hY.mr hY.lt;have L:=hZ (S:=SM S M) (pre:=i) (g:=J) (fl:=r) O hY.lt hY.nn hY.kc hY.le;have c0:=gO (S:=SM S M) (op:=1) (x:=(aF M a).ai) hY.lt c.fr (Zo c.il) g;have d1:=gO (S:=SM S M) (op:=12) (x:=0) hY.lt y O g;have d2:=gO (S:=SM S M) (g:=E) (op:=11) (x:=0) (pre:=i) hY.lt f2.2 O g;have P:=Hh (S:=SM S M) (N:=N) (pre:=i) bB y W g;rw [<-d5,e2] at P;have R:=Hh (S:=SM S M) (N:=N) (pre:=i) c1.ad d7 d9 g;rw [show b.ins.length-b.fr=E.ins.length-E.fr by omega] at R;simp at L;rw [show b.ins.length-b.fr=E.ins.length-E.fr by omega];simp [F2,GS.g1,GS.cs,CL.q L,gm,CL.q c0,ga,hk,CL.q (a3 i r g),CL.q d1,CL.q (b5 i r g),CL.q d2,CL.q P,CL.q (c5 i r g),CL.q R]
theorem KL (t:(nd N a).kind=10) (ih:∀k,a<k->k<N.length->k+1+sz N k<=a+1+sz N a->21<=(nd N k).kind->(nd N k).kind<=32->wY N S M f k) (ib:∀k,a<k->k<N.length->k+1+sz N k<=a+1+sz N a->(nd N k).kind=6->qJ 37 N S M f k):qJ 58 N S M f a:=by
 intro J b;have hN:=hY.wt.mM;have m:=hY.jx;unfold cu dB at m;simp [t] at m;obtain ⟨g,h,rfl,X,b6⟩:=lR m;have v:=hY.kc.all g Z;have w:=hY.kc.all h Z;have z:=aR X;have c4:=jb b6;have ⟨i1,i2,i3,i4,i5⟩:=hY.kc.inv;have ⟨i6,_,_,_,i7⟩:=i5.inv;have i8:=i7.eC;have d4:(1+sz N g)+(1+sz N h)=sz N a:=by rw [i6,i1];omega
 have c3:=gb.1 ((hY.rz.2 _ hY.kc).2.1 O O g Z);have R:GI (J.put 1 (aF M a).ai (nd N a).line) (1+sz N g):=b.put O ..;have ⟨D,A,a1,a2,a3⟩:=(ih g O v.2.1 v.2.2.2 z.1 z.2).Jl R;have a1:=a1 0;rw [c3] at a1;have p0:=ko.pt (Γ:=fR S f) (x:=(aF M a).ai) (l:=(nd N a).line) b.fr b.tx;have o:=p0.trans a1;have n:GI (D.put 12 0 (nd N a).line) (1+sz N h):=b.of (o.ad.Ap ..) W;have ⟨E,B,c7,e,b2,b3,b4,b5⟩:=(ib h O w.2.1 w.2.2.2 c4).ua n;have j:=a1.AB;have c8:D.ins.length+1<=9000000:=by have:=n.il;simp at this;omega
 have c2:=lQ e.ad j;have c9:E.ins.length<9100000:=by have:=n.il;rw [e.ad.ins];simp at this ⊢;omega
 have s:=ft o.ad b.fr;obtain ⟨pp,y⟩:∃pp,pp=J.ins.length-J.fr:=⟨_,rfl⟩;have p:jl (D.put 12 0 (nd N a).line) (E.put 11 pp (nd N a).line) (B++[⟨11,pp,(nd N a).line⟩]):=e.ad.Ap ..;have c5:ko (fR S f) J {E.put 11 pp (nd N a).line with ins:=D.ins++⟨12,((D.ins.length-D.fr+1+(B++[(⟨11,pp,(nd N a).line⟩:IN)]).length:Nat):Int),(nd N a).line⟩::(B++[⟨11,pp,(nd N a).line⟩])} (([⟨1,(aF M a).ai,(nd N a).line⟩]++A)++⟨12,((D.ins.length-D.fr+1+(B++[(⟨11,pp,(nd N a).line⟩:IN)]).length:Nat):Int),(nd N a).line⟩::(B++[⟨11,pp,(nd N a).line⟩])) (some 0) (some 0):=by refine ⟨jl.land o.ad p,b.fr,?_⟩;have c6:=e.ad.lo;simp at c6;have C:=a1.sg.mono (show D.strs.length<=E.strs.length by omega);have F:=e.sg;rw [show (D.put 12 0 (nd N a).line).ins.length-(D.put 12 0 (nd N a).line).fr=pp+1+A.length+1 by simp at s ⊢;omega] at F;rw [show (J.put 1 (aF M a).ai (nd N a).line).ins.length-(J.put 1 (aF M a).ai (nd N a).line).fr=pp+1 by simp;have:=b.fr;omega] at C;rw [<-y,show D.ins.length-D.fr+1+(B++[(⟨11,pp,(nd N a).line⟩:IN)]).length=pp+1+A.length+1+B.length+1 by simp at s ⊢;omega];have:=fP.JP (a:=(aF M a).ai) (l:=(nd N a).line) (l':=(nd N a).line) (l'':=(nd N a).line) C F b3;simpa using this
 refine ⟨_,_,_,c5,W,.inr rfl,λhs=>by have:=hs.kd;omega,.inr ⟨_,_,rfl,rfl⟩,λd i c=>?_⟩;apply EW.o ua;have L:=aZ hY.lt;have P:=iQ hY.mr hY.lt;have q:=hZ (S:=SM S M) (pre:=d) (g:=J) (fl:=i) O hY.lt hY.nn hY.kc hY.le;have c0:=gO (S:=SM S M) (op:=1) (x:=(aF M a).ai) hY.lt b.fr (Zo b.il) c;rw [<-y] at c0;have H:=gO (S:=SM S M) (op:=12) (x:=0) (pre:=d) hY.lt j O c;have K:=gO (S:=SM S M) (g:=E) (op:=11) (x:=pp) (pre:=d) hY.lt c2.2 O c;have r:=Hh (S:=SM S M) (N:=N) (pre:=d) p j W c;simp at q;simp [F2,GS.g1,GS.cs,CL.q q,P,CL.q c0,L,t,CL.q (a3 d i c),CL.q H,CL.q (b5 d i c),CL.q K];simp at r;simp [CL.q r]
end
end
end T
end Go.Proofs.YtglilpjokhgidaaGreatDoor
