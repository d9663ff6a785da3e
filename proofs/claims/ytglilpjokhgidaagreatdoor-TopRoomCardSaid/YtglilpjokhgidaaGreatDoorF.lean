/- TopRoom: for every input the law returns true and its arguments read behind the call as before it; the card ties the three listed tables. No condition. -/
import Derived.Test.YtglilpjokhgidaaGreatDoorE
import Derived.Below
import Derived.Test.YtglilpjokhgidaaGreatDoorRows
import Derived.ProofKit
import Derived.OpenShut
import Derived.ChangeOld
import Derived.Lib.LaidTab
import Derived.LaidLaws
import Derived.Lay
import Derived.MakeChecks
import Derived.LaidByTextLater
import Derived.Test.YtglilpjokhgidaaGreatDoorTie
import Derived.Test.YtglilpjokhgidaaGreatDoorCards
import Derived.SevenTiedAt
set_option maxRecDepth 100000
set_option maxHeartbeats 4000000
set_option linter.unusedVariables false
set_option linter.unusedSimpArgs false
namespace Go.Proofs.YtglilpjokhgidaaGreatDoor
open Go.Proofs.Tryz (prog)
open Go.IntKind
namespace T
open Go V Q
variable {a b c d e f g:Nat} {u v w:Value} {i j k:Int} {t:TypeId} {p:List Value} {q:Bool} {n:IntKind} {x y z:TV} {r s:List TO} {o:List TV}
def Vw (f:World) (v:Value) (l:List Int):Prop:=
 (l=[]/\(v= .slice none 0 0\/∃a c,v= .slice (some a) 0 c))\/
 (l≠[]/\∃(b e d:Nat) (C:Array Value) (g:TypeId) (h:Nat×Nat),v= .slice (some ⟨b,e,none⟩) l.length d/\l.length<=d/\f.heap[b]? =some (.cells C g h)/\e+d<=C.size/\∀j x,l[j]? =some x->C[e+j]? =some (.int .i64 x))
structure In (WW9:World) (id:Nat) (v:Value) (l:List Int) (o:AO) (Bk:Option gI) (v':Value):Prop where
 own:o.own=false
 row:∀(cs:List Value) (sz:Nat) (ro:Option Nat) (B:gI),o= .row cs sz ro->Bk=some B->sz=1/\B.sz=sz/\ro=none/\cs.length<=B.n/\
  ∃(C:Array Value) (el:TypeId) (fr:Nat×Nat),WW9.heap[B.b]? =some (.cells C el fr)/\C.size=B.n/\∀(j:Nat) (a v:Value),cs[j]? =some a->C[j]? =some v->a≠JK->a=v/\ak a
 mp:∀es cl,o≠ .mp es cl
 vr:∀β:au,β id=Bk->V.VR β v' v
 tr:∀(ι:aH) (M:Nat->Prop) (H:AH),H[id]? =some o->¬M id->TR ι M H (.sl false (l.map bt)) v'
theorem Ju {n:World} {l:List Int} (h:Vw n u l) (r:Nat):∃o s R,In n r u l o s R:=by
 rcases h with ⟨rfl,rfl|⟨a,c,rfl⟩⟩|⟨b1,b,k,X,C,w,y,rfl,D,A,K,N⟩;exact ⟨.dead,none,.slice none 0 0,rfl,λ_ _ _ _ e=>(by cases e),λ_ _ e=>(by cases e),λ_ _=>.sc rfl,λ_ _ _ _ _=>.sn⟩;exact ⟨.dead,none,.slice (some ⟨0,0,none⟩) 0 2,rfl,λ_ _ _ _ e=>(by cases e),λ_ _ e=>(by cases e),λ_ _=>.sle,λ_ _ _ _ _=>.se⟩;refine ⟨.row (List.replicate k JK++l.map λx=>.int .i64 x) 1 none,some ⟨b,C.size,1⟩,.slice (some ⟨r,k,none⟩) l.length 1,rfl,?_,λ_ _ e=>(by cases e),?_,?_⟩;intro cs sz ro B e t;cases e;cases t;refine ⟨rfl,rfl,rfl,?_,C,w,y,A,rfl,?_⟩;simp;omega;intro j a b2 g L F;rcases zZ j k with q|p;rw [zD (Zs q),List.getElem?_replicate,zP q] at g;cases g;exact absurd rfl F;rw [zH (Zs p)] at g;simp at g;obtain ⟨x,d,rfl⟩:=g;have f:=N _ _ d;rw [Nat.add_sub_cancel' p,L] at f;cases f;exact ⟨rfl,rfl⟩;intro β P;exact .sl P D (Zs K);intro ι M H z J;have e:l.length=(l.map bt).length:=Z;rw [e];refine .sl z J Z (λe E=>?_) (λe=>by cases e) ?_;obtain ⟨x,_,rfl⟩:=xW.1 E;exact ⟨rfl,rfl⟩;intro i j e x c d f m;simp at d;obtain ⟨b6,d,rfl⟩:=d;cases j with
 | zero=>simp at f;subst f;rw [zH Z] at m;have v:k+i*1+0-(List.replicate k JK).length=i:=Z;rw [v,zJ,d] at m;cases m;exact .v rfl rfl
 | succ j=>simp at f
theorem AD (l:World) (b:ByteArray) (N P:Value) (F R:List Int) (f h k:Int) (n p:Nat) (hc:n<=255) (c2:p<=255) (hv:∀b6∈F,-9223372036854775808<=b6) (i1:Vw l N F) (i2:Vw l P R)
  (c3:∃(w:TypeId) (z:Nat×Nat),l.heap[0]? =some (.cells (Lib.pow10Tab.map λc5=>Value.int .u64 c5).toArray w z)):
  Calls prog 3 #[.string b,.agg #[N,P,.int .i64 f,.int .i64 h,.int .i64 k],.int .u8 n,.int .u8 p] l λe X=>e= .returned (.bool true)/\RowKit.Below l.heap.size l X:=by
 have ⟨x,B1,u1,A⟩:=Ju i1 0;have ⟨y,B2,u2,D⟩:=Ju i2 1;let E:au:=λd=>match d with|0=>B1|1=>B2|_=>none
 have J:∀(d:Nat) (o:AO),[x,y][d]? =some o->(d=0/\o=x)\/(d=1/\o=y):=by intro d o h;rcases d with _|_|d;simp at h;exact .inl ⟨rfl,h.symm⟩;simp at h;exact .inr ⟨rfl,h.symm⟩;simp at h
 have K:∀(d:Nat) (o:AO),[x,y][d]? =some o->o.own=false:=by intro d o h;rcases J d o h with ⟨_,rfl⟩|⟨_,rfl⟩;exact A.own;exact D.own
 have b1:∀(d:Nat) (m:List Value) (sz:Nat) (s:Option Nat) (B:gI),[x,y][d]? =some (.row m sz s)->E d=some B->sz=1/\B.sz=sz/\s=none/\m.length<=B.n/\
  ∃(C:Array Value) (w:TypeId) (z:Nat×Nat),l.heap[B.b]? =some (.cells C w z)/\C.size=B.n/\∀(j:Nat) (a v:Value),m[j]? =some a->C[j]? =some v->a≠JK->a=v/\ak a:=by
  intro d m sz s B c g;rcases J d _ c with ⟨rfl,e⟩|⟨rfl,e⟩;exact A.row _ _ _ _ e.symm g;exact D.row _ _ _ _ e.symm g
 have hr:V.Rel E [x,y] l:=by refine ⟨⟨?_,?_,?_,?_⟩,⟨c3,?_⟩,?_⟩;intro d m sz s B c g;obtain ⟨_,M,rfl,q,C,w,z,q5,q6,q7⟩:=b1 d m sz s B c g;refine ⟨M,λe=>absurd rfl e,q,C,w,z,q5,q6,λj a u ha hu hj=>?_,λe=>absurd rfl e⟩;obtain ⟨rfl,L⟩:=q7 j a u ha hu hj;exact .sc L;intro d H cl B c _;rcases J d _ c with ⟨_,e⟩|⟨_,e⟩;exact absurd e.symm (A.mp H cl);exact absurd e.symm (D.mp H cl);intro d c8 o o' B B' c _ _ _ g;rw [K d o c] at g;cases g;intro d B c;rcases d with _|_|d;simp;simp;cases c;intro d o B c _ g;rw [K d o c] at g;cases g;intro d m sz s B w o c6 c g h3;obtain ⟨rfl,_⟩:=b1 d m sz s B c g;cases h3
 have hm:∀b2,¬Mu (λ_=>False) (λ_ _ _=>none) ([]:List TO) [] b2:=by rintro b2 (h|⟨r,d,o,k,h,_⟩);exact h;cases r <;> simp [T.ob] at h
 have L:St (λ_=>False) (λ_ _ _=>none) (λ_=>none) 0 [x,y] (aI [.v (.string b),.ag [.sl false (F.map bt),.sl false (R.map bt),I f,I h,I k],U n,U p]) [] [] [.string b,.agg #[u1,u2,.int .i64 f,.int .i64 h,.int .i64 k],.int .u8 n,.int .u8 p]:=by refine ⟨λt=>?_,λt=>?_,λr d o h=>?_,λ_ _ h=>(by cases h),λ_ _ _ _ h=>(by cases h),zC _,λ_ h=>h.elim,λ_ h=>h.elim⟩;rcases t with _|_|_|_|t;exact .v rfl rfl;refine .ag rfl λj b6 c7 c g=>?_;rcases j with _|_|_|_|_|j;simp at c g;subst c g;exact A.tr _ _ _ rfl (hm _);simp at c g;subst c g;exact D.tr _ _ _ rfl (hm _);simp at c g;subst c g;exact .v rfl rfl;simp at c g;subst c g;exact .v rfl rfl;simp at c g;subst c g;exact .v rfl rfl;simp at c;exact .v rfl rfl;exact .v rfl rfl;exact .u;intro i j H a c9 c g;rcases t with _|_|_|_|t;cases i <;> cases j <;> simp [aI,eG,iG] at c;rcases i with _|i;rcases j with _|_|_|_|_|j <;> simp [aI,eG,iG] at c;simp [aI,eG] at c;cases i <;> cases j <;> simp [aI,eG,iG] at c;cases i <;> cases j <;> simp [aI,eG,iG] at c;cases i <;> cases j <;> simp [aI,eG,iG] at c;cases r <;> simp [T.ob] at h
 have c4:cd E [.string b,.agg #[u1,u2,.int .i64 f,.int .i64 h,.int .i64 k],.int .u8 n,.int .u8 p] [.string b,.agg #[N,P,.int .i64 f,.int .i64 h,.int .i64 k],.int .u8 n,.int .u8 p]:=by refine .cons (.sc rfl) (.cons (VR.og ?_) (.cons (.sc rfl) (.cons (.sc rfl) .nil)));exact cd.cons (A.vr E rfl) (.cons (D.vr E rfl) (.cons (.sc rfl) (.cons (.sc rfl) (.cons (.sc rfl) .nil))))
 refine (EM (law b F R f h k n p hc c2 hv) Y L rfl hr c4).mono ?_;rintro e X ⟨r,v,u,d1,H',d2,rfl,q1,rfl,M,q3,q⟩;cases q1;refine ⟨by rw [M.bool],q.os,q.tape,q.output,q.size,λb hb=>q.frame b hb λd o B c _ g=>?_⟩;rw [K d o c] at g;cases g
end T
open Go Go.ChangeShapes Go.WideShapes Go.ChangeAt Go.RowKit Go.ChangeMaps
section
variable {H:Type} {D:TypeId×Value->H} {E:World}
theorem Ih {n:Nat} {c:Value} {x:DataW H×List MemPlace} (A:DataW.trod D prog E 0 (λ_=>true) true n 22 [c]=some x):∃l:List Int,T.Vw E c l/\∀z∈l,-9223372036854775808<=z:=by
 rcases open_ints Tryz.underlying22 Tryz.underlying2 Y A with ⟨g,_⟩|⟨a,k,t,m,g,_,J,_,M,_,y,L⟩;simp at g;subst g;exact ⟨[],.inl ⟨rfl,.inl rfl⟩,λz h=>by cases h⟩;simp at g;subst g;simp at M;by_cases q:k=0;subst q;exact ⟨[],.inl ⟨rfl,.inr ⟨_,_,rfl⟩⟩,λz h=>by cases h⟩;obtain ⟨b,s,rfl,w⟩:=ints_at y O;have o:(m.take k).length=k:=W;refine ⟨m.take k,.inr ⟨λe=>by rw [e] at o;exact q o.symm,?_⟩,λz h=>(bounds_i64 (L z (yM h))).1⟩;have r:∀j,j<m.length->∃(C:Array Value) (d:TypeId) (f:Nat×Nat),E.heap[b]? =some (.cells C d f)/\C[s+j]? =some (.int .i64 (m.getD j 0)):=by intro j i;have:=w j i;unfold World.cell? at this;split at this;rename_i C d f e;exact ⟨C,d,f,e,by simpa using this⟩;cases this
 obtain ⟨C,d,f,e,K⟩:=r (m.length-1) O;refine ⟨b,s,t,C,d,f,by rw [o],by rw [o];exact J,e,?_,λj x i=>?_⟩;have:=(Array.getElem?_eq_some_iff.1 K).1;omega;have F:j<k:=by have:=(List.getElem?_eq_some_iff.1 i).1;omega
 obtain ⟨N,P,R,p,v⟩:=r j O;rw [e] at p;cases p;rw [v];rw [zS,zP F] at i;simp [i]
theorem vG {v:Value} {d:DataW H} {p:List MemPlace} {J:Nat} (A:Value.okWide prog E .any J 24 v) (h:DataW.Trod D prog E 0 (λ_=>true) true 24 v d p):
  ∃(C F:Value) (s x:List Int) (f h k:Int),v= .agg #[C,F,.int .i64 f,.int .i64 h,.int .i64 k]/\T.Vw E C s/\T.Vw E F x/\∀b1∈s,-9223372036854775808<=b1:=by
 obtain ⟨t,rfl,z⟩:=okWide_struct Tryz.underlying24 A;have w:t.size=5:=by rw [z];kernel_rfl
 obtain ⟨b2,y⟩:=h;obtain ⟨c0,c1,c,b,a,rfl⟩:∃c0 c1 c b a,t= #[c0,c1,c,b,a]:=by obtain ⟨l⟩:=t;have w:l.length=5:=w;clear z y A;rcases l with _|⟨c0,_|⟨c1,_|⟨c,_|⟨b,_|⟨a,_|⟨c5,l⟩⟩⟩⟩⟩⟩ <;> simp at w;exact ⟨c0,c1,c,b,a,rfl⟩
 obtain ⟨e,n,_,_,_,N,r⟩:=DataW.trod_struct Tryz.underlying24 y;have K:prog.cellsOf 22=1:=Y;have L:prog.cellsOf 3=1:=Y;have i:DataW.trod D prog E 0 (λ_=>true) true n 22 ([c0,c1,c,b,a].take (prog.cellsOf 22))=e[0]? :=r 0 _ rfl;have j:DataW.trod D prog E 0 (λ_=>true) true n 22 ([c1,c,b,a].take (prog.cellsOf 22))=e[1]? :=r 1 _ rfl;have m:DataW.trod D prog E 0 (λ_=>true) true n 3 ([c,b,a].take (prog.cellsOf 3))=e[2]? :=r 2 _ rfl;have o:DataW.trod D prog E 0 (λ_=>true) true n 3 ([b,a].take (prog.cellsOf 3))=e[3]? :=r 3 _ rfl;have q:DataW.trod D prog E 0 (λ_=>true) true n 3 ([a].take (prog.cellsOf 3))=e[4]? :=r 4 _ rfl;rw [K] at i j;rw [L] at m o q;have P:e.length=5:=N;match e,P,i,j,m,o,q with
 | [x0,x1,x2,x3,x4],_,i,j,m,o,q=>simp only [List.take_succ_cons,List.take_zero,List.getElem?_cons_zero,List.getElem?_cons_succ] at i j m o q;obtain ⟨s,R,X⟩:=Ih i;obtain ⟨x,q3,_⟩:=Ih j;obtain ⟨f,M,_⟩:=DataW.trod_int Tryz.underlying3 m;obtain ⟨g,e3,_⟩:=DataW.trod_int Tryz.underlying3 o;obtain ⟨k,e4,_⟩:=DataW.trod_int Tryz.underlying3 q;cases M;cases e3;cases e4;exact ⟨_,_,s,x,f,g,k,rfl,R,q3,X⟩
end
theorem Kf {d:World} (h:laidMetH prog Rows.topRoomRow.laid d):∃(b:TypeId) (c:Nat×Nat),d.heap[0]? =some (.cells (Lib.pow10Tab.map λz=>Value.int .u64 z).toArray b c):=by rw [MakeChecks.laidMetH_plain _ _ _ Y] at h;obtain ⟨ps,⟨_,_,_,_,_,_,_,_,_,_,⟨_,_,_,_,_,_,_,_,_,_,⟨g,t,i,f,p,q,e,m,a,l,_,_⟩,_⟩,_⟩,_,_⟩:=h;obtain rfl:=yD ((show prog.globalNamed (Rows.topRoomRow.laid.getD 2 ("",.nil)).1=some 0 by kernel_rfl).symm.trans e);obtain rfl:=yD ((show (prog.globals[0]?).map (·.type)=some 370 by kernel_rfl).symm.trans m);have k:i.toList=Lib.pow10Tab.map λz=>Value.int .u64 z:=Lib.cells_of_tab Tryz.underlying370 Tryz.underlying301 Y Y (zs:=Lib.pow10Tab) l;unfold World.var? at a;rw [e] at a;simp only [zR] at a;split at a;rename_i C b c j;cases a;refine ⟨b,c,?_⟩;rw [j,<-k];cases a
theorem own:ownKnob prog.godebug=none:=Y
theorem laidOut:laidOutB prog:=Y
theorem lifted (i:Os) (c4:i.Started) (H:Type) (b:TypeId×Value->H):
  ReturnsInHanded {} Tryz.checked i 3 .any (λw a=>(Rows.topRoomSpec.pre b prog Tryz.f3 [] false w a/\laidMetH prog Rows.topRoomRow.laid w)/\sizedMet b prog Tryz.f3 (OpenSpec.ofChange Rows.topRoomSpec) false w a)
   (Rows.topRoomSpec.post b prog Tryz.f3 false true false false):=by
 refine returnsInHanded_of_change_and (C:=Tryz.checked) (X:=λw _=>laidMetH prog Rows.topRoomRow.laid w) (λ_ _ _ R h=>h.of_heap R) own c4 Y Tryz.func3
  (ChangeSpec.witness_shaped (enc:=b) (C:=Tryz.checked) (os:=i) (X:=λw _=>laidMetH prog Rows.topRoomRow.laid w) false (World.laidAll prog i Rows.topRoomRow.laid)
   #[.string ⟨#[]⟩,.agg #[.slice none 0 0,.slice none 0 0,.int .i64 0,.int .i64 0,.int .i64 0],.int .u8 0,.int .u8 0] 8 (World.laidAll_os _ _ _)
   (World.shaped_of_ZipB Y Y) Y Y Y
   (by rw [MakeChecks.laidMetH_plain _ _ _ Y];exact laidMet_laidAll _ Y Y)) ?_
 intro e A a D gs c6 p o _ _ K _;have d:∀(j:Nat) t v,Tryz.f3.params[j]? =some t->a[j]? =some v->Value.okWide prog e .any A t v:=p;have M:=o;obtain ⟨c2,d7,n,L,rfl,_,_⟩:=o;have m:DataW.TrodAll b prog e 0 (λ_=>true) true Tryz.f3.params.toList a.toList D c2:=n;rw [Tryz.params3] at m d;obtain ⟨q,d8,d0,c7,p0,q0,d6,rfl,rfl,E,r0⟩:=trodAll_cons m;obtain ⟨s,d9,d1,c8,p1,q1,rfl,rfl,rfl,k,r1⟩:=trodAll_cons r0;obtain ⟨x,e1,d2,c9,p2,q2,rfl,rfl,rfl,F,r2⟩:=trodAll_cons r1;obtain ⟨y,e2,d3,d4,p3,q3,rfl,rfl,rfl,J,r3⟩:=trodAll_cons r2;obtain ⟨rfl,rfl,rfl⟩:=trodAll_nil r3;obtain rfl:a= #[q,s,x,y]:=by cases a;simp_all
 obtain ⟨rfl,rfl⟩:=trodVars_none L;have b2:∀c5∈p1,c5.block<e.heap.size:=by obtain ⟨b6,hm⟩:=k;exact DataW.trod_lt b6 _ _ _ hm
 obtain ⟨c3,rfl,rfl,rfl,hs⟩:=open_string Tryz.underlying9 (d 0 9 q rfl rfl) E;obtain ⟨u1,u2,w1,w2,f,g,b1,rfl,i1,i2,hw⟩:=vG (d 1 24 s rfl rfl) k;obtain ⟨c,rfl,rfl,rfl,z⟩:=open_int Tryz.underlying5 (d 2 5 x rfl rfl) F;obtain ⟨r,rfl,rfl,rfl,wr⟩:=open_int Tryz.underlying5 (d 3 5 y rfl rfl) J;have N:=bounds_u8 z;have hr:=bounds_u8 wr;obtain ⟨c,rfl⟩:=yE N.1;obtain ⟨r,rfl⟩:=yE hr.1;clear n p;refine (T.AD e c3 u1 u2 w1 w2 f g b1 c r O O hw i1 i2 (Kf K)).mono λd5 W' ⟨P,l⟩=>?_;subst P;exact ⟨_,rfl,_,_,_,[],_,[],M,trodAll_mk1 (shut_bool Tryz.underlying4 _),(trodAll_cons_mk (shut_string Tryz.underlying9 hs) (trodAll_cons_mk (Below.trod laidOut Y (yB Y) k l b2) (trodAll_cons_mk (shut_int Tryz.underlying5 z) (trodAll_cons_mk (shut_int Tryz.underlying5 wr) trodAll_mk0)))),rfl,l.frame _,λh=>by cases h⟩
theorem holds:Rows.TopRoomSaid:=
 OpenClaim.holds_of_wide 3 Tryz.f3 rfl rfl rfl rfl rfl rfl rfl ⟨rfl,rfl,rfl,rfl,rfl⟩ rfl rfl rfl rfl rfl Y Tryz.func3 Y
  (yB Y) (by unfold Func.isWrapper;first|(rw [zP (by decide+kernel)];kernel_rfl)|(rw [zO (by decide+kernel)];exact ⟨rfl,rfl⟩))
  (λb c H a _=>lifted b c H a)
open Go
theorem vX:Rows.TopRoomCardSaid:=
 Claim7.holds_tied_plain_at .later [] [.data,.data,.data] true (true, "c5e1d92fb908585cfb0b6cb291a4d760081ac2c5825a985af147ad579de3bd83") false
  holds (λ_ h=>by cases h) Y (λ_ h=>by cases h) topRoom_row_tie rfl ⟨rfl,rfl⟩ Y rfl
  (λf b d e=>by
   obtain rfl:f=3:=yD ((show prog.funcNamed Rows.topRoomRow.func=some 3 by kernel_rfl).symm.trans d)|>.symm;obtain rfl:b=Tryz.f3:=(yD (Tryz.func3.symm.trans e)).symm;exact ⟨Y,λj t a=>by
    rw [Tryz.params3] at a;have g:t∈[9,24,5,5]:=by simpa using wN a
    have c:([9,24,5,5].all λi=> !prog.wantsStandIn i)=true:=Y;exact (show prog.wantsStandIn t=false by simpa using zT.1 c t g)⟩)
  Y
theorem card_holds:Rows.TopRoomCardSaid:=vX
#print axioms card_holds
end Go.Proofs.YtglilpjokhgidaaGreatDoor
