/- TopRoom: for every input the law returns true and its arguments read behind the call as before it; the card ties the three listed tables. No condition. -/
import Derived.Test.YtglilpjokhgidaaGreatDoorE
import Derived.Below
import Derived.Test.YtglilpjokhgidaaGreatDoorRows
import Derived.ProofKit
import Derived.OpenShut
import Derived.ChangeOld
import Derived.Lib.LaidTab
import Derived.LaidLaws
import Derived.Lay
import Derived.MakeChecks
import Derived.LaidByTextLater
import Derived.Test.YtglilpjokhgidaaGreatDoorTie
import Derived.Test.YtglilpjokhgidaaGreatDoorCards
import Derived.SevenTiedAt
set_option maxRecDepth 100000
set_option maxHeartbeats 4000000
set_option linter.unusedVariables false
set_option linter.unusedSimpArgs false
namespace Go.Proofs.YtglilpjokhgidaaGreatDoor
open Go.Proofs.Tryz (prog)
open Go.IntKind
namespace T
open Go V
variable {a b c d e f g:Nat} {u v w:Value} {i j k:Int} {t:TypeId} {p:List Value} {q:Bool} {n:IntKind} {x y z:TV} {r s:List TO} {o:List TV}
instance small:Small prog:={
 bs:=λi z h1 h2=>by have:((prog.info? 339).map λi=>i.zero.map λz=>z.cells.size)=some (some 2):=Y;rw [h1] at this;simp only [zH,h2,xP] at this;exact this
 bp:=λi z h1 h2=>by have:((prog.info? 341).map λi=>i.zero.map λz=>z.cells.size)=some (some 14):=Y;rw [h1] at this;simp only [zH,h2,xP] at this;exact this}
def qo (P:aB):qK:=λK=>
 if K=25 then some (gv P 79) else if K=52 then some (gv P 80) else if K=56 then some (gv P 22) else if K=242 then some Hh else if K=225 then some (DY P) else if K=236 then some (Hj P) else if K=238 then some (Hi P) else if K=240 then some yx else none
def sW (P:aB):qK:=λK=>if K=6 then some rI else qo P K
theorem oU (d:ao) (s:ae) (e f:Nat):bI a b c d s e=bI a b c d s f:=by unfold bI;split;split;rfl;split;rfl;rw [sQ];rfl;rfl
theorem rW (h:bI a b 0 o r c=some (x,s)):s=r:=by unfold bI at h;split at h;split at h;cases h;split at h;cases h;rfl;have ⟨p,d,a⟩:=map_some h;cases a;unfold cq at d;split at d;cases d;simp only at d;split at d;split at d;cases d;rfl;cases d;rfl;cases d;cases h;cases h
section
variable {D:qK} {E:Nat->Bool} {L n:Nat}
theorem F3 {f:ao->ae->Nat->Option (TV×ae)} {g:aQ->AH->Option (aq×AH)} (l:AA.rw a) (o:D (real a)=some g) (h:s8 f g):fm prog AA (λd y s c=>if d=a then f y s c else none) (fJ prog Pl D E L (n+1)):=by intro d k s c r w b _ X z C H x i m;dsimp only at b;split at b;rename_i e;subst e;rw [l] at i ⊢;have ⟨v,j,A,F,p,q,t⟩:=h k s c r w b X z C H x i m;refine ⟨v,j,A,F,?_,q,t,λe=>by cases e⟩;simp only [fJ,o];exact p;cases b
theorem F4 {f:ao->ae->Nat->Option (TV×ae)} {g:aQ->AH->Option (aq×AH)} (p:AA.rw a=false) (w:D (real a)=some g) (h:s8 f g) (q:∀c s b o,f c s b=f c s o) (x:∀c s b r i,f c s b=some (r,i)->i=s):fm prog AA (λj c s b=>if j=a then f c s b else none) (fJ prog Pl D E L (n+1)):=by intro j k s b r i d _ X F K H C l t;dsimp only at d;split at d;rename_i e;subst e;rw [p] at l ⊢;have ⟨v,m,J,M,y,z,A⟩:=h k s s.length r i (by rw [q k s s.length b];exact d) X F K H C l t;refine ⟨v,m,J,M,?_,z,A,λ_=>x _ _ _ _ _ d⟩;simp only [fJ,w];exact y;cases d
theorem JL:X1 prog 79 4 32:={
 of:=by have ⟨c,d,a⟩:=yX.1 (by kernel_rfl:(prog.info? 96).map (λi=>(i.size,i.bytes,i.zero.map λz=>(z.cells.toList.all ak,z.cells.size)))=some (4,32,some (true,4)));have ⟨f,e,b⟩:=yX.1 (yC (·.2.2) a);exact ⟨96,c,f,Y,d,yC (·.1) a,yC (·.2.1) a,e,yC (·.1) b,(yC (·.2) b).trans (yC (·.1) a).symm⟩}
theorem Tl:X1 prog 80 4 24:={
 of:=by have ⟨c,d,a⟩:=yX.1 (by kernel_rfl:(prog.info? 104).map (λi=>(i.size,i.bytes,i.zero.map λz=>(z.cells.toList.all ak,z.cells.size)))=some (4,24,some (true,4)));have ⟨f,e,b⟩:=yX.1 (yC (·.2.2) a);exact ⟨104,c,f,Y,d,yC (·.1) a,yC (·.2.1) a,e,yC (·.1) b,(yC (·.2) b).trans (yC (·.1) a).symm⟩}
theorem Tn:X1 prog 22 1 8:={
 of:=by have ⟨c,d,a⟩:=yX.1 (by kernel_rfl:(prog.info? 2).map (λi=>(i.size,i.bytes,i.zero.map λz=>(z.cells.toList.all ak,z.cells.size)))=some (1,8,some (true,1)));have ⟨f,e,b⟩:=yX.1 (yC (·.2.2) a);exact ⟨2,c,f,Y,d,yC (·.1) a,yC (·.2.1) a,e,yC (·.1) b,(yC (·.2) b).trans (yC (·.1) a).symm⟩}
theorem QX (i:∀a g,qo prog a=some g->D a=some g) {f:ao->ae->Nat->Option (TV×ae)} (p:a≠6) (d:AA.tp a=some f):fm prog AA (λo m s l=>if o=a then f m s l else none) (fJ prog Pl D E L (n+1)):=by
 replace d:CD a=some f:=d;unfold CD at d;have gt:∀{j b:Option (ao->ae->Nat->Option (TV×ae))} {c:Prop} [Decidable c],(if c then j else b)=some f->(c/\j=some f)\/(¬c/\b=some f):=by intro j b c _ h;split at h;rename_i k;exact .inl ⟨k,h⟩;rename_i k;exact .inr ⟨k,h⟩
 rcases gt d with ⟨rfl,e⟩|⟨_,d⟩;cases e;exact F4 Y (i 25 _ rfl) (nC JL O O (.inl rfl)) (λ_ _ _ _=>oU ..) (λ_ _ _ _ _ h=>rW h);rcases gt d with ⟨rfl,e⟩|⟨_,d⟩;cases e;exact F3 Y (i 25 _ rfl) (nC JL O O (.inr rfl));rcases gt d with ⟨rfl,e⟩|⟨_,d⟩;cases e;exact F4 Y (i 56 _ rfl) (nC Tn O O (.inl rfl)) (λ_ _ _ _=>oU ..) (λ_ _ _ _ _ h=>rW h);rcases gt d with ⟨rfl,e⟩|⟨_,d⟩;cases e;exact F4 Y (i 52 _ rfl) (nC Tl O O (.inl rfl)) (λ_ _ _ _=>oU ..) (λ_ _ _ _ _ h=>rW h);rcases gt d with ⟨rfl,e⟩|⟨_,d⟩;cases e;exact F3 Y (i 242 _ rfl) P9;rcases gt d with ⟨rfl,e⟩|⟨_,d⟩;cases e;exact F3 Y (i 225 _ rfl) (Pc WL);rcases gt d with ⟨rfl,e⟩|⟨_,d⟩;cases e;exact F3 Y (i 236 _ rfl) (Pb WL);rcases gt d with ⟨rfl,e⟩|⟨_,d⟩;cases e;exact F3 Y (i 238 _ rfl) (Pa WL);rcases gt d with ⟨rfl,e⟩|⟨_,d⟩;cases e;refine F4 Y (i 240 _ rfl) KJ (λ_ _ _ _=>rfl) (λm s l r q h=>?_);unfold nR at h;split at h;split at h;cases h;rfl;cases h;cases h;rcases gt d with ⟨rfl,e⟩|⟨_,d⟩;exact absurd rfl p;cases d
theorem EE:∀K f,qo prog K=some f->db prog (λa b H=>if a=K then f b H else none):=by intro K f h;unfold qo at h;split at h;rename_i e;subst e;cases h;exact Z2;split at h;rename_i e;subst e;cases h;exact Z1;split at h;rename_i e;subst e;cases h;exact Z0;split at h;rename_i e;subst e;cases h;exact Pj;split at h;rename_i e;subst e;cases h;exact Po;split at h;rename_i e;subst e;cases h;exact Pn;split at h;rename_i e;subst e;cases h;exact Pm;split at h;rename_i e;subst e;cases h;exact Pk;cases h
end
end T
namespace T
open Go V Q
variable {a b c d e f g:Nat} {u v w:Value} {i j k:Int} {t:TypeId} {p:List Value} {q:Bool} {n:IntKind} {x y z:TV} {r s:List TO} {o:List TV}
def WX:List UInt8:=[102,110,32,109,97,105,110,40,41,32,123,32,118,97,114,32,97,58,32,105,110,116,32,61,32,50,59,32,119,104,105,108,101,32,97,32,62,32,48,32,123,32,97,32,61,32,97,32,45,32,49,59,32,125,32,112,114,105,110,116,32,97,59,32,125]
def awV:TV:=.tu [.ag [.sl false [[U 1,I 1,I 1,I 18,I 0,S []],[U 4,I 1,I 1,I 17,I 0,S [109,97,105,110]],[U 14,I 0,I 0,I 0,I 0,S []],[U 6,I 1,I 11,I 15,I 0,S []],[U 7,I 1,I 13,I 2,I 0,S [97]],[U 15,I 1,I 20,I 0,I 0,S []],[U 21,I 1,I 26,I 0,I 2,S []],[U 10,I 1,I 29,I 9,I 0,S []],[U 31,I 1,I 37,I 2,I 10,S []],[U 26,I 1,I 35,I 0,I 0,S [97]],[U 21,I 1,I 39,I 0,I 0,S []],[U 6,I 1,I 41,I 5,I 0,S []],[U 8,I 1,I 43,I 4,I 0,S []],[U 26,I 1,I 43,I 0,I 0,S [97]],[U 31,I 1,I 49,I 2,I 2,S []],[U 26,I 1,I 47,I 0,I 0,S [97]],[U 21,I 1,I 51,I 0,I 1,S []],[U 12,I 1,I 56,I 1,I 0,S []],[U 26,I 1,I 62,I 0,I 0,S [97]]],.sl false [[I 0,I 0,I 0],[I 0,I 0,I 0],[I 0,I 0,I 0],[I 0,I 0,I 0],[I 1,I 0,I 0],[I 1,I 0,I 0],[I 1,I 0,I 0],[I 0,I 0,I 1],[I 2,I 0,I 0],[I 1,I 0,I 0],[I 1,I 0,I 0],[I 0,I 0,I 0],[I 0,I 0,I 2],[I 1,I 0,I 0],[I 1,I 0,I 0],[I 1,I 0,I 0],[I 1,I 0,I 0],[I 0,I 0,I 3],[I 1,I 0,I 0]],.sl false [[U 0,I 0],[U 1,I 0],[U 2,I 0],[U 3,I 0],[U 4,I 0],[U 5,I 0]],.sl false [],.sl false [],.sl false [[S [109,97,105,110],I 1,I 0,I 0,I 0,I 1,I 0,I 4]],.sl false [[I 1]],.sl false [[I 0,S [97],I 0,I 1,I 4]],.sl false [[I 0,I 4,I 1,I 13],[I 0,I 7,I 1,I 29],[I 0,I 12,I 1,I 43],[I 0,I 17,I 1,I 56]]],.ag [I 0,I 0,I 0]]
def awM:Tc:=λK c s a=>bif Nat.beq K 14 then (match c,s,a with
 | [.v (.string b)],[],0=>bif b.data.toList==WX then some (awV,[]) else none
 | _,_,_=>none) else none
theorem aw1:me prog awD (λ_ _ _ _=>none) 60 80 14 [S WX] [] 0=some (awV,[]):=Y
theorem aw2:me prog awD awM 60 80 6 [] [] 0=some (B true,[]):=Y
theorem Nf:∀K g s a p,awM K g s a=some p->∃m,tc prog AA Pl ni m K g s a=some p:=by
 intro K g s a p h;unfold awM at h;cases c:Nat.beq K 14 with
 | false=>rw [c] at h;cases h
 | true=>
  cases zS c;rw [c] at h;simp only [cond_true] at h;split at h;rename_i b;cases f:b.data.toList==WX with
  | false=>rw [f] at h;cases h
  | true=>
   rw [f] at h;cases h;have e:b=⟨WX.toArray⟩:=by
    have:=eq_of_beq f;cases b with
    | mk d=>cases d with
     | mk l=>simp only at this;rw [this]
   rw [e];exact tM (λ_ _ _ _ _ h=>by cases h) 80 _ _ _ _ _ aw1
  cases h
theorem Vf:∃n,tc prog AA Pl ni n 6 [] [] 0=some (B true,[]):=tM Nf 80 _ _ _ _ _ aw2
def Ph (K:Nat):Bool:=gO K||Nat.beq K 6
theorem og (h:(gO a||Nat.beq a 6)):qo prog a=none:=by unfold qo;split;rename_i e;subst e;cases h;split;rename_i e;subst e;cases h;split;rename_i e;subst e;cases h;split;rename_i e;subst e;cases h;split;rename_i e;subst e;cases h;split;rename_i e;subst e;cases h;split;rename_i e;subst e;cases h;split;rename_i e;subst e;cases h;rfl
theorem mixed:prog.follows .mixedOrders:=Y
theorem YC:St (λ_=>False) (λ_ _ _=>none) (λ_=>none) 0 [] (aI []) [] [] []:={
 tm:=λt=>.u
 ow:=λt i j b a n e _=>by cases i <;> cases j <;> simp [aI,eI,iJ] at e
 ob:=λr c o h=>by cases r <;> simp [T.ob] at h
 lt:=λ_ _ h=>by cases h
 fC:=λ_ _ _ _ h=>by cases h
 mM:=zE _
 xl:=λ_ h=>h.elim
 xo:=λ_ h=>h.elim}
theorem call6 (w:World) (h:V.Rel (λ_=>none) [] w):Calls prog 6 #[] w λe o=>∃v d a,e= .returned v/\V.VR d (.bool true) v/\V.Rel d a o/\V.Ext (λ_=>none) [] w d a o:=by
 have ⟨n,r⟩:=Vf;have t:=qg (L:=n) (dq:=ni) (gO:=Ph) (λK p=>by
   have l:(gO (real K)||Nat.beq (real K) 6):=by unfold ni at p;rcases Bool.or_eq_true_iff.1 p with i|i;rw [<-lO,i];rfl;rw [zS i];rfl
   exact ⟨og l,l,λq c b j=>(nE l b j).2⟩) (λK f m k b=>QX (λK g h=>h) (λe=>by subst e;cases k) b) n
 obtain ⟨v,a,E,F,y,z,_,_⟩:=t 6 [] [] 0 _ _ r Y _ _ _ [] [] (by
  have:(bif AA.rw 6 then 0 else ([]:ae).length)=0:=by cases AA.rw 6 <;> rfl
  rw [this];exact YC) rfl
 have x:v= .bool true:=by have:=z.tm 0;have:=this;cases this;rfl
 subst x;have s:=u0 (L:=n) mixed EE (λK q c k b j=>(nE k b j).1) n;refine (s 6 [] [] _ a y Y _ w [] h .nil).mono ?_;rintro e o ⟨v,d,rfl,A,C,D⟩;exact ⟨v,d,a,rfl,A,C,D⟩
theorem LU:∀K f,sW prog K=some f->db prog (λa b H=>if a=K then f b H else none):=by intro K f h;unfold sW at h;split at h;rename_i e;subst e;cases h;exact Hl call6;exact EE K f h
theorem H8 (h:dq a):real a≠6:=by intro e;rw [lO,e] at h;cases h
theorem F7 {Q:TV->Prop} (h:EP prog a o Q) (y:eG prog (real a)) {X:Nat->Prop} {A:aH} {C:Nat->Option Loc} {H:AH} (M:St X A C 0 H (aI o) [] [] p) (F:p.length=o.length) {k:au} {w:World} {s:aQ} (i:V.Rel k H w) (P:cd k p s):
  Calls prog (real a) s.toArray w λe t=>∃r v j g d l,Q r/\TR l (Mu X l [] []) d r v/\e= .returned j/\V.VR g v j/\V.Rel g d t/\V.Ext k H w g d t:=by
 obtain ⟨n,r,s',J,E,rfl⟩:=h [] 0;have N:=qg (L:=n) (iQ:=sW prog) (dq:=dq) (gO:=gO) (λa m=>by
   have i:(gO (real a)||Nat.beq (real a) 6):=by rw [<-lO,m];rfl
   refine ⟨?_,by rw [<-lO];exact m,λD c b q=>(nE i b q).2⟩;unfold sW;rw [zN (H8 m)];exact og i) (λa f b2 z b=>by
   by_cases x:a=6;subst x;have:f=ja:=by have:AA.tp 6=some ja:=Y;rw [this] at b;cases b;rfl
   subst this;exact F4 Y rfl Hc (λ_ _ _ _=>rfl) (λo b6 fl r s' h=>by unfold ja at h;split at h;cases h;rfl;cases h)
   refine QX (λa b1 h=>?_) x b;unfold sW;rw [zN];exact h;rintro rfl;cases h) n
 have ⟨v,d,l,c2,R,q2,_,_⟩:=N a o [] 0 _ _ J y X A C H p (by
  have:(bif AA.rw a then 0 else ([]:ae).length)=0:=by cases AA.rw a <;> rfl
  rw [this];exact M) F
 have K:=u0 (L:=n) mixed (dq:=gO) LU (λa D c z b q=>(nE (by rw [z];rfl) b q).1) n;refine (K (real a) p H v d R y k w s i P).mono ?_;rintro e t ⟨j,g,rfl,r1,r2,r3⟩;exact ⟨r,v,j,g,d,l,E,q2.tm 0,rfl,r1,r2,r3⟩
def Vw (f:World) (v:Value) (l:List Int):Prop:=
 (l=[]/\(v= .slice none 0 0\/∃a c,v= .slice (some a) 0 c))\/
 (l≠[]/\∃(b e d:Nat) (C:Array Value) (g:TypeId) (h:Nat×Nat),v= .slice (some ⟨b,e,none⟩) l.length d/\l.length<=d/\f.heap[b]? =some (.cells C g h)/\e+d<=C.size/\∀j x,l[j]? =some x->C[e+j]? =some (.int .i64 x))
structure In (WW9:World) (id:Nat) (v:Value) (l:List Int) (o:AO) (Bk:Option gJ) (v':Value):Prop where
 own:o.own=false
 row:∀(cs:List Value) (sz:Nat) (ro:Option Nat) (B:gJ),o= .row cs sz ro->Bk=some B->sz=1/\B.sz=sz/\ro=none/\cs.length<=B.n/\
  ∃(C:Array Value) (el:TypeId) (fr:Nat×Nat),WW9.heap[B.b]? =some (.cells C el fr)/\C.size=B.n/\∀(j:Nat) (a v:Value),cs[j]? =some a->C[j]? =some v->a≠JK->a=v/\ak a
 mp:∀es cl,o≠ .mp es cl
 vr:∀β:au,β id=Bk->V.VR β v' v
 tr:∀(ι:aH) (M:Nat->Prop) (H:AH),H[id]? =some o->¬M id->TR ι M H (.sl false (l.map bt)) v'
theorem JH {n:World} {l:List Int} (h:Vw n u l) (r:Nat):∃o s R,In n r u l o s R:=by
 rcases h with ⟨rfl,rfl|⟨a,c,rfl⟩⟩|⟨b1,b,k,X,C,w,y,rfl,D,A,K,N⟩;exact ⟨.dead,none,.slice none 0 0,rfl,λ_ _ _ _ e=>(by cases e),λ_ _ e=>(by cases e),λ_ _=>.sc rfl,λ_ _ _ _ _=>.sn⟩;exact ⟨.dead,none,.slice (some ⟨0,0,none⟩) 0 2,rfl,λ_ _ _ _ e=>(by cases e),λ_ _ e=>(by cases e),λ_ _=>.sle,λ_ _ _ _ _=>.se⟩;refine ⟨.row (List.replicate k JK++l.map λx=>.int .i64 x) 1 none,some ⟨b,C.size,1⟩,.slice (some ⟨r,k,none⟩) l.length 1,rfl,?_,λ_ _ e=>(by cases e),?_,?_⟩;intro cs sz ro B e t;cases e;cases t;refine ⟨rfl,rfl,rfl,?_,C,w,y,A,rfl,?_⟩;simp;omega;intro j a b2 g L F;rcases zX j k with q|p;rw [zB (Zs q),List.getElem?_replicate,zO q] at g;cases g;exact absurd rfl F;rw [zJ (Zs p)] at g;simp at g;obtain ⟨x,d,rfl⟩:=g;have f:=N _ _ d;rw [Nat.add_sub_cancel' p,L] at f;cases f;exact ⟨rfl,rfl⟩;intro β P;exact .sl P D (Zs K);intro ι M H z J;have e:l.length=(l.map bt).length:=Z;rw [e];refine .sl z J Z (λe E=>?_) (λe=>by cases e) ?_;obtain ⟨x,_,rfl⟩:=wB.1 E;exact ⟨rfl,rfl⟩;intro i j e x c d f m;simp at d;obtain ⟨b6,d,rfl⟩:=d;cases j with
 | zero=>simp at f;subst f;rw [zJ Z] at m;have v:k+i*1+0-(List.replicate k JK).length=i:=Z;rw [v,zK,d] at m;cases m;exact .v rfl rfl
 | succ j=>simp at f
theorem AU (l:World) (b:ByteArray) (N P:Value) (F R:List Int) (f h k:Int) (n p:Nat) (hc:n<=255) (c2:p<=255) (hv:∀b6∈F,-9223372036854775808<=b6) (i1:Vw l N F) (i2:Vw l P R)
  (c3:∃(w:TypeId) (z:Nat×Nat),l.heap[0]? =some (.cells (Lib.pow10Tab.map λc5=>Value.int .u64 c5).toArray w z)):
  Calls prog 3 #[.string b,.agg #[N,P,.int .i64 f,.int .i64 h,.int .i64 k],.int .u8 n,.int .u8 p] l λe X=>e= .returned (.bool true)/\RowKit.Below l.heap.size l X:=by
 have ⟨x,B1,u1,A⟩:=JH i1 0;have ⟨y,B2,u2,D⟩:=JH i2 1;let E:au:=λd=>match d with|0=>B1|1=>B2|_=>none
 have J:∀(d:Nat) (o:AO),[x,y][d]? =some o->(d=0/\o=x)\/(d=1/\o=y):=by intro d o h;rcases d with _|_|d;simp at h;exact .inl ⟨rfl,h.symm⟩;simp at h;exact .inr ⟨rfl,h.symm⟩;simp at h
 have K:∀(d:Nat) (o:AO),[x,y][d]? =some o->o.own=false:=by intro d o h;rcases J d o h with ⟨_,rfl⟩|⟨_,rfl⟩;exact A.own;exact D.own
 have b1:∀(d:Nat) (m:List Value) (sz:Nat) (s:Option Nat) (B:gJ),[x,y][d]? =some (.row m sz s)->E d=some B->sz=1/\B.sz=sz/\s=none/\m.length<=B.n/\
  ∃(C:Array Value) (w:TypeId) (z:Nat×Nat),l.heap[B.b]? =some (.cells C w z)/\C.size=B.n/\∀(j:Nat) (a v:Value),m[j]? =some a->C[j]? =some v->a≠JK->a=v/\ak a:=by
  intro d m sz s B c g;rcases J d _ c with ⟨rfl,e⟩|⟨rfl,e⟩;exact A.row _ _ _ _ e.symm g;exact D.row _ _ _ _ e.symm g
 have hr:V.Rel E [x,y] l:=by refine ⟨⟨?_,?_,?_,?_⟩,⟨c3,?_⟩,?_⟩;intro d m sz s B c g;obtain ⟨_,M,rfl,q,C,w,z,q5,q6,q7⟩:=b1 d m sz s B c g;refine ⟨M,λe=>absurd rfl e,q,C,w,z,q5,q6,λj a u ha hu hj=>?_,λe=>absurd rfl e⟩;obtain ⟨rfl,L⟩:=q7 j a u ha hu hj;exact .sc L;intro d H cl B c _;rcases J d _ c with ⟨_,e⟩|⟨_,e⟩;exact absurd e.symm (A.mp H cl);exact absurd e.symm (D.mp H cl);intro d c8 o o' B B' c _ _ _ g;rw [K d o c] at g;cases g;intro d B c;rcases d with _|_|d;simp;simp;cases c;intro d o B c _ g;rw [K d o c] at g;cases g;intro d m sz s B w o c6 c g h3;obtain ⟨rfl,_⟩:=b1 d m sz s B c g;cases h3
 have hm:∀b2,¬Mu (λ_=>False) (λ_ _ _=>none) ([]:List TO) [] b2:=by rintro b2 (h|⟨r,d,o,k,h,_⟩);exact h;cases r <;> simp [T.ob] at h
 have L:St (λ_=>False) (λ_ _ _=>none) (λ_=>none) 0 [x,y] (aI [.v (.string b),.ag [.sl false (F.map bt),.sl false (R.map bt),I f,I h,I k],U n,U p]) [] [] [.string b,.agg #[u1,u2,.int .i64 f,.int .i64 h,.int .i64 k],.int .u8 n,.int .u8 p]:=by refine ⟨λt=>?_,λt=>?_,λr d o h=>?_,λ_ _ h=>(by cases h),λ_ _ _ _ h=>(by cases h),zE _,λ_ h=>h.elim,λ_ h=>h.elim⟩;rcases t with _|_|_|_|t;exact .v rfl rfl;refine .ag rfl λj b6 c7 c g=>?_;rcases j with _|_|_|_|_|j;simp at c g;subst c g;exact A.tr _ _ _ rfl (hm _);simp at c g;subst c g;exact D.tr _ _ _ rfl (hm _);simp at c g;subst c g;exact .v rfl rfl;simp at c g;subst c g;exact .v rfl rfl;simp at c g;subst c g;exact .v rfl rfl;simp at c;exact .v rfl rfl;exact .v rfl rfl;exact .u;intro i j H a c9 c g;rcases t with _|_|_|_|t;cases i <;> cases j <;> simp [aI,eI,iJ] at c;rcases i with _|i;rcases j with _|_|_|_|_|j <;> simp [aI,eI,iJ] at c;simp [aI,eI] at c;cases i <;> cases j <;> simp [aI,eI,iJ] at c;cases i <;> cases j <;> simp [aI,eI,iJ] at c;cases i <;> cases j <;> simp [aI,eI,iJ] at c;cases r <;> simp [T.ob] at h
 have c4:cd E [.string b,.agg #[u1,u2,.int .i64 f,.int .i64 h,.int .i64 k],.int .u8 n,.int .u8 p] [.string b,.agg #[N,P,.int .i64 f,.int .i64 h,.int .i64 k],.int .u8 n,.int .u8 p]:=by refine .cons (.sc rfl) (.cons (VR.ou ?_) (.cons (.sc rfl) (.cons (.sc rfl) .nil)));exact cd.cons (A.vr E rfl) (.cons (D.vr E rfl) (.cons (.sc rfl) (.cons (.sc rfl) (.cons (.sc rfl) .nil))))
 refine (F7 (law b F R f h k n p hc c2 hv) Y L rfl hr c4).mono ?_;rintro e X ⟨r,v,u,d1,H',d2,rfl,q1,rfl,M,q3,q⟩;cases q1;refine ⟨by rw [M.bool],q.os,q.tape,q.output,q.size,λb hb=>q.frame b hb λd o B c _ g=>?_⟩;rw [K d o c] at g;cases g
end T
open Go Go.ChangeShapes Go.WideShapes Go.ChangeAt Go.RowKit Go.ChangeMaps
section
variable {H:Type} {D:TypeId×Value->H} {E:World}
theorem Iw {n:Nat} {c:Value} {x:DataW H×List MemPlace} (A:DataW.trod D prog E 0 (λ_=>true) true n 22 [c]=some x):∃l:List Int,T.Vw E c l/\∀z∈l,-9223372036854775808<=z:=by
 rcases open_ints Tryz.underlying22 Tryz.underlying2 Y A with ⟨g,_⟩|⟨a,k,t,m,g,_,J,_,M,_,y,L⟩;simp at g;subst g;exact ⟨[],.inl ⟨rfl,.inl rfl⟩,λz h=>by cases h⟩;simp at g;subst g;simp at M;by_cases q:k=0;subst q;exact ⟨[],.inl ⟨rfl,.inr ⟨_,_,rfl⟩⟩,λz h=>by cases h⟩;obtain ⟨b,s,rfl,w⟩:=ints_at y O;have o:(m.take k).length=k:=W;refine ⟨m.take k,.inr ⟨λe=>by rw [e] at o;exact q o.symm,?_⟩,λz h=>(bounds_i64 (L z (yG h))).1⟩;have r:∀j,j<m.length->∃(C:Array Value) (d:TypeId) (f:Nat×Nat),E.heap[b]? =some (.cells C d f)/\C[s+j]? =some (.int .i64 (m.getD j 0)):=by intro j i;have:=w j i;unfold World.cell? at this;split at this;rename_i C d f e;exact ⟨C,d,f,e,by simpa using this⟩;cases this
 obtain ⟨C,d,f,e,K⟩:=r (m.length-1) O;refine ⟨b,s,t,C,d,f,by rw [o],by rw [o];exact J,e,?_,λj x i=>?_⟩;have:=(Array.getElem?_eq_some_iff.1 K).1;omega;have F:j<k:=by have:=(List.getElem?_eq_some_iff.1 i).1;omega
 obtain ⟨N,P,R,p,v⟩:=r j O;rw [e] at p;cases p;rw [v];rw [zU,zO F] at i;simp [i]
theorem vK {v:Value} {d:DataW H} {p:List MemPlace} {J:Nat} (A:Value.okWide prog E .any J 24 v) (h:DataW.Trod D prog E 0 (λ_=>true) true 24 v d p):
  ∃(C F:Value) (s x:List Int) (f h k:Int),v= .agg #[C,F,.int .i64 f,.int .i64 h,.int .i64 k]/\T.Vw E C s/\T.Vw E F x/\∀b1∈s,-9223372036854775808<=b1:=by
 obtain ⟨t,rfl,z⟩:=okWide_struct Tryz.underlying24 A;have w:t.size=5:=by rw [z];kernel_rfl
 obtain ⟨b2,y⟩:=h;obtain ⟨c0,c1,c,b,a,rfl⟩:∃c0 c1 c b a,t= #[c0,c1,c,b,a]:=by obtain ⟨l⟩:=t;have w:l.length=5:=w;clear z y A;rcases l with _|⟨c0,_|⟨c1,_|⟨c,_|⟨b,_|⟨a,_|⟨c5,l⟩⟩⟩⟩⟩⟩ <;> simp at w;exact ⟨c0,c1,c,b,a,rfl⟩
 obtain ⟨e,n,_,_,_,N,r⟩:=DataW.trod_struct Tryz.underlying24 y;have K:prog.cellsOf 22=1:=Y;have L:prog.cellsOf 3=1:=Y;have i:DataW.trod D prog E 0 (λ_=>true) true n 22 ([c0,c1,c,b,a].take (prog.cellsOf 22))=e[0]? :=r 0 _ rfl;have j:DataW.trod D prog E 0 (λ_=>true) true n 22 ([c1,c,b,a].take (prog.cellsOf 22))=e[1]? :=r 1 _ rfl;have m:DataW.trod D prog E 0 (λ_=>true) true n 3 ([c,b,a].take (prog.cellsOf 3))=e[2]? :=r 2 _ rfl;have o:DataW.trod D prog E 0 (λ_=>true) true n 3 ([b,a].take (prog.cellsOf 3))=e[3]? :=r 3 _ rfl;have q:DataW.trod D prog E 0 (λ_=>true) true n 3 ([a].take (prog.cellsOf 3))=e[4]? :=r 4 _ rfl;rw [K] at i j;rw [L] at m o q;have P:e.length=5:=N;match e,P,i,j,m,o,q with
 | [x0,x1,x2,x3,x4],_,i,j,m,o,q=>simp only [List.take_succ_cons,List.take_zero,List.getElem?_cons_zero,xU] at i j m o q;obtain ⟨s,R,X⟩:=Iw i;obtain ⟨x,q3,_⟩:=Iw j;obtain ⟨f,M,_⟩:=DataW.trod_int Tryz.underlying3 m;obtain ⟨g,e3,_⟩:=DataW.trod_int Tryz.underlying3 o;obtain ⟨k,e4,_⟩:=DataW.trod_int Tryz.underlying3 q;cases M;cases e3;cases e4;exact ⟨_,_,s,x,f,g,k,rfl,R,q3,X⟩
end
theorem Ks {d:World} (h:laidMetH prog Rows.topRoomRow.laid d):∃(b:TypeId) (c:Nat×Nat),d.heap[0]? =some (.cells (Lib.pow10Tab.map λz=>Value.int .u64 z).toArray b c):=by rw [MakeChecks.laidMetH_plain _ _ _ Y] at h;obtain ⟨ps,⟨_,_,_,_,_,_,_,_,_,_,⟨_,_,_,_,_,_,_,_,_,_,⟨g,t,i,f,p,q,e,m,a,l,_,_⟩,_⟩,_⟩,_,_⟩:=h;obtain rfl:=yD ((show prog.globalNamed (Rows.topRoomRow.laid.getD 2 ("",.nil)).1=some 0 by kernel_rfl).symm.trans e);obtain rfl:=yD ((show (prog.globals[0]?).map (·.type)=some 370 by kernel_rfl).symm.trans m);have k:i.toList=Lib.pow10Tab.map λz=>Value.int .u64 z:=Lib.cells_of_tab Tryz.underlying370 Tryz.underlying301 Y Y (zs:=Lib.pow10Tab) l;unfold World.var? at a;rw [e] at a;simp only [zR] at a;split at a;rename_i C b c j;cases a;refine ⟨b,c,?_⟩;rw [j,<-k];cases a
theorem own:ownKnob prog.godebug=none:=Y
theorem laidOut:laidOutB prog:=Y
theorem lifted (i:Os) (c4:i.Started) (H:Type) (b:TypeId×Value->H):
  ReturnsInHanded {} Tryz.checked i 3 .any (λw a=>(Rows.topRoomSpec.pre b prog Tryz.f3 [] false w a/\laidMetH prog Rows.topRoomRow.laid w)/\sizedMet b prog Tryz.f3 (OpenSpec.ofChange Rows.topRoomSpec) false w a)
   (Rows.topRoomSpec.post b prog Tryz.f3 false true false false):=by
 refine returnsInHanded_of_change_and (C:=Tryz.checked) (X:=λw _=>laidMetH prog Rows.topRoomRow.laid w) (λ_ _ _ R h=>h.of_heap R) own c4 Y Tryz.func3
  (ChangeSpec.witness_shaped (enc:=b) (C:=Tryz.checked) (os:=i) (X:=λw _=>laidMetH prog Rows.topRoomRow.laid w) false (World.laidAll prog i Rows.topRoomRow.laid)
   #[.string ⟨#[]⟩,.agg #[.slice none 0 0,.slice none 0 0,.int .i64 0,.int .i64 0,.int .i64 0],.int .u8 0,.int .u8 0] 8 (World.laidAll_os _ _ _)
   (World.shaped_of_ZipB Y Y) Y Y Y
   (by rw [MakeChecks.laidMetH_plain _ _ _ Y];exact laidMet_laidAll _ Y Y)) ?_
 intro e A a D gs c6 p o _ _ K _;have d:∀(j:Nat) t v,Tryz.f3.params[j]? =some t->a[j]? =some v->Value.okWide prog e .any A t v:=p;have M:=o;obtain ⟨c2,d7,n,L,rfl,_,_⟩:=o;have m:DataW.TrodAll b prog e 0 (λ_=>true) true Tryz.f3.params.toList a.toList D c2:=n;rw [Tryz.params3] at m d;obtain ⟨q,d8,d0,c7,p0,q0,d6,rfl,rfl,E,r0⟩:=trodAll_cons m;obtain ⟨s,d9,d1,c8,p1,q1,rfl,rfl,rfl,k,r1⟩:=trodAll_cons r0;obtain ⟨x,e1,d2,c9,p2,q2,rfl,rfl,rfl,F,r2⟩:=trodAll_cons r1;obtain ⟨y,e2,d3,d4,p3,q3,rfl,rfl,rfl,J,r3⟩:=trodAll_cons r2;obtain ⟨rfl,rfl,rfl⟩:=trodAll_nil r3;obtain rfl:a= #[q,s,x,y]:=by cases a;simp_all
 obtain ⟨rfl,rfl⟩:=trodVars_none L;have b2:∀c5∈p1,c5.block<e.heap.size:=by obtain ⟨b6,hm⟩:=k;exact DataW.trod_lt b6 _ _ _ hm
 obtain ⟨c3,rfl,rfl,rfl,hs⟩:=open_string Tryz.underlying9 (d 0 9 q rfl rfl) E;obtain ⟨u1,u2,w1,w2,f,g,b1,rfl,i1,i2,hw⟩:=vK (d 1 24 s rfl rfl) k;obtain ⟨c,rfl,rfl,rfl,z⟩:=open_int Tryz.underlying5 (d 2 5 x rfl rfl) F;obtain ⟨r,rfl,rfl,rfl,wr⟩:=open_int Tryz.underlying5 (d 3 5 y rfl rfl) J;have N:=bounds_u8 z;have hr:=bounds_u8 wr;obtain ⟨c,rfl⟩:=yH N.1;obtain ⟨r,rfl⟩:=yH hr.1;clear n p;refine (T.AU e c3 u1 u2 w1 w2 f g b1 c r O O hw i1 i2 (Ks K)).mono λd5 W' ⟨P,l⟩=>?_;subst P;exact ⟨_,rfl,_,_,_,[],_,[],M,trodAll_mk1 (shut_bool Tryz.underlying4 _),(trodAll_cons_mk (shut_string Tryz.underlying9 hs) (trodAll_cons_mk (Below.trod laidOut Y (yB Y) k l b2) (trodAll_cons_mk (shut_int Tryz.underlying5 z) (trodAll_cons_mk (shut_int Tryz.underlying5 wr) trodAll_mk0)))),rfl,l.frame _,λh=>by cases h⟩
theorem holds:Rows.TopRoomSaid:=
 OpenClaim.holds_of_wide 3 Tryz.f3 rfl rfl rfl rfl rfl rfl rfl ⟨rfl,rfl,rfl,rfl,rfl⟩ rfl rfl rfl rfl rfl Y Tryz.func3 Y
  (yB Y) (by unfold Func.isWrapper;first|(rw [zO (by decide+kernel)];kernel_rfl)|(rw [zN (by decide+kernel)];exact ⟨rfl,rfl⟩))
  (λb c H a _=>lifted b c H a)
open Go
theorem w7:Rows.TopRoomCardSaid:=
 Claim7.holds_tied_plain_at .later [] [.data,.data,.data] true (true, "c5e1d92fb908585cfb0b6cb291a4d760081ac2c5825a985af147ad579de3bd83") false
  holds (λ_ h=>by cases h) Y (λ_ h=>by cases h) topRoom_row_tie rfl ⟨rfl,rfl⟩ Y rfl
  (λf b d e=>by
   obtain rfl:f=3:=yD ((show prog.funcNamed Rows.topRoomRow.func=some 3 by kernel_rfl).symm.trans d)|>.symm;obtain rfl:b=Tryz.f3:=(yD (Tryz.func3.symm.trans e)).symm;exact ⟨Y,λj t a=>by
    rw [Tryz.params3] at a;have g:t∈[9,24,5,5]:=by simpa using xL a
    have c:([9,24,5,5].all λi=> !prog.wantsStandIn i)=true:=Y;exact (show prog.wantsStandIn t=false by simpa using zQ.1 c t g)⟩)
  Y
theorem card_holds:Rows.TopRoomCardSaid:=w7
#print axioms card_holds
end Go.Proofs.YtglilpjokhgidaaGreatDoor
