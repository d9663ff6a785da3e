/- A part of TopRoom's proof. No condition. -/
import Derived.Test.YtglilpjokhgidaaGreatDoorA
import Derived.Lib.ItoaNum
import Derived.Test.YtglilpjokhgidaaGreatDoorProg
set_option maxRecDepth 100000
set_option maxHeartbeats 4000000
set_option linter.unusedVariables false
set_option linter.unusedSimpArgs false
namespace Go.Proofs.YtglilpjokhgidaaGreatDoor
open Go.Proofs.Tryz (prog)
open Go.IntKind
namespace T
open Go V
variable {a b c d e f g:Nat} {u v w:Value} {i j k:Int} {t:TypeId} {p:List Value} {q:Bool} {n:IntKind} {x y z:TV} {r s:List TO} {o:List TV}
section
variable {X:Nat->Prop} {ι E:aH} {M J:Nat->Prop} {H h:AH} {D ω':Nat->Option Loc} {P:aB} {fl:Nat} {τ τ':TF} {l s l' s':ae} {V:aQ}
theorem Gq {j:aP} (w:P.underlying t=some (.array a j)) (L:mi P j=some b) {z c:ek} {A q:fR} (h:VD a b z c l s x=some y) (b1:∀r d o,(ob l s r)[d]? =some o->OR ι M D H (wr fl r d) r d o)
  (hx:TR ι M H x u) (X:ug ι M H z A) (N:ug ι M H c q):∃v,cL P t u A q H=some v/\TR ι M H y v/\NO y v:=by
 obtain ⟨F,n,rfl⟩:=jJ L;unfold VD at h;split at h;rename_i r d b2;split at h;rename_i i E e f;have e:=jZ e X;have f:=jZ f N;split at h;rename_i m;cases hx with
 | @p _ _ _ C c=>split at h;rename_i g;subst g;cases h;refine ⟨.slice (some ⟨C,b2,none⟩) 0 2,?_,.se,kR⟩;simp only [cL,w,n,e,f];rw [zO m];simp;rename_i g;split at h;rename_i cs sz ho;split at h;rename_i R;obtain ⟨rfl,rfl,c2⟩:=R;cases h;have ⟨_,c3,b6,k,J,K,_⟩:=b1 r d _ ho;rw [c] at k;cases k;refine ⟨.slice (some ⟨C,0+i*F.size,none⟩) (E-i) 1,?_,by rw [yM];exact .m c,Hr⟩;simp only [cL,w,n,e,f,J];rw [zO m,zN g,zO (by refine ⟨?_,by have:=K.1;omega⟩;first|rfl|trivial)];cases h;cases h
 cases h;cases h;cases h
theorem ft {o:fR} (h:dv o=some u):bq u:=by unfold dv at h;split at h;split at h;cases h;assumption;cases h;cases h
theorem lQ {a:Option Addr}:NO (.sl true []) (.slice a 0 0):=by
 intro i j d c n e b;cases i with
 | succ i=>cases b
 | zero=>cases j with
  | succ j=>cases b
  | zero=>cases b
theorem uS {w f mx:ek} {L A c2:fR} (h:aK P t w f mx l s x=some y) (b6:∀r K o,(ob l s r)[K]? =some o->OR ι M D H (wr fl r K) r K o)
  (C:TR ι M H x u) (p:ug ι M H w L) (n:ug ι M H f A) (hm:ug ι M H mx c2):∃v,pJ P t u L A c2 H=some v/\TR ι M H y v/\NO y v:=by
 have b1:∀{o:ek} {d:fR} {z:aq},ug ι M H o d->o=some (.v z)->d=some z:=by intro o d z q e;subst e;rcases q with ⟨e,_⟩|⟨a,b,e,rfl,hr⟩;cases e;cases e;rw [hr.vv]
 have N:∀{o:ek} {d:fR},ug ι M H o d->o=none->d=none:=by intro o d q e;subst e;rcases q with ⟨_,rfl⟩|⟨a,b,e,_⟩;rfl;cases e
 unfold aK at h;split at h;rename_i c4;have e3:=b1 hm rfl;subst e3;split at h;rename_i k2 o es R g;have i:=N p rfl;have c:=b1 n rfl;subst i c;obtain ⟨c3,f,rfl⟩:=map_some h;have c5:∃v,fN P t u none (some (.int k2 0)) (some (.int c4 0))=some v/\∃a,v= .slice a 0 0/\TR ι M H (.sl true []) v:=by
  cases C with
  | sn=>exact ⟨_,by simp only [fN,g,f],none,rfl,.sn⟩
  | s0=>exact ⟨_,by simp only [fN,g,f];rfl,_,rfl,.s0⟩
  | se=>exact ⟨_,by simp only [fN,g,f];rfl,_,rfl,.s0⟩
  | sl=>exact ⟨_,by simp only [fN,g,f];rfl,_,rfl,.s0⟩
 obtain ⟨v,k,a,rfl,E⟩:=c5;exact ⟨_,by simp only [pJ];exact k,E,lQ⟩;rename_i k2 r K d2 d1 c9 sz R g;have i:=N p rfl;have c:=b1 n rfl;subst i c;obtain ⟨c3,f,rfl⟩:=map_some h;cases C with
 | m A=>exact ⟨_,by simp only [pJ,fN,g,f];rfl,.s0,lQ⟩
 cases h;cases h;rename_i c6;have e3:=N hm rfl;subst e3;split at h;rename_i b;cases C.vv;have J:∀w f (y:TV),(pJ P t (.string b) w f none []).map iX=some y->∃v,pJ P t (.string b) w f none H=some v/\TR ι M H y v/\NO y v:=by intro w f y h;obtain ⟨v,j,rfl⟩:=map_some h;have h2:=j;refine ⟨v,h2,?_⟩;unfold pJ at j;simp only at j;split at j;have:=ft j;exact ⟨.iX this,.iX this⟩;cases j
 have conv:∀{o:ek} {d:fR} {z:aq},ug ι M H o d->o.map iI=some (some z)->d=some z:=by
  intro o d z q e;cases o with
  | none=>cases e
  | some a=>simp at e;rcases q with ⟨c,_⟩|⟨a',b',c,rfl,hr⟩;cases c;cases c;rw [hr.iI e]
 have F:∀{o:ek} {d:fR},ug ι M H o d->o.map iI=none->d=none:=by
  intro o d q e;cases o with
  | none=>exact N q rfl
  | some a=>cases e
 split at h;rename_i i c;rw [F p i,F n c];exact J _ _ _ h;rename_i i c;rw [conv p i,F n c];exact J _ _ _ h;rename_i i c;rw [F p i,conv n c];exact J _ _ _ h;rename_i i c;rw [conv p i,conv n c];exact J _ _ _ h;cases h;rename_i c7;have b2:(∀b,u≠ .string b)->pJ P t u L A none H=cL P t u L A H:=by intro hn;unfold pJ;split;split;exact absurd rfl (hn _);rfl;rename_i e;cases e
 split at h;rename_i R g;have ⟨e,X,j⟩:=zT.1 h;have ⟨v,k,E,q3⟩:=Gp g X j b6 C p n;refine ⟨v,?_,E,q3⟩;rw [b2];exact k;rintro b rfl;simp only [cL,g] at k;cases k;rename_i c8 R g;have ⟨e,X,j⟩:=zT.1 h;have ⟨v,k,E,q3⟩:=Gq g X j b6 C p n;refine ⟨v,?_,E,q3⟩;rw [b2];exact k;rintro b rfl;simp only [cL,g] at k;cases k;cases h
theorem Br {a:BinOp} (h:da P a t u v=some w):bq w:=by unfold da at h;split at h;exact ft h;unfold mR at h;split at h <;> first|(cases h;rfl)|(cases h)
theorem CY {e:BinOp} (h:cm P e t x y=some z) (g:TR ι M H x u) (i:TR ι M H y v):∃j,da P e t u v=some j/\TR ι M H z j/\NO z j:=by
 have n:∀A (b:Bool) (f:aP),HP e=some b->P.underlying t=some (.pointer f)->da P e t (.pointer none) (.pointer (some A))=some (.bool !b):=by intro A b f c d;unfold da;rw [zN (by simp [bq,ak])];simp [mR,c,d]
 have o:∀A (b:Bool) (f:aP),HP e=some b->P.underlying t=some (.pointer f)->da P e t (.pointer (some A)) (.pointer none)=some (.bool !b):=by intro A b f c d;unfold da;rw [zN (by simp [bq,ak])];simp [mR,c,d]
 unfold cm at h;split at h;rename_i a b k l;cases g.iI k;cases i.iI l;split at h;obtain ⟨j,c,rfl⟩:=map_some h;have:=Br c;exact ⟨j,c,.iX this,.iX this⟩;cases h;rename_i k l;cases g.iI k;split at h;rename_i c d;cases h;cases i with|p m=>exact ⟨_,n _ _ _ c d,.v rfl rfl,kQ⟩
 rename_i c d;cases h;cases i with|q m=>exact ⟨_,n _ _ _ c d,.v rfl rfl,kQ⟩
 rename_i c d;cases h;cases i with|pe _ _ _ _ _=>exact ⟨_,n _ _ _ c d,.v rfl rfl,kQ⟩
 cases h;rename_i k l;cases i.iI l;split at h;rename_i c d;cases h;cases g with|p m=>exact ⟨_,o _ _ _ c d,.v rfl rfl,kQ⟩
 rename_i c d;cases h;cases g with|q m=>exact ⟨_,o _ _ _ c d,.v rfl rfl,kQ⟩
 rename_i c d;cases h;cases g with|pe _ _ _ _ _=>exact ⟨_,o _ _ _ c d,.v rfl rfl,kQ⟩
 cases h;cases h
theorem Gl {c:UnOp} (h:Gm P c x=some y) (f:TR ι M H x u):∃v,FU P c u=some v/\TR ι M H y v/\NO y v:=by
 have ⟨a,e,d⟩:=zT.1 h;cases f.iI e;obtain ⟨v,b,rfl⟩:=map_some d;have:bq v:=by unfold FU at b;split at b;exact ft b;cases b
 exact ⟨v,b,.iX this,.iX this⟩
theorem CN (h:mw P t x y=some z) (j:TR ι M H x u) (i:TR ι M H y v):∃c,ls P t u v=some c/\TR ι M H z c/\NO z c:=by
 have ⟨a,f,e⟩:=zT.1 h;have ⟨b,g,e⟩:=zT.1 e;cases j.iI f;cases i.iI g;obtain ⟨c,d,rfl⟩:=map_some e;have:bq c:=by unfold ls at d;split at d;exact ft d;cases d
 exact ⟨c,d,.iX this,.iX this⟩
theorem CF:∀{f:ao} {g d:aQ},CH f=some g->gT ι M H f d->d=g:=by
 intro f;induction f with
 | nil=>intro g d h b;cases h;exact zL b.1.symm
 | cons a f o=>
  intro g d h b;have ⟨x,i,k⟩:=zT.1 h;obtain ⟨p,l,rfl⟩:=map_some k;cases d with
  | nil=>simp [gT] at b
  | cons v d=>have e:=o l ⟨by simpa using b.1,λj x c n m=>b.2 (j+1) x c (Zs n) (Zs m)⟩;rw [(b.2 0 a v rfl rfl).iI i,e]
theorem Bs {b:Builtin} {f:Array aP} {c:Array Bool} (j:b≠ .append) (k:b≠ .copy) (l:b≠ .len):∃g:fR,(∀G,qH P b f t c p G=g.map λv=>(v,G))/\∀v,g=some v->bq v:=by
 have e:∀G,qH P b f t c p G=if p.all bq=true then match aj P (builtin b f t c p.toArray) with
   | some (.value v)=>if bq v=true then some (v,G) else none
   | _=>none
  else none:=by
  intro G;unfold qH;split;exact absurd rfl j;exact absurd rfl k;exact absurd rfl l;rfl
 cases a:p.all bq with
 | false=>exact ⟨none,λG=>by rw [e];simp [a],λv h=>by cases h⟩
 | true=>
  cases d:aj P (builtin b f t c p.toArray) with
  | none=>exact ⟨none,λG=>by rw [e];simp [a,d],λv h=>by cases h⟩
  | some n=>
   cases n with
   | value v=>
    cases i:bq v with
    | true=>exact ⟨some v,λG=>by rw [e];simp [a,d,i],λm h=>by cases h;exact i⟩
    | false=>exact ⟨none,λG=>by rw [e];simp [a,d,i],λv h=>by cases h⟩
   | _=>exact ⟨none,λG=>by rw [e];simp [a,d],λv h=>by cases h⟩
theorem GC {b:Builtin} {d:Array aP} {c:Array Bool} (h:CZ P b d t c o=some x) (y:gT ι M H o p):∃v,qH P b d t c p H=some (v,H)/\TR ι M H x v/\NO x v:=by
 have ⟨r,k,a⟩:=zT.1 h;rw [CF k y];split at a;have z:∀(k:b≠ .append) (a:b≠ .copy) (A:b≠ .len),(qH P b d t c r []).map (λq=>iX q.1)=some x->∃v,qH P b d t c r H=some (v,H)/\TR ι M H x v/\NO x v:=by intro f i j h;obtain ⟨q,l,rfl⟩:=map_some h;obtain ⟨g,s,w⟩:=Bs f i j;rw [s] at l ⊢;obtain ⟨v,m,rfl⟩:=map_some l;have n:=w v m;exact ⟨v,by rw [m];rfl,.iX n,.iX n⟩
 split at a;cases a;cases a;cases a;rename_i f i j;exact z (λe=>f e) (λe=>i e) (λe=>j e) a;cases a
theorem K8 (h:∀a,u≠ .tuple a) (j:Nat):mo u 0 j=jv u j:=by cases u <;> first|rfl|exact absurd rfl (h _)
theorem Aq {R E:aP} {N:TypeDesc} (L:P.underlying t=some (.map R E)) (J:P.underlying R=some N) (h:sG N ((P.info? E).bind (·.zero)) q x y l s=some z)
  (b2:∀r k o,(ob l s r)[k]? =some o->OR ι M D H (wr fl r k) r k o) (g:TR ι M H x u) (A:TR ι M H y v):∃c,fP P t u v q H=some c/\TR ι M H z c/\NO z c:=by
 have F:∀c (b:Bool),ak c->TR ι M H (if q=true then .tu [c1 c,.v (.bool b)] else c1 c) (if q=true then .tuple #[c,.bool b] else c)/\NO (if q=true then .tu [c1 c,.v (.bool b)] else c1 c) (if q=true then .tuple #[c,.bool b] else c):=by
  intro c b d;split;refine ⟨.tu rfl λj x b6 g m=>?_,λy j w a n f i=>?_⟩;cases j with
  | zero=>simp at g m;subst g m;exact .c1 d
  | succ j=>cases j with
   | zero=>simp at g m;subst g m;exact .v rfl rfl
   | succ j=>simp at g
  cases y with
  | zero=>
   have b1:∀X,c≠ .tuple X:=by rintro X rfl;simp [ak] at d
   have e1:eI (c1 c) 0 j=some (.sl true w):=by rcases zo d with ⟨e,_⟩|⟨e,_⟩ <;> (rw [e] at f ⊢;exact f)
   have e2:mo c 0 j=some (.slice (some a) n 1):=by have i:=i;rw [K8 b1];exact i
   exact NO.c1 d 0 j w a n e1 e2
  | succ y=>cases y with
   | zero=>have f:=f;cases j <;> cases f
   | succ y=>cases f
  exact ⟨.c1 d,.c1 d⟩
 unfold sG at h;split at h;rename_i k c2;cases A.vv;cases g with
 | @mp _ c3 hm=>split at h;rename_i w cl ho;have ⟨c4,f,i,h3,_⟩:=b2 true k _ ho;rw [hm] at f;cases f;split at h;rename_i K;split at h;rename_i j c p;cases h;obtain ⟨e,he,rfl⟩:=na _ _ _ _ p;have d:=(h3 e (Zs he)).2;refine ⟨_,?_,F e.val true d⟩;simp only [fP,L,i,J,K,if_true,p];rename_i p;split at h;rename_i z C;split at h;rename_i d;cases h;have ⟨y,A,C⟩:=zT.1 C;refine ⟨_,?_,F z false d⟩;simp only [fP,L,i,J,K,if_true,p,A,C,d];cases h;cases h;cases h;cases h;cases h
 cases h
theorem rR (b:Nat):∀(a:aQ) (k:Nat) (C:Array aq),((a.zipIdx k).foldl (λ(c:Array aq) (p:aq×Nat)=>c.setIfInBounds (b+p.2) p.1) C).toList=cr C.toList (b+k) a:=by
 intro a;induction a with
 | nil=>intro k C;rfl
 | cons x a d=>intro k C;rw [List.zipIdx_cons,List.foldl_cons,d,Array.toList_setIfInBounds];rfl
theorem qz {d:Nat->Option (Nat×Nat)} {ps:List (Nat×aq)} (f:d a=some (b,c)) (e:u.cells.size=c) (g:b+c<=p.length):
  Instr.fill d p.toArray ((a,u)::ps)=Instr.fill d (cr p b u.cells.toList).toArray ps:=by
 simp only [Instr.fill,f];rw [zN (by simp [e];omega)];congr 1;apply Array.ext';rw [<-Array.foldl_toList,wS];have:=rR b u.cells.toList 0 p.toArray;simpa using this
def xi (b:ao) (C:aQ):Prop:=∀(j:Nat) (c:cD) (a:Addr) (n:Nat),b[j]? =some (.sl true c)->C[j]? =some (.slice (some a) n 1)->False
theorem xi.JM (h:p.all ak):xi (p.map c1) p:=by intro j c a n _ b;rw [zQ] at h;have:=h _ (zI b);simp [ak] at this
theorem xi.eQ {d:ao} {f:aQ} (h:xi o p) (k:a+d.length<=o.length) (q:p.length=o.length) (m:f.length=d.length) (l:xi d f):xi (T.eQ o a d) (cr p a f):=by intro j i g n c b;rw [hL _ _ _ _ k] at c;rw [dW _ _ _ _ O,m] at b;split at c;rename_i e;rw [zO e] at b;exact l _ i g n c b;rename_i e;rw [zN e] at b;exact h j i g n c b
theorem TR.jB (h:TR ι M H x u):TR ι M H (T.jB x) u:=by unfold T.jB;split;exact h;exact h.dY;exact h
theorem gT.Fa (h:gT ι M H o p):gT ι M H (o.map T.jB) p:=by
 refine ⟨by simpa using h.1,λj x c a d=>?_⟩;rw [zK] at a;cases b:o[j]? with
 | none=>rw [b] at a;cases a
 | some y=>rw [b] at a;cases a;exact (h.2 j y c b d).jB
theorem xi.Fa (h:gT ι M H o p):xi (o.map T.jB) p:=by
 intro j c a n b f;rw [zK] at b;cases d:o[j]? with
 | none=>rw [d] at b;cases b
 | some y=>
  rw [d] at b;have i:=h.2 j y _ d f;simp at b;unfold T.jB at b;split at b;cases b;cases i with
  | sl _ _ _ _ g _=>exact g rfl rfl
  cases b;rename_i k l;subst b;cases c with
  | nil=>exact k true rfl
  | cons e c=>exact l true (e::c) rfl
theorem vM (b:ao) (j:Nat) (a:cD):(b.map dY)[j]? ≠some (.sl true a):=by
 rw [zK];cases b[j]? with
 | none=>simp
 | some x=>simp;exact l9 x a
theorem Ej (h:p.all ak):cK (p.map c1):=by refine kh λx b=>?_;obtain ⟨c,a,rfl⟩:=wB.1 b;rw [zQ] at h;rcases zo (h c a) with ⟨e,_⟩|⟨e,_⟩ <;> (rw [e];rfl)
abbrev zz (ι:aH) (M:Nat->Prop) (H:AH) (ps:List (Nat×TV)) (a:List (Nat×aq)):Prop:=ps.map (·.1)=a.map (·.1)/\gT ι M H (ps.map (·.2)) (a.map (·.2))
theorem zz.eu {p:Nat×TV} {ps:List (Nat×TV)} {a:List (Nat×aq)} (h:zz ι M H (p::ps) a):∃v e,a=(p.1,v)::e/\TR ι M H p.2 v/\zz ι M H ps e:=by
 cases a with
 | nil=>simp [zz] at h
 | cons q a=>obtain ⟨b,d⟩:=h;simp at b;refine ⟨q.2,a,by rw [b.1],d.2 0 _ _ rfl rfl,b.2,by simpa using d.1,λj x c g f=>d.2 (j+1) x c (Zs g) (Zs f)⟩
theorem qd {pl:List (Nat×Nat)} {f:Nat->Option (Nat×Nat)} (m:∀(i:Nat) (p:Nat×Nat),pl[i]? =some p->f i=some p):∀{ps:List (Nat×TV)} {a:List (Nat×aq)} {c d:ao} {C:aQ},iM pl c ps=some d->gT ι M H c C->xi c C->zz ι M H ps a->
  ∃b,Instr.fill f C.toArray a=some b.toArray/\gT ι M H d b/\xi d b:=by
 intro ps;induction ps with
 | nil=>
  intro a c d C h e g j;cases h;have:a=[]:=by cases a with|nil=>rfl|cons _ _=>simp [zz] at j
  subst this;exact ⟨C,rfl,e,g⟩
 | cons p ps w=>
  intro a c d C h e g j;obtain ⟨v,K,rfl,t,q⟩:=j.eu;have ⟨i,x⟩:=p;simp only [iM] at h;split at h;rename_i J n r;split at h;rename_i o;have ⟨E,F,k⟩:=o;have ⟨c1,D⟩:=t.ce (by simpa [aW] using k);have s:v.cells.size=n:=by have:=c1.1;simp at this;omega
  have l:=c1.Fa;have ⟨b,y,z,A⟩:=w h (e.eQ l W) (xi.eQ g W e.1.symm W (xi.Fa c1)) q;refine ⟨b,?_,z,A⟩;rw [qz (m _ _ r) s (Zo e.1)];exact y;cases h;cases h
theorem uY (he:0<a):∀{ps:List (Nat×TV)} {g:List (Nat×aq)} {b f:cD} {C:aQ},jb a b ps=some f->cB ι M H b a C->(∀c∈b,c.length=a)->bO (ps.map (·.2))=true->zz ι M H ps g->
  ∃m,Instr.fill (λi=>some (i*a,a)) C.toArray g=some m.toArray/\cB ι M H f a m/\f.length=b.length/\∀c∈f,c.length=a:=by
 intro ps;induction ps with
 | nil=>
  intro g b f C h d p _ t;cases h;have:g=[]:=by cases g with|nil=>rfl|cons _ _=>simp [zz] at t
  subst this;exact ⟨C,rfl,d,rfl,p⟩
 | cons b6 ps ih=>
  intro g b f C h d p s t;obtain ⟨v,qs,rfl,hv,b2⟩:=t.eu;have ⟨i,x⟩:=b6;simp only [yY,bO,zP] at s;simp only [jb] at h;split at h;rename_i r;have ⟨F,J⟩:=r;have ⟨c1,A⟩:=hv.ce (by simpa [aW] using s.1);have D:v.cells.size=a:=by have:=c1.1;simp at this;omega
  have K:=c1.Be;have b1:i*a+a<=C.length:=by rw [d.len];have:(i+1)*a<=b.length*a:=zW _ J;rwa [xN] at this
  have N:v.cells.toList.length=a:=by simpa using D
  have L:cB ι M H (b.set i ((ce x).map dY)) a (cr C (i*a) v.cells.toList):=by refine ⟨by simp [d.len],?_,λz j c y w k o l=>?_⟩;rw [zQ];intro w hw;obtain ⟨c3,r,rfl⟩:=yA hw;have n:=zA r;rw [dW _ _ _ _ O] at n;have E:=d.oq;rw [zQ] at E A;split at n;exact A _ (zI n);exact E _ (zI n);rw [dW _ _ _ _ O,N] at l;rw [yT] at k;split at k;rename_i q;subst q;cases k;have P:=aa o;simp at P;rw [zO O,show i*a+j-i*a=j by omega] at l;exact K.2 j y w o l;rename_i q;have R:=aa o;rw [p c (zI k)] at R;rw [zN ?_] at l;exact d.rel z j c y w k o l;rintro ⟨g5,g6⟩;rcases Nat.lt_or_gt_of_ne q with e|e;have:(i+1)*a<=z*a:=zW _ e;rw [xN] at this;omega;have:(z+1)*a<=i*a:=zW _ e;rw [xN] at this;omega
  have X:∀c∈b.set i ((ce x).map dY),c.length=a:=by intro c d;rcases List.mem_or_eq_of_mem_set d with e|e;exact p c e;subst e;simp [F]
  have ⟨m,q1,q2,q3,q4⟩:=ih h L X s.2 b2;refine ⟨m,?_,q2,by rw [q3];simp,q4⟩;rw [qz rfl D b1];exact q1;cases h
end
section
variable {X:Nat->Prop} {D E:aH} {M J:Nat->Prop} {H h:AH} {ω ω':Nat->Option Loc} {P:aB} {fl:Nat} {τ τ':TF} {l s l' s':ae} {V:aQ}
def bV (X:Nat->Prop) (D:aH) (ω:Nat->Option Loc) (fl:Nat) (H:AH) (l s:ae) (V:aQ) (d:dj) (q:Bool) (z:Option (aq×AH)) (r:TS):Prop:=
 ∃v h E ω',z=some (v,h)/\St X E ω' fl h (dU r.2.1 d r.1) r.2.2.1 r.2.2.2 (bZ V d v)/\Xt X fl D ω H l s E ω' h r.2.2.1 r.2.2.2/\
  (q=true->∀b c sz a,l[b]? =some (.row c sz)->D false b 0=some a->h[a]? =H[a]?)
theorem bV.val (h:St X D ω fl H τ l s V) {d:dj} (a:∀k,d=some k->k<V.length) {v:aq} {z:Option (aq×AH)} (e:z=some (v,H)) (c:TR D (Mu X D l s) H x v) (b:NO x v):bV X D ω fl H l s V d q z (x,τ,l,s):=
 ⟨v,H,D,ω,e,h.put a c b,Xt.refl,λ_ _ _ _ _ _ _=>rfl⟩
theorem jO {o:Oper} (h:kP o) {x:Operand} (a:x∈o.op.operands):pI x:=by simp only [kP,zQ] at h;exact h x (Zs a)
theorem bV.mv (h:St X D ω fl H τ l s V) {d:dj} (a:∀k,d=some k->k<V.length) {q:Bool} {x:Operand} (b:pI x) {z:Option (aq×AH)} (c:z=some (ev V x,H)):bV X D ω fl H l s V d q z (aR τ x,dO τ x,l,s):=by
 cases x with
 | tmp t=>obtain ⟨ω',f,g⟩:=h.move t d a;exact ⟨_,H,D,ω',c,f,g,λ_ _ _ _ _ _ _=>rfl⟩
 | _=>exact bV.val h a c (av h b) (rk b (λt e=>by cases e))
theorem St.mK (h:St X D ω fl H τ l s V) (ext:AH):St X D ω fl (H++ext) τ l s V/\Xt X fl D ω H l s D ω (H++ext) l s:=by have c:∀v,v<H.length->(H++ext)[v]? =H[v]? :=λv b=>zB b;have d:Le D (Mu X D l s) H D (Mu X D l s) (H++ext):=⟨λ_ _ _ _ h=>h,λv C sz g b e=>⟨e,g,(c v (aa b)).trans b⟩⟩;refine ⟨⟨λt=>(h.tm t).mono d,λt i j w a n x y=>?_,λr f o E=>?_,λv F b=>?_,λr f k v b=>?_,h.mM,λv b=>?_,h.xo⟩,⟨λ_ _ _ _ h=>h,Z,λv b A=>⟨c v b,A⟩,λv C sz g b e=>(d.aM v C sz g b e).2,λv b=>.inl b,λ_ _=>rfl⟩⟩;obtain ⟨q,J⟩:=h.ow t i j w a n x y;exact ⟨q,J.aM (c _ (h.lt _ _ q))⟩;refine (h.ob r f o E).other d (λk v p z=>⟨c v (h.fC _ _ _ _ z).2,rfl⟩) (λ_ _ _ _ _ _ p=>p) (λ_ a j m _=>⟨m,c _ (h.lt _ _ m)⟩);have:=h.lt v F b;simp;omega;have:=h.fC r f k v b;simp;omega;have:=h.xl v b;simp;omega
theorem St.PF (h:St X D ω fl H τ l s V) (c:Mu X D l s a):a<H.length:=by rcases c with d|⟨i,e,g,f,_,_,b⟩;exact h.xl a d;exact (h.fC _ _ _ _ b).2
theorem qM (h:zc P t=some o):∃i a,P.info? t=some i/\i.zero=some a/\a.cells.toList.all ak/\a.cells.size=i.size/\o=a.cells.toList.map c1:=by unfold zc at h;split at h;rename_i i c;split at h;rename_i a d;split at h;rename_i b;cases h;exact ⟨i,a,c,d,b.1,b.2.1,rfl⟩;cases h;cases h;cases h
theorem lU (H:AH) (a:AO):(H++[a])[H.length]? =some a:=Z
theorem It (h:zc P t=some o) {i:TypeInfo} (b:P.info? t=some i):i.size<1000000:=by unfold zc at h;rw [b] at h;simp only at h;split at h;split at h;rename_i a;exact a.2.2;cases h;cases h
theorem bV.row (h:St X D ω fl H τ l s V) {d:dj} (v:∀k,d=some k->k<V.length) {b:ao} {sz:Nat} {z:Option (aq×AH)} (r:Bool) (E:z=some (.pointer (some ⟨H.length,0,none⟩),H++[.row p sz (some 0)]))
  (A:cK b) (C:gT D (Mu X D l s) H b p) (y:xi b p):bV X D ω fl H l s V d q z (.p r (ob l s r).length 0,τ,add l s r (.row b sz)):=by
 obtain ⟨g,m⟩:=h.add r (o:=.row b sz) rfl (.row p sz (some 0)) (λx=>x) h.tm (λt i j f a n e c=>by
   obtain ⟨F,K⟩:=h.ow t i j f a n e c;rw [F];exact ⟨rfl,K⟩) (λ_ _=>rfl) (λ_ _ _ _=>rfl) λJ w=>
  ⟨A,H.length,p,aH.add_same _ _ _ _ _,lU _ _,C.mono w,zO rfl,λ_ j f a n e c=>(y j f a n e c).elim⟩
 refine ⟨_,_,_,_,E,g.put v (.p (aH.add_same _ _ _ _ _)) Hq,m,λ_ M L N P e c=>?_⟩;have:=(h.fC _ _ _ _ c).2;rw [zB this]
theorem bV.alloc (h:St X D ω fl H τ l s V) {d:dj} (e:∀k,d=some k->k<V.length) (f:zc P t=some o) (r:Bool):bV X D ω fl H l s V d q (mT P t H) (.p r (ob l s r).length 0,τ,add l s r (.row o (bc P t))):=by obtain ⟨i,j,b,c,a,g,rfl⟩:=qM f;refine bV.row h e r ?_ (Ej a) (.JM a) (.JM a);unfold mT;simp only [b,c];rw [zO a];rfl
theorem xi.Be:xi (o.map dY) p:=λj a _ _ h _=>vM o j a h
theorem Em (x:TV):cI (T.jB x)=cI x:=by unfold T.jB;split <;> rfl
theorem Ek (h:cK o):cK (o.map T.jB):=kh λx b=>by obtain ⟨y,c,rfl⟩:=wB.1 b;obtain ⟨j,a,rfl⟩:=yA c;rw [Em];exact cP h (zA a)
theorem gT.pT {sz:Nat} (h:gT D M H o p) (a:T.pT sz o):Ts sz p:=by
 unfold T.pT at a;unfold Ts;cases l:Nat.ble sz 999999 with
 | true=>rfl
 | false=>
  rw [l] at a;simp at a ⊢;cases r:gy sz with
  | none=>rfl
  | some s=>
   obtain ⟨t,b,N⟩:=s;rw [r] at a;simp at a ⊢;obtain ⟨q,a⟩:=a;refine ⟨h.1▸q,?_⟩;split;rename_i j m c g;exfalso;have x:=aa g;have i:o[b+1]? =some (o[b+1]'(Zo h.1)):=zA _;have d:=h.2 (b+1) _ _ i g;rw [i] at a;simp only at a;generalize o[b+1]'(Zo h.1)=y at a d;generalize f:Value.slice (some j) (m+1) c=v at d;cases d with
   | u=>cases a
   | v w n=>subst f;cases n
   | @sl z k _ _ _ _ _ _ _ _ _ _ _=>cases k with
    | nil=>injection f with _ e;simp at e
    | cons _ _=>cases a
   | m _=>cases a
   | _=>cases f
   rfl
theorem bV.a1c (h:St X D ω fl H τ l s V) {d:dj} (c:∀k,d=some k->k<V.length) (f:TR D (Mu X D l s) H x u) (a:aW x) (e:T.pT (bc P t) (ce x)):bV X D ω fl H l s V d q (pB P t u H) (.p false l.length 0,τ,l++[.row ((ce x).map dY) (bc P t)],s):=by obtain ⟨c1,b⟩:=f.ce (by simpa [aW] using a);refine bV.row (r:=false) h c ?_ (tf (by simpa [aW] using a)) c1.Be .Be;unfold pB;rw [zO ⟨b,c1.pT e⟩];rfl
theorem bV.a1a (h:St X D ω fl H τ l s V) {d:dj} (c:∀k,d=some k->k<V.length) (f:TR D (Mu X D l s) H x u) (a:aW x) (e:T.pT (bc P t) (ce x)):bV X D ω fl H l s V d q (pB P t u H) (.p true s.length 0,τ,l,s++[.row ((ce x).map jB) (bc P t)]):=by obtain ⟨c1,b⟩:=f.ce (by simpa [aW] using a);refine bV.row (r:=true) h c ?_ (Ek (by simpa [aW] using a)) c1.Fa (.Fa c1);unfold pB;rw [zO ⟨b,c1.pT e⟩];rfl
theorem bV.a1b (h:St X D ω fl H τ l s V) {d:dj} (w:∀k,d=some k->k<V.length) {x:Operand} (z:pI x) (g:aW (aR τ x)) (L:T.pT (bc P t) (ce (aR τ x))):bV X D ω fl H l s V d q (pB P t (ev V x) H) (.p false l.length 0,dO τ x,l++[.row (ce (aR τ x)) (bc P t)],s):=by
 have p:=av h z;obtain ⟨c1,E⟩:=p.ce (by simpa [aW] using g);have A:pB P t (ev V x) H=some (.pointer (some ⟨H.length,0,none⟩),H++[.row (ev V x).cells.toList (bc P t) (some 0)]):=by unfold pB;rw [zO ⟨E,c1.pT L⟩];rfl
 cases x with
 | tmp c=>
  have y:aW (τ c):=g;obtain ⟨F,K⟩:=h.add (τ':=dO τ (.tmp c)) false (o:=.row (ce (τ c)) (bc P t)) rfl (.row (ev V (.tmp c)).cells.toList (bc P t) (some 0)) (toCell (some c) false l.length 0) (h.HJ c).tm (λC i j f a n b e=>by
    rcases aL τ c C (bw (τ c)) with ⟨rfl,t⟩|⟨R,t⟩;simp only [dO] at b;rw [t] at b;exact ((NO.bw _ _) i j f a n b e).elim;simp only [dO] at b;rw [t] at b;obtain ⟨m,v⟩:=h.ow C i j f a n b e;rw [m];exact ⟨by simp [toCell,wQ R],v⟩) (λ_ _=>rfl) (λ_ _ _ _=>rfl) λJ M=>
   ⟨by simpa [aW] using y,H.length,_,aH.add_same _ _ _ _ _,lU _ _,c1.mono M,zO rfl,λ_ j f a n b e=>by
    obtain ⟨m,v⟩:=h.ow c 0 j f a n (by rw [rq y];exact b) (by have:=jW p g j;exact this.trans e)
    have N:=h.lt _ _ m;refine ⟨?_,v.aM (zB N)⟩;show (if _ then _ else _)=_;rw [zN O,m];simp [toCell,ob]⟩
  refine ⟨_,_,_,_,A,F.put w (.p (aH.add_same _ _ _ _ _)) Hq,K,λ_ id b1 b2 b6 b e=>?_⟩;have:=(h.fC _ _ _ _ e).2;rw [zB this]
 | _=>refine bV.row (r:=false) h w A (by simpa [aW] using g) c1 λj f a n b e=>?_;refine rk (V:=V) z (λc t=>by cases t) 0 j f a n (by rw [rq g];exact b) ?_;exact (jW p g j).trans e
theorem bV.df (h:St X D ω fl H τ l s V) {d:dj} (y:∀k,d=some k->k<V.length) {q:Bool} {an:Nat} {es:cD} {z:Option (aq×AH)} (A:z=some (.slice (some ⟨H.length,0,none⟩) es.length 1,H++[.row p a (some 0)]))
  (g:cS an a es) (b:cB D (Mu X D l s) H es a p) (L:an=0->es≠[]):bV X D ω fl H l s V d q z ((T.df an a es l s).1,τ,(T.df an a es l s).2):=by
 have w:∀r:Bool,bV X D ω fl H l s V d q z (.m r (ob l s r).length 0 0 es.length a,τ,add l s r (.aY 0 a es)):=by
  intro r;obtain ⟨m,t⟩:=h.add r (o:=.aY 0 a es) rfl (.row p a (some 0)) (λx=>x) h.tm (λb2 i j es C n f e=>by
    obtain ⟨R,q2⟩:=h.ow b2 i j es C n f e;rw [R];exact ⟨rfl,q2⟩) (λ_ _=>rfl) (λ_ _ _ _=>rfl) λJ K=>
   ⟨H.length,p,aH.add_same _ _ _ _ _,lU _ _,b.len,⟨λc b=>⟨(ch g b).1,(ch g b).2.1⟩,by rw [b.len,yM];exact zE _,λi j c x v f e e3=>(b.rel i j c x v f e (by rw [yM] at e3;exact e3)).mono K⟩,zO rfl,λP hk=>by
    unfold aH.add;rw [zN (by rintro ⟨_,_,a⟩;omega)];cases F:D r (ob l s r).length P with
    | none=>rfl
    | some v=>exact absurd (h.fC _ _ _ _ F).1 (wF _)⟩
  refine ⟨_,_,_,_,A,m.put y ?_ Hr,t,λ_ N E b1 b6 f e=>?_⟩;have:=TR.m (M:=Mu X (D.add r (ob l s r).length 0 H.length) (add l s r (.aY 0 a es)).1 (add l s r (.aY 0 a es)).2) (H:=H++[.row p a (some 0)]) (off:=0) (n:=es.length) (sz:=a) (aH.add_same D r (ob l s r).length 0 H.length);rw [wT] at this;exact this;have:=(h.fC _ _ _ _ e).2;rw [zB this]
 unfold T.df;split;obtain ⟨ω',m,t⟩:=h.fresh (zZ _) d y b.len (L rfl) (λc b=>⟨(ch g b).1,(ch g b).2.2 rfl⟩) b.rel;refine ⟨_,_,_,_,A,m,t,λ_ N E b1 b6 f e=>?_⟩;have:=(h.fC _ _ _ _ e).2;rw [zB this];exact w false;exact w true
theorem cB.mj (h:u.cells.toList.all ak) (r:0<u.cells.size) (o:p.length=a*u.cells.size) (l:∀k,k<p.length->p[k]? =u.cells.toList[k%u.cells.size]?):cB D M H (T.mj a (u.cells.toList.map c1)) u.cells.size p:=by have f:=h;rw [zQ] at f;refine ⟨by simp [T.mj,o],?_,λi j c x v b d g=>?_⟩;rw [zQ];intro v q;obtain ⟨k,n,rfl⟩:=yA q;have e:=l k n;rw [zA n] at e;exact eS (f _ (zI e.symm));simp only [T.mj,List.getElem?_replicate] at b;split at b;cases b;have m:=aa d;simp at m;have e:=l _ (aa g);rw [g,Nat.mul_comm i,Nat.mul_add_mod,Nat.mod_eq_of_lt m] at e;rw [zK,<-e] at d;cases d;exact .c1 (f v (zI e.symm));cases b
theorem tH (h:fits a b):a*b<=140737488355328/\a<=4611686018427387904:=by simpa [fits] using h
theorem St.JG (h:St X D ω fl H τ l s V) (x:Operand):St X D ω fl H (dO τ x) l s V:=by
 cases x with
 | tmp t=>exact h.HJ t
 | _=>exact h
theorem zi {d f:cD} (e:cS a b d) (g:cS a b f):cS a b (d++f):=by
 induction d with
 | nil=>exact g
 | cons c d h=>simp only [cS,zP,List.cons_append] at e ⊢;exact ⟨e.1,h e.2⟩
theorem cB.app {b l:cD} {n:aQ} (h:cB D M H b a p) (k:cB D M H l a n) (q:∀c∈b++l,c.length=a):cB D M H (b++l) a (p++n):=by refine ⟨by simp [h.len,k.len,wX],?_,λi j c x v e m g=>?_⟩;simp [h.oq,k.oq];have o:=aa m;rw [q c (zI e)] at o;rcases zX i b.length with f|f;rw [zB f] at e;rw [zB] at g;exact h.rel i j c x v e m g;rw [h.len];have:(i+1)*a<=b.length*a:=zW _ f;rw [xN] at this;omega;rw [zJ f] at e;have r:b.length*a<=i*a:=zW _ f;rw [zJ (by rw [h.len];omega),h.len] at g;apply k.rel (i-b.length) j c x v e m;rw [Nat.sub_mul];rw [show i*a-b.length*a+j=i*a+j-b.length*a by omega];exact g
theorem cB.take {d:cD} (h:cB D M H d a p) (n:∀c∈d,c.length=a) (g:b<=d.length):cB D M H (d.take b) a (p.take (b*a)):=by have l:b*a<=d.length*a:=zW _ g;refine ⟨by rw [wG,wG,h.len,wI g,wI l],?_,λi j c x v e k f=>?_⟩;have:=h.oq;rw [zQ] at this ⊢;exact λv m=>this v (yG m);rw [zU] at e f;split at e;split at f;exact h.rel i j c x v e k f;cases f;cases e
theorem JS.cells {a:cD} {sz:Nat} (e:0<sz) (h:JS D M H a sz p 0) (l:p.length=a.length*sz):cB D M H a sz p:=by
 refine ⟨l,?_,λi j c x v b d g=>h.2.2 i j c x v b d (by rw [yM];exact g)⟩;rw [zQ];intro v o;obtain ⟨n,m,rfl⟩:=yA o;have k:n/sz<a.length:=by rw [Nat.div_lt_iff_lt_mul e];omega
 have r:n%sz<sz:=Nat.mod_lt _ e;have b:=zA k;obtain ⟨s,q⟩:=h.1 _ (zI b);have d:=zA (show n%sz<a[n/sz].length by omega);have f:n/sz*sz+n%sz=n:=by rw [Nat.mul_comm];exact Nat.div_add_mod _ _
 exact (h.2.2 _ _ _ _ p[n] b d (by rw [yM,f];exact zA m)).Ad (iR (fk q d))
theorem bV.app (h:St X D ω fl H τ l s V) {d:dj} (hd:∀b6,d=some b6->b6<V.length) {t1 ty el:aP} {d1:TypeDesc} {b:TypeInfo} (hu:P.underlying t=some (.slice el)) (d6:P.underlying t1=some d1) (d5:vT d1) (F:P.info? el=some b) (hz:b.zero=some u) (d8:u.cells.size=b.size) (d4:b.size<1000000)
  {x y:Operand} (hx:pI x) (hy:pI y) {d9:TV×ae×ae} (f:cq (qu t) b.size b.bytes a fl (aR τ x) (aR τ y) l s=some d9):
  bV X D ω fl H l s V d true (cC P t t1 (ev V x) (ev V y) H) (d9.1,dO τ x,d9.2):=by
 have J:=av h hx;have i3:=av h hy;unfold cq at f;split at f;cases f;rename_i g h7;have go:∀(f3:Nat),cS f3 b.size g->0<b.size->∃q,cB D (Mu X D l s) H g b.size q/\
   (∀j,(j= .slice none 0 0\/∃k v,j= .slice (some ⟨k,v,none⟩) 0 0)->cC P t t1 j (ev V y) H=if g.length=0 then some (j,H) else if g.length*b.bytes<=140737488355328/\g.length<=4611686018427387904 then some (.slice (some ⟨H.length,0,none⟩) g.length 1,H++[.row q b.size (some 0)]) else none)/\
   (∀k n N sz K,H[k]? =some (.row N sz (some K))->cC P t t1 (.slice (some ⟨k,0,none⟩) n 1) (ev V y) H=if sz=b.size/\n*sz<=N.length/\K<=n*sz/\(n+g.length)*b.bytes<=140737488355328/\n+g.length<=4611686018427387904 then
      some (.slice (some ⟨H.length,0,none⟩) (n+g.length) 1,H.set k (sX (qu t) (N.take (n*sz)) sz)++[.row (N.take (n*sz)++q) sz (some (bif qu t then K else n*sz))]) else none):=by
  intro f3 h1 h2;obtain ⟨q1,q,q2,z⟩:=kJ h.ob h7 h2 h1 i3;refine ⟨q,z,λj hv=>?_,λk n N sz K p=>?_⟩;rcases hv with rfl|⟨k,v,rfl⟩;unfold cC;simp only [hu,d6,q1,F,d5,hz,q2];rw [zO ⟨d8,z.oq,z.len,d4⟩];unfold cC;simp only [hu,d6,q1,F,d5,hz,q2];rw [zO ⟨d8,z.oq,z.len,d4⟩];unfold cC;simp only [hu,d6,q1,F,d5,hz,q2,p];rw [zO ⟨d8,z.oq,z.len,d4⟩]
 generalize i:aR τ x=xt at f J;generalize b2:ev V x=j at J;split at f;rename_i o;split at f;rename_i e;obtain ⟨c1,A,w,L,M⟩:=e;obtain ⟨q,g1,g2,g3⟩:=go a A M;have hf:=tH L;have hb:=h.JG x;by_cases r:o=[];subst r;simp at f hf;have hv:(j= .slice none 0 0\/∃k v,j= .slice (some ⟨k,v,none⟩) 0 0):=by
  generalize F:TV.sl true []=c8 at J;cases J with
  | sn=>exact .inl rfl
  | s0=>exact .inr ⟨_,_,rfl⟩
  | sl _ _ _ _ f5 _=>cases F;exact absurd rfl (f5 rfl)
  | _=>cases F
 have h8:NO (.sl true []) j:=by rcases hv with rfl|⟨k,v,rfl⟩;exact lQ;exact lQ
 have d3:cC P t t1 j (ev V y) H=if g.length=0 then some (j,H) else some (.slice (some ⟨H.length,0,none⟩) g.length 1,H++[.row q b.size (some 0)]):=by rw [g2 j hv,zO hf]
 split at f;rename_i hn;subst hn;cases f;exact bV.val hb hd d3 J h8;rename_i hn;cases f;have h6:=λc8=>hn (zL c8);rw [zN h6] at d3;exact bV.df hb hd d3 A g1 (λ_=>hn);have g7:=c1.resolve_left r;obtain ⟨hk,g5⟩:=g7;subst g5;rw [zN (by simp [r])] at f;cases f;cases x with
 | tmp d2=>
  have i:τ d2= .sl true o:=i;have b2:V.getD d2 undef=j:=b2;have f6:=h.tm d2;rw [i,b2] at f6;cases f6 with
  | sn=>exact absurd rfl r
  | s0=>exact absurd rfl r
  | @sl _ _ c7 v sz C j5 p g9 j3 g6 f5 hr=>
   obtain ⟨o1,o2⟩:=h.ow d2 0 0 o ⟨c7,v,none⟩ o.length (by rw [i];rfl) (by rw [b2];rfl);obtain ⟨p1,C',e6,K,p2,p3,p4⟩:=o2;have p1:=p1;subst p1;rw [p] at p2;cases p2;have h9:sz=b.size:=by obtain ⟨c,e⟩:=List.exists_mem_of_ne_nil _ r;have:=(ch w e).1;have:=(g6 c e).1;omega
   subst h9;have i1:C.take (o.length*b.size)=C:=by rw [<-p3];exact wO
   obtain ⟨f1,f2⟩:=h.BD i b2 p;have g4:cB D (Mu X D l s) H o b.size C:=.mk' M w p3 λi4 i6 c8 x c f8 f9 b6=>hr i4 i6 c8 x c f8 f9 (by rw [yM];exact b6);have b1:∀c∈o++g,c.length=b.size:=λc e=>(ch (zi w A) e).1;have c9:=(g4.app g1 b1).mono f2.le;obtain ⟨ω',k1,k2⟩:=f1.fresh (k:=C.length) Z d hd c9.len (by simp [r]) (λc e=>⟨b1 c e,(ch (zi w A) e).2.2 rfl⟩) c9.rel;rw [xI] at k1;refine ⟨_,_,_,_,?_,k1,f2.trans k2,λ_ k f4 e6 i9 e1 R=>?_⟩;rw [g3 c7 o.length C b.size K p,zO ⟨rfl,O,O,hf⟩,hk,i1];simp only [sX,cond_false,xC];rw [<-p3];have d7:=(h.fC _ _ _ _ R).2;rw [zB (Zs d7),zD];rintro rfl;exact g9 (Mu.of e1 rfl R)
 | const f7=>exfalso;have:aR τ (.const f7)=T.iX f7:=rfl;rw [this] at i;unfold T.iX at i;split at i;cases i;unfold T.c1 at i;split at i;cases i;exact r rfl;cases i
 | global j2=>cases hx
 | func j1=>cases i
 cases f;rename_i i7 k j6 v n sz;split at f;rename_i b6 j7 o p;split at f;rename_i e;obtain ⟨rfl,rfl,rfl,rfl,c1,A,w,L,M,c6⟩:=e;cases f;have hb:=h.JG x;obtain ⟨q,g1,g2,g3⟩:=go 1 L M;obtain ⟨c7,C,h1,h2,hl,h3,h4,h5⟩:=h.ob i7 k _ p;have i2:j= .slice (some ⟨c7,0,none⟩) n 1:=by
  cases J with
  | m hi=>rw [h1] at hi;cases hi;rw [wT]
 have hC:=h3.cells M hl;have j4:n*b.size<=o.length*b.size:=zW _ c1;have b1:∀c∈o.take n++g,c.length=b.size/\n4 c:=by intro c e;rcases xH.1 e with e|e;exact h3.1 c (yG e);exact ⟨(ch L e).1,(ch L e).2.1⟩
 have c9:=(hC.take (λc e=>(h3.1 c e).1) c1).app g1 λc e=>(b1 c e).1;obtain ⟨E,ω',k1,k2⟩:=hb.bump p w h1 c9 b1 d hd;have g8:(o.take n++g).length=n+g.length:=W;rw [g8] at k1;refine ⟨_,_,E,ω',?_,k1,k2,λ_ i5 f4 e6 i9 e1 R=>?_⟩;rw [i2,g3 c7 n C b.size 0 h2,zO ⟨rfl,O,zZ _,tH c6⟩,A];rfl;have d7:=(h.fC _ _ _ _ R).2;rw [zB (Zs d7),zD];rintro rfl;refine h.ne p e1 rfl rfl h1 R w ?_ rfl;rintro ⟨rfl,rfl⟩;have:(ob l s false)[i5]? =some (.row f4 e6):=e1;rw [p] at this;cases this;cases f;cases f;cases f
theorem tZ (h:cZ a b u H=some p) (r:wz u=some b) (s:c<=b) (t:∀f,u≠ .string f):cZ a c u H=some (p.take (c*a)):=by
 cases u with
 | slice d n w=>
  cases r;cases d with
  | none=>have h:=h;cases h;simp [cZ]
  | some A=>
   have ⟨v,m,sp⟩:=A;cases sp with
   | some _=>cases h
   | none=>
    simp only [cZ] at h ⊢;by_cases j:c=0;subst j;simp;rw [zN j];rw [zN O] at h;cases g:H[v]? with
    | none=>simp only [g] at h;cases h
    | some o=>
     cases o with
     | row C sz y=>
      simp only [g] at h ⊢;split at h;rename_i q;have ⟨x,l⟩:=q;cases h;have k:c*a<=b*a:=zW _ s;rw [zO ⟨O,by
       rw [zQ] at l ⊢;intro d i;apply l d;have e:List.take (c*a) (List.take (b*a) (List.drop m C))=List.take (c*a) (List.drop m C):=by rw [List.take_take,wI k]
       rw [<-e] at i;exact yG i⟩,List.take_take,wI k]
      cases h
     | _=>simp only [g] at h;cases h
 | string f=>exact absurd rfl (t f)
 | _=>cases h
theorem bV.copy (h:St X D ω fl H τ l s V) {b2:dj} (hd:∀k,b2=some k->k<V.length) {el:aP} {a:TypeInfo} (hu:P.underlying t=some (.slice el)) (he:P.info? el=some a)
  {y':aq} (hx:TR D (Mu X D l s) H x w) (hy:TR D (Mu X D l s) H y y') {p:TV×ae×ae} (d:lE a.size fl x y l s=some p):bV X D ω fl H l s V b2 false (pA P t w y' H) (p.1,τ,p.2):=by
 unfold lE at d;split at d;cases d;rename_i g c9;split at d;rename_i d5;obtain ⟨F,c4,c5⟩:=d5;obtain ⟨z,cs,N,q3⟩:=kJ h.ob c9 c4 F hy;have d9:∀b1,y'≠ .string b1:=by
  rintro b1 rfl;cases hy with
  | v _ _=>cases c5
  | u=>cases c9
 split at d;rename_i e6 id f4 b n sz;cases hx with
 | @m _ _ _ _ _ _ R A=>
  have E:min g.length n<=g.length:=Nat.min_le_left _ _;have d7:min g.length n<=n:=Nat.min_le_right _ _;generalize c8:min g.length n=m at d E d7;have hf:=tZ N z E d9;split at d;rename_i J;cases d;refine bV.val h hd ?_ (.v rfl rfl) kQ;unfold pA;simp only [hu,z,he,Option.elim];rw [show (Nat.min g.length n)=m from c8,hf];simp only [J,if_true];rename_i J;split at d;rename_i k f6 o M;split at d;rename_i e;obtain ⟨rfl,rfl,rfl,c1,c2⟩:=e;cases d;obtain ⟨f5,d2,h1,h2,hl,r,h4,h5⟩:=h.ob e6 id _ M;rw [A] at h1;cases h1;have f2:m*a.size<=g.length*a.size:=zW _ E;have d8:(b+m)*a.size<=o.length*a.size:=zW _ O;rw [wX] at d8;have c7:(cs.take (m*a.size)).length=m*a.size:=by rw [wG,q3.len];omega
  have K:∀c∈g,c.length=a.size:=λc e=>(ch F e).1;have d1:=q3.take K E;have b6:(o.take b++(g.take m++o.drop (b+m))).length=o.length:=by simp;omega
  obtain ⟨w1,w2⟩:=h.write (o':=.aY k a.size (o.take b++(g.take m++o.drop (b+m)))) M c2 rfl rfl A (.row (cr d2 (b*a.size) (cs.take (m*a.size))) a.size (some 0)) (λx=>x) h.tm (λf1 i j o d3 n f q=>by
   obtain ⟨z,N⟩:=h.ow f1 i j o d3 n f q;rw [z];exact ⟨rfl,N⟩) (λ_ _=>rfl) (λ_ _ _ _=>rfl) (by
   have hm:Mu X D l s R:=Mu.of M rfl A;refine ⟨R,_,A,zF (aa h2),by rw [iE,b6];exact hl,JS.mono (Le.write hm _) ⟨λc e=>?_,by rw [iE,b6];omega,λi j c x v f q e3=>?_⟩,?_,h5⟩;rcases xH.1 e with e|e;exact r.1 c (yG e);rcases xH.1 e with e|e;exact ⟨K c (yG e),(ch F (yG e)).2.1⟩;exact r.1 c (wM e);rw [yM,dW _ _ _ _ O,c7] at e3;rcases zX i b with C|C;rw [zB W,zU,zO C] at f;have L:=aa q;rw [(r.1 c (zI f)).1] at L;have:(i+1)*a.size<=b*a.size:=zW _ C;rw [xN] at this;rw [zN O] at e3;exact r.2.2 i j c x v f q (by rw [yM];exact e3);rw [zJ W,wG,wI O] at f;have f3:b*a.size<=i*a.size:=zW _ C;rcases zX (i-b) m with c6|c6;rw [zB W] at f;have L:=aa q;have d6:=zI f;rw [K c (yG d6)] at L;have:(i-b+1)*a.size<=m*a.size:=zW _ c6;rw [xN,Nat.sub_mul] at this;rw [zO O] at e3;apply d1.rel (i-b) j c x v f q;rw [Nat.sub_mul,show i*a.size-b*a.size+j=i*a.size+j-b*a.size by omega];exact e3;rw [zJ W,wG,wI O,yP,show b+m+(i-b-m)=i by omega] at f;have:(b+m)*a.size<=i*a.size:=zW _ O;rw [wX] at this;rw [zN O] at e3;exact r.2.2 i j c x v f q (by rw [yM];exact e3);show (ω R).map _=_;rw [h4,c2];rfl)
  refine ⟨.int .i64 (m:Nat),_,D,_,?_,w1.put hd (.v rfl rfl) kQ,w2,λd4=>by cases d4⟩;unfold pA;simp only [hu,z,he,Option.elim];rw [show (Nat.min g.length n)=m from c8,hf];simp only [J,if_false,h2];rw [zO ⟨by rw [c7];omega,d1.oq,c4,zZ _⟩];cases d;cases d
 cases d;cases d
theorem HO (h:(bif Nat.beq a 0 then pM o else n4 o)=true) (e:o.length=b):cS a b (mj c o):=by
 induction c with
 | zero=>rfl
 | succ c f=>
  have d:Nat.beq o.length b:=by rw [e];exact Nat.beq_refl b
  show (Nat.beq o.length b&&(bif Nat.beq a 0 then pM o else n4 o)&&cS a b (mj c o))=true;rw [d,h,f];rfl
theorem bV.make (h:St X D ω fl H τ l s V) {d:dj} (hd:∀k,d=some k->k<V.length) {q:Bool} {r:aP} {e:TypeInfo} (hu:P.underlying t=some (.slice r)) (E:zc P r=some o) (x:P.info? r=some e) {k2:IntKind}
  {p:TV×ae×ae} (j:mW a e.size e.bytes o (.v (.int n i)) l s=some p):bV X D ω fl H l s V d q (iB P t (.int n i) (.int k2 i) H) (p.1,τ,p.2):=by
 obtain ⟨ei,b,z,R,g,w,rfl⟩:=qM E;rw [x] at z;cases z;simp only [mW] at j;split at j;rename_i hc;obtain ⟨c1,F,J,K,L,M⟩:=hc;cases j;have C:(mj i.toNat (b.cells.toList.map T.c1)).length=i.toNat:=by simp [mj]
 have b2:=w;have y:(List.replicate i.toNat b.cells.toList).flatten.length=i.toNat*b.cells.size:=Z;have f:e.size=0\/cB D (Mu X D l s) H (mj i.toNat (b.cells.toList.map T.c1)) b.cells.size (List.replicate i.toNat b.cells.toList).flatten:=by rcases Nat.eq_zero_or_pos e.size with c|c;exact .inl c;refine .inr (cB.mj g O y λk A=>?_);have:=oR b.cells.toList i.toNat k _ (zA A);rw [zA A,<-this.1];simp
 have f:cB D (Mu X D l s) H (mj i.toNat (b.cells.toList.map T.c1)) e.size (List.replicate i.toNat b.cells.toList).flatten:=by rw [<-w];rcases f with c|f;refine ⟨by rw [y];simp [mj],?_,λi' c7 b6 c8 v g1 g2 N=>?_⟩;rw [zQ] at g ⊢;intro v m;simp at m;obtain ⟨_,⟨_,rfl⟩,m⟩:=m;exact eS (g v m);have:=aa N;rw [y,b2,c] at this;simp at this;exact f
 have b1:a=0->mj i.toNat (b.cells.toList.map T.c1)≠[]:=by intro c e;have:=yC List.length e;rw [C] at this;have:=K c;simp at*;omega
 have hs:=bV.df h hd (q:=q) (z:=iB P t (.int n i) (.int k2 i) H) (by unfold iB;simp only [hu,x,R];rw [zO (by refine ⟨g,w,?_,c1,F,J,It E x⟩;first|rfl|trivial),C]) (HO L M) f b1
 exact hs;cases j
theorem zz.of {e:Operand->TV} {f:Operand->aq} {ps:Array (Nat×Operand)} (h:∀x∈ps.toList.map (·.2),TR D M H (e x) (f x)):zz D M H (ps.toList.map λp=>(p.1,e p.2)) (ps.map λ(i,x)=>(i,f x)).toList:=by
 refine ⟨by simp [Function.comp_def],Z,λj x c a b=>?_⟩;simp only [zK,Option.map_map,Array.getElem?_toList,wP] at a b;cases d:ps[j]? with
 | none=>rw [d] at a;cases a
 | some p=>rw [d] at a b;cases a;cases b;exact h p.2 (wB.2 ⟨p,by simpa using xL d,rfl⟩)
theorem bV.Ms (h:St X D ω fl H τ l s V) {d:dj} (F:∀k,d=some k->k<V.length) {z:aP} (hu:P.underlying t=some (.slice z)) (R:zc P z=some o) {ps:List (Nat×TV)} {j:List (Nat×aq)} {i:cD}
  (M:b*o.length<=16777216) (p:0<o.length) (c5:bO (ps.map (·.2))=true) (c6:zz D (Mu X D l s) H ps j) (J:jb o.length (mj b o) ps=some i) (N:cS a o.length i) {b2:TS}
  (g:(bif Nat.beq b 0 then some ((.sl true [],τ,l,s):TS) else some ((T.df a o.length i l s).1,τ,(T.df a o.length i l s).2))=some b2):bV X D ω fl H l s V d q (fO P t b j H) b2:=by
 obtain ⟨e,c,A,h2,C,f,rfl⟩:=qM R;have b1:(c.cells.toList.map T.c1).length=c.cells.size:=Z;rw [b1] at M p J N g;have c2:((Array.range (b*e.size)).map (c.cells[· %c.cells.size]!)).toList.length=b*c.cells.size:=by simp [f]
 have hC:cB D (Mu X D l s) H (mj b (c.cells.toList.map T.c1)) c.cells.size ((Array.range (b*e.size)).map (c.cells[· %c.cells.size]!)).toList:=by
  refine cB.mj C p c2 λk hk=>?_;have c3:k<b*e.size:=by simpa using hk
  have L:=Nat.mod_lt k p;simp only [wP,zK,Array.toList_range,xQ c3,zH];rw [getElem!_pos c.cells _ L];simp [L]
 obtain ⟨v,q1,x,q3,q4⟩:=uY p J hC (λc8 E=>by simp only [mj,List.mem_replicate] at E;rw [E.2,b1]) c5 c6
 have w:i.length=b:=by rw [q3];simp [mj]
 have r:fO P t b j H=some (.slice (some ⟨H.length,0,none⟩) b (eV b),H++[.row v e.size (some 0)]):=by
  unfold fO;simp only [hu,A,h2];rw [zO ⟨C,by rw [<-f];exact M,f,It R A⟩];rw [f] at q1;have y:Instr.fill (λc7=>some (c7*e.size,e.size)) ((Array.range (b*e.size)).map (c.cells[· %c.cells.size]!)) j=some v.toArray:=by rw [f];exact q1
  simp only [y];have K:=x.len;rw [zO ⟨x.oq,by rw [w,f] at K;simpa using K⟩]
 cases m:Nat.beq b 0 with
 | true=>have n:=zS m;rw [m] at g;simp at g;cases g;subst n;obtain ⟨j1,j2⟩:=h.mK [.row v e.size (some 0)];refine ⟨_,_,D,ω,r,j1.put F .s0 lQ,j2,λ_ id cs sz c9 y e2=>?_⟩;rw [zB (h.fC _ _ _ _ e2).2]
 | false=>
  rw [m] at g;simp at g;cases g;have n:b≠0:=by rintro rfl;cases m
  have c4:eV b=1:=zN n;rw [c4] at r;rw [<-f] at r;have:=bV.df h F (q:=q) (z:=fO P t b j H) (by rw [w];exact r) N x (λ_ b6=>n (by rw [<-w,b6];rfl));exact this
theorem sN:∀{a:cD} {bs:List UInt8},cO a=some bs->∃b:List Int,a=b.map (λn=>[.v (.int .u8 n)])/\bs=b.map λn=>UInt8.ofNat n.toNat:=by
 intro a;induction a with
 | nil=>intro bs h;cases h;exact ⟨[],rfl,rfl⟩
 | cons x a d=>intro bs h;unfold cO at h;split at h;rename_i e;cases e;rename_i n l e;cases e;obtain ⟨f,c,rfl⟩:=map_some h;obtain ⟨b,rfl,rfl⟩:=d c;exact ⟨n::b,rfl,rfl⟩;cases h
theorem sF (a:List Int):gY (a.map (Value.int .u8))=some (a.map λn=>UInt8.ofNat n.toNat):=by
 induction a with
 | nil=>rfl
 | cons n a b=>simp [gY,b]
theorem B5 (a:List Int):cS 1 1 (a.map (λn=>[TV.v (.int .u8 n)]))=true:=by
 induction a with
 | nil=>rfl
 | cons n a b=>show (Nat.beq 1 1&&(bif Nat.beq 1 0 then true else true)&&cS 1 1 (a.map (λn=>[TV.v (.int .u8 n)])))=true;rw [b];rfl
theorem qB {g e:aP} (N:P.underlying t=some (.slice e)) (F:P.underlying g=some .string) (J:P.underlying e=some (.int .u8)) (L:∀r d o,(ob l s r)[d]? =some o->OR D M ω H (wr fl r d) r d o) {h:cD} {bs:List UInt8}
  (j:aO l s x=some h) (z:cO h=some bs) (m:TR D M H x w) (R:∃A n c,w= .slice A n c):jT P t g w H=some (.string ⟨bs.toArray⟩):=by
 obtain ⟨a,rfl,rfl⟩:=sN z;have ⟨X,f,p,q⟩:=kJ L j (show 0<1 from Nat.one_pos) (B5 a) m;obtain ⟨A,n,c,rfl⟩:=R;have b:=yD X;have E:f=a.map (Value.int .u8):=by have k:=q.len;simp at k;refine List.ext_getElem (by simp [k]) λi y g2=>?_;have K:i<a.length:=O;have:=q.rel i 0 [.v (.int .u8 a[i])] _ f[i] (by simp [K]) rfl (by simp [y]);simpa using this.vv
 unfold jT;simp only [N,F,J];rw [<-b] at p;rw [p,E];simp only;split;rename_i C;subst C;have:a=[]:=by
  cases m with
  | sn=>have:=b.symm;simpa using this
  | v b1 b=>cases b
  | u=>cases j
 subst this;rfl;rw [sF];rfl
theorem bV.conv (h:St X D ω fl H τ l s V) {d:dj} (r:∀k,d=some k->k<V.length) {b:aP} (m:TR D (Mu X D l s) H x u) (a:bJ P t b x l s=some y):bV X D ω fl H l s V d q (gI P t b u H) (y,τ,l,s):=by
 unfold bJ at a;split at a;rename_i c6 es;split at a;rename_i e f i;split at a;rename_i w;obtain ⟨bs,g,rfl⟩:=map_some a;have z:∃A n c,u= .slice A n c:=by cases m <;> exact ⟨_,_,_,rfl⟩
 have:=qB f i w h.ob rfl g m z;obtain ⟨A,n,c,rfl⟩:=z;refine bV.val h r ?_ (.v rfl rfl) kQ;unfold gI;simp only [this,zH];cases a;cases a;rename_i c9 id d1 c7 n sz;split at a;rename_i e f i;split at a;rename_i w;obtain ⟨es,C,g⟩:=zT.1 a;obtain ⟨bs,p,rfl⟩:=map_some g;have z:∃A n c,u= .slice A n c:=by cases m;exact ⟨_,_,_,rfl⟩
 have:=qB f i w h.ob C p m z;obtain ⟨A,n,c,rfl⟩:=z;refine bV.val h r ?_ (.v rfl rfl) kQ;unfold gI;simp only [this,zH];cases a;cases a;rename_i c;cases m.vv;split at a;rename_i f i;cases a;refine bV.val h r ?_ (.v rfl rfl) kQ;unfold gI;simp only [f,i];rename_i e f i;split at a;rename_i w;split at a;rename_i b6;cases a;obtain ⟨j1,j2⟩:=h.mK [.row (c.data.toList.map λb=>.int .u8 b.toNat) 1 (some 0)];have M:(c.data.toList.map λb=>[TV.v (.int .u8 b.toNat)]).length=c.size:=Z;refine ⟨.slice (some ⟨H.length,0,none⟩) c.size 1,_,D,ω,?_,j1.put r ?_ kR,j2,λ_ id cs sz d2 e1 e2=>?_⟩;unfold gI;simp only [f,i,tP,w];rw [zO b6];by_cases C:c.size=0;have:=zL (by rw [M,C]);rw [this,C];exact .se;rw [<-M];refine .sl (lU _ _) (λhm=>absurd (h.PF hm) (wF _)) Z (λe' b1=>?_) (λe=>by cases e) λc3 j e' x c' o F J=>?_;obtain ⟨b,_,rfl⟩:=wB.1 b1;exact ⟨rfl,rfl⟩;rw [zK] at o;cases E:c.data.toList[c3]? with
 | none=>rw [E] at o;cases o
 | some b=>
  rw [E] at o;cases o;cases j with
  | succ j=>cases F
  | zero=>cases F;simp only [yM,Nat.mul_one,wZ,zK,E,zH,xP] at J;subst J;exact .v rfl rfl
 rw [zB (h.fC _ _ _ _ e2).2];cases a;cases a;cases a;rename_i c4 c5 b2;obtain ⟨d3,g,p⟩:=zT.1 a;have c2:=m.iI g;subst c2;split at p;rename_i f;simp at f;obtain ⟨c8,K,rfl⟩:=map_some p;have R:∀G,gI P t b u G=((dv (aj P (convert t b u))).map λv=>(v,G)):=by
  intro G;cases u with
  | slice _ _ _=>exact absurd f.2 (by simp [vS])
  | string c=>
   exfalso;cases x with
   | v d4=>cases g;exact b2 _ rfl
   | ag cs=>simp only [iI] at g;obtain ⟨_,_,e⟩:=map_some g;cases e
   | _=>cases g
  | _=>unfold gI;rw [zO f.1]
 rw [R] at K;obtain ⟨v,L,rfl⟩:=map_some K;have N:=ft L;refine bV.val h r ?_ (.iX N) (.iX N);rw [R,L];rfl;cases p
theorem bV.Zu (g:St X D ω fl H τ l s V) {d:dj} (hd:∀y,d=some y->y<V.length) {b1 c4:aP} {kd:TypeDesc} (N:P.underlying t=some (.map b1 c4)) (M:P.underlying b1=some kd)
  (E:TR D (Mu X D l s) H x u) (c5:TR D (Mu X D l s) H y v) (hv:TR D (Mu X D l s) H z w) {b2:ae×ae} (a:Ai kd fl x y z l s=some b2):bV X D ω fl H l s V d true ((iz P t u v w H).map λh=>(undef,h)) (.tu [],τ,b2):=by
 unfold Ai at a;split at a;rename_i R y z;cases c5.vv;cases hv.vv;split at a;rename_i F cl C;split at a;rename_i hc;obtain ⟨c1,m,o⟩:=hc;obtain ⟨k,n,r,K,h4⟩:=g.ob true R _ C;cases E with
 | mp L=>
  rw [n] at L;cases L;have J:∀(c:Array MapEntry) (f:Nat),(∀e∈c,ak e.key/\ak e.val)->iz P t (.map (some k)) v w H=some (H.set k (.mp c f))->bV X D ω fl H l s V d true ((iz P t (.map (some k)) v w H).map λh=>(undef,h)) (.tu [],τ,put l s true R (.mp c f)):=by
   intro c f b hq;obtain ⟨w1,w2⟩:=g.write (o':=.mp c f) C o rfl rfl n (.mp c f) (λx=>x) g.tm (λt i j F b6 c7 p q=>by
     obtain ⟨q1,q2⟩:=g.ow t i j F b6 c7 p q;rw [q1];exact ⟨rfl,q2⟩) (λ_ _=>rfl) (λ_ _ _ _=>rfl) ⟨k,n,zF (aa r),b,by show (ω k).map _=_;rw [h4,o];rfl⟩
   refine ⟨undef,_,D,_,by rw [hq];rfl,w1.put hd (.tu rfl λj x c8 E=>by simp at E) oB,w2,λ_ c9 cs sz d1 p q=>?_⟩;rw [zD];rintro rfl;refine g.ne C p rfl rfl n q o ?_ rfl;rintro ⟨e,_⟩;cases e
  split at a;rename_i i v0 A;split at a;rename_i c6;cases a;refine J _ _ (λe b=>?_) (by simp only [iz,N,r,M];rw [zO ⟨c1,m⟩];simp only [A];rw [zO c6]);obtain ⟨j,hj,rfl⟩:=Array.getElem_of_mem b;rw [Array.getElem_modify];split;exact ⟨gz c1,m⟩;exact K _ (Array.getElem_mem _);cases a;rename_i A;cases a;refine J _ _ (λe b=>?_) (by simp only [iz,N,r,M];rw [zO ⟨c1,m⟩];simp only [A]);rcases Array.mem_push.1 b with b|rfl;exact K e b;exact ⟨gz c1,m⟩;cases a
 cases a;cases a;cases a
theorem ri:TR D M H (.tu []) undef:=.tu rfl λj x c a=>by simp at a
theorem bV.YC (g:St X D ω fl H τ l s V) {d:dj} (m:∀k,d=some k->k<V.length) (o:mi P t=some a) (i:TR D (Mu X D l s) H x u) (q:TR D (Mu X D l s) H y v) {p:ae×ae} (n:cF a fl (bw y) l s x=some p):
  bV X D ω fl H l s V d false ((fF P t u v H).map λh=>(undef,h)) (.tu [],τ,p):=by
 obtain ⟨h,ω',r,w,A⟩:=g.store o n i q.bw none (λj f C k b _=>by
  rw [ru] at b;cases c:eI y 0 j with
  | none=>rw [c] at b;cases b
  | some z=>rw [c] at b;exact absurd (yD b) (l9 z f)) (λt=>.inl ⟨(λe=>by cases e),rfl⟩)
 exact ⟨undef,h,D,ω',by rw [r];rfl,w.put m ri oB,A,λe=>by cases e⟩
theorem bV.YB (c:St X D ω fl H τ l s V) {d:dj} (A:∀k,d=some k->k<V.length) (y:mi P t=some a) {b:Operand} (o:pI b) (v:TR D (Mu X D l s) H x u) {p:ae×ae} (w:cF a fl (aR τ b) l s x=some p):
  bV X D ω fl H l s V d false ((fF P t u (ev V b) H).map λh=>(undef,h)) (.tu [],dO τ b,p):=by
 have E:∃h ω',fF P t u (ev V b) H=some h/\St X D ω' fl h (dO τ b) p.1 p.2 V/\Xt X fl D ω H l s D ω' h p.1 p.2:=by
  cases b with
  | tmp m=>refine c.store y w v (av c o) (some m) (λj n f k g i=>?_) (λt=>?_);obtain ⟨q,r⟩:=c.ow m 0 j n f k g i;exact ⟨m,rfl,q,r⟩;rcases aL τ m t (bw (τ m)) with ⟨rfl,e⟩|⟨C,e⟩;exact .inr ⟨_,e,c.tm _⟩;exact .inl ⟨λz=>C (by cases z;rfl),e⟩
  | _=>refine c.store y w v (av c o) none (λj n f k g i=>?_) (λt=>.inl ⟨λe=>(by cases e),rfl⟩);exact (rk o (λt e=>by cases e) 0 j n f k g i).elim
 obtain ⟨h,ω',q,r,F⟩:=E;exact ⟨undef,h,D,ω',by rw [q];rfl,r.put A ri oB,F,λe=>by cases e⟩
theorem bV.after {f:aH} {g:Nat->Option Loc} {a:AH} {c:ae} (n:Xt X fl f g a r c D ω H l s) {d:dj} {z:Option (aq×AH)} {b:TS} (i:bV X D ω fl H l s V d false z b):bV X f g fl a r c V d false z b:=by obtain ⟨v,h,E,ω',j,k,m,_⟩:=i;exact ⟨v,h,E,ω',j,k,n.trans m,λe=>by cases e⟩
theorem bV.st2 (g:St X D ω fl H τ l s V) {d:dj} (q:∀k,d=some k->k<V.length) {t:aP} {n:Nat} (w:mi P t=some n) {a:Operand} (j:pI a) {m:Nat} {y:TV} {l1 x:ae} (b:ew l s (τ m)=some (y,l1,x)) {p:ae×ae} (i:cF n fl y l1 x (aR (aG τ m y) a)=some p):
  bV X D ω fl H l s V d false ((fF P t (ev V a) (ev V (.tmp m)) H).map λh=>(undef,h)) (.tu [],dO (aG τ m y) (.tmp m),p):=by
 have J:∀y,aR (aG τ m y) (.tmp m)=y:=λy=>cj τ m y;unfold ew at b;split at b;rename_i o f c;cases b;have K:aG τ m (.sl o f)=τ:=by funext t;rcases aL τ m t (.sl o f) with ⟨rfl,e⟩|⟨_,e⟩;rw [e,c];exact e
 rw [K] at i ⊢;apply bV.YB g q w rfl (av g j);show cF n fl (τ m) l s (aR τ a)=some p;rw [c];exact i;rename_i r M R N k sz c;split at b;rename_i v z f F;split at b;rename_i E;obtain ⟨rfl,rfl,rfl,rfl,rfl,c1,C⟩:=E;cases b;obtain ⟨ω',A,L⟩:=g.freeze c F rfl c1 C;refine bV.after L (bV.YB A q w rfl (av A j) ?_);rw [J];exact i;cases b;cases b;cases b
theorem bV.mv2 (h:St X D ω fl H τ l s V) {d:dj} (p:∀k,d=some k->k<V.length) {x:Operand} {r:TS} (b:Oy τ x l s=some r):bV X D ω fl H l s V d false (some (ev V x,H)) r:=by
 cases x with
 | tmp m=>
  obtain ⟨⟨y,l1,M⟩,a,rfl⟩:=map_some b;clear b;have n:aR (aG τ m y) (.tmp m)=y:=cj τ m y;unfold ew at a;split at a;rename_i o i j;cases a;have E:aG τ m (.sl o i)=τ:=by funext t;rcases aL τ m t (.sl o i) with ⟨rfl,e⟩|⟨_,e⟩;rw [e,j];exact e
  rw [E] at n ⊢;have:=bV.mv h p (x:=.tmp m) (q:=false) rfl rfl;rw [n] at this;exact this;rename_i r K N L k sz j;split at a;rename_i v z i C;split at a;rename_i A;obtain ⟨rfl,rfl,rfl,rfl,rfl,c1,w⟩:=A;cases a;obtain ⟨ω',F,J⟩:=h.freeze j C rfl c1 w;have:=bV.mv F p (x:=.tmp m) (q:=false) rfl rfl;rw [n] at this;exact bV.after J this;cases a;cases a;cases a
 | const c=>cases b
 | global g=>cases b
 | func f=>cases b
theorem ug.of (h:St X D ω fl H τ l s V) {x:Option Operand} (a:∀y,x=some y->pI y):ug D (Mu X D l s) H (x.map (aR τ)) (x.map (ev V)):=by
 cases x with
 | none=>exact .inl ⟨rfl,rfl⟩
 | some y=>exact .inr ⟨_,_,rfl,rfl,av h (a y rfl)⟩
theorem bV.build (h:St X D ω fl H τ l s V) {d:dj} (R:∀k,d=some k->k<V.length) {pl:List (Nat×Nat)} (hz:zc P t=some o) (m:Wk P t=some pl) {ps:List (Nat×TV)} {r:List (Nat×aq)} (b1:zz D (Mu X D l s) H ps r) {K:ao} (hf:iM pl o ps=some K):
  bV X D ω fl H l s V d q ((mS P t r).map λc2=>(c2,H)) (.ag K,τ,l,s):=by
 obtain ⟨ei,zv,M,N,b,h4,rfl⟩:=qM hz;unfold Wk at m;split at m;rename_i c3 C;obtain ⟨b6,A,rfl⟩:=map_some m;obtain ⟨f,F,p,J⟩:=qd (λi b2 h=>by simpa using h) hf (.JM b) (.JM b) b1;refine bV.val h R (v:=.agg f.toArray) ?_ (.ag (Zs p.1) λj x c E y=>p.2 j x c E (Zs y)) λi j w a n g v=>?_;unfold mS;simp only [M,N];rw [zO b];simp only [C,A];have e:Instr.fill (b6[·]?) zv.cells r=some f.toArray:=by have:=F;simpa using this
 rw [e];rfl;cases i with
 | succ i=>cases g
 | zero=>exact J j w a n g (by simpa [mo,jv] using v)
 rename_i n el C;obtain ⟨L,A,rfl⟩:=map_some m;obtain ⟨f,F,p,J⟩:=qd (λi b2 h=>by rw [zK] at h;obtain ⟨k,z,rfl⟩:=map_some h;rw [xQ (by have:=aa z;simpa using this)] at z;cases z;rfl) hf (.JM b) (.JM b) b1
 refine bV.val h R (v:=.agg f.toArray) ?_ (.ag (Zs p.1) λj x c E y=>p.2 j x c E (Zs y)) λi j w a n g v=>?_;unfold mS;simp only [M,N];rw [zO b];simp only [C,A];have e:Instr.fill (λi=>some (i*L.size,L.size)) zv.cells r=some f.toArray:=by have:=F;simpa using this
 rw [e];rfl;cases i with
 | succ i=>cases g
 | zero=>exact J j w a n g (by simpa [mo,jv] using v)
 cases m
end
def fm (P:aB) (A:An) (j:Tc) (k:V.Callee):Prop:=
 ∀(K:Nat) (d:ao) (s:ae) (a:Nat) (r:TV) (b:ae),j K d s a=some (r,b)->eG P (real K)->
  ∀(X:Nat->Prop) (f:aH) (h:Nat->Option Loc) (H:AH) (e:aQ),St X f h (bif A.rw K then a else s.length) H (aI d) [] s e->e.length=d.length->
   ∃v c g i,k (real K) e H=some (v,c)/\St X g i (bif A.rw K then a else s.length) c (aI [r]) [] b [v]/\Xt X (bif A.rw K then a else s.length) f h H [] s g i c [] b/\(A.rw K=false->b=s)
section
variable {X:Nat->Prop} {D E:aH} {M J:Nat->Prop} {H h:AH} {ω ω':Nat->Option Loc} {P:aB} {A:An} {fl an:Nat} {τ τ':TF} {l s l' s':ae} {V:aQ} {callT:Tc}
theorem qc (h:St X D ω fl H τ l s V) {o:Oper} (f:∀c6,o.dst=some c6->c6<V.length) (d8:kP o) (d7:∀c2 args ts,o.op≠ .call {callee:=.value c2,args:=args,argTypes:=ts}) {c3:TS} (b:dD P A callT an fl o τ l s=some c3):
  bV X D ω fl H l s V o.dst (qf o) (fH P (ev V) o H) c3:=by
 have ⟨b6,op,c4,pos,c7,guard⟩:=o;have j:∀x∈op.operands,pI x:=λx g=>jO d8 g;cases op <;> simp only [dD] at b <;> (try (cases b;done))
 case move x=>
  have g:=j x (by simp [Op.operands]);cases L:Nat.beq an 1 with
  | true=>rw [L] at b;cases b;exact bV.mv h f g rfl
  | false=>
   rw [L] at b;simp at b;cases c5:Nat.beq an 2 with
   | true=>rw [c5] at b;exact bV.mv2 h f b
   | false=>rw [c5] at b;cases b;exact bV.val h f rfl (av h g).bw (.bw _ _)
 case assign x=>
  have g:=j x (by simp [Op.operands]);cases L:Nat.beq an 1 with
  | true=>rw [L] at b;cases b;exact bV.mv h f g rfl
  | false=>
   rw [L] at b;simp at b;cases c5:Nat.beq an 2 with
   | true=>rw [c5] at b;exact bV.mv2 h f b
   | false=>rw [c5] at b;cases b;exact bV.val h f rfl (av h g).bw (.bw _ _)
 case pick c a c8=>split at b;rename_i t hc;cases b;have K:=av h (j c (by simp [Op.operands]));rw [hc] at K;have K:=K.vv;have r:=(av h (j a (by simp [Op.operands]))).bw;have L:=(av h (j c8 (by simp [Op.operands]))).bw;refine bV.val h f (v:=if t then ev V a else ev V c8) ?_ ?_ (.bw _ _);simp only [fH,K];cases t;exact L;exact r;cases b
 case alloc e=>
  split at b;rename_i z d;cases L:Nat.beq an 2 with
  | true=>rw [L] at b;cases b;exact bV.alloc h f d true
  | false=>rw [L] at b;cases b;exact bV.alloc h f d false
  cases b
 case box e x=>have g:=j x (by simp [Op.operands]);split at b;split at b;rename_i M;cases b;exact bV.a1c h f (av h g) (xM.mp M).1 (xM.mp M).2;cases b;split at b;rename_i M;cases b;exact bV.a1b h f g (xM.mp M).1 (xM.mp M).2;cases b;split at b;rename_i M;cases b;exact bV.a1a h f (av h g) (xM.mp M).1 (xM.mp M).2;cases b;cases b
 case build t ps=>split at b;rename_i z pl d d9;obtain ⟨cs,hf,rfl⟩:=map_some b;exact bV.build h f d d9 (zz.of λx g=>av h (j x (by simpa [Op.operands] using g))) hf;cases b
 case buildSlice t n ps=>
  split at b;rename_i el F;split at b;rename_i z d;split at b;rename_i hc;split at b;rename_i es hf;split at b;rename_i hs;have w:P.underlying t=some (.slice el):=by unfold BG at F;split at F;cases F;assumption;cases F
  exact bV.Ms h f w d hc.1 hc.2.1 (by rw [List.map_map];exact hc.2.2) (zz.of λx g=>av h (j x (by simpa [Op.operands] using g))) hf hs b;cases b;cases b;cases b;cases b;cases b
 case load t a=>
  have r:=av h (j a (by simp [Op.operands]));split at b;rename_i d2 n hr;cases L:Nat.beq an 1 with
  | true=>rw [L] at b;obtain ⟨b1,C,rfl⟩:=map_some b;have ⟨v,ω',k,m,p⟩:=h.take hr C r b6 f;exact ⟨v,H,D,ω',by simp only [fH,k,zH],m,p,λe=>by cases e⟩
  | false=>rw [L] at b;obtain ⟨y,R,rfl⟩:=map_some b;have ⟨v,k,m,p⟩:=Ar hr h.ob R r;exact bV.val h f (by simp only [fH,k,zH]) m p
  cases b
 case store t a x=>have r:=j a (by simp [Op.operands]);have g:=j x (by simp [Op.operands]);split at b;rename_i n M;split at b;obtain ⟨b1,C,rfl⟩:=map_some b;exact bV.YC h f M (av h r) (av h g) C;obtain ⟨b1,C,rfl⟩:=map_some b;exact bV.YB h f M g (av h r) C;split at b;rename_i d3;split at b;rename_i y l1 s1 hf;obtain ⟨b1,C,rfl⟩:=map_some b;exact bV.st2 h f M r hf C;cases b;cases b;cases b
 case nilCheck x=>obtain ⟨y,R,rfl⟩:=map_some b;have ⟨k,m,p⟩:=CJ R (av h (j x (by simp [Op.operands])));exact bV.val h f (by simp only [fH,k,zH]) m p
 case binOp op t x y ty=>obtain ⟨z,d,rfl⟩:=map_some b;have ⟨v,k,m,p⟩:=CY d (av h (j x (by simp [Op.operands]))) (av h (j y (by simp [Op.operands])));exact bV.val h f (by simp only [fH,k,zH]) m p
 case unOp op t x=>obtain ⟨z,d,rfl⟩:=map_some b;have ⟨v,k,m,p⟩:=Gl d (av h (j x (by simp [Op.operands])));exact bV.val h f (by simp only [fH,k,zH]) m p
 case convert a c8 x=>obtain ⟨z,d,rfl⟩:=map_some b;exact bV.conv h f (av h (j x (by simp [Op.operands]))) d
 case makeMap t c3=>
  cases c3 with
  | some _=>cases b
  | none=>
   cases b;have ⟨K,h2⟩:=h.add true (o:=.mp #[] 0) rfl (.mp #[] 0) (λx=>x) h.tm (λt i c9 es a n E e2=>by
     have ⟨k,m⟩:=h.ow t i c9 es a n E e2;rw [k];exact ⟨rfl,m⟩) (λ_ _=>rfl) (λ_ _ _ _=>rfl) λJ hl=>
    ⟨H.length,aH.add_same _ _ _ _ _,lU _ _,λe N=>by simp at N,zO rfl⟩
   exact ⟨_,_,_,_,rfl,K.put f (.mp (aH.add_same _ _ _ _ _)) Ps,h2,λe=>by cases e⟩
 case makeSlice t n c=>
  split at b;rename_i el F;split at b;rename_i z e d N;split at b;rename_i k1 i k2 c9 K h2;split at b;rename_i d6;subst d6;obtain ⟨b1,C,rfl⟩:=map_some b;have E:=av h (j n (by simp [Op.operands]));have e2:=av h (j c (by simp [Op.operands]));rw [K] at E C;rw [h2] at e2;have w:P.underlying t=some (.slice el):=by unfold BG at F;split at F;cases F;assumption;cases F
  have:=bV.make h f (q:=qf ⟨b6,.makeSlice t n c,c4,pos,c7,guard⟩) (k2:=k2) w d N C;simp only [fH,E.vv,e2.vv];exact this;cases b;cases b;cases b;cases b
 case slice t x lo hi mx=>obtain ⟨z,d,rfl⟩:=map_some b;have ⟨v,k,m,p⟩:=uS d h.ob (av h (j x (by simp [Op.operands]))) (ug.of h λy e=>j y (by simp [Op.operands,e])) (ug.of h λy e=>j y (by simp [Op.operands,e])) (ug.of h λy e=>j y (by simp [Op.operands,e]));exact bV.val h f (by simp only [fH,k,zH]) m p
 case fieldAddr t x c2=>split at b;rename_i o d2 n hf;split at b;rename_i M;obtain ⟨z,d,rfl⟩:=map_some b;have ⟨v,k,m,p⟩:=Gr hf M d (av h (j x (by simp [Op.operands])));exact bV.val h f (by simp only [fH,k,zH]) m p;cases b;cases b
 case field t x c2=>split at b;rename_i o d2 n hf;obtain ⟨z,d,rfl⟩:=map_some b;have ⟨v,k,m,p⟩:=Gy hf d (av h (j x (by simp [Op.operands])));exact bV.val h f (by simp only [fH,k,zH]) m p;cases b
 case indexAddr t x i=>have g:=av h (j x (by simp [Op.operands]));have hi:=av h (j i (by simp [Op.operands]));split at b;rename_i el w;have ⟨e,N,K⟩:=zT.1 b;obtain ⟨z,d,rfl⟩:=map_some K;have ⟨v,k,m,p⟩:=CO w N d g hi;exact bV.val h f (by simp only [fH,k,zH]) m p;rename_i f6 el w;have ⟨e,N,K⟩:=zT.1 b;obtain ⟨z,d,rfl⟩:=map_some K;have ⟨v,k,m,p⟩:=CQ w N d g hi;exact bV.val h f (by simp only [fH,k,zH]) m p;cases b
 case index t x i=>obtain ⟨z,d,rfl⟩:=map_some b;have ⟨v,k,m,p⟩:=CN d (av h (j x (by simp [Op.operands]))) (av h (j i (by simp [Op.operands])));exact bV.val h f (by simp only [fH,k,zH]) m p
 case lookup t x i ok=>obtain ⟨z,d,rfl⟩:=map_some b;unfold FM at d;split at d;rename_i c6 e w;split at d;rename_i kd hk;have ⟨v,k,m,p⟩:=Aq w hk d h.ob (av h (j x (by simp [Op.operands]))) (av h (j i (by simp [Op.operands])));exact bV.val h f (by simp only [fH,k,zH]) m p;cases d;cases d
 case mapUpdate t d3 c6 x=>split at b;rename_i ky e w;split at b;rename_i kd hk;obtain ⟨b1,C,rfl⟩:=map_some b;exact bV.Zu h f w hk (av h (j d3 (by simp [Op.operands]))) (av h (j c6 (by simp [Op.operands]))) (av h (j x (by simp [Op.operands]))) C;cases b;cases b
 case extract x i=>
  have g:=j x (by simp [Op.operands]);cases L:Nat.beq an 1 with
  | true=>
   rw [L] at b;obtain ⟨y,R,rfl⟩:=map_some b;have ⟨vs,xs,v,E,e2,e3,e4,e5,e6⟩:=sJ R (av h g);have r:FB (ev V x) i=some v:=by rw [e3];exact e4
   cases x with
   | tmp t=>
    have E:τ t= .tu vs:=E;have e3:=e3;have ⟨ω',k,m⟩:=h.PJ E e2 e6 b6 f e3 e4;refine ⟨v,H,D,ω',by simp only [fH,r,zH],?_,m,λe=>by cases e⟩;have:ym τ i (.tmp t)=aG τ t (.tu (vs.set i (dA y))):=by simp only [ym,ct,E,e2,Option.elim]
    rw [this];exact k
   | const c=>exfalso;have E:T.iX c= .tu vs:=E;unfold T.iX at E;split at E;cases E;unfold T.c1 at E;split at E <;> cases E
   | global d2=>cases g
   | func c2=>cases E
  | false=>
   rw [L] at b;obtain ⟨y,R,rfl⟩:=map_some b;have ⟨vs,xs,v,E,e2,e3,e4,e5,e6⟩:=sJ R (av h g);have r:FB (ev V x) i=some v:=by rw [e3];exact e4
   exact bV.val h f (by simp only [fH,r,zH]) e5.dA (.dA _ _ e6)
 case call c=>
  have ⟨callee,args,ts⟩:=c;cases callee with
  | value c2=>exact absurd rfl (d7 c2 args ts)
  | invoke c3 d3=>cases b
  | builtin c8=>
   have d4:gT D (Mu X D l s) H (args.toList.map (aR τ)) (args.map (ev V)).toList:=by
    refine ⟨Z,λc9 x c g hc=>?_⟩;simp only [zK,Array.getElem?_toList,wP] at g hc;cases C:args[c9]? with
    | none=>rw [C] at g;cases g
    | some b1=>rw [C] at g hc;cases g;cases hc;exact av h (j b1 (by simp [Op.operands,Call.operands,xL C]))
   simp only at b;split at b;rename_i x y t0 t1 r b2;have g:=j x (by
    have:x∈args:=by rw [<-Array.mem_toList_iff,r];simp
    simp [Op.operands,Call.operands,this])
   have R:=j y (by
    have:y∈args:=by rw [<-Array.mem_toList_iff,r];simp
    simp [Op.operands,Call.operands,this])
   split at b;rename_i el d1 F f3;split at b;rename_i e N f2;split at b;rename_i d;have ⟨d,f1⟩:=d;obtain ⟨b1,C,rfl⟩:=map_some b;have ⟨zv,f4,f5⟩:=map_some d;have w:P.underlying t0=some (.slice el):=by unfold BG at F;split at F;cases F;assumption;cases F
   have:=bV.app (ty:=c4) h f w f3 f2 N f4 f5 f1 g R C;have e:fH P (ev V) ⟨b6,.call {callee:=.builtin .append,args:=args,argTypes:=ts},c4,pos,c7,guard⟩ H=cC P t0 t1 (ev V x) (ev V y) H:=by simp only [fH,qH,wP,r,yY,wE,b2]
   rw [e];exact this;cases b;cases b;cases b;rename_i x y t0 t1 r b2;have g:=j x (by
    have:x∈args:=by rw [<-Array.mem_toList_iff,r];simp
    simp [Op.operands,Call.operands,this])
   have R:=j y (by
    have:y∈args:=by rw [<-Array.mem_toList_iff,r];simp
    simp [Op.operands,Call.operands,this])
   split at b;rename_i el F;have ⟨e,N,K⟩:=zT.1 b;obtain ⟨b1,C,rfl⟩:=map_some K;obtain ⟨ei,d5,rfl⟩:=jJ N;have w:P.underlying t0=some (.slice el):=by unfold BG at F;split at F;cases F;assumption;cases F
   have:=bV.copy h f w d5 (av h g) (av h R) C;have e:fH P (ev V) ⟨b6,.call {callee:=.builtin .copy,args:=args,argTypes:=ts},c4,pos,c7,guard⟩ H=pA P t0 (ev V x) (ev V y) H:=by simp only [fH,qH,wP,r,yY,wE,b2]
   rw [e];exact this;cases b;rename_i x t r b2;have g:=av h (j x (by
    have:x∈args:=by rw [<-Array.mem_toList_iff,r];simp
    simp [Op.operands,Call.operands,this]))
   have e:∃cs,fH P (ev V) ⟨b6,.call {callee:=.builtin .len,args:=args,argTypes:=ts},c4,pos,c7,guard⟩ H=qH P .len ts c4 cs [ev V x] H:=⟨_,by simp only [fH,wP,r,yY,wE];rfl⟩
   have ⟨cs,e⟩:=e;rw [e];obtain ⟨z,d,rfl⟩:=map_some b;generalize aR τ x=xt at d g;generalize ev V x=xv at g;unfold eP at d;split at d;rename_i o es w;cases d;refine bV.val h f ?_ (.v rfl rfl) kQ;cases g <;> simp only [qH,b2,w] <;> rfl;rename_i c3 id f8 f7 n sz w;cases d;refine bV.val h f ?_ (.v rfl rfl) kQ;cases g;simp only [qH,b2,w];rename_i c w;cases d;refine bV.val h f ?_ (.v rfl rfl) kQ;cases g;simp only [qH,b2,w];rename_i k0 e0 id w;split at d;rename_i es cl ho;cases d;have ⟨f9,K,h2,_⟩:=h.ob true id _ ho;refine bV.val h f ?_ (.v rfl rfl) kQ;cases g with
   | mp hi=>rw [K] at hi;cases hi;simp only [qH,b2,w,h2]
   cases d;cases d;obtain ⟨z,d,rfl⟩:=map_some b;have ⟨v,k,m,p⟩:=GC d d4;exact bV.val h f k m p
end
section
variable {X D:Nat->Prop} {E J:aH} {M h:Nat->Prop} {H H':AH} {ω ω':Nat->Option Loc} {P:aB} {fl:Nat} {τ τ':TF} {l s l' s':ae} {V:aQ}
theorem TR.pM {v:aq} (a:TR E M H x v) (s:∀v,h v->M v):ng x->TR J h H x v:=by
 induction a with
 | u=>intro a;cases a
 | v a t=>intro _;exact .v a t
 | sn=>intro _;exact .sn
 | s0=>intro _;exact .s0
 | se=>intro _;exact .se
 | sl k l n f o y w=>intro _;exact .sl k (λr=>l (s _ r)) n f o λi j e x c b d g=>w i j e x c b d g (jj (f e (zI b)).2 d)
 | p a=>intro a;cases a
 | q a=>intro a;cases a
 | m a=>intro a;cases a
 | pe _ _ _ _ _=>intro a;cases a
 | mp a=>intro a;cases a
 | ag _ _=>intro a;cases a
 | tu _ _=>intro a;cases a
theorem TR.cI {v:aq} (a:TR E M H x v) (s:∀v,h v->M v) (o:∀g k l,E true g k=some l->J true g k=some l) (b:T.cI x):TR J h H x v:=by
 cases a with
 | u=>cases b
 | v a K=>exact .v a K
 | sn=>exact .sn
 | s0=>exact .s0
 | se=>exact .se
 | sl t w y f z F=>exact .sl t (λA=>w (s _ A)) y f z λi j e x c d n D=>(F i j e x c d n D).pM s (jj (f e (zI d)).2 n)
 | @p r g C l a=>cases r with
  | true=>exact .p (o _ _ _ a)
  | false=>cases b
 | @q r g k i sz C l a=>cases r with
  | true=>exact .q (o _ _ _ a)
  | false=>cases b
 | @m r g k i sz C l a=>cases r with
  | true=>exact .m (o _ _ _ a)
  | false=>cases b
 | pe t w y f z=>exact .pe t (λA=>w (s _ A)) y f λj x c d n=>(z j x c d n).pM s (jj f d)
 | mp a=>exact .mp (o _ _ _ a)
 | ag _ _=>cases b
 | tu _ _=>cases b
theorem TR.aW (a:TR E M H x u) (d:∀u,h u->M u) (b:∀g k i,E true g k=some i->J true g k=some i) (e:T.aW x):TR J h H x u:=by
 cases x with
 | ag n=>
  cases a with
  | ag m a=>exact .ag m λj x c f l=>(a j x c f l).cI d b (cP (by simpa [T.aW,T.ce] using e) f)
 | _=>exact a.cI d b (by simpa [T.aW,T.ce,cK] using e)
theorem mJ (h:bO o) (b:o[a]? =some x):T.aW x:=by
 induction o generalizing a with
 | nil=>cases b
 | cons y o c=>
  simp only [bO,zP] at h;cases a with
  | zero=>cases b;exact h.1
  | succ a=>exact c h.2 (Zs b)
theorem oy:aI o a=(o[a]?).getD .u:=by simp [aI,zG]
def idx:List Operand->Nat->dj
 | [],_=>none
 | .tmp m::l,n=>if m=n then some 0 else (idx l n).map (· +1)
 | _::l,n=>(idx l n).map (· +1)
theorem AL:∀{l:List Operand} {seen:aA} {k:Nat} {y:TV},(jQ τ seen l)[k]? =some y->∃x,l[k]? =some x/\((y=aR τ x/\∀n,x= .tmp n->n∉seen/\idx l n=some k)\/∃z,y=bw z/\∃n,x= .tmp n/\z=τ n):=by
 intro l;induction l with
 | nil=>intro seen k y h;cases h
 | cons x l v=>
  intro seen k y h;have step:∀{i:aA} {g:TV},jQ τ seen (x::l)=g::jQ τ i l->(∀n,n∈seen->n∈i)->(∀m,x= .tmp m->m∈i)->((g=aR τ x/\∀n,x= .tmp n->n∉seen)\/∃z,g=bw z/\∃n,x= .tmp n/\z=τ n)->
    ∃a,(x::l)[k]? =some a/\((y=aR τ a/\∀n,a= .tmp n->n∉seen/\idx (x::l) n=some k)\/∃z,y=bw z/\∃n,a= .tmp n/\z=τ n):=by
   intro i g s t j c;rw [s] at h;cases k with
   | zero=>cases h;refine ⟨x,rfl,?_⟩;rcases c with ⟨e,d⟩|c;refine .inl ⟨e,λn f=>⟨d n f,?_⟩⟩;subst f;simp [idx];exact .inr c
   | succ k=>
    obtain ⟨a,q,b⟩:=v (Zs h);refine ⟨a,by simpa using q,?_⟩;rcases b with ⟨b,e3⟩|b;refine .inl ⟨b,λn f=>?_⟩;have ⟨o,p⟩:=e3 n f;refine ⟨λc=>o (t n c),?_⟩;cases x with
    | tmp m=>
     have:m≠n:=by rintro rfl;exact o (j m rfl)
     simp [idx,this,p]
    | _=>simp [idx,p]
    exact .inr b
  cases x with
  | tmp m=>
   refine step rfl (λn d=>by simp [d]) (λw e=>by cases e;simp) ?_;cases r:seen.contains m with
   | true=>exact .inr ⟨τ m,rfl,m,rfl,rfl⟩
   | false=>refine .inl ⟨rfl,λn e=>?_⟩;cases e;intro j;have:=xE.2 j;rw [r] at this;cases this
  | _=>exact step rfl (λn d=>d) (λm e=>by cases e) (.inl ⟨rfl,λn e=>by cases e⟩)
theorem Ax:∀(l:List Operand) (τ:TF) (t:Nat),(lF τ l t=τ t/\idx l t=none)\/∃y,lF τ l t=bw y/\(∀(M:Nat->Prop) (E:aH) (H:AH) (v:aq),TR E M H (τ t) v->TR E M H y v):=by
 intro l;induction l with
 | nil=>intro τ t;exact .inl ⟨rfl,rfl⟩
 | cons x l d=>
  intro τ t;cases x with
  | tmp m=>rcases d (dO τ (.tmp m)) t with ⟨a,b⟩|⟨y,a,b⟩;rcases aL τ m t (bw (τ m)) with ⟨rfl,e⟩|⟨c,e⟩;refine .inr ⟨τ t,a.trans e,λ_ _ _ _ h=>h⟩;exact .inl ⟨a.trans e,by simp [idx,wQ c,b]⟩;refine .inr ⟨y,a,λM E H v h=>b M E H v ?_⟩;rcases aL τ m t (bw (τ m)) with ⟨rfl,e⟩|⟨c,e⟩;show TR E M H (aG τ t (bw (τ t)) t) v;rw [e];exact h.bw;show TR E M H (aG τ m (bw (τ m)) t) v;rw [e];exact h
  | _=>rcases d τ t with ⟨a,b⟩|⟨y,a,b⟩;exact .inl ⟨a,by simp [idx,b]⟩;exact .inr ⟨y,a,b⟩
end
def ub (rw b:Bool) (a:List Operand) (c:Nat->Option Loc):Nat->Option Loc:=λv=>match c v with
 | some (.t n i j)=>bif b then (idx a n).map λk=>.t k i j else none
 | some (.c true id j)=>bif rw then some (.c true id j) else none
 | some (.o true id)=>bif rw then some (.o true id) else none
 | _=>none
def Hk (d:Nat) (H:AH) (a c b:Nat->Option Loc):Nat->Option Loc:=λv=>if v<H.length/\c v=none then a v else match b v with
 | some (.t _ i j)=>some (.t d i j)
 | some (.c true id j)=>some (.c true id j)
 | some (.o true id)=>some (.o true id)
 | _=>none
section
variable {X:Nat->Prop} {D:aH} {H:AH} {h:Nat->Option Loc} {P:aB} {A:An} {fl:Nat} {E:TF} {l J:ae} {V:aQ} {callT:Tc} {callV:Nat->aQ->AH->Option (aq×AH)}
def XC (X:Nat->Prop) (D:aH) (l:ae):Nat->Prop:=λv=>X v\/∃a o k,l[a]? =some o/\o.az=some k/\D false a k=some v
def LS (D:aH):aH:=λr a k=>bif r then D true a k else none
theorem MuC {e:aH}:∀v,Mu (XC X D l) (LS e) [] J v↔(XC X D l v\/∃a o k,J[a]? =some o/\o.az=some k/\e true a k=some v):=by
 intro v;constructor;rintro (h|⟨r,a,o,k,b,c,d⟩);exact .inl h;cases r with
 | false=>simp [ob] at b
 | true=>exact .inr ⟨a,o,k,b,c,d⟩
 rintro (h|⟨a,o,k,b,c,d⟩);exact .inl h;exact .inr ⟨true,a,o,k,b,c,d⟩
theorem FJ:∀v,Mu X D l J v↔(XC X D l v\/∃a o k,J[a]? =some o/\o.az=some k/\D true a k=some v):=by
 intro v;constructor;rintro (h|⟨r,a,o,k,b,c,d⟩);exact .inl (.inl h);cases r with
 | false=>exact .inl (.inr ⟨a,o,k,b,c,d⟩)
 | true=>exact .inr ⟨a,o,k,b,c,d⟩
 rintro ((h|⟨a,o,k,b,c,d⟩)|⟨a,o,k,b,c,d⟩);exact .inl h;exact .inr ⟨false,a,o,k,b,c,d⟩;exact .inr ⟨true,a,o,k,b,c,d⟩
theorem eC:∀(l:List Operand) (seen:aA),(jQ E seen l).length=l.length
 | [],_=>rfl
 | .tmp n::l,seen=>yC (· +1) (eC l (n::seen))
 | .const _::l,seen=>yC (· +1) (eC l seen)
 | .global _::l,seen=>yC (· +1) (eC l seen)
 | .func _::l,seen=>yC (· +1) (eC l seen)
theorem bV.call (i3:fm P A callT callV) (s:St X D h fl H E l J V) {c9:dj} (hd:∀k,c9=some k->k<V.length) {K:Nat} {w:List Operand} (f8:∀x∈w,pI x) (f1:bO (bif A.aM K then jQ E [] w else w.map λx=>dA (aR E x))=true)
  {d3:TV×ae} (hp:callT K (bif A.aM K then jQ E [] w else w.map λx=>dA (aR E x)) J fl=some d3) (i4:eG P (real K)):
  ∃v H' c7 c8,callV (real K) (w.map (ev V)) H=some (v,H')/\St X c7 c8 fl H' (dU (bif A.aM K then lF E w else E) c9 d3.1) l d3.2 (bZ V c9 v)/\Xt X fl D h H l J c7 c8 H' l d3.2/\
   (∀b o k f,l[b]? =some o->o.az=some k->D false b k=some f->H'[f]? =H[f]?)/\
   (A.rw K=false->∀b o k f,J[b]? =some o->o.az=some k->D true b k=some f->H'[f]? =H[f]?):=by
 obtain ⟨r,s'⟩:=d3;generalize d1:(bif A.aM K then jQ E [] w else w.map λx=>dA (aR E x))=xs at f1 hp;have i7:(w.map (ev V)).length=xs.length:=by rw [<-d1];cases A.aM K <;> simp [eC]
 have f9:∀k y,xs[k]? =some y->∃x,w[k]? =some x/\((A.aM K=true/\y=aR E x/\∀n,x= .tmp n->idx w n=some k)\/∃c6,y=dA c6/\c6=aR E x\/y=bw c6/\c6=aR E x):=by
  intro k y C;cases z:A.aM K with
  | true=>rw [z] at d1;simp at d1;rw [<-d1] at C;obtain ⟨x,p,q⟩:=AL C;refine ⟨x,p,?_⟩;rcases q with ⟨q,e3⟩|⟨c6,q,n,rfl,e3⟩;exact .inl ⟨rfl,q,λn en=>(e3 n en).2⟩;exact .inr ⟨c6,.inr ⟨q,e3⟩⟩
  | false=>
   rw [z] at d1;simp at d1;rw [<-d1,zK] at C;cases ha:w[k]? with
   | none=>rw [ha] at C;cases C
   | some x=>rw [ha] at C;cases C;exact ⟨x,rfl,.inr ⟨_,.inl ⟨rfl,rfl⟩⟩⟩
 have g7:∀b o k f,l[b]? =some o->o.az=some k->D false b k=some f->h f=some (.o false b):=by intro b o k f h1 h2 h3;obtain ⟨v1,a1,a2⟩:=(s.ob false b o h1).dI h2;rw [h3] at a1;cases a1;exact a2
 have d5:∀v,Mu (XC X D l) (LS D) [] J v↔Mu X D l J v:=λv=>(MuC v).trans (FJ v).symm;have j4:∀b,b<J.length->wr (bif A.rw K then fl else J.length) true b=(A.rw K&&wr fl true b):=by
  intro b hid;cases L:A.rw K with
  | true=>simp
  | false=>
   simp only [cond_false,Bool.false_and,wr,cond_true];cases hb:Nat.ble J.length b with
   | false=>rfl
   | true=>have:=yR hb;omega
 have hC:St (XC X D l) (LS D) (ub (A.rw K) (A.aM K) w h) (bif A.rw K then fl else J.length) H (aI xs) [] J (w.map (ev V)):=by
  refine ⟨λt=>?_,λt c3 j F a n p q=>?_,λr b o ho=>?_,λv f4 c=>?_,λr b k v c=>?_,?_,λv c=>?_,λv c=>?_⟩;rw [oy];cases C:xs[t]? with
  | none=>exact .u
  | some y=>
   obtain ⟨x,p,q⟩:=f9 t y C;have d9:(w.map (ev V)).getD t undef=ev V x:=by simp [zG,p]
   rw [d9];have f2:=av s (f8 x (zI p));have j7:TR D (Mu X D l J) H y (ev V x):=by rcases q with ⟨_,rfl,_⟩|⟨c6,⟨rfl,rfl⟩|⟨rfl,rfl⟩⟩;exact f2;exact f2.dA;exact f2.bw
   exact j7.aW (λv c=>(d5 v).1 c) (λb k f e=>e) (mJ f1 C)
  rw [oy] at p;cases C:xs[t]? with
  | none=>rw [C] at p;cases c3 <;> cases j <;> simp [eI,iJ] at p
  | some y=>
   rw [C] at p;simp at p;obtain ⟨x,d,i⟩:=f9 t y C;have d9:(w.map (ev V)).getD t undef=ev V x:=by simp [zG,d]
   rw [d9] at q;have h9:=mJ f1 C;rcases i with ⟨z,rfl,m⟩|⟨c6,⟨rfl,rfl⟩|⟨rfl,rfl⟩⟩;cases x with
   | tmp i2=>obtain ⟨q1,q2⟩:=s.ow i2 c3 j F a n p q;refine ⟨?_,q2⟩;simp [ub,q1,z,m i2 rfl]
   | _=>exact (rk (f8 _ (zI d)) (λt e=>by cases e) c3 j F a n p q).elim
   exfalso;have j1:∀vs,aR E x≠ .tu vs:=by intro vs e;rw [e] at h9;simp [T.aW,ce,dA,dY,cK,T.cI] at h9
   exact (NO.dA _ _ j1) c3 j F a n p q;exact ((NO.bw _ _) c3 j F a n p q).elim
  cases r with
  | false=>simp [T.ob] at ho
  | true=>
   have d6:=ho;have hid:=aa d6;have d7:=s.ob true b o ho;rw [j4 b hid];have f3:∀f k,o.az=some k->D true b k=some f->ub (A.rw K) (A.aM K) w h f=bif (A.rw K&&wr fl true b) then some (.o true b) else none:=by intro f k z hi;obtain ⟨v1,a1,a2⟩:=d7.dI z;rw [hi] at a1;cases a1;simp only [ub,a2];cases wr fl true b <;> cases A.rw K <;> rfl
   have d2:Le D (Mu X D l J) H (LS D) (Mu (XC X D l) (LS D) [] J) H->True:=λ_=>trivial;have h8:∀{x:TV} {v:aq},TR D (Mu X D l J) H x v->T.cI x->TR (LS D) (Mu (XC X D l) (LS D) [] J) H x v:=λhx hn=>hx.cI (λv c=>(d5 v).1 c) (λb k f e=>e) hn;cases o with
   | row cs sz=>obtain ⟨g0,f,c4,d,i,m,N,g5⟩:=d7;refine ⟨g0,f,c4,d,i,⟨m.1,λj x d8 hx R=>h8 (m.2 j x d8 hx R) (cP g0 hx)⟩,f3 f 0 rfl d,λM j F a n p q=>?_⟩;simp at M;obtain ⟨q1,q2⟩:=g5 M.2 j F a n p q;exact ⟨by simp [ub,q1,M.1],q2⟩
   | aY k sz F=>obtain ⟨f,c4,d,i,m,N,g5,g6⟩:=d7;exact ⟨f,c4,d,i,m,⟨N.1,N.2.1,λc3 j e x d8 p q e3=>h8 (N.2.2 c3 j e x d8 p q e3) (iR (fk (N.1 e (zI p)).2 q))⟩,f3 f k rfl d,g6⟩
   | mp F cl=>obtain ⟨f,d,i,m,N⟩:=d7;exact ⟨f,d,i,m,f3 f 0 rfl d⟩
   | dead=>trivial
  simp only [ub] at c;cases M:h v with
  | none=>rw [M] at c;cases c
  | some f5=>exact s.lt v f5 M
  cases r with
  | false=>cases c
  | true=>exact s.fC true b k v c
  cases A.rw K with
  | true=>exact s.mM
  | false=>exact zE _
  rcases c with c|⟨b,o,k,d,i,m⟩;exact s.xl v c;exact (s.fC _ _ _ _ m).2;rcases c with c|⟨b,o,k,d,i,m⟩;simp [ub,s.xo v c];simp [ub,g7 b o k v d i m]
 obtain ⟨v,H',c7,c8,k1,k2,k3,k4⟩:=i3 K xs J fl r s' hp i4 _ _ _ _ _ hC i7;let c5:aH:=λr b k=>bif r then c7 true b k else D false b k
 let b6:=ub (A.rw K) (A.aM K) w h
 let f6:=Hk (c9.getD 0) H h b6 c8
 have c2:∀v,v<H.length->b6 v=none->H'[v]? =H[v]? /\f6 v=h v/\c8 v=none:=by intro v c hn;obtain ⟨d,i⟩:=k3.same v c hn;exact ⟨d,zO ⟨c,hn⟩,i⟩
 have i1:∀r b k v,D r b k=some v->c5 r b k=some v:=by
  intro r b k v c;cases r with
  | false=>exact c
  | true=>exact k3.qv true b k v c
 have j8:∀r b k v,c7 r b k=some v->c5 r b k=some v:=by
  intro r b k v c;cases r with
  | false=>exact absurd (k2.fC _ _ _ _ c).1 (Nat.not_lt_zero _)
  | true=>exact c
 have e6:∀v,Mu X c5 l s' v↔Mu (XC X D l) c7 [] s' v:=by
  intro v;constructor;rintro (hx|⟨r,b,o,k,d,i,m⟩);exact .inl (.inl hx);cases r with
  | false=>exact .inl (.inr ⟨b,o,k,d,i,m⟩)
  | true=>exact .inr ⟨true,b,o,k,d,i,m⟩
  rintro ((hx|⟨b,o,k,d,i,m⟩)|⟨r,b,o,k,d,i,m⟩);exact .inl hx;exact .inr ⟨false,b,o,k,d,i,m⟩;cases r with
  | false=>simp [T.ob] at d
  | true=>exact .inr ⟨true,b,o,k,d,i,m⟩
 have d2:Le D (Mu X D l J) H c5 (Mu X c5 l s') H':=⟨i1,λv c4 sz lo c hm=>by have h4:=λe=>hm ((d5 v).1 e);refine ⟨λe=>?_,k3.aM v c4 sz lo c h4⟩;rcases k3.mu v ((e6 v).1 e) with g|g;exact h4 g;have:=aa c;omega⟩
 have g9:Le c7 (Mu (XC X D l) c7 [] s') H' c5 (Mu X c5 l s') H':=⟨j8,λv c4 sz lo c hm=>⟨λe=>hm ((e6 v).1 e),lo,c⟩⟩;have g8:∀b o k f,l[b]? =some o->o.az=some k->D false b k=some f->f<H.length/\b6 f=none:=by intro b o k f d i m;exact ⟨(s.fC _ _ _ _ m).2,by simp [b6,ub,g7 b o k f d i m]⟩
 have h6:∀v,h v=none->b6 v=none:=λv c=>by simp [b6,ub,c]
 have f7:St X c5 f6 fl H' (bif A.aM K then lF E w else E) l s' V:=by
  have h7:∀t,(∃y,(bif A.aM K then lF E w else E) t=bw y/\TR D (Mu X D l J) H y (V.getD t undef))\/((bif A.aM K then lF E w else E) t=E t/\(A.aM K=true->idx w t=none)):=by
   intro t;cases z:A.aM K with
   | false=>exact .inr ⟨rfl,λe=>by cases e⟩
   | true=>simp only [cond_true];rcases Ax w E t with ⟨p,q⟩|⟨y,p,q⟩;exact .inr ⟨p,λ_=>q⟩;exact .inl ⟨y,p,q _ _ _ _ (s.tm t)⟩
  refine ⟨λt=>?_,λt c3 j F a n p q=>?_,λr b o ho=>?_,λv f4 c=>?_,λr b k v c=>?_,?_,λv c=>?_,λv c=>?_⟩;rcases h7 t with ⟨y,e,C⟩|⟨e,_⟩;rw [e];exact C.bw.mono d2;rw [e];exact (s.tm t).mono d2;rcases h7 t with ⟨y,e,C⟩|⟨e,hn⟩;rw [e] at p;exact ((NO.bw _ _) c3 j F a n p q).elim;rw [e] at p;obtain ⟨q1,q2⟩:=s.ow t c3 j F a n p q;have R:b6 a.block=none:=by
   simp only [b6,ub,q1];cases z:A.aM K with
   | false=>rfl
   | true=>simp [hn z]
  obtain ⟨d,i,_⟩:=c2 _ (s.lt _ _ q1) R;exact ⟨i.trans q1,q2.aM d⟩;cases r with
  | false=>refine (s.ob false b o ho).other d2 (λk v z hi=>?_) (λk sz F _ k' _ z=>z) (λ_ a j R h5=>?_);obtain ⟨d,i⟩:=g8 b o k v ho z hi;obtain ⟨m,N,_⟩:=c2 v d i;exact ⟨m,N⟩;obtain ⟨m,N,_⟩:=c2 _ (s.lt _ _ R) (by simp [b6,ub,R]);exact ⟨N.trans R,m⟩
  | true=>
   have d6:=ho;have d4:=k2.ob true b o ho;by_cases M:A.rw K/\fl<=b;have j2:wr (bif A.rw K then fl else J.length) true b=true:=by rw [M.1];exact zY M.2
   have j3:wr fl true b:=zY M.2;rw [j2] at d4;rw [j3];refine d4.other g9 (λk v z hi=>⟨rfl,?_⟩) (λk sz F _ k' _ z=>z) (λ_ a j R h5=>⟨?_,rfl⟩);obtain ⟨v2,b1,b2⟩:=d4.dI z;rw [hi] at b1;cases b1;have b2:c8 v=some (.o true b):=b2;show Hk _ _ _ _ _ v=c8 v;unfold Hk;rw [zN];rw [b2];rintro ⟨d,i⟩;rw [(c2 v d i).2.2] at b2;cases b2;show Hk _ _ _ _ _ a.block=_;unfold Hk;rw [zN];rw [R];rintro ⟨d,i⟩;rw [(c2 _ d i).2.2] at R;cases R;have hs:J[b]? =some o:=by
    cases L:A.rw K with
    | false=>rw [<-k4 L];exact d6
    | true=>
     have hid:b<fl:=by rcases zX b fl with g|g;exact g;exact absurd ⟨L,g⟩ M
     have:=k3.BD b (by rw [L];exact hid);rw [<-this];exact d6
   have i9:∀f k,o.az=some k->D true b k=some f->b6 f=none:=by
    intro f k z hi;obtain ⟨v1,a1,a2⟩:=(s.ob true b o hs).dI z;rw [hi] at a1;cases a1;simp only [b6,ub,a2];cases j5:wr fl true b with
    | false=>rfl
    | true=>
     have:A.rw K=false:=by
      cases L:A.rw K with
      | false=>rfl
      | true=>exact absurd ⟨L,yR j5⟩ M
     simp [this]
   refine (s.ob true b o hs).other d2 (λk v z hi=>?_) (λk sz F eo k' i6 _=>?_) (λj6 a j R h5=>?_);obtain ⟨m,N,_⟩:=c2 v (s.fC _ _ _ _ hi).2 (i9 v k z hi);exact ⟨m,N⟩;subst eo;obtain ⟨f,c4,d,i,m,N,g5,g6⟩:=d4;exact g6 k' i6;have i5:b6 a.block=none:=by
    simp only [b6,ub,R];have:A.rw K=false:=by
     cases L:A.rw K with
     | false=>rfl
     | true=>exact absurd ⟨L,yR j6⟩ M
    simp [this]
   obtain ⟨m,N,_⟩:=c2 _ (s.lt _ _ R) i5;exact ⟨N.trans R,m⟩
  have c:Hk _ _ _ _ _ v=some f4:=c;unfold Hk at c;split at c;have:=s.lt v f4 c;have:=k3.len;omega;cases M:c8 v with
  | none=>rw [M] at c;cases c
  | some f5=>exact k2.lt v f5 M
  cases r with
  | false=>have g:=s.fC false b k v c;have:=k3.len;exact ⟨g.1,O⟩
  | true=>exact k2.fC true b k v c
  cases L:A.rw K with
  | true=>have:=k2.mM;rw [L] at this;exact this
  | false=>rw [k4 L];exact s.mM
  have:=s.xl v c;have:=k3.len;omega;have g:=s.xo v c;rw [(c2 v (s.xl v c) (h6 v g)).2.1];exact g
 refine ⟨v,H',c5,f6,k1,?_,⟨i1,k3.len,λv c hn=>?_,λv c4 sz lo c hm=>(d2.aM v c4 sz lo c hm).2,λv c=>?_,λb hid=>?_⟩,λb o k f d i m=>?_,λL b o k f d i m=>?_⟩;cases c9 with
 | none=>exact f7
 | some c9=>have h0:=k2.tm 0;refine f7.Az (hd c9 rfl) (h0.mono g9) λc3 j F a n p q=>?_;obtain ⟨q1,q2⟩:=k2.ow 0 c3 j F a n p q;refine ⟨?_,q2⟩;show Hk _ _ _ _ _ a.block=_;unfold Hk;rw [zN];rw [q1];rfl;rintro ⟨d,i⟩;rw [(c2 _ d i).2.2] at q1;cases q1
 obtain ⟨d,i,_⟩:=c2 v c (h6 v hn);exact ⟨d,i.trans hn⟩;rcases k3.mu v ((e6 v).1 c) with g|g;exact .inl ((d5 v).1 g);exact .inr g;cases L:A.rw K with
 | true=>exact k3.BD b (by rw [L];exact hid)
 | false=>rw [k4 L]
 obtain ⟨p,q⟩:=g8 b o k f d i m;exact (c2 f p q).1;obtain ⟨v1,a1,a2⟩:=(s.ob true b o d).dI i;rw [m] at a1;cases a1;refine (c2 f (s.fC _ _ _ _ m).2 ?_).1;simp only [b6,ub,a2];cases wr fl true b <;> simp [L]
end
section
variable {X:Nat->Prop} {D E:aH} {M J:Nat->Prop} {H h:AH} {ω ω':Nat->Option Loc} {P:aB} {A:An} {fl:Nat} {τ τ':TF} {l s l' s':ae} {V:aQ} {callT:Tc} {callV:Nat->aQ->AH->Option (aq×AH)} {ops:Array Oper}
theorem xq {v:aq} (h:TR D M H x v) (a:rf x):kx v v:=by
 cases h with
 | v h b=>cases v <;> simp_all [rf,kx]
 | u=>cases a
 | ag _ _=>cases a
 | tu _ _=>cases a
 | _=>simp [kx]
theorem Cw (h:Ag o) (b:o[a]? =some x):rf x:=by
 induction o generalizing a with
 | nil=>cases b
 | cons y o c=>
  simp only [Ag,zP] at h;cases a with
  | zero=>cases b;exact h.1
  | succ a=>exact c h.2 (Zs b)
theorem xp {f:aq->aq->Bool}:∀(d c:aQ),d.length=c.length->(∀(j:Nat) (x y:aq),d[j]? =some x->c[j]? =some y->f x y)->((d.zip c).all λp=>f p.1 p.2)=true:=by
 intro d;induction d with
 | nil=>intro c _ _;rfl
 | cons x d k=>
  intro c e h;cases c with
  | nil=>cases e
  | cons y c=>simp only [List.zip_cons_cons,List.all_cons,zP];exact ⟨h 0 x y rfl rfl,k c (Zs e) λj a b g i=>h (j+1) a b (Zs g) (Zs i)⟩
theorem K6 (h:TR D M H x v) (c:Ah x):Gf v v:=by
 cases x with
 | ag i=>
  cases h with
  | @ag _ p n h=>simp only [Gf,zP,beq_self_eq_true,true_and];refine xp _ _ rfl λj a b d f=>?_;rw [d] at f;cases f;have l:=aa d;have g:=zA (show j<i.length by simp at l;omega);exact xq (h j _ a g (Zs d)) (Cw c g)
 | u=>cases c
 | tu o=>cases c
 | _=>have k:=xq h c;have m:=(h.leaf (λ_ e=>by cases e) (λ_ e=>by cases e) (λe=>by cases e)).1;unfold Gf;split;exact absurd rfl (m _);exact k
theorem sK {v:aq} (h:nV x y) (i:TR D M H x v) (j:TR D M H y u):kx v u/\(∀o,v≠ .agg o):=by
 unfold nV at h;split at h;rename_i a b;cases i.vv;cases j.vv;refine ⟨h,?_⟩;rintro o rfl;cases i with|v h _=>simp [ak] at h
 simp only [zP,beq_iff_eq] at h;obtain ⟨⟨rfl,f⟩,g⟩:=h;cases zS f;cases zS g;cases i with
 | p d=>cases j with
  | p c=>rw [d] at c;cases c;exact ⟨by simp [kx],λ_ e=>by cases e⟩
 simp only [zP,beq_iff_eq] at h;obtain ⟨⟨⟨⟨⟨rfl,f⟩,g⟩,k⟩,l⟩,n⟩:=h;cases zS f;cases zS g;cases zS k;cases zS l;cases zS n;cases i with
 | q d=>cases j with
  | q c=>rw [d] at c;cases c;exact ⟨by simp [kx],λ_ e=>by cases e⟩
 simp only [zP,beq_iff_eq] at h;obtain ⟨⟨⟨⟨⟨rfl,f⟩,g⟩,k⟩,l⟩,n⟩:=h;cases zS f;cases zS g;cases zS k;cases zS l;cases zS n;cases i with
 | m d=>cases j with
  | m c=>rw [d] at c;cases c;exact ⟨by simp [kx],λ_ e=>by cases e⟩
 cases h
theorem CT:∀{d c:ao},Gz d c->d.length=c.length/\∀(j:Nat) (x y:TV),d[j]? =some x->c[j]? =some y->nV x y:=by
 intro d;induction d with
 | nil=>
  intro c h;cases c with
  | nil=>exact ⟨rfl,λj x y g=>by simp at g⟩
  | cons _ _=>cases h
 | cons x d i=>
  intro c h;cases c with
  | nil=>cases h
  | cons y c=>
   simp only [Gz,zP] at h;have ⟨k,l⟩:=i h.2;refine ⟨by simp [k],λj a b e f=>?_⟩;cases j with
   | zero=>cases e;cases f;exact h.1
   | succ j=>exact l j a b (Zs e) (Zs f)
theorem GB (h:uZ x y) (g:TR D M H x u) (i:TR D M H y v):Gf u v:=by
 unfold uZ at h;split at h;rename_i p q;have ⟨k,c⟩:=CT h;cases g with
 | @ag _ t r l=>
  cases i with
  | @ag _ w s m=>simp only [Gf,zP,beq_iff_eq];refine ⟨O,xp _ _ W λj a b d n=>?_⟩;have o:=aa d;simp at o;have e:=zA (show j<p.length by omega);have f:=zA (show j<q.length by omega);exact (sK (c j _ _ e f) (l j _ a e (Zs d)) (m j _ b f (Zs n))).1
 have ⟨k,c⟩:=sK h g i;unfold Gf;split;exact absurd rfl (c _);exact k
theorem iL (h:St X D ω fl H τ l s V) {o:Oper} (b:jr ops τ o=some q):Region.wanted o (bH ops V)=q:=by
 unfold jr at b;unfold Region.wanted;split at b;rename_i g;rw [g];cases b;rfl;rename_i j m g;rw [g];simp only;split at b;rename_i d i;have a:=h.tm d;have k:bH ops V j=match V[d]? with|some (.bool q)=>some q|_=>none:=by unfold bH;rw [i];rfl
 rw [k];unfold Nv at b;split at b;rename_i c f;rw [f] at a;have a:=a.vv;rw [zG] at a;cases e:V[d]? with
 | none=>rw [e] at a;cases a
 | some v=>rw [e] at a;simp at a;subst a;cases b;rfl
 rename_i f;rw [f] at a;cases b;rw [zG] at a;cases e:V[d]? with
 | none=>rfl
 | some v=>
  rw [e] at a;simp at a;cases a with
  | tu _ _=>rfl
 cases b;cases b
def nv (P:aB) (ops:Array Oper) (V:aQ) (H:AH) (j:Nat):Prop:=
 ∃o t a d,ops[j]? =some o/\o.op= .load t a/\o.dst=some d/\(Region.wanted o (bH ops V)=true->cV P t (ev V a) H=some (V.getD d undef))/\d<V.length
theorem vX {V:aQ} {b:dj} {a:Operand} (h:∀d,b=some d->a≠ .tmp d):ev (bZ V b u) a=ev V a:=by
 cases a with
 | tmp n=>
  cases b with
  | none=>rfl
  | some d=>
   have:d≠n:=by rintro rfl;exact h d rfl rfl
   exact dR this
 | _=>rfl
theorem oN {c:dj} (b:indep ops c a) {o:Oper} (g:ops[a]? =some o) {f:Operand} (h:o.op= .load t f):(∀d,c=some d->f≠ .tmp d)/\∀d,c=some d->o.dst≠some d:=by
 unfold indep at b;constructor;intro d e;subst e;rw [g] at b;simp only [zP,xF,bne_iff_ne,ne_eq] at b;rintro rfl;have:d∈o.looksAt ops:=by unfold Oper.looksAt;apply List.mem_append_left _;rw [List.mem_filterMap];exact ⟨.tmp d,by simp [h,Op.operands],rfl⟩
 rw [xE.2 this] at b;cases b.1;intro d e;subst e;rw [g] at b;simp at b;exact b.2
theorem pW {o:Oper} (c:(o.looksAt ops).contains a=false):Region.wanted o (bH ops (V.set a u))=Region.wanted o (bH ops V):=by
 unfold Region.wanted;cases f:o.guard with
 | none=>rfl
 | some g=>
  have ⟨b,i⟩:=g;have:bH ops (V.set a u) b=bH ops V b:=by
   unfold bH;cases e:(ops[b]?).bind (·.dst) with
   | none=>rfl
   | some d=>
    have h:a≠d:=by
     rintro rfl;have:a∈o.looksAt ops:=by unfold Oper.looksAt;apply List.mem_append_right _;rw [f];simp [e]
     rw [xE.2 this] at c;cases c
    simp only [zR,zD h]
  simp only [this]
theorem wanted_put {c:dj} (b:indep ops c a) {o:Oper} (e:ops[a]? =some o):Region.wanted o (bH ops (bZ V c u))=Region.wanted o (bH ops V):=by
 cases c with
 | none=>rfl
 | some d=>unfold indep at b;rw [e] at b;simp only [zP,xF,bne_iff_ne,ne_eq] at b;exact pW b.1
theorem nv.put {b:dj} {v:aq} {j:Nat} (h:nv P ops V H j) (g:indep ops b j):nv P ops (bZ V b v) H j:=by
 obtain ⟨o,t,a,d,c,e,f,l,m⟩:=h;obtain ⟨p,q⟩:=oN g c e;refine ⟨o,t,a,d,c,e,f,λi=>?_,by rw [cJ];exact m⟩;rw [wanted_put g c] at i;rw [vX p,l i];cases b with
 | none=>rfl
 | some k=>
  have:k≠d:=by rintro rfl;exact q _ rfl f
  exact yC some (dR this).symm
theorem nv.more (h:nv P ops V H a) (ext:AH):nv P ops V (H++ext) a:=by obtain ⟨o,t,b,d,c,e,f,g,i⟩:=h;exact ⟨o,t,b,d,c,e,f,λj=>qF (g j) ext,i⟩
theorem dZ (i:h[a]? =H[a]? \/∃C sz c d,H[a]? =some (.row C sz c)/\h[a]? =some (.row C sz d)):cV P t (.pointer (some ⟨a,b,none⟩)) h=cV P t (.pointer (some ⟨a,b,none⟩)) H:=by simp only [cV];rcases i with e|⟨C,sz,c,d,f,g⟩;rw [e];rw [f,g];cases P.underlying t <;> cases P.info? t <;> rfl
end
section
variable {X:Nat->Prop} {D E:aH} {M J:Nat->Prop} {H h:AH} {ω ω':Nat->Option Loc} {P:aB} {A:An} {fl an:Nat} {τ τ':TF} {l s l' s':ae} {callV:V.Callee} {V:aQ} {callT:Tc} {ops:Array Oper}
theorem pj {b:Operand->aq} {o:Oper} (d:∀f args a,o.op≠ .call {callee:=.value f,args:=args,argTypes:=a}) (H:AH):kH P callV b o H=fH P b o H:=by
 have ⟨h,e,i,pos,g,guard⟩:=o;cases e with
 | call c=>
  have ⟨callee,args,a⟩:=c;cases callee with
  | value f=>exact absurd rfl (d f args a)
  | _=>rfl
 | _=>rfl
theorem CR (h:IG P x=some a):∃c b,x= .v (.func (.func a) c b)/\(c.isEmpty&&b.isEmpty&&eG P a)/\a<1000:=by unfold IG at h;split at h;split at h;rename_i d;cases h;simp at d;have ⟨⟨⟨e,f⟩,g⟩,i⟩:=d;exact ⟨_,_,rfl,by simp [e,f,g],by simpa [Nat.blt_eq] using i⟩;cases h;cases h
theorem Aj (b2:fm P A callT callV) (n:St X D ω fl H τ l s V) {o:Oper} (J:∀k,o.dst=some k->k<V.length) (t:kP o) {r:TS} (d:dD P A callT an fl o τ l s=some r):
  ∃v h E ω',kH P callV (ev V) o H=some (v,h)/\St X E ω' fl h (dU r.2.1 o.dst r.1) r.2.2.1 r.2.2.2 (bZ V o.dst v)/\Xt X fl D ω H l s E ω' h r.2.2.1 r.2.2.2/\
   (qf o=true->∀e C sz c,l[e]? =some (.row C sz)->D false e 0=some c->h[c]? =H[c]?)/\
   (mE A an τ o=true->∀e N k c,s[e]? =some N->N.az=some k->D true e k=some c->h[c]? =H[c]?):=by
 by_cases F:∃f args i,o.op= .call {callee:=.value f,args:=args,argTypes:=i};have ⟨f,args,i,j⟩:=F;have ⟨c6,op,c9,pos,c5,guard⟩:=o;simp only at j;subst j;simp only [dD] at d;split at d;rename_i K hK;have ⟨a,b,L,p,c7⟩:=CR hK;split at d;rename_i c4;obtain ⟨c8,hp,rfl⟩:=map_some d;have R:∀x∈args.toList,pI x:=λx hx=>jO t (by simp [Op.operands,Call.operands,Array.mem_toList_iff.1 hx]);have M:real (K+1000*an)=K:=by unfold real;omega
 have b6:eG P (real (K+1000*an)):=by rw [M];simp at p;exact p.2
 have ⟨v,h,E,ω',m,w,y,z,q5⟩:=bV.call b2 n J R c4 hp b6;have c3:ev V f= .func (.func K) a b:=by have c2:pI f:=jO t (by simp [Op.operands,Call.operands]);have:=av n c2;rw [L] at this;exact this.vv
 refine ⟨v,h,E,ω',?_,w,y,λ_ e C sz c g1 g2=>z e _ 0 c g1 rfl g2,λg=>q5 ?_⟩;simp only [kH,c3,p,if_true];rw [M] at m;rw [<-m];simp;simp only [mE,L] at g;simpa using g;cases d;cases d;have q:=λf args i b1=>F ⟨f,args,i,b1⟩;have ⟨v,h,E,ω',m,w,y,z⟩:=qc n J t q d;refine ⟨v,h,E,ω',by rw [pj q];exact m,w,y,z,λg=>?_⟩;unfold mE at g;split at g;rename_i f args i j;exact absurd j (q _ _ _);cases g
structure A5 (ops:Array Oper) (n:Nat):Prop where
 ok:∀(j:Nat) (o:Oper),ops[j]? =some o->kP o
 dst:∀(j:Nat) (o:Oper),ops[j]? =some o->∀k,o.dst=some k->k<n
theorem oL {x:Option TO} (h:isRow x):∃a sz,x=some (.row a sz):=by unfold isRow at h;split at h;exact ⟨_,_,rfl⟩;cases h
theorem vU {x:Option TO} (h:EC a x):∃sz b,x=some (.aY a sz b):=by unfold EC at h;split at h;rename_i v sz b;cases zS h;exact ⟨_,_,rfl⟩;cases h
theorem AE (C:St X D ω fl H τ l s V) {o e:Oper} {a:Operand} (L:o.op= .load t a) (F:pI a) (b:uV A an τ l s o e)
  (M:Xt X fl D ω H l s E ω' h l' s')
  (J:qf e->∀d n sz f,l[d]? =some (.row n sz)->D false d 0=some f->h[f]? =H[f]?)
  (z:mE A an τ e->∀d m k f,s[d]? =some m->m.az=some k->D true d k=some f->h[f]? =H[f]?)
  (w:∀r d m k f,FW (Ny an τ e) r d->(ob l s r)[d]? =some m->m.az=some k->D r d k=some f->h[f]? =H[f]?):cV P t (ev V a) h=cV P t (ev V a) H:=by
 have c:=av C F;unfold uV at b;rw [L] at b;simp only [tq] at b;split at b;rename_i d x j;rw [j] at c;simp at b;have ⟨n,sz,g⟩:=oL b.2;generalize ev V a=v at c;cases c with
 | p i=>rcases b.1 with q|q;exact dZ (.inl (J q _ _ _ _ g i));exact dZ (.inl (w false _ _ 0 _ q g rfl i))
 rename_i n x j;rw [j] at c;generalize ev V a=v at c;cases c with
 | pe y K hl R hh=>have ⟨b1,g⟩:=M.aM _ _ _ _ y K;exact dZ (.inr ⟨_,_,_,_,y,g⟩)
 rename_i d x j;rw [j] at c;simp at b;have ⟨n,sz,g⟩:=oL b.2;generalize ev V a=v at c;cases c with
 | p i=>rcases b.1 with q|q;exact dZ (.inl (z q _ _ 0 _ g rfl i));exact dZ (.inl (w true _ _ 0 _ q g rfl i))
 rename_i d k b2 b6 x j;rw [j] at c;simp at b;have ⟨sz,N,g⟩:=vU b.2;generalize ev V a=v at c;cases c with
 | q i=>rcases b.1 with q|q;exact dZ (.inl (z q _ _ k _ g rfl i));exact dZ (.inl (w true _ _ k _ q g rfl i))
 cases b
theorem HE {o:Oper} (b:kP o) {a:Operand} (c:o.op= .load t a):pI a:=jO b (by simp [c,Op.operands])
theorem pg {c:Operand->aq} {o:Oper} {a:Operand} (b:o.op= .load t a) (H:AH):fH P c o H=(cV P t (c a) H).map λv=>(v,H):=by have ⟨e,f,g,pos,d,guard⟩:=o;simp only at b;subst b;rfl
theorem sS (w:St X D ω fl H τ l s V) {e:Oper} (c2:kP e) {rr:TS} (f:dD P A callT an fl e τ l s=some rr) (hv:kH P callV (ev V) e H=some (u,h)) {r:Bool} {M:TO}
  (i:FW (Ny an τ e) r a) (L:(T.ob l s r)[a]? =some M) (K:M.az=some b) (J:D r a b=some c):h[c]? =H[c]? :=by
 have ⟨c8,op,d1,pos,c7,guard⟩:=e;cases op <;> (try (cases i;done))
 case store c5 j c6=>
  have b2:pI j:=jO c2 (by simp [Op.operands]);have k:=av w b2;have ⟨H1,g,R⟩:=map_some (show (fF P c5 (ev V j) (ev V c6) H).map _=some (u,h) from hv);cases R;have t:Nat.ble an 1:=by
   cases t:Nat.ble an 1 with
   | true=>rfl
   | false=>simp [Ny,t,FW] at i
  have c3:∃n y p,cF n fl y l s (aR τ j)=some p:=by
   have b1:an=0\/an=1:=by have:=yR t;omega
   rcases b1 with rfl|rfl;simp only [dD] at f;split at f;have ⟨p,d,_⟩:=map_some f;exact ⟨_,_,p,d⟩;cases f;simp only [dD] at f;split at f;have ⟨p,d,_⟩:=map_some f;exact ⟨_,_,p,d⟩;cases f
  have ⟨n,y,p,d⟩:=c3;have set:∀{F v:Nat},ev V j= .pointer (some ⟨F,v,none⟩)->F≠c->h[c]? =H[c]? :=by intro F v m b6;rw [m] at g;simp only [fF] at g;split at g;split at g;cases g;exact zD b6;cases g;cases g
  simp only [Ny,t,cond_true] at i;unfold cF at d;split at d;rename_i r' c4 v m;rw [m] at i k;split at d;rename_i cs sz E;split at d;rename_i o;generalize z:ev V j=N at k;cases k with
  | p C=>refine set z ((w.ne E L rfl K C J o.1 λx=>?_).symm);obtain ⟨rfl,rfl⟩:=x;simp [FW] at i
  cases d;cases d;rename_i r' c4 d2 c9 sz v m;rw [m] at i k;split at d;rename_i k' d3 es E;split at d;rename_i o;generalize z:ev V j=N at k;cases k with
  | q C=>obtain ⟨rfl,_,o⟩:=o;refine set z ((w.ne E L rfl K C J o.1 λx=>?_).symm);obtain ⟨rfl,rfl⟩:=x;simp [FW] at i
  cases d;cases d;cases d
theorem CC {o:Oper} (h:Y0 P o (aR τ) l s=some x):(∀f args k,o.op≠ .call {callee:=.value f,args:=args,argTypes:=k})/\dD P A (λ_ _ _ _=>none) 0 fl o τ l s=some (x,τ,l,s):=by
 have ⟨z,w,H,pos,y,guard⟩:=o;cases w <;> simp only [Y0] at h <;> (try (cases h;done))
 case load t a=>split at h;rename_i g n q;refine ⟨λ_ _ _ e=>(by cases e),?_⟩;simp only [dD,q,h,zH,Nat.beq,cond_false];cases h
 case slice t j D C E=>exact ⟨λ_ _ _ e=>(by cases e),by simp only [dD,h,zH]⟩
 case lookup t j i F=>exact ⟨λ_ _ _ e=>(by cases e),by simp only [dD,h,zH]⟩
 case convert a d j=>exact ⟨λ_ _ _ e=>(by cases e),by simp only [dD,h,zH]⟩
 case call c=>
  have ⟨callee,args,k⟩:=c;cases callee with
  | builtin b=>cases b <;> simp only at h <;> (try (cases h;done));refine ⟨λ_ _ _ e=>(by cases e),?_⟩;split at h;rename_i j t p v;simp only [dD,p,v,h,zH];cases h
  | value f=>cases h
  | invoke r m=>cases h
theorem Am (t:A5 ops V.length) (R:St X D ω fl H τ l s V) {e:Oper} {x:aA} (hp:∀a∈x,nv P ops V H a) {l1:ae} {z:TF}
  (j:St X E ω' fl h z l1 r (bZ V e.dst u)) (hx:Xt X fl D ω H l s E ω' h l1 r)
  (hf:qf e->∀f L sz c,l[f]? =some (.row L sz)->D false f 0=some c->h[c]? =H[c]?)
  (hr:mE A an τ e->∀f n k c,s[f]? =some n->n.az=some k->D true f k=some c->h[c]? =H[c]?)
  (hy:∀y f n k c,FW (Ny an τ e) y f->(ob l s y)[f]? =some n->n.az=some k->D y f k=some c->h[c]? =H[c]?)
  (K:x.contains a->indep ops e.dst a) (b:sB P A ops fl x e an τ l s z l1 r a):vE P ops (bZ V e.dst u) h a:=by
 unfold sB at b;unfold vE;cases i:ops[a]? with
 | none=>rw [i] at b;cases b
 | some o=>
  rw [i] at b;simp only at b ⊢;cases p:jr ops z o with
  | none=>rw [p] at b;cases b
  | some wb=>cases wb with
  | false=>rw [iL j p];rfl
  | true=>
   rw [p] at b;simp only [Vy] at b;rw [iL j p];split at b;rename_i d m;have b2:=t.dst a o i d m;have v:d<(bZ V e.dst u).length:=by rw [cJ];exact b2
   simp;simp only [Bool.or_eq_true,zP] at b;rcases b with ⟨⟨g,M⟩,N⟩|g;have c2:=hp a (xE.1 g);obtain ⟨n,c4,C,d',F,q,e3,e4,e5⟩:=c2.put (K g);rw [i] at F;cases F;rw [m] at e3;cases e3;have c3:=iL j p;have e4:=e4 c3;have b1:=HE (t.ok a o i) q;have hq:=AE (P:=P) R q b1 M hx hf hr hy;have J:ev (bZ V e.dst u) C=ev V C:=vX (oN (K g) i q).1;rw [J] at e4;have:fH P (ev (bZ V e.dst u)) o h=some ((bZ V e.dst u).getD d undef,h):=by rw [pg q,J,hq,e4];rfl
   rw [this,m];simp;exact ⟨v,K6 (j.tm d) N⟩;unfold IC at g;split at g;rename_i c5 w;obtain ⟨b6,w⟩:=CC (A:=A) w;have ⟨v',H2,c6,c7,q1,q2,q3,_⟩:=qc j (λk hk=>by rw [cJ];exact t.dst a o i k hk) (t.ok a o i) b6 w;rw [q1,m];simp;refine ⟨v,GB g ?_ ((j.tm d).mono q3.le)⟩;have:=q2.tm d;simp only [m,dU,aG,Nat.beq_refl,cond_true,bZ] at this;rw [zG,zF (by rw [m] at*;exact v)] at this;exact this;cases g;cases b
theorem n6 {o:Oper} (h:oM ops o):∃t a d,o.op= .load t a/\o.dst=some d/\a≠ .tmp d/\(o.looksAt ops).contains d=false:=by
 unfold oM at h;split at h;rename_i t a d b c;simp only [xF] at h;refine ⟨_,_,_,b,c,?_,h⟩;rintro rfl;have:d∈o.looksAt ops:=by unfold Oper.looksAt;apply List.mem_append_left _;rw [List.mem_filterMap];exact ⟨.tmp d,by simp [b,Op.operands],rfl⟩
 rw [xE.2 this] at h;cases h;cases h
theorem uT (c8:fm P A callT callV) (L:A5 ops V.length) {x:RS} (v:St X D ω fl H x.τ x.l x.s V) (F:∀j∈x.pd,nv P ops V H j) {p:Nat×aA} {r:RS} (g:jE P A callT a b fl ops p x=some r):
  ∃V' h E ω',oe P callV ops p (V,H)=some (V',h)/\St X E ω' fl h r.τ r.l r.s V'/\Xt X fl D ω H x.l x.s E ω' h r.l r.s/\(∀j∈r.pd,nv P ops V' h j)/\V'.length=V.length:=by
 unfold jE at g;unfold oe;cases w:ops[p.1]? with
 | none=>rw [w] at g;cases g
 | some o=>
  rw [w] at g;simp only at g ⊢;have y:=L.dst _ o w;have c5:=L.ok _ o w;split at g;rename_i b2;unfold Wj at b2;simp only [zP] at b2;have ⟨d3,b1⟩:=b2;have N:=λj c=>zQ.1 d3 j c;have b6:∀j∈He P p x.pd o,j∈x.pd:=by
   intro j c;unfold He at c;cases i:(cls P o==3) with
   | true=>rw [i] at c;simp only [cond_true,List.mem_filter] at c;exact xE.1 c.2
   | false=>rw [i] at c;exact c
  split at g;cases g;rename_i hw;have c6:=iL v hw;rw [c6];cases g;refine ⟨_,_,D,ω,rfl,v.put y (.tu rfl λj x d7 hx=>by simp at hx) oB,Xt.refl,λj c=>?_,cJ _ _ _⟩;have z:∀j∈He P p x.pd o,nv P ops (bZ V o.dst undef) H j:=λj c=>(F j (b6 j c)).put (N j c);have c:=c;unfold Jx at c;cases n:oM ops o with
  | false=>rw [n] at c;exact z j c
  | true=>rw [n] at c;simp at c;rcases c with rfl|c;have ⟨t,s,d,q,l,c4,c3⟩:=n6 n;refine ⟨o,t,s,d,w,q,l,λJ=>?_,by rw [cJ];exact y d l⟩;rw [l] at J;simp only [bZ,pW c3] at J;rw [c6] at J;cases J;exact z j c
  rename_i hw;rw [iL v hw];simp only [if_true];split at g;cases g;rename_i e6 f1 l1 s1 hs;have ⟨c2,h,E,ω',K,q2,q3,q4,q5⟩:=Aj c8 v y c5 hs;rw [K];simp only;split at g;rename_i M;cases g;have M:=λj c=>zQ.1 M j c;have hr:∀j∈p.2,vE P ops (bZ V o.dst c2) h j:=by
   intro j c;refine Am L v F q2 q3 q4 q5 (λd8 b o' d5 d9=>sS v c5 hs K) (λhc=>N j ?_) (M j c);unfold He;cases i:(cls P o==3) with
   | true=>simp only [cond_true,List.mem_filter];exact ⟨c,hc⟩
   | false=>rw [i] at b1;simp at b1;rw [b1] at c;cases c
  rw [zO (zQ.2 hr)];have z:∀j∈He P p x.pd o,nv P ops (bZ V o.dst c2) h j:=by
   intro j c;cases i:(cls P o==3) with
   | true=>
    have d1:=c;unfold He at c;rw [i] at c;simp at c;have ⟨oj,t,s,d,e1,e2,e3,e4,e5⟩:=F j (b6 j d1);have k:=hr j c.1;unfold vE at k;rw [e1] at k;simp only at k;refine ⟨oj,t,s,d,e1,e2,e3,λd4=>?_,by rw [cJ];exact e5⟩;rw [d4,pg e2,e3] at k;simp only [Bool.not_true,Bool.false_or] at k;cases hl:cV P t (ev (bZ V o.dst c2) s) h with
    | none=>rw [hl] at k;cases k
    | some d6=>rw [hl] at k;simp only [zH,zP] at k;rw [BV k.2]
   | false=>
    have R:∀f args C,o.op≠ .call {callee:=.value f,args:=args,argTypes:=C}:=by intro f args C e;unfold cls at i;rw [e] at i;simp at i
    have m:=K;rw [pj R] at m;have c9:∃ext,h=H++ext:=by
     have d2:cls P o=0\/cls P o=1\/cls P o=2\/cls P o=3:=by unfold cls;split <;> (try split) <;> simp
     rcases d2 with e|e|e|e;exact ⟨[],by rw [(p9 e m).1];simp⟩;exact ⟨[],by rw [(fA e m).1];simp⟩;have ⟨mk,cs,sz,_,c7,_⟩:=fB e m;exact ⟨_,c7⟩;rw [e] at i;simp at i
    obtain ⟨ext,rfl⟩:=c9;exact ((F j (b6 j c)).put (N j c)).more ext
  refine ⟨_,_,E,ω',rfl,q2,q3,λj c=>?_,cJ _ _ _⟩;have c:=c;unfold Jx at c;cases n:oM ops o with
  | false=>rw [n] at c;exact z j c
  | true=>
   rw [n] at c;simp at c;rcases c with rfl|c;have ⟨t,s,d,q,l,c4,c3⟩:=n6 n;have R:∀f args C,o.op≠ .call {callee:=.value f,args:=args,argTypes:=C}:=λf args C e=>by rw [e] at q;cases q
   have m:=K;rw [pj R] at m;have hH:=(fA (by simp [cls,q]) m).1;rw [pg q] at m;have ⟨d6,g1,g2⟩:=map_some m;rw [hH] at g2 ⊢;cases g2;refine ⟨o,t,s,d,w,q,l,λ_=>?_,by rw [cJ];exact y d l⟩;rw [vX (λd5 hk=>by rw [l] at hk;cases hk;exact c4),g1,l];simp only [bZ,zG,zF (y d l),Option.getD_some];exact z j c
  cases g;cases g
end
def mO (c:Nat) (b:aH):aH:=λr a k=>bif r then b true a k else bif Nat.blt a c then b false a k else none
def qi (n:Nat):Code->Bool
 | .region _ e _=>e.toList.all λo=>kP o&&(match o.dst with|some d=>Nat.blt d n|none=>true)
 | .seq a b=>qi n a&&qi n b
 | .cond c a b=>pI c&&qi n a&&qi n b
 | .block _ c=>qi n c
 | .loop c=>qi n c
 | _=>true
section
variable {X:Nat->Prop} {D E:aH} {M J:Nat->Prop} {H h:AH} {ω ω':Nat->Option Loc} {P:aB} {A:An} {fl n0:Nat} {τ τ':TF} {l s l' s':ae} {callV:V.Callee} {V:aQ} {callT:Tc} {ops:Array Oper} {Pl:cR} {L K:Nat}
theorem rV (h:mO n0 D q a b=some c):D q a b=some c/\(q=false->a<n0):=by
 cases q with
 | true=>exact ⟨h,λe=>by cases e⟩
 | false=>
  simp only [mO,cond_false] at h;cases d:Nat.blt a n0 with
  | false=>rw [d] at h;cases h
  | true=>rw [d] at h;exact ⟨h,λ_=>by simpa using d⟩
theorem iy (hid:q=false->a<n0):mO n0 D q a b=D q a b:=by
 cases q with
 | true=>rfl
 | false=>
  have:Nat.blt a n0:=by simpa using hid rfl
  simp only [mO,cond_false,this,cond_true]
theorem TR.rb (h:TR D M H x v) (d:∀v,J v->M v) (f:T.rb n0 x):TR (mO n0 D) J H x v:=by
 have b:∀a k g,D true a k=some g->mO n0 D true a k=some g:=λa k g e=>e;cases x with
 | u=>exact .u
 | ag o=>
  cases h with
  | ag t h=>exact .ag t λj x c l s=>(h j x c l s).cI d b (cP f l)
 | tu o=>cases f
 | p r a n=>
  cases r with
  | true=>exact h.cI d b rfl
  | false=>
   cases h with
   | p e=>exact .p (by rw [iy λ_=>by simpa [T.rb] using f];exact e)
 | q r a k i z n=>
  cases r with
  | true=>exact h.cI d b rfl
  | false=>
   cases h with
   | q e=>exact .q (by rw [iy λ_=>by simpa [T.rb] using f];exact e)
 | m r a k i z n=>
  cases r with
  | true=>exact h.cI d b rfl
  | false=>
   cases h with
   | m e=>exact .m (by rw [iy λ_=>by simpa [T.rb] using f];exact e)
 | _=>exact h.cI d b rfl
theorem OR.cut {r:Bool} {o:TO} (h:OR D M ω H q r a o) (w:∀v,J v->M v) (hid:r=false->a<n0):OR (mO n0 D) J ω H q r a o:=by
 have t:∀a k b,D true a k=some b->mO n0 D true a k=some b:=λa k b e=>e;cases o with
 | row L sz=>obtain ⟨s,b,C,g,l,f,d,m⟩:=h;exact ⟨s,b,C,by rw [iy hid];exact g,l,⟨f.1,λj x c y E=>(f.2 j x c y E).cI w t (cP s y)⟩,d,m⟩
 | aY k sz z=>obtain ⟨b,C,g,l,f,d,m,A⟩:=h;refine ⟨b,C,by rw [iy hid];exact g,l,f,⟨d.1,d.2.1,λi j e x c n p e3=>(d.2.2 i j e x c n p e3).cI w t (iR (fk (d.1 e (zI n)).2 p))⟩,m,λK F=>?_⟩;rw [iy hid];exact A K F
 | mp z cl=>obtain ⟨b,g,l,f,d⟩:=h;exact ⟨b,by rw [iy hid];exact g,l,f,d⟩
 | dead=>trivial
theorem Mu.cut (h:Mu X (mO n0 D) (l.take n0) s a):Mu X D l s a:=by
 rcases h with h|⟨r,c,o,k,b,d,e⟩;exact .inl h;refine .inr ⟨r,c,o,k,?_,d,(rV e).1⟩;cases r with
 | true=>exact b
 | false=>have b:(l.take n0)[c]? =some o:=b;rw [zU] at b;split at b;exact b;cases b
theorem St.cut (h:St X D ω fl H τ l s V) (m:∀t,(τ' t=τ t\/τ' t= .u)/\T.rb n0 (τ' t)):St X (mO n0 D) ω fl H τ' (l.take n0) s V:=by
 refine ⟨λt=>?_,λt=>?_,λr b o g=>?_,h.lt,λr b k z y=>?_,h.mM,h.xl,h.xo⟩;obtain ⟨e,f⟩:=m t;rcases e with e|e;rw [e] at f ⊢;exact (h.tm t).rb (λv=>Mu.cut) f;rw [e];exact .u;rcases (m t).1 with e|e;rw [e];exact h.ow t;rw [e];intro i j A a n p;cases i <;> cases j <;> simp [eI,iJ] at p;cases r with
 | true=>exact (h.ob true b o g).cut (λv=>Mu.cut) (λe=>by cases e)
 | false=>have c:(l.take n0)[b]? =some o:=g;rw [zU] at c;split at c;rename_i hid;exact (h.ob false b o c).cut (λv=>Mu.cut) (λ_=>hid);cases c
 obtain ⟨q,w⟩:=rV y;obtain ⟨d,x⟩:=h.fC r b k z q;refine ⟨?_,x⟩;cases r with
 | true=>exact d
 | false=>have d:b<l.length:=d;show b<(l.take n0).length;have:=w rfl;simp;omega
theorem ox:∀(b:aA) (t:Nat),ej b (b.map τ) t=τ t\/ej b (b.map τ) t= .u:=by
 intro b t;induction b with
 | nil=>exact .inr rfl
 | cons a b d=>
  simp only [yY,ej];cases c:Nat.beq t a with
  | true=>cases zS c;exact .inl rfl
  | false=>exact d
theorem H9:∀{b:ao},Jv n0 b->∀x∈b,T.rb n0 x:=by
 intro b;induction b with
 | nil=>intro _ x a;cases a
 | cons y b c=>
  intro h x a;simp only [Jv,zP] at h;cases a with
  | head=>exact h.1
  | tail _ a=>exact c h.2 x a
theorem Ed:∀(c:aA) (b:ao) (t:Nat),ej c b t∈b\/ej c b t= .u:=by
 intro c;induction c with
 | nil=>intro b t;exact .inr (by unfold ej;rfl)
 | cons a c d=>
  intro b t;cases b with
  | nil=>exact .inr rfl
  | cons x b=>
   simp only [ej];cases f:Nat.beq t a with
   | true=>exact .inl Z
   | false=>rcases d b t with e|e;exact .inl (yU _ e);exact .inr e
theorem St.less (h:St X D ω fl H τ l s V) (b:∀t,τ' t=τ t\/τ' t= .u):St X D ω fl H τ' l s V:=by refine ⟨λt=>?_,λt=>?_,h.ob,h.lt,h.fC,h.mM,h.xl,h.xo⟩;rcases b t with e|e;rw [e];exact h.tm t;rw [e];exact .u;rcases b t with e|e;rw [e];exact h.ow t;rw [e];intro i j d a n c;cases i <;> cases j <;> simp [eI,iJ] at c
theorem sA (q:fm P A callT callV):∀(d:List (Nat×aA)) (x b:RS) (V:aQ) (H:AH) (D:aH) (ω:Nat->Option Loc),A5 ops V.length->St X D ω fl H x.τ x.l x.s V->(∀j∈x.pd,nv P ops V H j)->dS P A callT K a fl ops d x=some b->
  ∃V' h E ω',eH P callV ops d (V,H)=some (V',h)/\St X E ω' fl h b.τ b.l b.s V'/\Xt X fl D ω H x.l x.s E ω' h b.l b.s/\V'.length=V.length:=by
 intro d;induction d with
 | nil=>intro x b V H D ω f e g c;cases c;exact ⟨V,H,D,ω,rfl,e,Xt.refl,rfl⟩
 | cons b1 ps r=>intro x b V H D ω f e g c;simp only [dS] at c;have ⟨y,o,p⟩:=zT.1 c;have ⟨m,k,L,N,s,t,v,w,i⟩:=uT q f e g o;have ⟨n,l,M,R,z,C,F,J⟩:=r y b m k L N (by rw [i];exact f) t w p;refine ⟨n,l,M,R,?_,C,v.trans F,J.trans i⟩;simp only [eH,s,zR];exact z
def Nt (X:Nat->Prop) (fl:Nat) (D:aH) (ω:Nat->Option Loc) (H:AH) (l s:ae) (V:aQ) (z:Option (Exit×aQ×AH)) (r:TE):Prop:=
 ∃V' h E ω',z=some (r.1,V',h)/\St X E ω' fl h r.2.1 r.2.2.1 r.2.2.2 V'/\Xt X fl D ω H l s E ω' h r.2.2.1 r.2.2.2/\V'.length=V.length
theorem CV (h:St X D ω fl H τ l s V) {c:Operand} (d:pI c) (a:CW (aR τ c)=some q):ev V c= .bool q:=by have:=av h d;unfold CW at a;split at a;rename_i b e;cases a;rw [e] at this;exact this.vv;cases a
theorem Ap {A:ao->ae->ae->Option TE} {C:aQ->AH->Option (Exit×aQ×AH)} {g:aA}
  (E:∀(d:ao) (l s:ae) (V:aQ) (H:AH) (D:aH) (ω:Nat->Option Loc) (r:TE),V.length=b->St X D ω fl H (ej g d) l s V->A d l s=some r->Nt X fl D ω H l s V (C V H) r):
  ∀(k:Nat) (d:ao) (l s:ae) (V:aQ) (H:AH) (D:aH) (ω:Nat->Option Loc) (r:TE),V.length=b->l.length<=a->St X D ω fl H (ej g d) l s V->jF A g a k d l s=some r->Nt X fl D ω H l s V (pn C k V H) r:=by
 intro k;induction k with
 | zero=>intro d l s V H D ω r j N h c;cases c
 | succ k ih=>
  intro d l s V H D ω r j N h c;simp only [jF] at c;split at c;rename_i z l1 x L;split at c;rename_i b1;have ⟨p,i,y,o,v,w,f,n⟩:=E d l s V H D ω _ j h L;have M:=w.cut λt=>⟨ox g t,by rcases Ed g (g.map z) t with e|e;exact H9 b1 _ e;rw [e];rfl⟩
  have hx:Xt X fl D ω H l s (mO a y) o i (l1.take a) x:=by refine ⟨λr q k F m=>?_,f.len,f.same,f.aM,λb2 m=>f.mu b2 (Mu.cut m),f.BD⟩;rw [iy λR=>?_];exact f.qv r q k F m;have:=(h.fC r q k F m).1;rw [R] at this;have:q<l.length:=this;omega
  have ⟨K,J,b6,c2,r1,r2,r3,r4⟩:=ih _ _ _ p i _ o r (n.trans j) W M c;refine ⟨K,J,b6,c2,?_,r2,hx.trans r3,r4.trans n⟩;simp only [pn,v];exact r1;cases c;rename_i P;have ⟨p,i,y,o,v,w,f,n⟩:=E d l s V H D ω _ j h c;refine ⟨p,i,y,o,?_,w,f,n⟩;simp only [pn,v];split;rename_i e;have ⟨ex,z,l1,x⟩:=r;simp at e;exact absurd (by rw [c,e.1]) (P z l1 x);rfl
theorem Av (c4:fm P A callT callV):∀(c:Code) (p:Nat) (τ:TF) (l s:ae) (V:aQ) (H:AH) (D:aH) (ω:Nat->Option Loc) (r:TE),qi a c->V.length=a->St X D ω fl H τ l s V->bN P A Pl callT L K fl p c τ l s=some r->Nt X fl D ω H l s V (di P Pl callV L (real K) c V H) r:=by
 intro c;induction c with
 | skip=>intro p τ l s V H D ω r d g f b;cases b;exact ⟨V,H,D,ω,rfl,f,Xt.refl,rfl⟩
 | region N ops c8=>
  intro p τ l s V H D ω r d g f b;simp only [bN] at b;obtain ⟨d1,x,rfl⟩:=map_some b;simp only [qi,zQ,zP] at d;have hO:A5 ops V.length:=by refine ⟨λb6 o M=>(d o (Zs (xL M))).1,λb6 o M c9 hk=>?_⟩;have:=(d o (Zs (xL M))).2;rw [hk] at this;rw [g];simpa using this
  have ⟨V',h,E,ω',j,k,m,i⟩:=sA c4 _ _ _ V H D ω hO f (λb6 hj=>by cases hj) x;exact ⟨V',h,E,ω',by simp only [di,j,zH],k,m,i⟩
 | seq c2 c3 F R=>intro p τ l s V H D ω r d g f b;simp only [bN] at b;simp only [qi,zP] at d;split at b;rename_i z l1 y x;have ⟨q,n,t,v,j,k,m,i⟩:=F _ _ _ _ V H D ω _ d.1 g f x;have ⟨V2,H2,c6,c7,r1,r2,r3,r4⟩:=R _ _ _ _ q n t v _ d.2 (i.trans g) k b;exact ⟨V2,H2,c6,c7,by simp only [di,j];exact r1,r2,m.trans r3,r4.trans i⟩;rename_i J;have ⟨q,n,t,v,j,k,m,i⟩:=F _ _ _ _ V H D ω _ d.1 g f b;refine ⟨q,n,t,v,?_,k,m,i⟩;simp only [di,j];split;rename_i e;have ⟨ex,z,l1,y⟩:=r;simp at e;exact absurd (by rw [b,e.1]) (J z l1 y);rfl
 | cond c c2 c3 F R=>
  intro p τ l s V H D ω r d g f b;simp only [bN] at b;simp only [qi,zP] at d;split at b;rename_i b1 w;have b2:=CV f d.1.1 w;cases b1 with
  | true=>have ⟨q,n,t,v,j,k,m,i⟩:=F _ _ _ _ V H D ω _ d.1.2 g f b;exact ⟨q,n,t,v,by simp only [di,b2,if_true];exact j,k,m,i⟩
  | false=>have ⟨q,n,t,v,j,k,m,i⟩:=R _ _ _ _ V H D ω _ d.2 g f b;exact ⟨q,n,t,v,by simp only [di,b2,xD,if_false];exact j,k,m,i⟩
  cases b
 | block N c C=>
  intro p τ l s V H D ω r d g f b;simp only [bN] at b;simp only [qi] at d;split at b;rename_i c5 z l1 y x;have ⟨q,n,t,v,j,k,m,i⟩:=C _ _ _ _ V H D ω _ d g f x;cases w:Nat.beq c5 N with
  | true=>rw [w] at b;cases b;exact ⟨q,n,t,v,by simp only [di,j];rw [zO (zS w)],k,m,i⟩
  | false=>rw [w] at b;cases b;exact ⟨q,n,t,v,by simp only [di,j];rw [zN (Nat.ne_of_beq_eq_false w)],k,m,i⟩
  rename_i J;have ⟨q,n,t,v,j,k,m,i⟩:=C _ _ _ _ V H D ω _ d g f b;refine ⟨q,n,t,v,?_,k,m,i⟩;simp only [di,j];split;rename_i e;have ⟨ex,z,l1,y⟩:=r;simp at e;exact absurd (by rw [b,e.1]) (J _ z l1 y);rfl
 | loop c C=>intro p τ l s V H D ω r d g f b;simp only [bN] at b;simp only [qi] at d;have h0:St X D ω fl H (ej (A.lv K p) ((A.lv K p).map τ)) l s V:=f.less λb1=>ox _ b1;have:=Ap (λts l s V H D ω r g f b=>C _ _ _ _ V H D ω r d g f b) L _ _ _ V H D ω r g (zE _) h0 b;simpa only [di] using this
 | exit N=>intro p τ l s V H D ω r d g f b;cases b;exact ⟨V,H,D,ω,rfl,f,Xt.refl,rfl⟩
 | ret=>intro p τ l s V H D ω r d g f b;cases b;exact ⟨V,H,D,ω,rfl,f,Xt.refl,rfl⟩
 | _=>intro p τ l s V H D ω r d g f b;cases b
end
def dF:ResultVar->Nat
 | .tmp t=>t
 | .cell a _=>a
section
variable {X:Nat->Prop} {D E:aH} {M J:Nat->Prop} {H h:AH} {ω ω':Nat->Option Loc} {P:aB} {A:An} {fl n0:Nat} {τ τ':TF} {l s l' s':ae} {V V':aQ}
theorem St.congr (h:St X D ω fl H τ l s V) (a:∀t,V'.getD t undef=V.getD t undef):St X D ω fl H τ l s V':=
 ⟨λt=>by rw [a];exact h.tm t,λt=>by rw [a];exact h.ow t,h.ob,h.lt,h.fC,h.mM,h.xl,h.xo⟩
theorem Fj (h:a≠b):Nat.beq a b=false:=by
 cases c:Nat.beq a b with
 | false=>rfl
 | true=>exact absurd (zS c) h
theorem St.ah (h:St X D ω fl H τ l s V) (f:Loc->Loc) (q:∀r b,f (.o r b)= .o r b) (p:∀r b j,f (.c r b j)= .c r b j)
  (E:∀t,TR D (Mu X D l s) H (τ' t) (V'.getD t undef))
  (C:∀t i j m a n,eI (τ' t) i j=some (.sl true m)->mo (V'.getD t undef) i j=some (.slice (some a) n 1)->(ω a.block).map f=some (.t t i j)/\Fr H a n):
  St X D (λv=>(ω v).map f) fl H τ' l s V'/\Xt X fl D ω H l s D (λv=>(ω v).map f) H l s:=by
 refine ⟨⟨E,C,λr b o A=>?_,λv F c=>?_,h.fC,h.mM,h.xl,λv c=>by simp [h.xo v c]⟩,⟨λ_ _ _ _ e=>e,zE _,λv _ z=>⟨rfl,by simp [z]⟩,λ_ _ _ _ e _=>⟨_,e⟩,λ_ e=>.inl e,λ_ _=>rfl⟩⟩;have d:=h.ob r b o A;refine d.other (Le.refl _ _ _) (λk K y w=>⟨rfl,?_⟩) (λ_ _ _ _ _ _ e=>e) (λ_ a j e _=>⟨by simp [e,p],rfl⟩);obtain ⟨J,a1,a2⟩:=d.dI y;rw [w] at a1;cases a1;simp only [a2];cases wr fl r b <;> simp [q];cases g:ω v with
 | none=>simp [g] at c
 | some x=>exact h.lt v x g
theorem jX {r:ResultVar} (c:dF r≠a):eK P fl (aG τ a x) l s r=(eK P fl τ l s r).map λp=>(p.1,aG p.2.1 a x,p.2.2):=by
 have d:∀t,t≠a->aG τ a x t=τ t:=by intro t b;have:=Fj b;simp only [aG,this,cond_false]
 cases r with
 | tmp t=>
  have b:=c;simp only [eK,d t b,zH,dO];congr 2;refine Prod.ext ?_ rfl;funext h;simp only [aG];have g:Nat.beq t a=false:=Fj b;cases f:Nat.beq h t with
  | true=>cases zS f;simp [g]
  | false=>simp
 | cell e t=>have b:=c;simp only [eK];split;rw [d e b,Option.map_map];congr 1;rfl
theorem kp {r:ResultVar} (c:dF r≠a):fG P (V.set a u) H r=fG P V H r:=by
 cases r with
 | tmp t=>have b:a≠t:=λe=>c e.symm;simp only [fG,dR b]
 | cell d t=>have b:a≠d:=λe=>c e.symm;simp only [fG,dR b]
theorem fT (h:St X D ω fl H τ l s V) {j:ResultVar} {d:Nat} (m:d<V.length) {o:TF} {l1:ae} (b:eK P fl τ l s j=some (x,o,l1,r)):
  ∃v ω',fG P V H j=some v/\St X D ω' fl H (aG o d x) l1 r (V.set d v)/\Xt X fl D ω H l s D ω' H l1 r:=by
 cases j with
 | tmp t=>simp only [eK] at b;cases b;have ⟨ω',f,i⟩:=h.move t (some d) (λk c=>by cases c;exact m);exact ⟨_,ω',rfl,f,i⟩
 | cell a t=>simp only [eK] at b;split at b;rename_i g n q;have ⟨⟨y,ly,z⟩,p,e⟩:=map_some b;cases e;have ⟨v,ω',f,i,w⟩:=h.take q p (h.tm a) (some d) (λk c=>by cases c;exact m);exact ⟨v,ω',f,i,w⟩;cases b
theorem St.one (h:St X D ω fl H τ l s V) (d:Nat):∃ω',St X D ω' fl H (aI [τ d]) l s [V.getD d undef]/\Xt X fl D ω H l s D ω' H l s:=by
 refine ⟨_,h.ah (λ| .t _ i j=>.t 0 i j|x=>x) (λ_ _=>rfl) (λ_ _ _=>rfl) (λt=>?_) λt i j e a n b c=>?_⟩;cases t with
 | zero=>exact h.tm d
 | succ t=>exact .u
 cases t with
 | zero=>obtain ⟨f,g⟩:=h.ow d i j e a n b c;exact ⟨by rw [f];rfl,g⟩
 | succ t=>simp [aI,eI,iJ] at b;cases i <;> cases j <;> simp at b
theorem St.XX (h:St X D ω fl H τ l s V) (m:aA) (g:Nat->Nat) (r:∀k d,m[k]? =some d->g d=k):∃ω',St X D ω' fl H (aI [.tu (m.map τ)]) l s [.tuple (m.map (V.getD · undef)).toArray]/\Xt X fl D ω H l s D ω' H l s:=by
 refine ⟨_,h.ah (λ| .t n _ j=>.t 0 (g n) j|x=>x) (λ_ _=>rfl) (λ_ _ _=>rfl) (λt=>?_) λt i j p a n b e=>?_⟩;cases t with
 | zero=>
  refine .tu Z λj x c f q=>?_;simp only [zK,List.getElem?_toArray] at f q;cases o:m[j]? with
  | none=>rw [o] at f;cases f
  | some d=>rw [o] at f q;cases f;cases q;exact h.tm d
 | succ t=>exact .u
 cases t with
 | zero=>
  have b:((m.map τ)[i]?).bind (λx=>iJ x j)=some (.sl true p):=b;have e:((m.map (V.getD · undef)).toArray[i]?).bind (λx=>jv x j)=some (.slice (some a) n 1):=e;simp only [zK,List.getElem?_toArray] at b e;cases o:m[i]? with
  | none=>rw [o] at b;cases b
  | some d=>
   rw [o] at b e;simp only [zH,zR] at b e;have v:eI (τ d) 0 j=some (.sl true p):=by
    cases f:τ d with
    | tu C=>rw [f] at b;cases j <;> simp [iJ] at b
    | _=>rw [f] at b;exact b
   have y:mo (V.getD d undef) 0 j=some (.slice (some a) n 1):=by
    generalize V.getD d undef=w at e ⊢;cases w with
    | tuple C=>cases j <;> simp [jv] at e
    | _=>exact e
   obtain ⟨z,A⟩:=h.ow d 0 j p a n v y;exact ⟨by rw [z];simp [r i d o],A⟩
 | succ t=>simp [aI,eI,iJ] at b;cases i <;> cases j <;> simp at b
theorem dz (V:aQ) (k t:Nat):(V++List.replicate k undef).getD t undef=V.getD t undef:=by simp;rcases zX t V.length with a|a;rw [zB a];rw [zJ a,yI a];rw [List.getElem?_replicate];split <;> rfl
theorem eY (V:aQ) (k:Nat) (r:ResultVar):fG P (V++List.replicate k undef) H r=fG P V H r:=by cases r <;> simp only [fG,dz]
theorem qO {τ:TF} (h:b≠a):aG τ a x b=τ b:=by simp only [aG,Fj h,cond_false]
theorem CA (h:St X D ω fl H τ l s V) {rs:List ResultVar} (b:uU P fl rs τ l s=some (x,r)):
  ∃v ω' l1,wu P rs V H=some v/\St X D ω' fl H (aI [x]) l1 r [v]/\Xt X fl D ω H l s D ω' H l1 r:=by
 unfold uU at b;unfold wu;split at b;cases b;have ⟨ω',f,o⟩:=h.XX [] (λ_=>0) (λk c6 e=>by simp at e);exact ⟨_,ω',l,rfl,f,o⟩;rename_i g;have ⟨⟨c,L,l1,F⟩,p,e⟩:=map_some b;cases e;have n:=h.congr (dz V 1);have ⟨v,c7,f,o,z⟩:=fT n (d:=V.length) Z p;have ⟨c5,i,q⟩:=o.one V.length;rw [cj] at i;rw [zG,zF Z] at i;rw [eY] at f;exact ⟨v,c5,l1,f,i,z.trans q⟩;rename_i g d;split at b;rename_i c L l1 F p;have ⟨⟨y,E,t,J⟩,h2,e⟩:=map_some b;cases e;generalize hD:V.length+dF g+dF d+1=a;have n:=h.congr (dz V (dF g+dF d+3));generalize m:V++List.replicate (dF g+dF d+3) undef=j at n;have hl:j.length=V.length+dF g+dF d+3:=by rw [<-m];simp;omega
 have ⟨v,c7,f,o,z⟩:=fT n (d:=a) O p;have b1:eK P fl (aG L a c) l1 F d=some (y,aG E a c,t,J):=by rw [jX O,h2];rfl
 have ⟨w,c5,A,b6,c2⟩:=fT o (d:=a+1) W b1;rw [kp O,<-m,eY] at A;rw [<-m,eY] at f;have ⟨c8,i,q⟩:=b6.XX [a,a+1] (λb2=>b2-a) (λk c6 e=>by
  match k with
  | 0=>simp at e;omega
  | 1=>simp at e;omega
  | k+2=>simp at e)
 have M:aG (aG E a c) (a+1) y a=c:=by rw [qO O,cj]
 have N:((j.set a v).set (a+1) w).getD a undef=v:=by rw [dR O,zG,zF O];rfl
 have R:((j.set a v).set (a+1) w).getD (a+1) undef=w:=by rw [zG,zF W];rfl
 simp only [yY,wE,M,cj,N,R] at i;exact ⟨_,c8,t,by simp only [f,A],i,(z.trans c2).trans q⟩;cases b;rename_i g d C;split at b;rename_i c L l1 F p;split at b;rename_i y E t J h2;have ⟨⟨c3,c4,l3,s4⟩,h3,e⟩:=map_some b;cases e;generalize hD:V.length+dF g+dF d+dF C+1=a;have n:=h.congr (dz V (dF g+dF d+dF C+4));generalize m:V++List.replicate (dF g+dF d+dF C+4) undef=j at n;have hl:j.length=V.length+dF g+dF d+dF C+4:=by rw [<-m];simp;omega
 have ⟨v,c7,f,o,z⟩:=fT n (d:=a) O p;have b1:eK P fl (aG L a c) l1 F d=some (y,aG E a c,t,J):=by rw [jX O,h2];rfl
 have ⟨w,c5,A,b6,c2⟩:=fT o (d:=a+1) W b1;have d1:eK P fl (aG (aG E a c) (a+1) y) t J C=some (c3,aG (aG c4 a c) (a+1) y,l3,s4):=by rw [jX O,jX O,h3];rfl
 have ⟨K,c8,t1,t2,t3⟩:=fT b6 (d:=a+2) W d1;rw [kp O,kp O,<-m,eY] at t1;rw [kp O,<-m,eY] at A;rw [<-m,eY] at f;have ⟨d2,i,q⟩:=t2.XX [a,a+1,a+2] (λb2=>b2-a) (λk c6 e=>by
  match k with
  | 0=>simp at e;omega
  | 1=>simp at e;omega
  | 2=>simp at e;omega
  | k+3=>simp at e)
 have M:aG (aG (aG c4 a c) (a+1) y) (a+2) c3 a=c:=by rw [qO O,qO O,cj]
 have c9:aG (aG (aG c4 a c) (a+1) y) (a+2) c3 (a+1)=y:=by rw [qO O,cj]
 have N:(((j.set a v).set (a+1) w).set (a+2) K).getD a undef=v:=by rw [dR O,dR O,zG,zF O];rfl
 have R:(((j.set a v).set (a+1) w).set (a+2) K).getD (a+1) undef=w:=by rw [dR O,zG,zF W];rfl
 have g4:(((j.set a v).set (a+1) w).set (a+2) K).getD (a+2) undef=K:=by rw [zG,zF W];rfl
 simp only [yY,wE,M,c9,cj,N,R,g4] at i;exact ⟨_,d2,l3,by simp only [f,A,t1],i,((z.trans c2).trans t3).trans q⟩;cases b;cases b;cases b
end
def eJ (b:Nat) (c:aH):aH:=λr a k=>bif r then bif Nat.blt a b then c true a k else none else none
section
variable {X:Nat->Prop} {D E:aH} {M J:Nat->Prop} {H h:AH} {ω ω':Nat->Option Loc} {P:aB} {A:An} {fl n0:Nat} {τ τ':TF} {l s l' s':ae} {V V':aQ} {Pl:cR} {L:Nat}
theorem TR.Ho (h:TR D M H x u) (b:∀u,J u->M u) (a:∀f k g,D true f k=some g->E true f k=some g) (d:T.Ho x):TR E J H x u:=by
 cases x with
 | tu m=>
  cases h with
  | tu l h=>exact .tu l λj x c e i=>(h j x c e i).aW b a (mJ d e)
 | _=>exact h.aW b a d
theorem St.out (h:St X D ω fl H τ l s V) (j:∀t,T.Ho (τ t)\/τ t= .u):St X (mO 0 D) ω fl H τ [] s V:=by
 have c:∀v,Mu X (mO 0 D) [] s v->Mu X D l s v:=λv b=>Mu.cut b;refine ⟨λt=>?_,h.ow,λr a o d=>?_,h.lt,λr a k f b=>?_,h.mM,h.xl,h.xo⟩;rcases j t with e|e;exact (h.tm t).Ho c (λa k f e=>e) e;rw [e];exact .u;cases r with
 | true=>exact (h.ob true a o d).cut c (λe=>(by cases e))
 | false=>simp [T.ob] at d
 obtain ⟨g,i⟩:=rV b;cases r with
 | true=>exact h.fC true a k f g
 | false=>exact absurd (i rfl) (Nat.not_lt_zero _)
theorem zn (h:eJ n0 D q a b=some c):q/\a<n0/\D true a b=some c:=by
 cases q with
 | false=>cases h
 | true=>
  simp only [eJ,cond_true] at h;cases d:Nat.blt a n0 with
  | false=>rw [d] at h;cases h
  | true=>rw [d] at h;exact ⟨rfl,by simpa using d,h⟩
theorem ko (hid:a<n0):eJ n0 D true a b=D true a b:=by
 have:Nat.blt a n0:=by simpa using hid
 simp only [eJ,cond_true,this]
theorem Mu.eJ (h:Mu X (T.eJ n0 D) [] (s.take n0) a):X a\/∃b o k,s[b]? =some o/\b<n0/\o.az=some k/\D true b k=some a:=by rcases h with h|⟨r,b,o,k,c,d,e⟩;exact .inl h;obtain ⟨rfl,hid,f⟩:=zn e;have c:(s.take n0)[b]? =some o:=c;rw [zU,zO hid] at c;exact .inr ⟨b,o,k,c,hid,d,f⟩
theorem Mu.zk (h:Mu X (T.eJ n0 D) [] (s.take n0) a):Mu X D l s a:=by rcases h.eJ with h|⟨e,o,k,b,_,c,d⟩;exact .inl h;exact .inr ⟨true,e,o,k,b,c,d⟩
theorem Iv (h:a<fl):wr fl true a=false:=by
 cases b:wr fl true a with
 | false=>rfl
 | true=>
  have:fl<=a:=by simpa [wr] using b
  omega
theorem O8 (h:fl<=a):wr fl true a:=by simpa [wr] using h
theorem St.Bb (h:St X D ω fl H τ l s V) (e:Mu X (T.eJ fl D) [] (s.take fl) a):ω a=none:=by rcases e.eJ with f|⟨g,o,k,b,hid,c,d⟩;exact h.xo a f;obtain ⟨i,a1,a2⟩:=(h.ob true g o b).dI c;rw [d] at a1;cases a1;rw [a2,Iv hid];rfl
theorem mB (h:St X D ω fl H τ l s V) {v:aq} (a:jG fl s x=some y) (f:TR D (Mu X D l s) H x v):
  TR (eJ fl D) (Mu X (eJ fl D) [] (s.take fl)) H y v/\(∀z,y≠ .ag z)/\(∀z,y≠ .tu z)/\(∀A,y= .sl true A->x= .sl true A):=by
 have w:∀v,Mu X (eJ fl D) [] (s.take fl) v->Mu X D l s v:=λv=>Mu.zk;unfold jG at a;split at a;cases a;refine ⟨?_,λ_ e=>(by cases e),λ_ e=>(by cases e),λ_ e=>(by cases e)⟩;cases f with|v n o=>exact .v n o
 cases a;refine ⟨?_,λ_ e=>(by cases e),λ_ e=>(by cases e),λ_ e=>e⟩;cases f with
 | sn=>exact .sn
 | s0=>exact .s0
 | se=>exact .se
 | sl n o C r E h6=>exact .sl n (λt=>o (w _ t)) C r E λi j e x c g k L=>(h6 i j e x c g k L).pM w (jj (r e (zI g)).2 k)
 cases a;refine ⟨?_,λ_ e=>(by cases e),λ_ e=>(by cases e),λ_ e=>(by cases e)⟩;cases f with
 | pe n o C r E=>exact .pe n (λt=>o (w _ t)) C r λj x c g k=>(E j x c g k).pM w (jj r g)
 rename_i d N;cases b:Nat.blt d fl with
 | false=>rw [b] at a;cases a
 | true=>
  rw [b] at a;cases a;refine ⟨?_,λ_ e=>(by cases e),λ_ e=>(by cases e),λ_ e=>(by cases e)⟩;cases f with
  | p e=>exact .p ((ko (Zs b)).trans e)
 rename_i d b2 i sz N;cases b:Nat.blt d fl with
 | false=>rw [b] at a;cases a
 | true=>
  rw [b] at a;cases a;refine ⟨?_,λ_ e=>(by cases e),λ_ e=>(by cases e),λ_ e=>(by cases e)⟩;cases f with
  | q e=>exact .q ((ko (Zs b)).trans e)
 rename_i d;cases b:Nat.blt d fl with
 | false=>rw [b] at a;cases a
 | true=>
  rw [b] at a;cases a;refine ⟨?_,λ_ e=>(by cases e),λ_ e=>(by cases e),λ_ e=>(by cases e)⟩;cases f with
  | mp e=>exact .mp ((ko (Zs b)).trans e)
 rename_i d b2 N c2 sz;cases b:Nat.blt d fl with
 | true=>
  rw [b] at a;cases a;refine ⟨?_,λ_ e=>(by cases e),λ_ e=>(by cases e),λ_ e=>(by cases e)⟩;cases f with
  | m e=>exact .m ((ko (Zs b)).trans e)
 | false=>
  rw [b] at a;simp at a;have b1:fl<=d:=by rcases zX d fl with e|e;rw [show Nat.blt d fl=true by simpa using e] at b;cases b;exact e
  split at a;rename_i k' c4 A ho;split at a;rename_i hc;obtain ⟨rfl,rfl,rfl,rfl,M⟩:=hc;cases a;refine ⟨?_,λ_ e=>(by cases e),λ_ e=>(by cases e),λ_ e=>(by cases e)⟩;have ⟨c3,b6,g,k,L,P,R,g6⟩:=h.ob true d _ ho;cases f with
  | m e=>rw [g] at e;cases e;rw [wT];refine .sl k (λt=>?_) O (λe he=>?_) (λe=>(by cases e)) λi j e x c J K e3=>?_;have:=h.Bb t;rw [R,O8 b1] at this;cases this;have ⟨q1,_,F⟩:=ch M he;exact ⟨q1,F rfl⟩;have ⟨_,_,F⟩:=ch M (zI J);exact (P.2.2 i j e x c J K e3).pM w (jj (F rfl) K)
  cases a;cases a
 cases a
theorem At:∀{a b:ao},nU n0 s a=some b->a.length=b.length/\∀(j:Nat) (y:TV),b[j]? =some y->∃x,a[j]? =some x/\jG n0 s x=some y:=by
 intro a;induction a with
 | nil=>intro b h;cases h;exact ⟨rfl,λj y g=>by simp at g⟩
 | cons x a i=>
  intro b h;simp only [nU] at h;have ⟨y,d,e⟩:=zT.1 h;obtain ⟨m,f,rfl⟩:=map_some e;have ⟨k,l⟩:=i f;refine ⟨by simp [k],λj z c=>?_⟩;cases j with
  | zero=>cases c;exact ⟨x,rfl,d⟩
  | succ j=>exact l j z (Zs c)
theorem Au (h:∀a,x≠ .ag a):kC n0 s x=jG n0 s x:=by
 cases x with
 | ag a=>exact absurd rfl (h a)
 | _=>rfl
theorem mA (h:St X D ω fl H τ l s V) (k:kC fl s x=some y) (p:TR D (Mu X D l s) H x u):
  TR (eJ fl D) (Mu X (eJ fl D) [] (s.take fl)) H y u/\(∀a,y≠ .tu a)/\(∀j f,iJ y j=some (.sl true f)->iJ x j=some (.sl true f)):=by
 by_cases m:∃a,x= .ag a;obtain ⟨a,rfl⟩:=m;obtain ⟨K,r,rfl⟩:=map_some k;have ⟨q,g⟩:=At r;cases p with
 | @ag _ C J n=>refine ⟨.ag O λj y c w t=>?_,λ_ e=>(by cases e),λj f b=>?_⟩;have ⟨x,d,i⟩:=g j y w;exact (mB h i (n j x c d t)).1;have b:=b;have ⟨x,d,i⟩:=g j _ b;have F:=aa d;have v:=yF (show j<C.size by omega);have:=(mB h i (n j x _ d v)).2.2.2 f rfl;show a[j]? =_;rw [d,this]
 rw [Au λa e=>m ⟨a,e⟩] at k;have ⟨q,g,z,A⟩:=mB h k p;refine ⟨q,z,λj f b=>?_⟩;cases y with
 | ag a=>exact absurd rfl (g a)
 | sl o E=>
  cases j with
  | zero=>have b:=b;cases b;rw [A _ rfl];rfl
  | succ j=>cases b
 | _=>cases j <;> cases b
theorem uX:∀{a b:ao},my n0 s a=some b->a.length=b.length/\∀(j:Nat) (y:TV),b[j]? =some y->∃x,a[j]? =some x/\kC n0 s x=some y:=by
 intro a;induction a with
 | nil=>intro b h;cases h;exact ⟨rfl,λj y g=>by simp at g⟩
 | cons x a i=>
  intro b h;simp only [my] at h;have ⟨y,d,e⟩:=zT.1 h;obtain ⟨m,f,rfl⟩:=map_some e;have ⟨k,l⟩:=i f;refine ⟨by simp [k],λj z c=>?_⟩;cases j with
  | zero=>cases c;exact ⟨x,rfl,d⟩
  | succ j=>exact l j z (Zs c)
theorem GO (h:∀c,x≠ .tu c) (d:eI x a b=some y):a=0/\iJ x b=some y:=by
 cases x with
 | tu c=>exact absurd rfl (h c)
 | _=>
  cases a with
  | zero=>exact ⟨rfl,d⟩
  | succ a=>cases d
theorem Kq (h:∀b,x≠ .tu b):eI x 0 a=iJ x a:=by
 cases x with
 | tu b=>exact absurd rfl (h b)
 | _=>rfl
theorem CS (h:St X D ω fl H τ l s V) (d:jH fl s x=some y) (o:TR D (Mu X D l s) H x u):
  TR (eJ fl D) (Mu X (eJ fl D) [] (s.take fl)) H y u/\(∀i j a,eI y i j=some (.sl true a)->eI x i j=some (.sl true a)):=by
 have z:(∀q,x≠ .tu q)->kC fl s x=some y->TR (eJ fl D) (Mu X (eJ fl D) [] (s.take fl)) H y u/\(∀i j a,eI y i j=some (.sl true a)->eI x i j=some (.sl true a)):=by intro v d;have ⟨p,f,A⟩:=mA h d o;refine ⟨p,λi j a e=>?_⟩;obtain ⟨rfl,b⟩:=GO f e;rw [Kq v];exact A j a b
 cases x with
 | tu C=>
  obtain ⟨F,r,rfl⟩:=map_some d;have ⟨p,f⟩:=uX r;cases o with
  | @tu _ E K n=>refine ⟨.tu O λj y c m t=>?_,λi j a k=>?_⟩;have ⟨x,b,g⟩:=f j y m;exact (mA h g (n j x c b t)).1;have ⟨y,m,k⟩:=zT.1 (show (F[i]?).bind (λx=>iJ x j)=some (.sl true a) from k);have ⟨x,b,g⟩:=f i _ m;have J:=aa b;have w:=yF (show i<E.size by omega);have:=(mA h g (n i x _ b w)).2.2 j a k;show (C[i]?).bind (λx=>iJ x j)=_;rw [b];exact this
 | _=>exact z (λ_ e=>by cases e) d
theorem St.ro {l1:ae} {c3:TF} (x:St X D ω s.length H c3 [] s V) (m:St X E ω' s.length h τ l1 r p) (f:Xt X s.length D ω H [] s E ω' h l1 r)
  (M:∀t,TR (eJ s.length E) (Mu X (eJ s.length E) [] (r.take s.length)) h (τ' t) (p.getD t undef)/\∀i j l,eI (τ' t) i j=some (.sl true l)->eI (τ t) i j=some (.sl true l)):
  St X (eJ s.length E) ω' s.length h τ' [] s p/\Xt X s.length D ω H [] s (eJ s.length E) ω' h [] s:=by
 have L:r.take s.length=s:=by apply xK;intro i;rw [zU];split;rename_i q;exact f.BD i q;rename_i q;rw [yI O]
 have J:∀v,Mu X (eJ s.length E) [] s v->Mu X E l1 r v:=λv d=>by
  have:Mu X (eJ s.length E) [] (r.take s.length) v:=by rw [L];exact d
  exact this.zk
 have A:∀g c k b,D g c k=some b->eJ s.length E g c k=some b:=by
  intro g c k b d;have z:=(x.fC g c k b d).1;cases g with
  | false=>exact absurd z (Nat.not_lt_zero _)
  | true=>exact (ko z).trans (f.qv true c k b d)
 have b2:Le D (Mu X D [] s) H (eJ s.length E) (Mu X (eJ s.length E) [] s) h:=⟨A,λb C sz lo n F=>⟨λb6=>by rcases f.mu b (J b b6) with w|w;exact F w;have:=aa n;omega,f.aM b C sz lo n F⟩⟩
 refine ⟨⟨λt=>?_,λt i j l a c2 N P=>m.ow t i j l a c2 ((M t).2 i j l N) P,λg c o n=>?_,m.lt,λg c k b d=>?_,zE _,m.xl,m.xo⟩,⟨A,f.len,f.same,f.aM,λv d=>f.mu v (J v d),λ_ _=>rfl⟩⟩;have:=(M t).1;rw [L] at this;exact this;cases g with
 | false=>simp [T.ob] at n
 | true=>have K:s[c]? =some o:=n;have hid:=aa K;have y:=x.ob true c o n;rw [Iv hid] at y ⊢;refine y.other b2 (λk b hk q=>?_) (λk sz l R k' b1 _=>?_) (λe=>(by cases e));obtain ⟨v1,a1,a2⟩:=y.dI hk;rw [q] at a1;cases a1;simp at a2;obtain ⟨q1,q2⟩:=f.same b (x.fC _ _ _ _ q).2 a2;exact ⟨q1,q2.trans a2.symm⟩;subst R;have w:=(f.BD c hid).trans K;obtain ⟨_,_,_,_,_,_,_,g6⟩:=m.ob true c _ w;exact (ko hid).trans (g6 k' b1)
 obtain ⟨rfl,hid,d⟩:=zn d;exact ⟨hid,(m.fC true c k b d).2⟩
theorem D5 {m:Nat} (h:a<=m):∀c:Code,qi a c->qi m c:=by
 intro c;induction c with
 | region r t s=>
  intro e;simp only [qi,zQ,zP] at e ⊢;intro o q;have ⟨l,j⟩:=e o q;refine ⟨l,?_⟩;cases p:o.dst with
  | none=>rfl
  | some d=>
   rw [p] at j;have n:d<a:=by simpa using j
   have:=xG n h;simpa using this
 | seq k b g i=>intro e;simp only [qi,zP] at e ⊢;exact ⟨g e.1,i e.2⟩
 | cond c k b g i=>intro e;simp only [qi,zP] at e ⊢;exact ⟨⟨e.1.1,g e.1.2⟩,i e.2⟩
 | block r c f=>intro e;exact f e
 | loop c f=>intro e;exact f e
 | _=>intro _;rfl
theorem AJ (r:TV):aG (aI [r]) 0 (bw (aI [r] 0))=aI [bw r]:=by
 funext t;cases t with
 | zero=>rfl
 | succ t=>rfl
theorem St.pS (h:St X D ω fl H (aI [x]) l s [u]) (b:Bool):St X D ω fl H (aI [T.pS b x]) l s [u]:=by
 cases b with
 | true=>exact h
 | false=>have:=h.HJ 0;rw [AJ] at this;exact this
theorem qg {iQ:qK} {dq gO:Nat->Bool} (c7:∀K,dq K->iQ (real K)=none/\gO (real K)/\∀b c,P.funcs[real K]? =some b->b.body=some c->qi b.ntmps c)
  (d1:∀K f n,dq K=false->A.tp K=some f->fm P A (λK' xs s fl=>if K'=K then f xs s fl else none) (fJ P Pl iQ gO L (n+1))):
  ∀n,fm P A (gZ P A Pl dq L n) (fJ P Pl iQ gO L n):=by
 intro n;induction n with
 | zero=>intro K y s fl r s' a;cases a
 | succ n ih=>
  intro K y s fl r s' a c4 X D ω H g o d2;simp only [gZ] at a;split at a;rename_i M;have ⟨hp,k,c9⟩:=c7 K M;split at a;rename_i b b2;split at a;rename_i c hc;split at a;rename_i d8;have c6:=D5 (m:=(g++List.replicate (b.ntmps-g.length) undef).length) W c (c9 b c b2 hc);have b1:fJ P Pl iQ gO L (n+1) (real K) g H=qG P Pl (fJ P Pl iQ gO L n) L (real K) b c g H:=by simp only [fJ,hp,k,if_true,b2,hc]
  have h1:=o.congr (dz g (b.ntmps-g.length));generalize J:(bif A.rw K then fl else s.length)=i at a o h1;cases j:kD P A Pl (gZ P A Pl dq L n) L K b c y s i with
  | none=>rw [j] at a;cases a
  | some d6=>
   have ⟨R,w⟩:=d6;rw [j] at a;have d5:∃v h E ω' l1,qG P Pl (fJ P Pl iQ gO L n) L (real K) b c g H=some (v,h)/\St X E ω' i h (aI [R]) l1 w [v]/\Xt X i D ω H [] s E ω' h l1 w:=by
    unfold kD at j;have step:∀ex τ q x,(ex= .normal\/ex= .ret)->bN P A Pl (gZ P A Pl dq L n) L K i 1 c (aI y) [] s=some (ex,τ,q,x)->uU P i b.results.toList τ q x=some (R,w)->
      ∃v h E ω' l1,qG P Pl (fJ P Pl iQ gO L n) L (real K) b c g H=some (v,h)/\St X E ω' i h (aI [R]) l1 w [v]/\Xt X i D ω H [] s E ω' h l1 w:=by
     intro ex τ q x c5 p hr;have ⟨V',h,E,ω',C,l,d,q4⟩:=Av ih c 1 _ _ _ _ H D ω _ c6 rfl h1 p;have ⟨v,d7,l3,z,N,k3⟩:=CA l hr;refine ⟨v,h,E,d7,l3,?_,N,d.trans k3⟩;unfold qG;rw [C];rcases c5 with rfl|rfl;simp only [z,zH];simp only [z,zH]
    split at j;rename_i τ q x p;exact step _ _ _ _ (.inl rfl) p j;rename_i τ q x p;exact step _ _ _ _ (.inr rfl) p j;cases j
   have ⟨v,h,E,ω',l1,C,l,d⟩:=d5;simp only [jt] at a;cases b6:A.rw K with
   | true=>
    rw [b6] at a;simp only [cond_true] at a;split at a;rename_i hn;cases a;have c8:=(l.out λt=>by
     cases t with
     | zero=>exact .inl hn
     | succ t=>exact .inr rfl).pS (A.aM K)
    refine ⟨v,h,_,ω',b1.trans C,c8,⟨λr id c2 c3 k=>?_,d.len,d.same,d.aM,λv k=>d.mu v (Mu.cut k),d.BD⟩,λe=>(by cases e)⟩;have hd:=(o.fC r id c2 c3 k).1;cases r with
    | false=>exact absurd hd (Nat.not_lt_zero _)
    | true=>exact d.qv true id c2 c3 k
    cases a
   | false=>
    rw [b6] at a J;simp only [cond_false] at a J;subst J;have ⟨r1,F,e⟩:=map_some a;cases e;have ⟨z,N⟩:=CS l F (l.tm 0);have ⟨g1,g2⟩:=o.ro (τ':=aI [r1]) l d λt=>by
     cases t with
     | zero=>exact ⟨z,N⟩
     | succ t=>exact ⟨.u,λd3 d4 es e=>by cases d3 <;> cases d4 <;> simp [aI,eI,iJ] at e⟩
    exact ⟨v,h,_,ω',b1.trans C,g1.pS (A.aM K),g2,λ_=>rfl⟩
  cases a;cases a;cases a;rename_i M;split at a;rename_i f F;exact d1 K f n (Zs M) F K y s fl r s' (Zs a) c4 X D ω H g o d2;cases a
end
def BP {c:Type} (a b:Option c):Prop:=∀x,a=some x->b=some x
theorem BP.refl {b:Type} (a:Option b):BP a a:=λ_ h=>h
def Np (c d:Tc):Prop:=∀K b s a,BP (c K b s a) (d K b s a)
section
variable {P:aB} {A:An} {Pl:cR} {dq:Nat->Bool} {c D:Tc} {K id fl an:Nat} {J:Array Oper}
theorem sy (e:Np c D) (o:Oper) (a:TF) (l s:ae):BP (dD P A c an fl o a l s) (dD P A D an fl o a l s):=by
 intro x h;have ⟨n,j,w,pos,k,guard⟩:=o;cases j with
 | call d=>
  have ⟨callee,args,v⟩:=d;cases callee with
  | value f=>simp only [dD] at h ⊢;split at h;rename_i K q;split at h;rename_i g;obtain ⟨p,i,rfl⟩:=map_some h;rw [zO g,e _ _ _ _ _ i];rfl;cases h;cases h
  | builtin b=>exact h
  | invoke r m=>exact h
 | makeMap t r=>cases r <;> exact h
 | _=>exact h
theorem Al (a:Np c D) (p:Nat×aA) (x:RS):BP (jE P A c K id fl J p x) (jE P A D K id fl J p x):=by
 intro y h;unfold jE at h ⊢;split at h;cases h;rename_i o e
 skip
 split at h;rename_i b;rw [zO b];split at h;cases h;exact h;split at h;cases h;rename_i v g l1 f d;rw [sy a _ _ _ _ _ d];exact h;cases h
theorem nQ (d:Np c D):∀(ps:List (Nat×aA)) (x:RS),BP (dS P A c K id fl J ps x) (dS P A D K id fl J ps x):=by
 intro ps;induction ps with
 | nil=>intro x;exact BP.refl _
 | cons p ps e=>intro x y h;simp only [dS] at h ⊢;have ⟨z,a,b⟩:=zT.1 h;rw [Al d _ _ _ a];exact e _ _ b
theorem nT {b f:ao->ae->ae->Option TE} {g:aA} (i:∀c l s,BP (b c l s) (f c l s)):∀(n m:Nat),n<=m->∀c l s,BP (jF b g a n c l s) (jF f g a m c l s):=by
 intro n;induction n with
 | zero=>intro m _ c l s x h;cases h
 | succ n o=>
  intro m p c l s x h;obtain ⟨m,rfl⟩:∃k,m=k+1:=⟨m-1,O⟩;simp only [jF] at h ⊢;cases d:b c l s with
  | none=>rw [d] at h;cases h
  | some r=>
   rw [i _ _ _ _ d];rw [d] at h;have ⟨e,t,l1,q⟩:=r;cases e with
   | normal=>simp only at h ⊢;split at h;rename_i j;rw [zO j];exact o m O _ _ _ _ h;cases h
   | _=>exact h
theorem iN (v:Np c D) (q:a<=b):∀(d:Code) (p:Nat) (f:TF) (l s:ae),BP (bN P A Pl c a K fl p d f l s) (bN P A Pl D b K fl p d f l s):=by
 intro d;induction d with
 | region id J w=>intro p f l s x h;simp only [bN] at h ⊢;obtain ⟨y,o,rfl⟩:=map_some h;rw [nQ v _ _ _ o];rfl
 | seq i n k m=>
  intro p f l s x h;simp only [bN] at h ⊢;cases g:bN P A Pl c a K fl (2*p) i f l s with
  | none=>rw [g] at h;cases h
  | some r=>
   rw [k _ _ _ _ _ g];rw [g] at h;have ⟨e,H,l1,E⟩:=r;cases e with
   | normal=>exact m _ _ _ _ _ h
   | _=>exact h
 | cond z i n k m=>
  intro p f l s x h;simp only [bN] at h ⊢;split at h;rename_i t C;cases t with
  | true=>exact k _ _ _ _ _ h
  | false=>exact m _ _ _ _ _ h
  cases h
 | block id i j=>
  intro p f l s x h;simp only [bN] at h ⊢;cases g:bN P A Pl c a K fl (2*p) i f l s with
  | none=>rw [g] at h;cases h
  | some r=>rw [j _ _ _ _ _ g];rw [g] at h;exact h
 | loop i j=>intro p f l s x h;simp only [bN] at h ⊢;exact nT (λF l s=>j _ _ _ _) a b q _ _ _ _ h
 | _=>intro p f l s;exact BP.refl _
theorem nY (i:Np c D) (g:a<=b) {f:Func} {d:Code}:BP (kD P A Pl c a K f d o r fl) (kD P A Pl D b K f d o r fl):=by
 intro x h;unfold kD at h ⊢;cases e:bN P A Pl c a K fl 1 d (aI o) [] r with
 | none=>rw [e] at h;cases h
 | some j=>rw [iN i g _ _ _ _ _ _ e];rw [e] at h;exact h
theorem nW (i:a<=b):∀(n m:Nat),n<=m->Np (gZ P A Pl dq a n) (gZ P A Pl dq b m):=by
 intro n;induction n with
 | zero=>intro m _ K f s fl x h;cases h
 | succ n l=>
  intro m q K f s fl x h;obtain ⟨m,rfl⟩:∃k,m=k+1:=⟨m-1,O⟩;simp only [gZ] at h ⊢;split at h;rename_i c;rw [zO c];split at h;rename_i g p
  skip
  split at h;rename_i d o
  skip
  split at h;rename_i j;rw [zO j];cases e:kD P A Pl (gZ P A Pl dq a n) a K g d f s (bif A.rw K then fl else s.length) with
  | none=>rw [e] at h;cases h
  | some r=>rw [nY (l m O) i _ e];rw [e] at h;exact h
  cases h;cases h;cases h;rename_i c;rw [zN c];exact h
end
abbrev tc (P:aB) (A:An) (Pl:cR) (dq:Nat->Bool) (n:Nat):Tc:=gZ P A Pl dq n n
theorem jI {P:aB} {A:An} {Pl:cR} {dq:Nat->Bool} (h:a<=b):Np (tc P A Pl dq a) (tc P A Pl dq b):=nW h a b h
structure CX where
 R:Type
 bad:R
 cl:Nat->ao->ae->Nat->(TV->ae->R)->R
 gg:TV->Bool->((TV->ae->ae->R)->ae->ae->R)->(TV->ae->ae->R)->ae->ae->R
 lp:((ao->ae->ae->R)->ao->ae->ae->R)->ao->ae->ae->R
 fl:Nat
 rt:TV->ae->R
 P:aB
def CX.wp (X:CX) (P:aB):CX:={X with P:=P}
abbrev RA (X:CX):=ae->ae->X.R
abbrev LB (X:CX):=ao->RA X
def bd (X:CX) {b:Type} (o:Option b) (k:b->X.R):X.R:=match o with
 | some a=>k a
 | none=>X.bad
def rX (X:CX) (b:Bool) (r:X.R):X.R:=bif b then r else X.bad
namespace Q
section
variable {X:CX}
def pk (c a b:TV) (k:TV->RA X):RA X:=λl s=>match c with
 | .v (.bool t)=>k (bw (bif t then a else b)) l s
 | _=>X.bad
def al (z:ao) (n:Nat) (k:TV->RA X):RA X:=λl s=>k (.p false l.length 0) (l++[.row z n]) s
def aly (z:ao) (n:Nat) (k:TV->RA X):RA X:=λl s=>k (.p true s.length 0) l (s++[.row z n])
def bx (n:Nat) (x:TV) (k:TV->RA X):RA X:=λl s=>rX X (aW x&&pT n (ce x)) (k (.p false l.length 0) (l++[.row (ce x) n]) s)
def bx0 (n:Nat) (x:TV) (k:TV->RA X):RA X:=λl s=>rX X (aW x&&pT n (ce x)) (k (.p false l.length 0) (l++[.row ((ce x).map dY) n]) s)
def F9 (n:Nat) (x:TV) (k:TV->RA X):RA X:=λl s=>rX X (aW x&&pT n (ce x)) (k (.p true s.length 0) l (s++[.row ((ce x).map jB) n]))
def bu (z:ao) (pl:List (Nat×Nat)) (ps:List (Nat×TV)) (k:TV->RA X):RA X:=λl s=>bd X (iM pl z ps) λa=>k (.ag a) l s
def WO (a n:Nat) (z:ao) (ps:List (Nat×TV)) (l s:ae):Option (TV×ae×ae):=
 if n*z.length<=16777216/\0<z.length/\bO (ps.map (·.2))=true then match jb z.length (mj n z) ps with
  | some b=>if cS a z.length b=true then (bif Nat.beq n 0 then some (.sl true [],l,s) else some (df a z.length b l s)) else none
  | none=>none
 else none
def bs (a n:Nat) (z:ao) (ps:List (Nat×TV)) (k:TV->RA X):RA X:=λl s=>bd X (WO a n z ps l s) λp=>k p.1 p.2.1 p.2.2
def ld (g:Bool) (n:Nat) (a:TV) (k:TV->RA X):RA X:=λl s=>bd X (fp g n l s a) λv=>k v l s
def lt (g:Bool) (n:Nat) (a:TV) (k:TV->RA X):RA X:=λl s=>bd X (gX g n X.fl l s a) λp=>k p.1 p.2.1 p.2.2
def st (n:Nat) (a x:TV) (k:TV->RA X):RA X:=λl s=>bd X (cF n X.fl x l s a) λp=>k (.tu []) p.1 p.2
def fz (x:TV) (k:TV->RA X):RA X:=λl s=>bd X (ew l s x) λq=>k q.1 q.2.1 q.2.2
def nk (x:TV) (k:TV->RA X):RA X:=λl s=>bd X (Ao x) λv=>k v l s
def boP (P:aB) (a:BinOp) (t:aP) (x y:TV) (k:TV->RA X):RA X:=λl s=>bd X (cm P a t x y) λv=>k v l s
def uoP (P:aB) (a:UnOp) (x:TV) (k:TV->RA X):RA X:=λl s=>bd X (Gm P a x) λv=>k v l s
def cvP (P:aB) (a d:aP) (x:TV) (k:TV->RA X):RA X:=λl s=>bd X (bJ P a d x l s) λv=>k v l s
def mm (k:TV->RA X):RA X:=λl s=>k (.mp s.length) l (s++[.mp #[] 0])
def Et (a e b:Nat) (z:ao) (n c:TV) (l s:ae):Option (TV×ae×ae):=match n,c with
 | .v (.int _ i),.v (.int _ j)=>if i=j then mW a e b z n l s else none
 | _,_=>none
def ms (a e b:Nat) (z:ao) (n c:TV) (k:TV->RA X):RA X:=λl s=>bd X (Et a e b z n c l s) λp=>k p.1 p.2.1 p.2.2
def slP (P:aB) (t:aP) (x:TV) (b a c:ek) (k:TV->RA X):RA X:=λl s=>bd X (aK P t b a c l s x) λv=>k v l s
def pa (o:Nat) (x:TV) (k:TV->RA X):RA X:=λl s=>bd X (Nx o x) λv=>k v l s
def fd (o:Nat) (g:Bool) (n:Nat) (x:TV) (k:TV->RA X):RA X:=λl s=>bd X (NA o g n x) λv=>k v l s
def ia (e:Nat) (x i:TV) (k:TV->RA X):RA X:=λl s=>bd X (uW e x i) λv=>k v l s
def ED (a e:Nat) (x i:TV) (k:TV->RA X):RA X:=λl s=>bd X (As a e x i) λv=>k v l s
def ixP (P:aB) (t:aP) (x i:TV) (k:TV->RA X):RA X:=λl s=>bd X (mw P t x i) λv=>k v l s
def lkP (P:aB) (t:aP) (a:Bool) (x i:TV) (k:TV->RA X):RA X:=λl s=>bd X (FM P t a x i l s) λv=>k v l s
def L3 (P:aB) (t:aP) (a:Nat) (m i x:TV) (l s:ae):Option (ae×ae):=match P.underlying t with
 | some (.map k _)=>match P.underlying k with
  | some b=>Ai b a m i x l s
  | none=>none
 | _=>none
def muP (P:aB) (t:aP) (m i x:TV) (k:TV->RA X):RA X:=λl s=>bd X (L3 P t X.fl m i x l s) λp=>k (.tu []) p.1 p.2
def ex (i:Nat) (x:TV) (k:TV->RA X):RA X:=λl s=>bd X (text i x) λv=>k v l s
def cl (K:Nat) (a:ao) (k:TV->RA X):RA X:=λl s=>rX X (bO a) (X.cl K a s X.fl λv s=>k v l s)
def af (K:Nat) (a:ao) (k:TV->RA X):RA X:=λl s=>rX X (bO (a.map dA)) (X.cl K (a.map dA) s X.fl λv s=>k v l s)
def ap (c:Bool) (e b a:Nat) (x y:TV) (k:TV->RA X):RA X:=λl s=>bd X (cq c e b a X.fl x y l s) λp=>k p.1 p.2.1 p.2.2
def cp (e:Nat) (x y:TV) (k:TV->RA X):RA X:=λl s=>bd X (lE e X.fl x y l s) λp=>k p.1 p.2.1 p.2.2
def lnP (P:aB) (t:aP) (x:TV) (k:TV->RA X):RA X:=λl s=>bd X (eP P t x l s) λv=>k v l s
def biP (P:aB) (b:Builtin) (c:Array aP) (d:aP) (a:Array Bool) (e:ao) (k:TV->RA X):RA X:=λl s=>bd X (CZ P b c d a e) λv=>k v l s
end
end Q
def zg (P:aB) (A:An) (X:CX) (j:Nat) (o:Oper) (h:TF) (l s:ae) (k:TV->TF->RA X):X.R:=
 match o.op with
 | .move x=>bif Nat.beq j 1 then k (aR h x) (dO h x) l s else bif Nat.beq j 2 then (match x with|.tmp t=>Q.fz (h t) (λy=>k y (dO (aG h t y) (.tmp t))) l s|_=>X.bad) else k (bw (aR h x)) h l s
 | .assign x=>bif Nat.beq j 1 then k (aR h x) (dO h x) l s else bif Nat.beq j 2 then (match x with|.tmp t=>Q.fz (h t) (λy=>k y (dO (aG h t y) (.tmp t))) l s|_=>X.bad) else k (bw (aR h x)) h l s
 | .pick c a b=>Q.pk (aR h c) (aR h a) (aR h b) (λv=>k v h) l s
 | .alloc e=>match zc P e with
  | some z=>bif Nat.beq j 2 then Q.aly z (bc P e) (λv=>k v h) l s else Q.al z (bc P e) (λv=>k v h) l s
  | none=>X.bad
 | .box e x=>match j with
  | 0=>Q.bx0 (bc P e) (aR h x) (λv=>k v h) l s
  | 1=>Q.bx (bc P e) (aR h x) (λv=>k v (dO h x)) l s
  | 2=>Q.F9 (bc P e) (aR h x) (λv=>k v h) l s
  | _=>X.bad
 | .build t ps=>match zc P t,Wk P t with
  | some z,some pl=>Q.bu z pl (ps.toList.map λp=>(p.1,aR h p.2)) (λv=>k v h) l s
  | _,_=>X.bad
 | .buildSlice t n ps=>match BG P t with
  | some r=>match zc P r with
   | some z=>Q.bs j n z (ps.toList.map λp=>(p.1,aR h p.2)) (λv=>k v h) l s
   | none=>X.bad
  | none=>X.bad
 | .load t a=>match res P t with
  | some (g,n)=>bif Nat.beq j 1 then Q.lt g n (aR h a) (λv=>k v h) l s else Q.ld g n (aR h a) (λv=>k v h) l s
  | none=>X.bad
 | .store t a x=>match mi P t with
  | some n=>match j with
   | 0=>Q.st n (aR h a) (bw (aR h x)) (λv=>k v h) l s
   | 1=>Q.st n (aR h a) (aR h x) (λv=>k v (dO h x)) l s
   | _=>match x with
    | .tmp t=>bd X (ew l s (h t)) λq=>bd X (cF n X.fl q.1 q.2.1 q.2.2 (aR (aG h t q.1) a)) λp=>k (.tu []) (dO (aG h t q.1) x) p.1 p.2
    | _=>X.bad
  | none=>X.bad
 | .nilCheck x=>Q.nk (aR h x) (λv=>k v h) l s
 | .binOp C t x y _=>Q.boP P C t (aR h x) (aR h y) (λv=>k v h) l s
 | .unOp C _ x=>Q.uoP P C (aR h x) (λv=>k v h) l s
 | .convert a d x=>Q.cvP P a d (aR h x) (λv=>k v h) l s
 | .makeMap _ none=>Q.mm (λv=>k v h) l s
 | .makeSlice t n c=>match BG P t with
  | some r=>match zc P r,P.info? r with
   | some z,some e=>Q.ms j e.size e.bytes z (aR h n) (aR h c) (λv=>k v h) l s
   | _,_=>X.bad
  | none=>X.bad
 | .slice t x H E J=>Q.slP P t (aR h x) (H.map (aR h)) (E.map (aR h)) (J.map (aR h)) (λv=>k v h) l s
 | .fieldAddr t x f=>match tG P t f with
  | some (o,_,n)=>if n≠0 then Q.pa o (aR h x) (λv=>k v h) l s else X.bad
  | none=>X.bad
 | .field t x f=>match tG P t f with
  | some (o,g,n)=>Q.fd o g n (aR h x) (λv=>k v h) l s
  | none=>X.bad
 | .indexAddr t x i=>match P.underlying t with
  | some (.slice r)=>match mi P r with
   | some e=>Q.ia e (aR h x) (aR h i) (λv=>k v h) l s
   | none=>X.bad
  | some (.array F r)=>match mi P r with
   | some e=>Q.ED F e (aR h x) (aR h i) (λv=>k v h) l s
   | none=>X.bad
  | _=>X.bad
 | .index t x i=>Q.ixP P t (aR h x) (aR h i) (λv=>k v h) l s
 | .lookup t x i L=>Q.lkP P t L (aR h x) (aR h i) (λv=>k v h) l s
 | .mapUpdate t m i x=>Q.muP P t (aR h m) (aR h i) (aR h x) (λv=>k v h) l s
 | .extract x i=>bif Nat.beq j 1 then Q.ex i (aR h x) (λv=>k v (ym h i x)) l s else Q.ex i (aR h x) (λv=>k (dA v) h) l s
 | .call {callee:=.value f,args, ..}=>match IG P (aR h f) with
  | some K=>bif A.aM (K+1000*j) then Q.cl (K+1000*j) (jQ h [] args.toList) (λv=>k v (lF h args.toList)) l s
   else Q.af (K+1000*j) (args.toList.map (aR h)) (λv=>k v h) l s
  | none=>X.bad
 | .call {callee:=.builtin b,args,argTypes}=>match b,args.toList,argTypes.toList with
  | .append,[x,y],[w,M]=>match BG P w,P.underlying M with
   | some r,some D=>match P.info? r,vT D with
    | some e,true=>if (e.zero.map (·.cells.size))=some e.size/\e.size<1000000 then Q.ap (qu w) e.size e.bytes j (aR h x) (aR h y) (λv=>k v (dO h x)) l s else X.bad
    | _,_=>X.bad
   | _,_=>X.bad
  | .copy,[x,y],[w,_]=>match BG P w with
   | some r=>match mi P r with
    | some e=>Q.cp e (aR h x) (aR h y) (λv=>k v h) l s
    | none=>X.bad
   | none=>X.bad
  | .len,[x],[t]=>Q.lnP P t (aR h x) (λv=>k v h) l s
  | _,_,_=>Q.biP P b argTypes o.type (args.map λ| .const _=>true|_=>false) (args.toList.map (aR h)) (λv=>k v h) l s
 | _=>X.bad
structure ju (P:aB) (A:An) (Pl:cR) (dq:Nat->Bool) (X:CX) (Good:X.R->Prop):Prop where
 bad:¬Good X.bad
 cl:∀{K xs s fl k},Good (X.cl K xs s fl k)->∃n r s',tc P A Pl dq n K xs s fl=some (r,s')/\Good (k r s')
 gg:∀{w b st k l s},Good (X.gg w b st k l s)->(w= .v (.bool b)/\Good (st k l s))\/(∃b',b'≠b/\w= .v (.bool b')/\Good (k (.tu []) l s))\/(w= .tu []/\Good (k (.tu []) l s))
section
variable {P:aB} {A:An} {Pl:cR} {dq:Nat->Bool} {X:CX} {Good:X.R->Prop}
theorem ju.bd (c:ju P A Pl dq X Good) {b:Type} {o:Option b} {k:b->X.R} (h:Good (T.bd X o k)):∃a,o=some a/\Good (k a):=by
 cases o with
 | none=>exact (c.bad h).elim
 | some a=>exact ⟨a,rfl,h⟩
theorem ju.rX (a:ju P A Pl dq X Good) {r:X.R} (h:Good (T.rX X q r)):q/\Good r:=by
 cases q with
 | false=>exact (a.bad h).elim
 | true=>exact ⟨rfl,h⟩
theorem n7 (g:ju P A Pl dq X Good) {o:Oper} {m:TF} {b2:TV->TF->RA X} (h:Good (zg P A X a o m r s b2)):
  ∃n v c3 l1 s1,dD P A (tc P A Pl dq n) a X.fl o m r s=some (v,c3,l1,s1)/\Good (b2 v c3 l1 s1):=by
 have ⟨d8,R,e2,pos,d6,guard⟩:=o;cases R <;> simp only [zg] at h <;> (try (exact (g.bad h).elim)) <;> simp only [dD]
 case move x=>
  refine ⟨0,?_⟩;cases j:Nat.beq a 1 with
  | true=>rw [j] at h;exact ⟨_,_,_,_,rfl,h⟩
  | false=>
   rw [j] at h;simp at h ⊢;cases F:Nat.beq a 2 with
   | true=>rw [F] at h;simp at h ⊢;split at h;have ⟨b6,b,d⟩:=g.bd h;exact ⟨_,_,_,_,by simp only [Oy,b,zH],d⟩;exact (g.bad h).elim
   | false=>rw [F] at h;exact ⟨_,_,_,_,rfl,h⟩
 case assign x=>
  refine ⟨0,?_⟩;cases j:Nat.beq a 1 with
  | true=>rw [j] at h;exact ⟨_,_,_,_,rfl,h⟩
  | false=>
   rw [j] at h;simp at h ⊢;cases F:Nat.beq a 2 with
   | true=>rw [F] at h;simp at h ⊢;split at h;have ⟨b6,b,d⟩:=g.bd h;exact ⟨_,_,_,_,by simp only [Oy,b,zH],d⟩;exact (g.bad h).elim
   | false=>rw [F] at h;exact ⟨_,_,_,_,rfl,h⟩
 case pick c M c5=>unfold Q.pk at h;split at h;rename_i t ht;exact ⟨0,_,_,_,_,by rw [ht],h⟩;exact (g.bad h).elim
 case alloc e=>
  split at h;rename_i z k;refine ⟨0,?_⟩;cases j:Nat.beq a 2 with
  | true=>rw [j] at h;exact ⟨_,_,_,_,by simp only [k,cond_true],h⟩
  | false=>rw [j] at h;exact ⟨_,_,_,_,by simp only [k,cond_false],h⟩
  exact (g.bad h).elim
 case box e x=>split at h;have ⟨b,d⟩:=g.rX h;exact ⟨0,_,_,_,_,by simp only [b,if_true],d⟩;have ⟨b,d⟩:=g.rX h;exact ⟨0,_,_,_,_,by simp only [b,if_true],d⟩;have ⟨b,d⟩:=g.rX h;exact ⟨0,_,_,_,_,by simp only [b,if_true],d⟩;exact (g.bad h).elim
 case build t ps=>split at h;rename_i z pl k d2;have ⟨cs,b,d⟩:=g.bd h;exact ⟨0,_,_,_,_,by simp only [k,d2,b,zH],d⟩;exact (g.bad h).elim
 case buildSlice t n ps=>
  split at h;rename_i C q;split at h;rename_i z k;have ⟨p,b,d⟩:=g.bd h;unfold Q.WO at b;split at b;rename_i hc;rw [List.map_map] at hc;have c6:n*z.length<=16777216/\0<z.length/\bO (ps.toList.map λp=>aR m p.2)=true:=hc;split at b;rename_i es c8;split at b;rename_i d4;refine ⟨0,p.1,m,p.2.1,p.2.2,?_,d⟩;simp only [q,k,zO c6,c8,zO d4];cases j:Nat.beq n 0 with
  | true=>rw [j] at b;cases b;rfl
  | false=>rw [j] at b;cases b;rfl
  cases b;cases b;cases b;exact (g.bad h).elim;exact (g.bad h).elim
 case load t M=>
  split at h;rename_i b1 n hr;refine ⟨0,?_⟩;cases j:Nat.beq a 1 with
  | true=>rw [j] at h;have ⟨p,b,d⟩:=g.bd h;exact ⟨_,_,_,_,by simp only [hr,cond_true,b,zH],d⟩
  | false=>rw [j] at h;have ⟨v,b,d⟩:=g.bd h;exact ⟨_,_,_,_,by simp only [hr,cond_false,b,zH],d⟩
  exact (g.bad h).elim
 case store t M x=>split at h;rename_i n H;refine ⟨0,?_⟩;split at h;have ⟨p,b,d⟩:=g.bd h;exact ⟨_,_,_,_,by simp only [H,b,zH],d⟩;have ⟨p,b,d⟩:=g.bd h;exact ⟨_,_,_,_,by simp only [H,b,zH],d⟩;split at h;rename_i n0 n1 t0;have ⟨b6,b,d⟩:=g.bd h;have ⟨p,w,D⟩:=g.bd d;exact ⟨_,_,_,_,by simp only [H,b,w,zH],D⟩;exact (g.bad h).elim;exact (g.bad h).elim
 case nilCheck x=>have ⟨v,b,d⟩:=g.bd h;exact ⟨0,_,_,_,_,by rw [b];rfl,d⟩
 case binOp R t x c2 z=>have ⟨v,b,d⟩:=g.bd h;exact ⟨0,_,_,_,_,by rw [b];rfl,d⟩
 case unOp R t x=>have ⟨v,b,d⟩:=g.bd h;exact ⟨0,_,_,_,_,by rw [b];rfl,d⟩
 case convert M d7 x=>have ⟨v,b,d⟩:=g.bd h;exact ⟨0,_,_,_,_,by rw [b];rfl,d⟩
 case makeMap t L=>
  cases L with
  | none=>exact ⟨0,_,_,_,_,rfl,h⟩
  | some L=>exact (g.bad h).elim
 case makeSlice t n c=>split at h;rename_i C q;split at h;rename_i z e k l;have ⟨p,b,d⟩:=g.bd h;unfold Q.Et at b;split at b;rename_i i d9 hi hj;split at b;rename_i c9;refine ⟨0,p.1,m,p.2.1,p.2.2,?_,d⟩;simp only [q,k,l,hi,hj,zO c9] at b ⊢;simp only [b,zH];cases b;cases b;exact (g.bad h).elim;exact (g.bad h).elim
 case slice t x lo hi mx=>have ⟨v,b,d⟩:=g.bd h;exact ⟨0,_,_,_,_,by rw [b];rfl,d⟩
 case fieldAddr t x f=>split at h;rename_i o b1 n N;split at h;rename_i H;have ⟨v,b,d⟩:=g.bd h;exact ⟨0,_,_,_,_,by simp only [N,zO H,b,zH],d⟩;exact (g.bad h).elim;exact (g.bad h).elim
 case field t x f=>split at h;rename_i o b1 n N;have ⟨v,b,d⟩:=g.bd h;exact ⟨0,_,_,_,_,by simp only [N,b,zH],d⟩;exact (g.bad h).elim
 case indexAddr t x i=>split at h;rename_i C K;split at h;rename_i e l;have ⟨v,b,d⟩:=g.bd h;exact ⟨0,_,_,_,_,by simp only [K,l,zR,b,zH],d⟩;exact (g.bad h).elim;rename_i e1 C K;split at h;rename_i e l;have ⟨v,b,d⟩:=g.bd h;exact ⟨0,_,_,_,_,by simp only [K,l,zR,b,zH],d⟩;exact (g.bad h).elim;exact (g.bad h).elim
 case index t x i=>have ⟨v,b,d⟩:=g.bd h;exact ⟨0,_,_,_,_,by rw [b];rfl,d⟩
 case lookup t x i ok=>have ⟨v,b,d⟩:=g.bd h;exact ⟨0,_,_,_,_,by rw [b];rfl,d⟩
 case mapUpdate t d5 i x=>have ⟨p,b,d⟩:=g.bd h;unfold Q.L3 at b;split at b;rename_i kt e K;split at b;rename_i kd y;exact ⟨0,_,_,_,_,by simp only [K,y,b,zH],d⟩;cases b;cases b
 case extract x i=>
  refine ⟨0,?_⟩;cases j:Nat.beq a 1 with
  | true=>rw [j] at h;have ⟨v,b,d⟩:=g.bd h;exact ⟨_,_,_,_,by simp only [cond_true,b,zH],d⟩
  | false=>rw [j] at h;have ⟨v,b,d⟩:=g.bd h;exact ⟨_,_,_,_,by simp only [cond_false,b,zH],d⟩
 case call c=>
  have ⟨callee,args,ts⟩:=c;cases callee with
  | value f=>
   simp only at h ⊢;split at h;rename_i c4 hK;cases y:A.aM (c4+1000*a) with
   | true=>rw [y] at h;have ⟨b,d⟩:=g.rX h;have ⟨n,L,s',w,D⟩:=g.cl d;exact ⟨n,_,_,_,_,by simp only [hK,y,cond_true,b,if_true,w,zH],D⟩
   | false=>
    rw [y] at h;have ⟨b,d⟩:=g.rX h;have ⟨n,L,s',w,D⟩:=g.cl d;have e:(args.toList.map (aR m)).map dA=args.toList.map λx=>dA (aR m x):=by rw [List.map_map];rfl
    rw [e] at b w;exact ⟨n,_,_,_,_,by simp only [hK,y,cond_false,b,if_true,w,zH],D⟩
   exact (g.bad h).elim
  | invoke L d5=>exact (g.bad h).elim
  | builtin c5=>simp only at h ⊢;refine ⟨0,?_⟩;split at h;rename_i x c2 t0 t1 E J;split at h;rename_i C d1 q c7;split at h;rename_i e l d3;split at h;rename_i k;have ⟨p,b,d⟩:=g.bd h;exact ⟨_,_,_,_,by simp only [E,J,q,c7,l,d3,zO k,b,zH],d⟩;exact (g.bad h).elim;exact (g.bad h).elim;exact (g.bad h).elim;rename_i x c2 t0 t1 E J;split at h;rename_i C q;split at h;rename_i e l;have ⟨p,b,d⟩:=g.bd h;exact ⟨_,_,_,_,by simp only [E,J,q,l,zR,b,zH],d⟩;exact (g.bad h).elim;exact (g.bad h).elim;rename_i x t E J;have ⟨v,b,d⟩:=g.bd h;exact ⟨_,_,_,_,by simp only [E,J,b,zH],d⟩;rename_i n1 n2 n3;have ⟨v,b,d⟩:=g.bd h;refine ⟨v,m,r,s,?_,d⟩;split;exact (n1 _ _ _ _ rfl (by assumption) (by assumption)).elim;exact (n2 _ _ _ _ rfl (by assumption) (by assumption)).elim;exact (n3 _ _ rfl (by assumption) (by assumption)).elim;exact yC (Option.map λx=>(x,m,r,s)) b
end
def gq (P:aB) (A:An) (a:Nat) (b:TF) (o:Oper):Bool:=match o.op with
 | .move _=> !Nat.beq a 1&& !Nat.beq a 2
 | .assign _=> !Nat.beq a 1&& !Nat.beq a 2
 | .extract _ _=> !Nat.beq a 1
 | .box _ _=> !Nat.beq a 1
 | .store _ _ _=>Nat.beq a 0
 | .call {callee:=.value f, ..}=>match IG P (aR b f) with
  | some K=> !A.aM (K+1000*a)
  | none=>true
 | .call {callee:=.builtin .append, ..}=>false
 | _=>true
def gck (P:aB) (A:An) (X:CX) (d:Array Oper) (e:aA) (o:Oper) (a:Nat) (h:TF) (c f:ae) (b:aA) (g:TF) (l s:ae) (r:X.R):X.R:=
 rX X (b.all λj=>sB P A d X.fl e o a h c f g l s j) r
def ir (P:aB) (A:An) (X:CX) (K c:Nat) (b:Array Oper):List (Nat×aA)->TF->ae->ae->aA->(TF->RA X)->X.R
 | [],a,l,s,_,k=>k a l s
 | p::ps,a,l,s,e,k=>match b[p.1]? with
  | none=>X.bad
  | some o=>bif Wj P b p e o then match o.guard with
   | none=>zg P A X (A.an K c p.1) o a l s λv g l1 f=>gck P A X b e o (A.an K c p.1) a l s p.2 (dU g o.dst v) l1 f (ir P A X K c b ps (dU g o.dst v) l1 f (Jx P b p e o) k)
   | some (j,i)=>match (b[j]?).bind (·.dst) with
    | some d=>bif gq P A (A.an K c p.1) a o then X.gg (a d) i (λh l s=>zg P A X (A.an K c p.1) o a l s λv _ l1 f=>gck P A X b e o (A.an K c p.1) a l s p.2 (dU a o.dst v) l1 f (h v l1 f))
      (λv l s=>ir P A X K c b ps (dU a o.dst v) l s (Jx P b p e o) k) l s else X.bad
    | none=>X.bad
   else X.bad
def kc (X:CX) (a:Nat) (k:LB X):LB X:=λb l s=>rX X (Jv a b) (k b (l.take a) s)
namespace Q
def br {X:CX} (c:TV) (a b:RA X):RA X:=λl s=>match c with
 | .v (.bool t)=>bif t then a l s else b l s
 | _=>X.bad
def lp {X:CX} (c:aA) (b:LB X->LB X) (a:ao):RA X:=λl s=>X.lp (λk a d e=>b (kc X l.length k) (c.map (ej c a)) d e) a l s
end Q
abbrev KN (X:CX):=TF->RA X
def eh (P:aB) (A:An) (Pl:cR) (X:CX) (K:Nat):Nat->Code->TF->ae->ae->KN X->(Nat->KN X)->KN X->X.R
 | _,.skip,d,l,s,f,_,_=>f d l s
 | _,.region h j m,d,l,s,f,_,_=>ir P A X K h j (if m=true then Pl (real K) h else nB j.size) d l s [] f
 | p,.seq a b,d,l,s,f,e,g=>eh P A Pl X K (2*p) a d l s (λd l s=>eh P A Pl X K (2*p+1) b d l s f e g) e g
 | p,.cond c a b,d,l,s,f,e,g=>Q.br (aR d c) (λl s=>eh P A Pl X K (2*p) a d l s f e g) (λl s=>eh P A Pl X K (2*p+1) b d l s f e g) l s
 | p,.block h c,d,l,s,f,e,g=>eh P A Pl X K (2*p) c d l s f (λi d l s=>bif Nat.beq i h then f d l s else e i d l s) g
 | p,.loop c,d,l,s,_,e,g=>Q.lp (A.lv K p) (λk n l s=>eh P A Pl X K (2*p) c (ej (A.lv K p) n) l s (λd l s=>k ((A.lv K p).map d) l s) e g) ((A.lv K p).map d) l s
 | _,.exit h,d,l,s,_,e,_=>e h d l s
 | _,.ret,d,l,s,_,_,g=>g d l s
 | _,_,_,_,_,_,_,_=>X.bad
def La {R:Type} (bad:R) (b:(ao->ae->ae->R)->ao->ae->ae->R):Nat->ao->ae->ae->R
 | 0=>λ_ _ _=>bad
 | n+1=>b (La bad b n)
abbrev Wx (X:CX) (b:LB X->LB X) (n:Nat):LB X:=La X.bad b n
section
variable {P:aB} {A:An} {Pl:cR} {dq:Nat->Bool} {X:CX} {Good:X.R->Prop} {K id an:Nat} {J:Array Oper}
theorem HK {o:Oper} {l:TF} (h:gq P A an l o) {c:Tc} {v:TF} {l1 C:ae} (d:dD P A c an a o l r s=some (x,v,l1,C)):v=l:=by
 have ⟨F,z,J,pos,E,guard⟩:=o;have one:Nat.beq an 1=false\/Nat.beq an 1:=by cases Nat.beq an 1 <;> simp
 cases z <;> simp only [gq] at h <;> simp only [dD] at d <;> (try (cases d;done)) <;> (try (have ⟨_,_,e⟩:=map_some d;exact (yC (λq:TS=>q.2.1) e).symm))
 case move j=>simp at h;rw [h.1,h.2] at d;cases d;rfl
 case assign j=>simp at h;rw [h.1,h.2] at d;cases d;rfl
 case extract j i=>rw [(by simpa using h:Nat.beq an 1=false)] at d;have ⟨_,_,e⟩:=map_some d;exact (yC (λq:TS=>q.2.1) e).symm
 case box e j=>split at d;split at d;cases d;rfl;cases d;cases h;split at d;cases d;rfl;cases d;cases d
 case store t p j=>cases zS h;split at d;have ⟨_,_,e⟩:=map_some d;exact (yC (λq:TS=>q.2.1) e).symm;cases d
 case pick c p b=>split at d;cases d;rfl;cases d
 case alloc e=>
  split at d;cases g:Nat.beq an 2 with
  | true=>rw [g] at d;cases d;rfl
  | false=>rw [g] at d;cases d;rfl
  cases d
 case build t ps=>split at d;have ⟨_,_,e⟩:=map_some d;exact (yC (λq:TS=>q.2.1) e).symm;cases d
 case buildSlice t n ps=>
  split at d;split at d;split at d;split at d;split at d;cases g:Nat.beq n 0 with
  | true=>rw [g] at d;cases d;rfl
  | false=>rw [g] at d;exact (yC (λq:TS=>q.2.1) (yD d)).symm
  cases d;cases d;cases d;cases d;cases d
 case load t p=>
  split at d;cases g:Nat.beq an 1 with
  | true=>rw [g] at d;have ⟨_,_,e⟩:=map_some d;exact (yC (λq:TS=>q.2.1) e).symm
  | false=>rw [g] at d;have ⟨_,_,e⟩:=map_some d;exact (yC (λq:TS=>q.2.1) e).symm
  cases d
 case makeMap t k=>
  cases k with
  | none=>cases d;rfl
  | some k=>cases d
 case makeSlice t n c=>split at d;split at d;split at d;split at d;have ⟨_,_,e⟩:=map_some d;exact (yC (λq:TS=>q.2.1) e).symm;cases d;cases d;cases d;cases d
 case fieldAddr t j f=>split at d;split at d;have ⟨_,_,e⟩:=map_some d;exact (yC (λq:TS=>q.2.1) e).symm;cases d;cases d
 case field t j f=>split at d;have ⟨_,_,e⟩:=map_some d;exact (yC (λq:TS=>q.2.1) e).symm;cases d
 case indexAddr t j i=>split at d;have ⟨_,_,d⟩:=zT.1 d;have ⟨_,_,e⟩:=map_some d;exact (yC (λq:TS=>q.2.1) e).symm;have ⟨_,_,d⟩:=zT.1 d;have ⟨_,_,e⟩:=map_some d;exact (yC (λq:TS=>q.2.1) e).symm;cases d
 case mapUpdate t m i j=>split at d;split at d;have ⟨_,_,e⟩:=map_some d;exact (yC (λq:TS=>q.2.1) e).symm;cases d;cases d
 case call w=>
  have ⟨callee,args,H⟩:=w;cases callee with
  | invoke k m=>cases d
  | value f=>simp only at h d;split at d;rename_i D y;rw [y] at h;simp at h;split at d;have ⟨_,_,e⟩:=map_some d;rw [h] at e;exact (yC (λq:TS=>q.2.1) e).symm;cases d;cases d
  | builtin b=>simp only at d;split at d;simp at h;split at d;have ⟨_,_,d⟩:=zT.1 d;have ⟨_,_,e⟩:=map_some d;exact (yC (λq:TS=>q.2.1) e).symm;cases d;have ⟨_,_,e⟩:=map_some d;exact (yC (λq:TS=>q.2.1) e).symm;have ⟨_,_,e⟩:=map_some d;exact (yC (λq:TS=>q.2.1) e).symm
theorem uR {a:TF} {o:Oper} (h:o.guard=none):jr J a o=some true:=by simp only [jr,h]
theorem pO (g:ju P A Pl dq X Good):∀(ps:List (Nat×aA)) (b:TF) (l s:ae) (c:aA) (k:KN X),Good (ir P A X K id J ps b l s c k)->
  ∃n x,dS P A (tc P A Pl dq n) K id X.fl J ps ⟨b,l,s,c⟩=some x/\Good (k x.τ x.l x.s):=by
 intro ps;induction ps with
 | nil=>intro b l s c k h;exact ⟨0,_,rfl,h⟩
 | cons p ps L=>
  intro b l s c k h;simp only [ir] at h;split at h;exact (g.bad h).elim;rename_i o H;cases z:Wj P J p c o with
  | false=>rw [z] at h;exact (g.bad h).elim
  | true=>
   rw [z] at h;simp at h;have F:∀n v r l1 q,jr J b o=some true->dD P A (tc P A Pl dq n) (A.an K id p.1) X.fl o b l s=some (v,r,l1,q)->(p.2.all λj=>sB P A J X.fl c o (A.an K id p.1) b l s (dU r o.dst v) l1 q j)=true->Good (ir P A X K id J ps (dU r o.dst v) l1 q (Jx P J p c o) k)->
     ∃n x,dS P A (tc P A Pl dq n) K id X.fl J (p::ps) ⟨b,l,s,c⟩=some x/\Good (k x.τ x.l x.s):=by
    intro n v r l1 q i w d f;have ⟨m,x,t,C⟩:=L _ _ _ _ _ f;refine ⟨n+m,x,?_,C⟩;have a:=sy (jI (xZ n m)) o b l s _ w;simp only [dS,jE,H,z,if_true,i,a,d,zR];exact nQ (jI (wK m n)) ps _ _ t
   split at h;rename_i y;have ⟨n,v,r,l1,q,w,d⟩:=n7 g h;have ⟨f,t⟩:=g.rX d;exact F n v r l1 q (uR y) w f t;rename_i j b2 y;split at h;rename_i b1 D;cases E:gq P A (A.an K id p.1) b o with
   | false=>rw [E] at h;exact (g.bad h).elim
   | true=>
    rw [E] at h;simp at h;have M:jr J b o=some false->Good (ir P A X K id J ps (dU b o.dst (.tu [])) l s (Jx P J p c o) k)->∃n x,dS P A (tc P A Pl dq n) K id X.fl J (p::ps) ⟨b,l,s,c⟩=some x/\Good (k x.τ x.l x.s):=by intro i f;have ⟨m,x,t,C⟩:=L _ _ _ _ _ f;refine ⟨m,x,?_,C⟩;simp only [dS,jE,H,z,if_true,i,zR];exact t
    rcases g.gg h with ⟨i,d⟩|⟨R,N,i,d⟩|⟨i,d⟩;have ⟨n,v,r,l1,q,w,f⟩:=n7 g d;have e:=HK E w;subst e;have ⟨f,t⟩:=g.rX f;exact F n v r l1 q (by simp only [jr,y,D,i,Nv,beq_self_eq_true]) w f t;refine M ?_ d;simp only [jr,y,D,i,Nv];simp [N];refine M ?_ d;simp only [jr,y,D,i];rfl
   exact (g.bad h).elim
theorem Ee {f:TF}:∀(b:aA) (t:Nat),ej b (b.map f) t=if t∈b then f t else .u:=by
 intro b t;induction b with
 | nil=>rfl
 | cons a b c=>simp only [yY,ej];by_cases e:t=a;subst e;simp;rw [Fj e];simp [c,e]
theorem E8:∀(c:aA) (b:ao),a∉c->ej c b a= .u:=by
 intro c;induction c with
 | nil=>intro b _;unfold ej;rfl
 | cons e c d=>
  intro b h;cases b with
  | nil=>rfl
  | cons x b=>simp at h;simp only [ej,Fj h.1,cond_false];exact d b h.2
theorem E9 (a:aA) (b:ao):ej a (a.map (ej a b))=ej a b:=by funext t;rw [Ee];split;rfl;rename_i h;rw [E8 a b h]
def JV (Good:X.R->Prop) (b:KN X) (a:Nat->KN X) (c:KN X) (r:TE):Prop:=match r.1 with
 | .normal=>Good (b r.2.1 r.2.2.1 r.2.2.2)
 | .exit i=>Good (a i r.2.1 r.2.2.1 r.2.2.2)
 | .ret=>Good (c r.2.1 r.2.2.1 r.2.2.2)
 | _=>False
theorem tE (C:ju P A Pl dq X Good) (b1:∀{b q l s},Good (X.lp b q l s)->∃n,Good (Wx X b n q l s)):∀(c:Code) (p:Nat) (g:TF) (l s:ae) (v:KN X) (j:Nat->KN X) (w:KN X),Good (eh P A Pl X K p c g l s v j w)->
  ∃n r,bN P A Pl (tc P A Pl dq n) n K X.fl p c g l s=some r/\JV Good v j w r:=by
 intro c;induction c with
 | skip=>intro p g l s v j w h;exact ⟨0,(.normal,g,l,s),rfl,h⟩
 | region id J c3=>intro p g l s v j w h;have ⟨n,x,f,d⟩:=pO C _ _ _ _ _ _ h;exact ⟨n,(.normal,x.τ,x.l,x.s),by simp only [bN,f,zH],d⟩
 | seq a b M R=>
  intro p g l s v j w h;simp only [eh] at h;have ⟨n,r,f,d⟩:=M _ _ _ _ _ _ _ h;have ⟨e,t,l1,o⟩:=r;cases e with
  | normal=>have ⟨m,r,F,H⟩:=R _ _ _ _ _ _ _ d;refine ⟨n+m,r,?_,H⟩;have x1:=iN (jI (xZ n m)) (xZ n m) a (2*p) g l s _ f;have x2:=iN (jI (wK m n)) (wK m n) b (2*p+1) t l1 o _ F;simp only [bN,x1];exact x2
  | exit i=>exact ⟨n,(.exit i,t,l1,o),by simp only [bN,f],d⟩
  | ret=>exact ⟨n,(.ret,t,l1,o),by simp only [bN,f],d⟩
  | _=>exact d.elim
 | cond x a b M R=>
  intro p g l s v j w h;simp only [eh,Q.br] at h;split at h;rename_i c2 ht;cases c2 with
  | true=>have ⟨n,r,f,d⟩:=M _ _ _ _ _ _ _ h;exact ⟨n,r,by simp only [bN,ht,CW,cond_true,f],d⟩
  | false=>have ⟨n,r,f,d⟩:=R _ _ _ _ _ _ _ h;exact ⟨n,r,by simp only [bN,ht,CW,cond_false,f],d⟩
  exact (C.bad h).elim
 | block id a L=>
  intro p g l s v j w h;have ⟨n,r,f,d⟩:=L _ _ _ _ _ _ _ h;have ⟨e,t,l1,o⟩:=r;cases e with
  | exit i=>
   cases E:Nat.beq i id with
   | true=>refine ⟨n,(.normal,t,l1,o),by simp only [bN,f,E,cond_true],?_⟩;have:Good (bif Nat.beq i id then v t l1 o else j i t l1 o):=d;rw [E] at this;exact this
   | false=>refine ⟨n,(.exit i,t,l1,o),by simp only [bN,f,E,cond_false],?_⟩;have:Good (bif Nat.beq i id then v t l1 o else j i t l1 o):=d;rw [E] at this;exact this
  | normal=>exact ⟨n,(.normal,t,l1,o),by simp only [bN,f],d⟩
  | ret=>exact ⟨n,(.ret,t,l1,o),by simp only [bN,f],d⟩
  | _=>exact d.elim
 | loop a L=>
  intro p g l s v j w h;have ⟨N,hN⟩:=b1 h;have b6:∀N (q:ao) (y z:ae),Good (Wx X (λk q y z=>(λk q l s=>eh P A Pl X K (2*p) a (ej (A.lv K p) q) l s (λg l s=>k ((A.lv K p).map g) l s) j w) (kc X l.length k) ((A.lv K p).map (ej (A.lv K p) q)) y z) N q y z)->
    ∃n m r,jF (λq l s=>bN P A Pl (tc P A Pl dq n) n K X.fl (2*p) a (ej (A.lv K p) q) l s) (A.lv K p) l.length m q y z=some r/\JV Good v j w r:=by
   intro N;induction N with
   | zero=>intro q y z h;exact (C.bad h).elim
   | succ N b2=>
    intro q y z h;simp only [Wx,La] at h;rw [E9] at h;have ⟨n,r,f,d⟩:=L _ _ _ _ _ _ _ h;have ⟨e,t,l1,o⟩:=r;cases e with
    | normal=>have ⟨F,H⟩:=C.rX d;have ⟨D,m,r,h5,h6⟩:=b2 _ _ _ H;refine ⟨n+D,m+1,r,?_,h6⟩;have x1:=iN (jI (xZ n D)) (xZ n D) a (2*p) _ _ _ _ f;simp only [jF,x1,F,if_true];exact nT (λq l s=>iN (jI (wK D n)) (wK D n) a (2*p) _ l s) m m (zE _) _ _ _ _ h5
    | exit i=>exact ⟨n,1,(.exit i,t,l1,o),by simp only [jF,f],d⟩
    | ret=>exact ⟨n,1,(.ret,t,l1,o),by simp only [jF,f],d⟩
    | _=>exact d.elim
  have ⟨n,m,r,f,d⟩:=b6 N _ _ _ hN;refine ⟨n+m,r,?_,d⟩;simp only [bN];exact nT (λq l s=>iN (jI (xZ n m)) (xZ n m) a (2*p) _ l s) m (n+m) (wK m n) _ _ _ _ f
 | exit i=>intro p g l s v j w h;exact ⟨0,(.exit i,g,l,s),rfl,h⟩
 | ret=>intro p g l s v j w h;exact ⟨0,(.ret,g,l,s),rfl,h⟩
 | _=>intro p g l s v j w h;exact (C.bad h).elim
end
abbrev cM (X:CX):=Nat->List (LB X)->TF->RA X
def dQ (P:aB) (A:An) (Pl:cR) (X:CX) (K:Nat) (j:cM X):List (LB X)->Nat->Code->TF->ae->ae->KN X->(Nat->KN X)->KN X->X.R
 | _,_,.skip,d,l,s,e,_,_=>e d l s
 | _,_,.region h k m,d,l,s,e,_,_=>ir P A X K h k (if m=true then Pl (real K) h else nB k.size) d l s [] e
 | x,p,.seq a b,d,l,s,e,f,g=>dQ P A Pl X K j x (2*p) a d l s (λd l s=>dQ P A Pl X K j x (2*p+1) b d l s e f g) f g
 | x,p,.cond c a b,d,l,s,e,f,g=>Q.br (aR d c) (λl s=>dQ P A Pl X K j x (2*p) a d l s e f g) (λl s=>dQ P A Pl X K j x (2*p+1) b d l s e f g) l s
 | x,p,.block h c,d,l,s,e,f,g=>dQ P A Pl X K j x (2*p) c d l s e (λi d l s=>bif Nat.beq i h then e d l s else f i d l s) g
 | x,p,.loop _,d,l,s,_,_,_=>j p x d l s
 | _,_,.exit h,d,l,s,_,f,_=>f h d l s
 | _,_,.ret,d,l,s,_,_,g=>g d l s
 | _,_,_,_,_,_,_,_,_=>X.bad
def iG:Code->Bool
 | .seq a b=>iG a&&iG b
 | .cond _ a b=>iG a&&iG b
 | .block _ c=>iG c
 | .loop _=>false
 | _=>true
section
variable {P:aB} {A:An} {Pl:cR} {dq:Nat->Bool} {X:CX} {Good:X.R->Prop} {K:Nat} {Λ:cM X}
inductive kA (P:aB) (A:An) (Pl:cR) (X:CX) (K:Nat) (Λ:cM X):List (LB X)->Nat->Code->KN X->(Nat->KN X)->KN X->Prop
 | leaf {x p c kn ke kr}:iG c->kA P A Pl X K Λ x p c kn ke kr
 | seq {x p a b kn ke kr}:kA P A Pl X K Λ x (2*p) a (λτ l s=>dQ P A Pl X K Λ x (2*p+1) b τ l s kn ke kr) ke kr->kA P A Pl X K Λ x (2*p+1) b kn ke kr->kA P A Pl X K Λ x p (.seq a b) kn ke kr
 | cond {x p c a b kn ke kr}:kA P A Pl X K Λ x (2*p) a kn ke kr->kA P A Pl X K Λ x (2*p+1) b kn ke kr->kA P A Pl X K Λ x p (.cond c a b) kn ke kr
 | block {x p id c kn ke kr}:kA P A Pl X K Λ x (2*p) c kn (λi τ l s=>bif Nat.beq i id then kn τ l s else ke i τ l s) kr->kA P A Pl X K Λ x p (.block id c) kn ke kr
 | loop {x p c kn ke kr} (lv:aA) (b:LB X->LB X):A.lv K p=lv->(∀k τ l s,dQ P A Pl X K Λ (k::x) (2*p) c (ej lv (lv.map τ)) l s (λτ l s=>k (lv.map τ) l s) ke kr=b k (lv.map τ) l s)->(∀τ l s,Q.lp lv b (lv.map τ) l s=Λ p x τ l s)->
   (∀k:LB X,kA P A Pl X K Λ (k::x) (2*p) c (λτ l s=>k (lv.map τ) l s) ke kr)->kA P A Pl X K Λ x p (.loop c) kn ke kr
theorem Hn:∀(c:Code),iG c->∀x p g l s e d f,eh P A Pl X K p c g l s e d f=dQ P A Pl X K Λ x p c g l s e d f:=by
 intro c;induction c with
 | seq a b i j=>intro h x p g l s e d f;simp only [iG,zP] at h;simp only [eh,dQ,i h.1 x (2*p),j h.2 x (2*p+1)]
 | cond c a b i j=>intro h x p g l s e d f;simp only [iG,zP] at h;simp only [eh,dQ,i h.1 x (2*p),j h.2 x (2*p+1)]
 | block m a k=>intro h x p g l s e d f;simp only [iG] at h;simp only [eh,dQ,k h x (2*p)]
 | loop a k=>intro h;cases h
 | _=>intro _ x p g l s e d f;rfl
theorem kA.eq {x:List (LB X)} {c:Code} {i g j} (h:kA P A Pl X K Λ x a c i g j):∀d l s,eh P A Pl X K a c d l s i g j=dQ P A Pl X K Λ x a c d l s i g j:=by
 induction h with
 | leaf h=>intro d l s;exact Hn _ h _ _ _ _ _ _ _ _
 | seq n r f m=>intro d l s;rename_i v b i g j;have e:=funext λd=>funext λl=>funext λs=>m d l s;simp only [eh,dQ];rw [e,f]
 | cond n r f m=>intro d l s;simp only [eh,dQ,f,m]
 | block n f=>intro d l s;simp only [eh,dQ,f]
 | loop z b o p q w t=>intro d l s;simp only [eh,dQ];rw [o,<-q];unfold Q.lp;congr 1;funext k D y C;exact (t (kc X l.length k) _ _ _).trans (p _ _ _ _)
def n8 (P:aB) (X:CX) (r:ResultVar) (k:TV->TF->RA X):KN X:=λb l s=>match r with
 | .tmp t=>k (b t) (dO b (.tmp t)) l s
 | .cell a t=>match res P t with
  | some (g,n)=>Q.lt g n (b a) (λv=>k v b) l s
  | none=>X.bad
def gQ (P:aB) (X:CX) (a:List ResultVar) (k:TV->ae->X.R):KN X:=match a with
 | []=>λ_ _ s=>k (.tu []) s
 | [r]=>n8 P X r λv _ _ s=>k v s
 | [r,q]=>n8 P X r λx=>n8 P X q λy _ _ s=>k (.tu [x,y]) s
 | [r,q,t]=>n8 P X r λx=>n8 P X q λy=>n8 P X t λz _ _ s=>k (.tu [x,y,z]) s
 | _=>λ_ _ _=>X.bad
theorem eg (c:ju P A Pl dq X Good) {b:ResultVar} {k:TV->TF->RA X} {e:TF} (h:Good (n8 P X b k e r s)):∃v f l1 d,eK P X.fl e r s b=some (v,f,l1,d)/\Good (k v f l1 d):=by
 cases b with
 | tmp t=>exact ⟨_,_,_,_,rfl,h⟩
 | cell a t=>simp only [n8] at h;split at h;rename_i g n l;have ⟨p,i,j⟩:=c.bd h;exact ⟨_,_,_,_,by simp only [eK,l,i,zH],j⟩;exact (c.bad h).elim
theorem oO (a:ju P A Pl dq X Good) {g:List ResultVar} {k:TV->ae->X.R} {l:TF} (h:Good (gQ P X g k l r s)):∃f i,uU P X.fl g l r s=some (f,i)/\Good (k f i):=by unfold gQ at h;unfold uU;split at h;exact ⟨_,_,rfl,h⟩;have ⟨v,m,l1,j,b,c⟩:=eg a h;exact ⟨_,_,by simp only [b,zH],c⟩;have ⟨v,m,l1,j,b,c⟩:=eg a h;have ⟨w,t,p,q,d,e⟩:=eg a c;exact ⟨_,_,by simp only [b,d,zH],e⟩;have ⟨v,m,l1,j,b,c⟩:=eg a h;have ⟨w,t,p,q,d,e⟩:=eg a c;have ⟨z,C,x,y,n,o⟩:=eg a e;exact ⟨_,_,by simp only [b,d,n,zH],o⟩;exact (a.bad h).elim
def qy (P:aB) (A:An) (Pl:cR) (X:CX) (K:Nat) (a:Func) (c:Code) (b:ao) (k:TV->ae->X.R) (s:ae):X.R:=
 eh P A Pl X K 1 c (aI b) [] s (gQ P X a.results.toList k) (λ_ _ _ _=>X.bad) (gQ P X a.results.toList k)
theorem kA.body {a:Func} {c:Code} {k:TV->ae->X.R} (h:kA P A Pl X K Λ [] 1 c (gQ P X a.results.toList k) (λ_ _ _ _=>X.bad) (gQ P X a.results.toList k)) (s:ae):
  qy P A Pl X K a c o k s=dQ P A Pl X K Λ [] 1 c (aI o) [] s (gQ P X a.results.toList k) (λ_ _ _ _=>X.bad) (gQ P X a.results.toList k):=h.eq _ _ _
theorem n9 (f:ju P A Pl dq X Good) (t:∀{b s l r},Good (X.lp b s l r)->∃n,Good (Wx X b n s l r)) {p:Func} {c:Code} {k:TV->ae->X.R} (h:Good (qy P A Pl X K p c o k r)):
  ∃n g a,kD P A Pl (tc P A Pl dq n) n K p c o r X.fl=some (g,a)/\Good (k g a):=by
 have ⟨n,g,q,d⟩:=tE f t _ _ _ _ _ _ _ _ h;have ⟨e,x,l1,w⟩:=g;cases e with
 | normal=>have ⟨v,a,j,m⟩:=oO f d;exact ⟨n,v,a,by simp only [kD,q];exact j,m⟩
 | ret=>have ⟨v,a,j,m⟩:=oO f d;exact ⟨n,v,a,by simp only [kD,q];exact j,m⟩
 | exit i=>exact (f.bad d).elim
 | _=>exact d.elim
end
def Ends (P:aB) (A:An) (Pl:cR) (dq:Nat->Bool) (K:Nat) (c:ao) (s:ae) (b:Nat) (k:jy):Prop:=∃n r a,tc P A Pl dq n K c s b=some (r,a)/\k r a
def WD {R:Type} (bad:R) (w:TV) (b:Bool) (st:(TV->ae->ae->R)->ae->ae->R) (k:TV->ae->ae->R) (l s:ae):R:=match w with
 | .v (.bool a)=>bif a==b then st k l s else k (.tu []) l s
 | .tu []=>k (.tu []) l s
 | _=>bad
abbrev XP (P:aB) (A:An) (Pl:cR) (dq:Nat->Bool) (a:Nat) (rt:jy):CX:={
 R:=Prop
 bad:=False
 cl:=Ends P A Pl dq
 gg:=WD False
 lp:=λb c l s=>∃n,La False b n c l s
 fl:=a
 rt:=rt
 P:=P}
section
variable {P:aB} {A:An} {Pl:cR} {dq:Nat->Bool} {fl K:Nat}
theorem qx {R:Type} {bad:R} (Good:R->Prop) (b:¬Good bad) {st:(TV->ae->ae->R)->ae->ae->R} {k:TV->ae->ae->R} (h:Good (WD bad x q st k r s)):
  (x= .v (.bool q)/\Good (st k r s))\/(∃a,a≠q/\x= .v (.bool a)/\Good (k (.tu []) r s))\/(x= .tu []/\Good (k (.tu []) r s)):=by
 unfold WD at h;split at h;rename_i a;cases q <;> cases a;exact .inl ⟨rfl,h⟩;exact .inr (.inl ⟨true,by decide,rfl,h⟩);exact .inr (.inl ⟨false,by decide,rfl,h⟩);exact .inl ⟨rfl,h⟩;exact .inr (.inr ⟨rfl,h⟩);exact (b h).elim
theorem XP.sound {rt:jy}:ju P A Pl dq (XP P A Pl dq fl rt) (λr=>r):=⟨λh=>h,λh=>h,λh=>qx (λr:Prop=>r) (λh=>h) h⟩
def Rt (A:An) (K:Nat) (s:ae) (k:jy) (b:TV) (c:ae):Prop:=∃r a,jt (A.rw K) (A.aM K) s (some (b,c))=some (r,a)/\k r a
theorem Ends.of {a:Func} {c:Code} {k:jy} (l:dq K) (i:P.funcs[real K]? =some a) (g:a.body=some c) (j:o.length<=a.ntmps)
  (h:qy P A Pl (XP P A Pl dq (bif A.rw K then fl else r.length) (Rt A K r k)) K a c o (Rt A K r k) r):Ends P A Pl dq K o r fl k:=by
 obtain ⟨n,q,s,b,m,p,d,e⟩:=n9 XP.sound (λh=>h) h;have b:=b;refine ⟨n+1,m,p,?_,e⟩;have f:=nY (nW (Nat.le_succ n) n n (zE n)) (Nat.le_succ n) _ b;simp only [tc,gZ,l,if_true,i,g,j];rw [f];exact d
theorem Ends.iQ {f:ao->ae->Nat->Option (TV×ae)} {a:ae} {r:TV} {k:jy} (d:dq K=false) (b:A.tp K=some f) (h:f o s fl=some (r,a)) (c:k r a):Ends P A Pl dq K o s fl k:=by refine ⟨1,r,a,?_,c⟩;simp only [tc,gZ,d,b];simpa using h
theorem Ends.mono {k c:jy} (h:Ends P A Pl dq K o r fl k) (f:∀a b,k a b->c a b):Ends P A Pl dq K o r fl c:=by obtain ⟨n,a,b,d,e⟩:=h;exact ⟨n,a,b,d,f a b e⟩
end
end T
namespace V
open Go
variable {a b c d e f g:Nat} {u v w:Value} {i j k:Int} {t:TypeId} {p:List Value} {q:Bool} {n:IntKind}
def pN (sz a:Nat):Bool:=match gy sz with
 | some (_,o,_)=>Nat.beq o a
 | none=>false
def iW (b a:Nat) (H:AH):Option AH:=match H[b]? with
 | some (.row c sz (some 0))=>if pN sz a=true then match c[a]? with
   | some (.pointer none)=>some (H.set b (.row (cr c a [.pointer (some ⟨b,a,none⟩)]) sz (some 0)))
   | some (.pointer (some ⟨d,e,none⟩))=>if d=b/\e=a then some H else none
   | _=>none
  else none
 | _=>none
def No (b k:Nat) (v:aq) (H:AH):Option AH:=match H[b]? with
 | some (.row a sz (some 0))=>if k<a.length/\one v=true then some (H.set b (.row (cr a k [v]) sz (some 0))) else none
 | _=>none
def zr:aq->Bool
 | .slice (some _) 0 (_+1)=>true
 | _=>false
def pC (P:aB) (c:aP) (a b:Nat) (y:aq) (H:AH):Option AH:=
 match H[a]? with
 | some (.row _ sz (some 0))=>if pN sz b=true then (cV P 77 (.pointer (some ⟨a,b+1,none⟩)) H).bind λx=>if zr x=true then none else (cC P 77 c x y H).bind λp=>No a (b+1) p.1 p.2 else none
 | _=>none
def Hh (b:aQ) (H:AH):Option (aq×AH):=match b with
 | [.pointer (some ⟨c,d,none⟩)]=>(iW c d H).map λa=>(undef,a)
 | _=>none
def Hj (P:aB) (e:aQ) (H:AH):Option (aq×AH):=match e with
 | [.pointer (some ⟨a,b,none⟩),.string t]=>(iW a b H).bind λc=>(pC P 9 a b (.string t) c).map λd=>(.tuple #[.int .i64 t.size,.nilIface],d)
 | _=>none
def Hi (P:aB) (f:aQ) (H:AH):Option (aq×AH):=match f with
 | [.pointer (some ⟨a,b,none⟩),.int .u8 c]=>(iW a b H).bind λd=>(fO P 77 1 [(0,.int .u8 c)] d).bind λq=>(pC P 77 a b q.1 q.2).map λe=>(.nilIface,e)
 | _=>none
def Ix:aQ->Option (List UInt8)
 | []=>some []
 | .int .u8 n::l=>if 0<=n/\n<256 then (Ix l).map (UInt8.ofNat n.toNat:: ·) else none
 | _=>none
theorem K7:∀(C:aQ) (bs:List UInt8),Ix C=some bs->C=bs.map λb=>.int .u8 b.toNat:=by
 intro C;induction C with
 | nil=>intro bs h;cases h;rfl
 | cons c C f=>
  intro bs h;unfold Ix at h;split at h;rename_i e;cases e;rename_i n l e;cases e;split at h;rename_i g;cases a:Ix C with
  | none=>rw [a] at h;cases h
  | some d=>rw [a] at h;cases h;rw [yY,<-f d a];congr 2;have:n.toNat<256:=O;simp [Nat.mod_eq_of_lt this];omega
  cases h;cases h
def DY (P:aB) (d:aQ) (H:AH):Option (aq×AH):=match d with
 | [.pointer (some ⟨a,c,none⟩)]=>match H[a]? with
  | some (.row _ sz (some 0))=>if pN sz c=true then match cV P 77 (.pointer (some ⟨a,c+1,none⟩)) H with
    | some (.slice (some ⟨b,0,none⟩) n 1)=>match H[b]? with
     | some (.row C z (some _))=>if C.length=n/\n≠0/\b≠a/\n<=4611686018427387904 then (Ix C).map λbs=>(.string ⟨bs.toArray⟩,H.set b (.row C z none)) else none
     | _=>none
    | _=>none
   else none
  | _=>none
 | _=>none
end V
namespace T
open Go V
variable {a b c d e f g:Nat} {u v w:Value} {i j k:Int} {t:TypeId} {p:List Value} {q:Bool} {n:IntKind}
def lI (a b:Nat) (s:ae) (d:Nat):Option (ae):=match s[a]? with
 | some (.row c z)=>if pN z b=true/\Nat.ble d a=true then match c[b]? with
   | some (.v (.pointer none))=>some (s.set a (.row (eQ c b [.p true a b]) z))
   | some (.p true e f)=>if e=a/\f=b then some s else none
   | _=>none
  else none
 | _=>none
def sR (b d:Nat) (c:cD) (s:ae) (f:Nat):Option (ae):=match s[b]? with
 | some (.row e z)=>match e[d+1]? with
  | some (.sl true a)=>if pN z d=true/\cS 0 1 c/\cS 0 1 a/\fits (a.length+c.length) 1/\Nat.ble f b=true then some (s.set b (.row (e.set (d+1) (.sl true (a++c))) z)) else none
  | _=>none
 | _=>none
def CE (e:ao) (s:ae) (a:Nat):Option (TV×ae):=match e with
 | [.p true b c]=>(lI b c s a).map λd=>(.tu [],d)
 | _=>none
def yh (g:ao) (s:ae) (a:Nat):Option (TV×ae):=match g with
 | [.p true c d,.v (.string t)]=>(lI c d s a).bind λe=>(sR c d (t.data.toList.map λb=>[.v (.int .u8 b.toNat)]) e a).map λf=>(.tu [.v (.int .i64 t.size),.v .nilIface],f)
 | _=>none
def yg (g:ao) (s:ae) (a:Nat):Option (TV×ae):=match g with
 | [.p true b d,.v (.int .u8 c)]=>(lI b d s a).bind λe=>(sR b d [[.v (.int .u8 c)]] e a).map λf=>(.v .nilIface,f)
 | _=>none
def Kn:cD->Option (List UInt8)
 | []=>some []
 | [.v (.int .u8 n)]::l=>if 0<=n/\n<256 then (Kn l).map (UInt8.ofNat n.toNat:: ·) else none
 | _=>none
def sC (g:ao) (s:ae) (f:Nat):Option (TV×ae):=match g with
 | [.p true b c]=>match s[b]? with
  | some (.row d z)=>match d[c+1]? with
   | some (.sl true (e::a))=>if pN z c=true/\Nat.ble f b/\(e::a).length<=4611686018427387904 then (Kn (e::a)).map λbs=>(.v (.string ⟨bs.toArray⟩),s.set b (.row (d.set (c+1) (.sl false (e::a))) z)) else none
   | _=>none
  | _=>none
 | _=>none
section
variable {X:Nat->Prop} {D E:aH} {M J:Nat->Prop} {H h:AH} {ω ω':Nat->Option Loc} {P:aB} {fl:Nat} {τ τ':TF} {l s l' s':ae} {V:aQ}
theorem St.fin (h:St X D ω fl H τ l s V) {r:TV} (d:TR D (Mu X D l s) H r u) (c:NO r u):St X D ω fl H (aI [r]) l s [u]:={
 tm:=λt=>by
  cases t with
  | zero=>exact d
  | succ t=>exact .u
 ow:=λt=>by
  cases t with
  | zero=>exact c.own _
  | succ t=>exact λi j e a n b _=>by cases i <;> cases j <;> simp [aI,eI,iJ] at b
 ob:=h.ob
 lt:=h.lt
 fC:=h.fC
 mM:=h.mM
 xl:=h.xl
 xo:=h.xo}
theorem oH (h:St X D ω fl H τ l s V) (m:D true a 0=some c) {t:ae} (d:lI a b s fl=some t):∃q ω',iW c b H=some q/\St X D ω' fl q τ l t V/\Xt X fl D ω H l s D ω' q l t:=by
 unfold lI at d;split at d;rename_i cs c4 z;split at d;rename_i K;have ⟨N,J⟩:=K;have ⟨_,b1,C,w,x,g,_⟩:=h.ob true a _ z;rw [m] at w;cases w;unfold iW;simp only [x,N,if_true];split at d;rename_i i;cases d;have M:=aa i;have f:C[b]? =some (C[b]'(Zo g.1)):=zA _;have k:=g.2 b _ _ i f;generalize C[b]'(Zo g.1)=b2 at f k;cases k with
 | v _ _=>rw [f];have ⟨b1,C',ω',A,E,k3,k4,k5,P,R⟩:=h.vd (r:=true) (n:=1) (off:=b) (x':=.pointer (some ⟨c,b,none⟩)) z J rfl O rfl (.p m) none (λj es ad c2 F _=>by cases j <;> simp [eI,iJ] at F) (λc3=>.inl ⟨λe=>(by cases e),rfl⟩);rw [m] at A;cases A;rw [x] at E;cases E;exact ⟨_,ω',rfl,P,R⟩
 rename_i b6 o i;split at d;rename_i L;obtain ⟨rfl,rfl⟩:=L;cases d;have M:=aa i;have f:C[o]? =some (C[o]'(Zo g.1)):=zA _;have k:=g.2 o _ _ i f;generalize C[o]'(Zo g.1)=b2 at f k;cases k with
 | p y=>rw [m] at y;cases y;rw [f];exact ⟨H,ω,Z,h,Xt.refl⟩
 cases d;cases d;cases d;cases d
end
end T
namespace T
open Go V
variable {a b c d e f g:Nat} {u v w:Value} {i j k:Int} {t:TypeId} {p:List Value} {q:Bool} {n:IntKind} {x y z:TV} {r s:List TO} {o:List TV}
structure O2 (P:aB):Prop where
 Gj:P.underlying 77=some (.slice 5)
 u5:P.underlying 5=some (.int .u8)
 u9:P.underlying 9=some .string
 i5:∃ei zv,P.info? 5=some ei/\ei.size=1/\ei.bytes=1/\ei.zero=some zv/\zv= .int .u8 0
 YK:res P 77=some (false,1)
section
variable {X:Nat->Prop} {D E:aH} {M J:Nat->Prop} {H h:AH} {ω ω':Nat->Option Loc} {P:aB} {fl:Nat} {τ τ':TF} {l s l' s':ae} {V:aQ}
theorem jg {c:Type} (l:List c) (i:Nat) (a b:c):(l.set i a).set i b=l.set i b:=wA ..
theorem zw (F:O2 P) (b6:St X D ω fl H τ l s V) {m j k:Nat} (J:D true a 0=some c) (hj:j<V.length) (hk:k<V.length) (c3:m≠j) (g3:j≠k) {g:cD} (hy:∀l s,aO l s (τ m)=some g) {d1:TypeDesc} (d7:P.underlying t=some d1) (d6:vT d1)
  {s1:ae} (i:sR a b g s fl=some s1):∃A c8 b2 f5 V1,pC P t c b (V.getD m undef) H=some A/\St X c8 b2 fl A f5 l s1 V1/\Xt X fl D ω H l s c8 b2 A l s1:=by
 unfold sR at i;split at i;rename_i h z M;split at i;rename_i f c2;split at i;rename_i hc;have ⟨hm,e1,e2,e3,hb⟩:=hc;have ⟨_,g8,C0,x,E,_⟩:=b6.ob true a _ M;rw [J] at x;cases x;cases i;obtain ⟨w,zv,d4,c7,d3,d8,rfl⟩:=F.i5;have d5:=aa M;have g4:=aa c2;have ht:gX false 1 fl l s (.p true a (b+1))=some (.sl true f,l,s.set a (.row (eQ h (b+1) [.sl false f]) z)):=by simp only [gX,T.ob,cond_true,M,part,cond_false,c2,zH,ce,yY,wE,dY,put];exact zO hb
 have ⟨v,b2,q1,q2,q3⟩:=b6.take F.YK ht (.p J) (some j) (λ_ e=>by cases e;exact hj);have c4:(s.set a (.row (eQ h (b+1) [.sl false f]) z))[a]? =some (.row (eQ h (b+1) [.sl false f]) z):=zF d5;generalize c6:s.set a (.row (eQ h (b+1) [.sl false f]) z)=o at q2 q3 c4;have tj:dU τ (some j) (.sl true f) j= .sl true f:=cj _ _ _;have tm:dU τ (some j) (.sl true f) m=τ m:=sw _ _ c3;have vj:(bZ V (some j) v).getD j undef=v:=iu hj v;have vm:(bZ V (some j) v).getD m undef=V.getD m undef:=by show (V.set j v).getD m undef=_;simp;rw [zD (wQ c3)]
 have ta:cq (qu 77) w.size w.bytes 0 fl (aR (dU τ (some j) (.sl true f)) (.tmp j)) (aR (dU τ (some j) (.sl true f)) (.tmp m)) l o=some (.sl true (f++g),l,o):=by show cq false w.size w.bytes 0 fl (dU τ (some j) (.sl true f) j) (dU τ (some j) (.sl true f) m) l o=_;rw [tj,tm,c7,d3];simp only [cq,hy,and_self,or_true,true_and,df];rw [zO ⟨e1,e2,e3,O⟩];split;rename_i h0;rw [h0];rfl
 have K:(bZ V (some j) v).length=V.length:=xI ..;have ⟨p,H2,f4,g9,r1,q,r3,_⟩:=bV.app (ty:=0) q2 (d:=some k) (λ_ e=>by cases e;rw [K];exact hk) F.Gj d7 d6 d4 d8 c7.symm O rfl rfl ta;have r1:cC P 77 t v (V.getD m undef) H=some (p,H2):=by rw [<-r1];show _=cC P 77 t ((bZ V (some j) v).getD j undef) ((bZ V (some j) v).getD m undef) H;rw [vj,vm]
 have d9:zr v=false:=by
  have N:=q2.tm j;rw [tj,vj] at N;generalize R:TV.sl true f=z0 at N;cases N with
  | sn=>rfl
  | s0=>rfl
  | se=>cases R
  | @sl g6 d2 _ _ _ _ _ _ _ _ _ L _=>
   cases R;cases f with
   | nil=>exact absurd rfl (L rfl)
   | cons _ _=>rfl
  | _=>first|rfl|cases R
 generalize g5:dO (dU τ (some j) (.sl true f)) (.tmp j)=b1 at q;generalize f8:bZ V (some j) v=V2 at q K;have tk:dU b1 (some k) (.sl true (f++g)) k= .sl true (f++g):=cj _ _ _;have vk:(bZ V2 (some k) p).getD k undef=p:=iu (by rw [K];exact hk) p;have y:=q.tm k;simp only [tk,vk] at y;have c5:one p/\p.cells.toList=[p]:=by generalize f9:f++g=d2 at y;cases y <;> exact ⟨rfl,rfl⟩
 obtain ⟨g7,f7,f6,k1,k2,k3,k4,k5,k6,k7⟩:=q.vd (r:=true) (n:=1) (off:=b+1) c4 hb rfl (by rw [fY];omega) rfl y (some k) (λe6 c9 ad n' f1 f2=>by
   have ⟨x,E⟩:=q.ow k 0 e6 c9 ad n' (by rw [tk];exact f1) (by rw [vk];exact f2);exact ⟨k,rfl,x,E⟩) (λf3=>by
   rcases aL (dU b1 (some k) (.sl true (f++g))) k f3 (bw (dU b1 (some k) (.sl true (f++g)) k)) with ⟨rfl,e⟩|⟨L,e⟩;exact .inr ⟨_,e,q.tm _⟩;exact .inl ⟨λe'=>L (by cases e';rfl),e⟩)
 rw [r3.qv _ _ _ _ J] at k1;cases k1;refine ⟨_,f4,f6,_,_,?_,(by
  have e:(T.put l o true a (.row (eQ (eQ h (b+1) [.sl false f]) (b+1) (ce (.sl true (f++g)))) z)).2=s.set a (.row (h.set (b+1) (.sl true (f++g))) z):=by show o.set a _=_;rw [<-c6,jg];exact yC (λC=>s.set a (TO.row C z)) (jg h (b+1) _ _)
  rw [e] at k6;exact k6),(by
  have e:(T.put l o true a (.row (eQ (eQ h (b+1) [.sl false f]) (b+1) (ce (.sl true (f++g)))) z)).2=s.set a (.row (h.set (b+1) (.sl true (f++g))) z):=by show o.set a _=_;rw [<-c6,jg];exact yC (λC=>s.set a (TO.row C z)) (jg h (b+1) _ _)
  rw [e] at k7;exact (q3.trans r3).trans k7)⟩
 unfold pC;simp only [E,hm,if_true,q1,zR,d9,xD,if_false,r1,No,k2];rw [zO ⟨by have:=k3;rw [fY] at this;omega,c5.1⟩,c5.2];cases i;cases i;cases i
end
def s8 (f:ao->ae->Nat->Option (TV×ae)) (g:aQ->AH->Option (aq×AH)):Prop:=
 ∀(c:ao) (s:ae) (a:Nat) (r:TV) (d:ae),f c s a=some (r,d)->∀(X:Nat->Prop) (h:aH) (j:Nat->Option Loc) (H:AH) (e:aQ),St X h j a H (aI c) [] s e->e.length=c.length->
  ∃v b i k,g e H=some (v,b)/\St X i k a b (aI [r]) [] d [v]/\Xt X a h j H [] s i k b [] d
section
variable {X:Nat->Prop} {D E:aH} {M J:Nat->Prop} {H h:AH} {ω ω':Nat->Option Loc} {P:aB} {fl:Nat} {τ τ':TF} {l s l' s':ae} {V:aQ}
theorem bind_some {b d:Type} {o:Option b} {f:b->Option d} {c:d} (h:o.bind f=some c):∃a,o=some a/\f a=some c:=by
 cases o with
 | none=>cases h
 | some a=>exact ⟨a,rfl,h⟩
theorem P9:s8 CE Hh:=by
 intro q s fl r s' b X D ω H o h g;unfold CE at b;split at b;rename_i t j;have ⟨v,i,e⟩:=map_some b;cases e;match o,g with
 | [a],_=>
  have d:=h.tm 0;cases d with
  | @p _ _ _ n f=>have ⟨c,ω',k,l,m⟩:=oH h f i;refine ⟨undef,c,D,ω',?_,l.fin ri oB,m⟩;show (iW n j H).map _=_;rw [k];rfl
 cases b
theorem Pb (w:O2 P):s8 yh (Hj P):=by
 intro b2 s fl c4 s' b X D ω H N h C;unfold yh at b;split at b;rename_i id d t;have ⟨s1,E,b⟩:=bind_some b;have ⟨s2,F,e⟩:=map_some b;cases e;match N,C with
 | [a,b6],_=>
  have z:=h.tm 0;have A:=h.tm 1;cases A with
  | v _ _=>
   cases z with
   | @p _ _ _ f y=>
    have ⟨q,c7,J,n,K⟩:=oH h y E;have n:=n.congr (V':=[.pointer (some ⟨f,d,none⟩),.string t]++List.replicate 2 undef) (dz _ _);have ⟨r,R,b1,c6,V2,o,L,M⟩:=zw (m:=1) (j:=2) (k:=3) w n y Z Z O O (λl s=>rfl) w.u9 rfl F;refine ⟨.tuple #[.int .i64 t.size,.nilIface],r,R,b1,?_,L.fin ?_ ?_,K.trans M⟩;show (iW f d H).bind _=_;rw [J];show (pC P 9 f d (.string t) q).map _=_;have o:pC P 9 f d (.string t) q=some r:=o;rw [o];rfl;refine .tu rfl λj c5 c2 g x=>?_;match j with
    | 0=>cases g;cases x;exact .v rfl rfl
    | 1=>cases g;cases x;exact .v rfl rfl
    | j+2=>cases g
    intro i j es a c3 c _;match i,j with
    | 0,0=>cases c
    | 0,j+1=>cases c
    | 1,0=>cases c
    | 1,j+1=>cases c
    | i+2,j=>cases c
 cases b
theorem Ig (a:O2 P) (c:Int) (H:AH):fO P 77 1 [(0,.int .u8 c)] H=some (.slice (some ⟨H.length,0,none⟩) 1 (eV 1),H++[.row [.int .u8 c] 1 (some 0)]):=by obtain ⟨f,h,b,d,g,e,rfl⟩:=a.i5;simp [fO,a.Gj,b,e,d,Value.cells,ak,Instr.fill,one]
theorem Pa (n:O2 P):s8 yg (Hi P):=by
 intro c2 s fl c4 s' a X D ω H vs h L;unfold yg at a;split at a;rename_i id b c;have ⟨s1,M,a⟩:=bind_some a;have ⟨s2,N,e⟩:=map_some a;cases e;match vs,L with
 | [b6,c3],_=>
  have J:=h.tm 0;have K:=h.tm 1;cases K with
  | v _ _=>
   cases J with
   | @p _ _ _ f y=>
    have ⟨w,c9,q1,r,q3⟩:=oH h y M;have r:=r.congr (V':=[.pointer (some ⟨f,b,none⟩),.int .u8 c]++List.replicate 3 undef) (dz _ _);have ⟨t,C,c7,d1,R,o,z,_⟩:=bV.df r (d:=some 4) (q:=false) (an:=0) (es:=[[.v (.int .u8 c)]]) (λ_ e=>by cases e;simp) (Ig n c w) rfl ⟨rfl,rfl,λi j e c5 c6 g x F=>by
     match i,j with
     | 0,0=>cases g;cases x;cases F;exact .v rfl rfl
     | 0,j+1=>cases g;cases x
     | i+1,j=>cases g⟩ Z
    have o:=o;have e4:(bZ ([.pointer (some ⟨f,b,none⟩),.int .u8 c]++List.replicate 3 undef) (some 4) t).getD 4 undef=t:=rfl;have ⟨E,b1,b2,c8,V3,A,r2,r3⟩:=zw (m:=4) (j:=2) (k:=3) n o (z.qv _ _ _ _ y) (by simp [bZ]) (by simp [bZ]) O O (λl s=>rfl) n.Gj rfl N;rw [e4] at A;refine ⟨.nilIface,E,b1,b2,?_,r2.fin (.v rfl rfl) (.one (λ_ e=>by cases e) (λ_ e=>by cases e) (λ_ e=>by cases e)),(q3.trans z).trans r3⟩;show (iW f b H).bind _=_;rw [q1];show (fO P 77 1 [(0,.int .u8 c)] w).bind _=_;rw [R];show (pC P 77 f b t C).map _=_;rw [A];rfl
 cases a
theorem Km:∀(a:cD) (C:aQ) (bs:List UInt8),Kn a=some bs->C.length=a.length->(∀(i j:Nat) (e:ao) (x:TV) (c:aq),a[i]? =some e->e[j]? =some x->C[i+j]? =some c->TR D M H x c)->Ix C=some bs:=by
 intro a;induction a with
 | nil=>intro C bs h b _;have:=zL b;subst this;exact h
 | cons e a t=>
  intro C bs h b f;cases C with
  | nil=>simp at b
  | cons c C=>
   unfold Kn at h;split at h;rename_i d;cases d;rename_i n l d;cases d;split at h;rename_i s;obtain ⟨g,q,rfl⟩:=map_some h;have r:=f 0 0 _ _ _ rfl rfl rfl;cases r with
   | v _ _=>have:=t C g q (Zs b) (λi j e x k m o p=>f (i+1) j e x k (Zs m) o (by rw [show i+1+j=(i+j)+1 by omega,xU];exact p));simp [Ix,this,s]
   cases h;cases h
theorem Pc (hB:O2 P):s8 sC (DY P):=by
 intro d6 s fl f2 s' a X D ω H vs h hl;unfold sC at a;split at a;rename_i j g;split at a;rename_i J d2 o;split at a;rename_i e b A;split at a;rename_i hc;have ⟨hm,hb,b1⟩:=hc;have ⟨bs,f,K⟩:=map_some a;cases K;match vs,hl with
 | [d5],_=>
  have ha:=h.tm 0;cases ha with
  | @p _ _ _ x n=>
   have h:=h.congr (V':=[.pointer (some ⟨x,g,none⟩)]++List.replicate 2 undef) (dz _ _);have ⟨d9,f4,d4,z,h2,h3,h4,h5⟩:=h.ob true j _ o;rw [n] at z;cases z;have b2:=aa o;have d8:=aa A;have ht:gX false 1 fl [] s (.p true j (g+1))=some (.sl true (e::b),[],s.set j (.row (eQ J (g+1) [.sl false (e::b)]) d2)):=by simp only [gX,T.ob,cond_true,o,part,cond_false,A,zH,ce,yY,wE,dY,put];exact zO hb
   have ⟨v,d3,q1,r,q3⟩:=h.take hB.YK ht (.p n) (some 2) (λ_ e=>by cases e;simp);have t:dU (aI [.p true j g]) (some 2) (.sl true (e::b)) 2= .sl true (e::b):=cj _ _ _;have w:(bZ ([.pointer (some ⟨x,g,none⟩)]++List.replicate 2 undef) (some 2) v).getD 2 undef=v:=rfl;have E:=r.tm 2;rw [t,w] at E;generalize m:e::b=d at*;have i:d≠[]:=by rw [<-m];simp
   cases E with
   | sn=>exact absurd rfl i
   | s0=>exact absurd rfl i
   | @sl _ _ c9 f1 c8 y e2 l R gl gs d7 gr=>
    obtain ⟨k1,k2⟩:=r.ow 2 0 0 d _ _ (by rw [t];rfl) (by rw [w];rfl);have ⟨q,C3,f3,e6,F,k5,k6⟩:=k2;rw [l] at F;cases F;have q:=q;subst q;have c3:c8=1:=by
     have b6:e∈d:=by rw [<-m];simp
     have:=(gs e b6).1;rw [<-m] at f;unfold Kn at f;split at f;rename_i k;cases k;rename_i k;cases k;simpa using this.symm;cases f
    subst c3;have ⟨w1,w2⟩:=r.BD t w l;refine ⟨.string ⟨bs.toArray⟩,_,D,d3,?_,w1.fin (.v rfl rfl) (.one (λ_ e=>by cases e) (λ_ e=>by cases e) (λ_ e=>by cases e)),q3.trans w2⟩;have C:y.length=d.length:=by rw [k5,Nat.mul_one]
    have c5:c9≠x:=by rintro rfl;exact R (Mu.of (zF b2) rfl n)
    have c4:=Km d y bs f C (λc6 c7 e d1 c L M N=>gr c6 c7 e d1 c L M (by rw [yM,Nat.mul_one];exact N));have c2:=λe=>i (zL e);unfold DY;simp only [h2,hm,if_true,q1,l];rw [zO ⟨C,c2,c5,b1⟩,c4];rfl
   | _=>exact absurd rfl i
 cases a;cases a;cases a;cases a
end
end T
namespace V
open Go
variable {a b c d e f g:Nat} {u v w:Value} {i j k:Int} {t:TypeId} {p:List Value} {q:Bool} {n:IntKind}
def gv (P:aB) (t:aP) (a:aQ) (H:AH):Option (aq×AH):=match a with
 | [.slice none 0 0]=>some (.slice none 0 0,H)
 | [.slice (some A) n c]=>(fO P t 0 [] H).bind λq=>cC P t t q.1 (.slice (some A) n c) q.2
 | _=>none
def yx (a:aQ) (H:AH):Option (aq×AH):=match a with
 | [.int .i64 n]=>if 0<=n/\n<1000000000 then some (.string ⟨(Lib.itoa n).toArray⟩,H) else none
 | _=>none
def rI (a:aQ) (H:AH):Option (aq×AH):=match a with
 | []=>some (.bool true,H)
 | _=>none
end V
namespace T
open Go V
variable {a b c d e f g:Nat} {u v w:Value} {i j k:Int} {t:TypeId} {p:List Value} {q:Bool} {n:IntKind}
def bI (e b a:Nat) (f:ao) (s:ae) (d:Nat):Option (TV×ae):=match f with
 | [x]=>if FP x=true then none else match aO [] s x with
  | some []=>some (.sl (Nat.beq a 2) [],s)
  | some (c::g)=>(cq true e b a d (.sl true []) x [] s).map λp=>(bw p.1,p.2.2)
  | none=>none
 | _=>none
def nR (a:ao) (s:ae) (_:Nat):Option (TV×ae):=match a with
 | [.v (.int .i64 n)]=>if 0<=n/\n<1000000000 then some (.v (.string ⟨(Lib.itoa n).toArray⟩),s) else none
 | _=>none
def ja (a:ao) (s:ae) (_:Nat):Option (TV×ae):=match a with
 | []=>some (.v (.bool true),s)
 | _=>none
structure X1 (P:aB) (t:aP) (e b:Nat):Prop where
 of:∃el ei zv,P.underlying t=some (.slice el)/\P.info? el=some ei/\ei.size=e/\ei.bytes=b/\ei.zero=some zv/\zv.cells.toList.all ak/\zv.cells.size=ei.size
section
variable {X:Nat->Prop} {D E:aH} {M J:Nat->Prop} {H h:AH} {ω ω':Nat->Option Loc} {P:aB} {fl:Nat} {τ τ':TF} {l s l' s':ae} {V:aQ}
theorem KJ:s8 nR yx:=by
 intro i s fl r s' b X D ω H g h d;unfold nR at b;split at b;rename_i n;split at b;rename_i f;cases b;match g,d with
 | [a],_=>
  have c:=h.tm 0;cases c with
  | v _ _=>refine ⟨.string ⟨(Lib.itoa n).toArray⟩,H,D,ω,?_,h.fin (.v rfl rfl) (.one (λ_ e=>by cases e) (λ_ e=>by cases e) (λ_ e=>by cases e)),Xt.refl⟩;show (if _ then _ else _)=_;rw [zO f]
 cases b;cases b
theorem Hc:s8 ja rI:=by
 intro d s fl r s' a X D ω H c h b;unfold ja at a;split at a;cases a;match c,b with
 | [],_=>exact ⟨.bool true,H,D,ω,rfl,h.fin (.v rfl rfl) (.one (λ_ e=>by cases e) (λ_ e=>by cases e) (λ_ e=>by cases e)),Xt.refl⟩
 cases a
theorem Bj {b:aP} {a:TypeInfo} (g:P.underlying t=some (.slice b)) (c:P.info? b=some a) (h:a.zero=some u) (d:u.cells.toList.all ak) (f:u.cells.size=a.size) (e:a.size<1000000) (H:AH):
  fO P t 0 [] H=some (.slice (some ⟨H.length,0,none⟩) 0 0,H++[.row [] a.size (some 0)]):=by
 unfold fO;simp only [g,c,h,Instr.fill];rw [zO ⟨d,O,f,e⟩];simp [eV]
theorem sQ {fl:Nat} {x:TV}:cq true a b c fl (.sl true []) x l s=cq q a b c d (.sl true []) x l s:=by unfold cq;cases aO l s x <;> simp
theorem nC (hC:X1 P t a b) (c9:0<a) (c3:a<1000000) (c7:c=0\/c=2):s8 (bI a b c) (gv P t):=by
 intro d5 s fl d7 s' n X D ω H vs h hl;obtain ⟨el,z,zv,L,he,rfl,rfl,hz,hs,c4⟩:=hC.of;have c8:=Bj L he hz hs c4 c3;have b6:∀{c2:Bool} {v:aq},(v= .slice none 0 0\/∃A,v= .slice (some A) 0 0)->NO (.sl c2 []) v:=by intro c2 v hv i j es r d3 _ e2;rcases hv with rfl|⟨A,rfl⟩ <;> cases i <;> cases j <;> simp [mo,jv] at e2
 unfold bI at n;split at n;rename_i x;split at n;cases n;rename_i hV;match vs,hl with
 | [r],_=>
  have ha:=h.tm 0;have c6:∀A m g q,r= .slice (some A) m g->cq (qu t) z.size z.bytes c fl (.sl true []) x [] s=some q->∃e f l p,gv P t [r] H=some (e,f)/\St X l p fl f (aI [bw q.1]) q.2.1 q.2.2 [e]/\Xt X fl D ω H [] s l p f q.2.1 q.2.2/\TR l (Mu X l q.2.1 q.2.2) f q.1 e/\St X l p fl f (aI []) q.2.1 q.2.2 [e]:=by rintro A m g q rfl K;have h:=h.congr (V':=[.slice (some A) m g]++List.replicate 3 undef) (dz _ _);have ⟨j1,j2⟩:=h.mK [.row [] z.size (some 0)];have j3:=j1.put (d:=some 2) (x:=.sl true []) (v:=.slice (some ⟨H.length,0,none⟩) 0 0) (λ_ a=>by cases a;simp) .s0 (b6 (.inr ⟨_,rfl⟩));have ⟨e,f,l,p,r1,o,r3,_⟩:=bV.app (ty:=0) j3 (d:=some 3) (λ_ a=>by cases a;simp [bZ]) L L rfl he hz c4 c3 (x:=.tmp 2) (y:=.tmp 0) rfl rfl K;refine ⟨e,f,l,p,?_,?_,j2.trans r3,o.tm 3,?_⟩;show (fO P t 0 [] H).bind _=_;rw [c8];exact r1;exact o.fin (o.tm 3).bw (NO.bw _ _);exact ⟨λt=>.u,λt i j es r d3 E _=>by cases i <;> cases j <;> simp [aI,eI,iJ] at E,o.ob,o.lt,o.fC,o.mM,o.xl,o.xo⟩
  split at n;rename_i w;cases n;by_cases h0:r= .slice none 0 0;subst h0;exact ⟨.slice none 0 0,H,D,ω,rfl,h.fin .sn (b6 (.inl rfl)),Xt.refl⟩;have J:∃A m g,r= .slice (some A) m g:=by
   cases ha with
   | sn=>exact absurd rfl h0
   | s0=>exact ⟨_,_,_,rfl⟩
   | se=>exact ⟨_,_,_,rfl⟩
   | sl _ _ _ _ _ _=>exact ⟨_,_,_,rfl⟩
   | m _=>exact ⟨_,_,_,rfl⟩
   | v _ _=>exact absurd rfl hV
   | _=>cases w
  have ⟨A,m,g,F⟩:=J;have K:cq (qu t) z.size z.bytes c fl (.sl true []) x [] s=some (.sl true [],[],s):=by unfold cq;rw [w];simp only [true_or,true_and,List.append_nil,if_true];rw [zO ⟨rfl,rfl,by simp [fits],c9⟩]
  have ⟨e,f,l,p,N,_,C,R,k5⟩:=c6 A m g _ F K;have c5:e= .slice none 0 0\/∃A,e= .slice (some A) 0 0:=by
   generalize M:TV.sl true []=d8 at R;cases R with
   | sn=>exact .inl rfl
   | s0=>exact .inr ⟨_,rfl⟩
   | se=>cases M
   | @sl c2 es _ _ _ _ _ _ _ _ _ d2 _=>cases M;exact absurd rfl (d2 rfl)
   | _=>cases M
  exact ⟨e,f,l,p,N,k5.fin (by rcases c5 with rfl|⟨A,rfl⟩;exact .sn;have ⟨b1,b2,b3⟩:=A;have:=R;cases this with|s0=>exact .s0) (b6 c5),C⟩;rename_i c0 d6 w;have ⟨d4,k,E⟩:=map_some n;cases E;have J:∃A m g,r= .slice (some A) m g:=by
   cases ha with
   | sn=>cases w
   | s0=>exact ⟨_,_,_,rfl⟩
   | se=>exact ⟨_,_,_,rfl⟩
   | sl _ _ _ _ _ _=>exact ⟨_,_,_,rfl⟩
   | m _=>exact ⟨_,_,_,rfl⟩
   | v _ _=>exact absurd rfl hV
   | _=>cases w
  have ⟨A,m,g,F⟩:=J;rw [sQ] at k;have ⟨e,f,l,p,N,k2,C,_⟩:=c6 A m g _ F k;have d1:d4.2.1=[]:=by unfold cq at k;rw [w] at k;simp only at k;split at k;split at k;cases k;rfl;rcases c7 with rfl|rfl;cases k;rfl;cases k;rfl;cases k
  rw [d1] at k2 C;exact ⟨e,f,l,p,N,k2,C⟩;cases n
 cases n
end
end T
namespace V
variable {a b c d e f g:Nat} {u v w:Value} {i j k:Int} {t:TypeId} {p:List Value} {q:Bool} {n:IntKind}
def Pd:List (Nat×List (Nat×Nat×List (Nat×Nat×aA))):=[(4,[(4,6,[(4,3,[2])])]),(7,[(3,8,[(2,3,[0,3])])]),(12,[(1,6,[(1,2,[2])]),(6,29,[])]),(13,[(9,22,[(16,15,[1,3,7,9,11])])]),(14,[(3,4,[(2,1,[1])])]),(18,[(1,19,[(7,15,[0,1,2,9,10,13,14])]),(6,14,[(8,7,[4])])]),(19,[(9,13,[(5,11,[3,7,9]),(10,5,[])]),(12,13,[])]),(21,[(1,22,[(8,20,[3,12,17,18]),(13,8,[3,17,18]),(19,13,[])]),(7,20,[(14,13,[1,5,9])])]),(22,[(6,44,[])]),(23,[(5,25,[])]),(24,[(6,9,[])]),(26,[(3,4,[])]),(27,[(3,4,[(2,1,[1])]),(10,14,[(11,6,[])]),(13,9,[]),(16,5,[(3,2,[2])])]),(29,[(8,14,[(11,6,[])])]),(35,[(6,21,[])]),(38,[(1,24,[]),(2,13,[])]),(39,[(1,12,[])]),(40,[(2,18,[])]),(43,[(3,10,[])]),(44,[(6,51,[])]),(46,[(10,6,[(2,3,[3])])]),(47,[(4,5,[])]),(48,[(12,10,[]),(20,5,[(3,2,[2])])]),(50,[(6,11,[]),(8,4,[])]),(51,[(2,16,[])]),(53,[(6,12,[(9,4,[])]),(10,4,[])]),(57,[(11,21,[])]),(58,[(34,12,[])]),(59,[(1,13,[])]),(60,[(2,11,[])]),(61,[(12,20,[(17,12,[])]),(15,10,[]),(17,10,[(7,6,[3,5])])]),(64,[(22,17,[]),(29,7,[])]),(68,[(11,9,[(4,5,[5])])]),(69,[(19,13,[(10,7,[]),(6,10,[0,2,10]),(8,6,[0,2,10]),(9,8,[10])])]),(70,[(2,10,[(4,1,[]),(2,4,[4])])]),(73,[(7,7,[]),(8,13,[]),(9,7,[]),(10,9,[]),(11,14,[]),(23,7,[]),(24,13,[]),(25,7,[]),(28,13,[(10,5,[])]),(29,9,[]),(30,18,[]),(32,20,[])]),(75,[(9,19,[]),(17,7,[]),(18,13,[]),(19,7,[]),(22,13,[(10,5,[])]),(23,9,[]),(26,12,[(9,4,[])]),(28,17,[])]),(77,[(2,18,[])]),(78,[(6,10,[]),(12,38,[]),(13,10,[]),(16,15,[])]),(79,[(2,3,[]),(6,11,[(8,3,[])]),(7,16,[(9,12,[0,12])]),(9,11,[(8,3,[])]),(10,10,[]),(11,27,[]),(12,6,[]),(13,11,[(4,7,[0,7])]),(16,11,[(8,3,[])]),(17,8,[]),(22,12,[(9,4,[])]),(25,4,[]),(29,11,[(8,3,[])]),(30,17,[(9,13,[0,13]),(10,9,[])]),(32,11,[(8,3,[])]),(33,9,[]),(34,9,[]),(35,3,[])]),(80,[(2,11,[]),(6,11,[(8,3,[])]),(7,11,[(8,5,[]),(2,8,[3,8]),(6,2,[8]),(7,6,[8])]),(11,11,[(8,3,[])]),(12,10,[]),(14,11,[(2,7,[3,5])]),(15,6,[(2,3,[3])]),(16,10,[]),(17,11,[(2,7,[3,5])]),(20,6,[(2,3,[3])]),(22,11,[(8,3,[])]),(23,10,[]),(24,11,[(2,7,[3,5])]),(26,11,[(8,5,[]),(6,8,[8]),(7,6,[8])]),(29,8,[(5,2,[]),(3,5,[5]),(4,3,[5])]),(30,11,[(8,3,[])]),(31,10,[(7,4,[]),(2,7,[3,7]),(5,2,[7]),(6,5,[7])]),(33,11,[(8,3,[])]),(34,10,[(7,4,[]),(2,7,[3,7]),(5,2,[7]),(6,5,[7])]),(35,10,[]),(37,10,[]),(39,4,[])]),(83,[(6,9,[])]),(87,[(7,12,[]),(8,11,[])]),(88,[(0,16,[(12,11,[4,8])])]),(89,[(2,9,[(5,4,[2])])]),(90,[(1,11,[])]),(94,[(8,17,[(13,7,[])])]),(95,[(8,19,[])]),(96,[(3,13,[]),(4,11,[]),(14,22,[(18,11,[]),(12,18,[3,7,9])])]),(97,[(4,14,[(11,6,[])]),(7,15,[(12,7,[]),(5,12,[3,7])]),(11,10,[]),(16,10,[]),(20,13,[(10,3,[]),(4,10,[2])])]),(102,[(32,17,[(5,10,[]),(6,5,[])])]),(104,[(3,5,[(2,1,[0])]),(5,4,[(2,1,[1])])]),(106,[(4,9,[(5,6,[6])])]),(108,[(6,6,[]),(7,14,[(5,10,[6,10])]),(11,7,[(2,3,[3])]),(13,8,[(4,5,[5])])]),(109,[(8,7,[(2,3,[3])])]),(118,[(3,3,[]),(7,3,[]),(11,16,[])]),(120,[(11,4,[])]),(121,[(7,14,[]),(15,13,[])]),(122,[(2,3,[]),(11,11,[(8,3,[])]),(12,10,[]),(19,14,[(6,11,[11])]),(21,11,[]),(23,10,[]),(24,26,[]),(26,11,[(8,3,[])]),(27,10,[]),(32,11,[(8,3,[])]),(33,8,[])]),(125,[(4,11,[(8,3,[])]),(5,10,[]),(7,14,[(9,6,[]),(11,9,[]),(7,11,[11]),(8,7,[11]),(10,8,[11])]),(23,8,[]),(52,14,[]),(56,6,[(2,3,[3])])]),(126,[(1,8,[]),(3,10,[]),(5,10,[]),(6,9,[]),(8,9,[(6,3,[]),(4,6,[6]),(5,4,[6])]),(10,10,[(7,4,[]),(5,7,[7]),(6,5,[7])]),(11,11,[(8,5,[]),(6,8,[8]),(7,6,[8])])]),(127,[(4,6,[])]),(128,[(3,4,[]),(5,4,[]),(9,4,[]),(11,4,[]),(14,5,[]),(15,4,[]),(19,4,[]),(21,4,[]),(23,4,[]),(25,11,[]),(27,4,[]),(28,4,[])]),(129,[(2,11,[]),(5,13,[]),(6,10,[])]),(133,[(13,12,[(9,3,[]),(2,9,[3])])]),(137,[(20,13,[])]),(138,[(0,15,[])]),(139,[(4,18,[])]),(141,[(9,15,[]),(10,10,[]),(11,9,[])]),(142,[(3,21,[(18,13,[])])]),(143,[(3,15,[]),(6,12,[])]),(144,[(1,15,[])]),(147,[(6,11,[(7,4,[]),(5,7,[0,2,7]),(6,5,[7])]),(14,6,[(2,3,[3])]),(18,8,[(5,2,[]),(3,5,[0,5]),(4,3,[5])]),(24,7,[(2,3,[3])]),(27,7,[(2,3,[3])]),(32,9,[(5,2,[]),(3,5,[0,5]),(4,3,[5])]),(35,7,[(2,3,[3])])]),(155,[(11,4,[]),(12,11,[]),(13,9,[]),(14,9,[]),(16,4,[]),(17,10,[]),(19,8,[]),(23,17,[]),(29,4,[]),(30,14,[])]),(156,[(6,12,[(9,4,[])]),(11,3,[]),(20,16,[(9,13,[0,13])]),(22,4,[]),(29,22,[(15,19,[0,19])]),(31,5,[])]),(158,[(4,13,[]),(9,9,[]),(14,5,[])]),(162,[(5,12,[(9,4,[])]),(9,4,[])]),(181,[(3,15,[]),(5,13,[])]),(182,[(1,14,[]),(4,13,[])]),(183,[(2,8,[]),(3,9,[])]),(185,[(1,35,[]),(3,10,[])]),(186,[(1,23,[])]),(192,[(11,10,[]),(13,15,[(12,7,[]),(5,12,[])]),(14,10,[(7,6,[0,4])]),(19,4,[]),(20,4,[])]),(195,[(6,7,[])]),(196,[(13,8,[]),(18,20,[])]),(197,[(1,10,[])]),(200,[(1,10,[(2,5,[5]),(3,2,[]),(6,3,[3])])]),(207,[(1,7,[(1,2,[2])])]),(208,[(1,7,[(1,2,[2])])]),(209,[(1,7,[(1,2,[2])])]),(213,[(5,11,[(2,6,[6]),(4,2,[])])]),(215,[(9,10,[])]),(217,[(6,10,[])]),(218,[(7,6,[(2,3,[3])]),(8,6,[(2,3,[3])])]),(224,[(12,11,[])]),(225,[(1,12,[])]),(226,[(7,6,[(3,2,[0])]),(11,4,[])]),(233,[(1,11,[]),(6,7,[]),(10,14,[]),(11,12,[]),(14,13,[]),(16,17,[(11,10,[5])]),(25,13,[(10,5,[])])]),(234,[(4,5,[]),(8,8,[(4,5,[5])]),(10,8,[(4,5,[5])]),(12,8,[(4,5,[5])]),(14,6,[(2,3,[3])]),(16,6,[(2,3,[3])]),(18,6,[(2,3,[3])]),(20,8,[(4,5,[5])]),(23,8,[(4,5,[5])]),(30,9,[(5,2,[]),(3,5,[0,5]),(4,3,[5])]),(33,12,[(7,4,[]),(5,7,[0,7]),(6,5,[7])])]),(237,[(8,15,[])]),(248,[(7,15,[]),(8,15,[]),(9,15,[]),(10,15,[]),(17,15,[]),(18,15,[]),(23,15,[])])]
def assoc {a:Type} (d:a) (k:Nat):List (Nat×a)->a
 | []=>d
 | p::ps=>if Nat.beq p.1 k=true then p.2 else assoc d k ps
def pl0:Nat->List (Nat×aA)->List (Nat×aA)
 | 0,l=>l
 | n+1,l=>pl0 n ((n,[])::l)
def YS (i:Nat):List (Nat×aA)->List (Nat×aA)
 | []=>[]
 | x::l=>bif Nat.beq x.1 i then l else x::YS i l
def plI (i j:Nat) (r:aA):List (Nat×aA)->List (Nat×aA)
 | []=>[]
 | x::l=>bif Nat.beq x.1 j then x::(i,r)::l else x::plI i j r l
def plM (l:List (Nat×aA)):List (Nat×Nat×aA)->List (Nat×aA)
 | []=>l
 | m::ms=>plM (bif Nat.beq m.2.1 99 then (m.1,m.2.2)::YS m.1 l else plI m.1 m.2.1 m.2.2 (YS m.1 l)) ms
def Pl:cR:=λK a=>match assoc (0,[]) a (assoc [] K Pd) with
 | (n,ms)=>plM (pl0 n []) ms
end V
namespace T
open Go V
def Vh:List (Nat×aA):=[(3,[5,20817,17,4,16,4112,16400,21824,21824,1052688,1,20480,64,17448321024,68157504]),(4,[4,0,20,82257,1280]),(5,[5,281543712981008]),(6,[1,4]),(7,[85,0,5,24576,0,21]),(8,[0,0,4,16,256,16385]),(9,[1,67109888]),(10,[0,0,4,1025]),(11,[1,0,1,16385]),(12,[21,0,1,64,0,4,67108864,1,4,1]),(13,[0,0,4,4096,268435456,64,0,1280,1064960,4398063288324,4,4]),(14,[0,20817,0,80,1361]),(15,[5,72128031568756800]),(16,[1,20564,21824,16,1,64,16,64,0,1,1,0,17,16384,1,65600]),(17,[5,72128031568756800]),(18,[85,105235087360,267520,64,0,4,69222656,4,64,0,64,5,4,5]),(19,[1,384,64,0,64,262144,256,16,0,16777216,0,4,16778240,4,257]),(20,[1024]),(21,[0,4398046511104,4477952,0,1025,0,16,274878955524,4,4]),(22,[21,1180663682709764178944,1,64,0,4,72057594105036800,1,4,1024]),(23,[1,268435456,64,0,4,281479271677956,4,4]),(24,[1,0,1,16,0,4,1024,1,4,1]),(26,[1,20817,0,80,83265,5441]),(27,[0,82256,0,80,65536,64,0,4,65536,16384,85262352,4,64,65600,4,0,320,64,80]),(28,[1,0,1,65537]),(29,[1,16,64,64,0,4,4112,1024,85262352,4,4097,4194304,0,4,4100,1044,4,64,4]),(30,[1,6446911744]),(31,[5,16,5,353]),(32,[0,16448,4,16389]),(33,[1,16,0,4,0,5,4,1]),(34,[5,64]),(35,[1,262144,24,17,0,17,1649267441665,388,1085696,262401,5]),(36,[1,1,1025,16,0,65552,257,5]),(37,[260,0,16,4,4]),(38,[1,70918567121920,16793600]),(39,[1,4198400]),(40,[1,16,17179869184,262144,0,65,1,16385,1,16384,69,1]),(41,[1,0,1,1,1025,0,16,1025,256,257,4,5]),(42,[1,0,1,257]),(43,[5,0,5,327936]),(44,[1,0,1,16,0,4,18889466212953561759744,1,4,1]),(45,[1,4,0,81,4,16,1,1,1,5587200,0,261,5,261,4,0,4117,81,1381700,0,5205,16,16,257,68]),(46,[5,4,64,4,0,5456,0,5456,16,69,1284]),(47,[5,0,16,0,320,81]),(48,[0,0,80,16388,17,0,17,0,16,0,16,65536,262401,256,1,0,17,0,65,0,320,320]),(49,[1,4,16,0,65600,257,5]),(50,[5,272,1,16,0,4,1396752,4,81]),(51,[1,0,1074003969,4]),(53,[5,4,1088,16,0,4,5328912,4,69,4,81]),(54,[1,4,97,4117,5]),(55,[5,4195333]),(57,[1,1,1024,17,16,262161,1,16,0,17,1024,16777280,1,1]),(58,[64,16777216,0,4,4,1048580,4,21,4,0,64,0,0,68,4,4,5,5,4,0,64,4,20,5,4,0,5,4,5,4,4,5,4,0,1024,5]),(59,[1,16777472]),(60,[1,1040,1048576,1,1,4352,1,16385,1]),(61,[1,0,5,4,1,4,1,4,1,4,1,4,349234528256,69,4,4,4,266240,4,4,69,4,4,4,4,69,4,4,4,4,5]),(62,[1,1,0,64,0,1,0,1,269488144,5,17,5]),(63,[5,1,1,1,0,17,17,0,17,1,85]),(64,[20,0,4,4,64,4096,5,4,0,4,340,4,87365,0,1398017,1,84,21585,4,16,0,4,1024,345093,4,1,1,0,17,0,1380369,84]),(65,[5,256]),(66,[1,4096]),(67,[5,64,274945015872]),(68,[5,64,16,20816,16,4,64,4,5456,16,69,81984]),(69,[5,64,16,20816,16,4,1,64,0,16,4,5456,69,17,16,16,0,21824,5456,20989248]),(70,[1,0,262145,4]),(71,[5,4276225,69,5]),(72,[1,64,1,16,0,4,4096,1,4,1]),(73,[1,64,16,16,0,4,0,4097,0,4097,65537,67109124,4,1024,16,0,4,4096,256,16,0,4,0,4097,0,4097,0,5,21315585,65537,17184064528,4,274898879504,4,5]),(74,[5,256]),(75,[1,64,16,16,0,4,256,0,65,1048576,65,64,64,1,0,17,0,4097,0,4097,0,5,21315585,66561,0,5,5328901,4161,4296343568,4,5]),(76,[5,256,0,4,0,5,4,1]),(77,[1,0,17184063489,5]),(78,[1,4,1281,65536,65536,66,262208,64,4,1,0,17,25161358916539828404241,262481,4,1281,268451840,66,5]),(79,[5,0,20,256,0,4,1332224,1343226896,4,1332224,349184,1073742080,1024,1311824,4,4,1332224,16388,64,1,0,17,5328896,261,4,81,4,0,20736,1332224,5372903680,4,1332224,81988,87044,20]),(80,[5,1024,1048576,16384,0,4,1332228,1312005,4,87124,4,1332224,349184,0,1064965,1285,349188,1048581,69,66561,1285,4,1332224,349188,1048581,69,1311760,4,0,20497,1332228,327941,4,1332228,327941,349184,69,64,1041,81]),(81,[1,4,16,0,4,1028,64,1024,385,4,5]),(82,[1,1,1,0,4,4101,4,65,0,4,1029,4,5]),(83,[1,0,1,16,0,4,1024,1,4,1]),(84,[1,16842768]),(85,[5,257]),(86,[262144,262144,64,64,17,67108928,0,1,0,1,276,4,5,17,0,16,4,4,87296,85]),(87,[1024,17,0,16,4,4,0,4194304,0,4,21,4,5,4,21]),(88,[1078198272]),(89,[1,0,66564]),(90,[1,1081604]),(91,[4,16,20,16,20,21765]),(92,[1,1,5,1]),(93,[0,4096,65536,263172,4]),(94,[1,0,64,5,333056,1,20480,4,5659426816,69]),(95,[1,1,0,4,256,5,4,4,68719476736,5,0,0,1,1025]),(96,[1,0,4,16777217,0,1,65,4,1,0,4,1,4,1,5795257253888,69,4,65,0,0,1,4,1]),(97,[1,0,4,20480,85262336,69,4,341049344,69,4,5505280,262144,0,5,4,20496,262144,0,5,4,21315584,69,4,333056,69,4,4,1,4,1]),(98,[1,1052688,1,4112,1,4112,1,1]),(99,[1,256,17,5]),(100,[1,4,16,0,4,4,1,4,1]),(101,[20,4,256,17,64,16,1,256,4,1,0,84,256,17,349205,17,84,17,340]),(102,[21,64,21,4,1,0,17,64,16,85,0,5393,0,261,17,0,85,0,85,4,4,4097,4,65,4,65,4,1,0,17,4096,1349,4294967297,17,337]),(103,[1,4,16,256,4]),(104,[1,64,16,320,256,80]),(105,[1,64,16,68,256,4]),(106,[5,20816,16,5456,82177]),(107,[1,68,256,4]),(108,[5,64,4,16,0,4,0,83968000,4,0,83264,5124,5456,20480]),(109,[5,64,16,4,64,4,5456,69,5124]),(110,[1,4,69,69,5]),(111,[1,1048640]),(112,[5,0,4,4,65600,4,4,4,4,4,4,65600,4,64,4,64,0,1,0,4,64,4,65600,4,65600,4,65600,4,68786651200,64]),(113,[1,64,4,16,0,4,4194369,4,17,16,0,4100,0,4,4113,4,17,4,4,4,17,4,16,1208999606591198907596816,4,17,4,17,4,17179869201,4,4112,4,17,4,4112,4,4,4,17,4,16401,4,17,4,4,17,4,4294983696,68720525329]),(114,[1,4,16,16,0,4,0,16401,4,5]),(115,[1,16,0,4,16,1,4,1]),(116,[5,4,1281,260,66,5]),(117,[1,16384,1,64,17,1025,5]),(118,[5,64,0,21,0,333057,0,21,349248,65,20564,1430258688,0,325,20564]),(119,[1,4,16,0,4,0,5,4,1]),(120,[5,16384,4,69,16777473,67125520,65616,4,1281,16388,66,85]),(121,[1,1024,16,0,4,0,5,89392145,4,4,1281,16,0,4,0,16777232,4,66,5]),(122,[5,0,20,4096,256,4096,65600,4096,64,21824,64,1332224,349184,4,1,0,4096,1,1,67387392,64,1396752,64,349184,1130297953419520,64,1332224,349188,4,4416,1024,65600,1332224,16452,5200]),(123,[1,1,4,68]),(124,[5,1104]),(125,[5,16384,1024,64,1332224,349188,256,84152337,0,17,21828,16384,4,0,4,1088,4,1088,4,1,64,0,4,0,5,4,0,64,4,257,1025,17,276,4,1088,4,68,4,276,4,256,0,1092,4,68,4,276,4,1088,4,1088,4,67108864,1024,0,1088,1285]),(126,[5,16384,21828,349184,1093,262144,0,4,82001,4,327697,1310801]),(127,[5,16,0,4,0,5,4,1]),(128,[85,0,4,80,4,80,4,1281,4,80,4,80,4,0,320,80,4,5,4,80,4,80,4,80,4,1048577,0,80,80,5]),(129,[17,16,0,20,65792,17400064,327696]),(130,[21]),(131,[4353,262400,0,262401]),(132,[17,16400,1280,16400,1280,16401,1280,20]),(133,[325,16,357616156938241,340,0,84,0,4,5591041,4,341049345,340,4,5328897,340,4,21824,21824,260,1397781,5,1332245,340,84]),(134,[1,0,21,1]),(135,[4353,1,262148,262148]),(136,[1,17408,65536,263428,5]),(137,[20,5456,17,84,17,0,320,16,84,4,1,4,1397765,4,1397765,4,86017,4,86017,4,22020352,4,357826565,4,1396741,0,340,337,5457,1,84,337]),(138,[268435456,0,1]),(139,[1,17,0,1,65536]),(140,[17,21824,16,84,16400,20,64,20987905,5259265]),(141,[21,64,16400,1,16777232,1,0,24576,0,403702784,262145,66561,1]),(142,[4,0,20,1396942324736,1,20,20]),(143,[4,1,262144,268435456,0,64,6291457,4,1393921]),(144,[5,357564416,17,1,4195588,1]),(145,[5,4,64,16,64,5,1,0,17,256,5,1,0,1,1024,5,1,1,0,17,65537,17,5121,81]),(146,[1,4112,65,4112,65,4112,65,1]),(147,[5,64,16,329024,21824,21824,1311040,16,83264,5456,69,0,21824,69,1284,16,83264,5456,20500,16,64,4,0,5456,5124,16,83264,5124,5456,256,16,83264,81940,16,16,5124]),(148,[1,16777472,1,65536,17,16,68,1,1,5]),(149,[1,17]),(150,[1,17]),(151,[5,64,1,65600,1,65600,1,65600,1,64,1,64,1,64,1,65600,1,1]),(152,[1,1,0,17,0,1,1]),(153,[5,4,65,65552,21,16,0,4,4096,85,4,1029,325]),(154,[5,4,65,0,21,64,16405,0,21,1,0,17,21829,85]),(155,[5,16384,256,268435472,1025,1024,0,16,0,4,0,85,0,65793,65793,4,85,349185,0,16449,16,0,4,65536,65,4,0,65,0,85,68157445,1426068501]),(156,[5,256,4,16,0,4,5328912,4,261,4,0,20,4096,0,21825,0,324,16,0,4,1077936128,4,81,16448,0,324,16,0,4,4415226380288,4,320]),(157,[5,4112]),(158,[5,21824,256,324,16778240,1,0,17,1048576,0,4,321,1044,18,320,324]),(159,[5,64,64,4112,16,4113,1,1,68,1,68,1,4112,1,1,16,1,1,16,1,4112,1,4113,1,1]),(160,[1,4,321,1044,18,4]),(161,[1,16781328,1,16,1,69]),(162,[5,4,16,0,4,5328912,4,69,4,81]),(163,[1,1396736,1,4096,0,16782340,5]),(164,[5,0,4096,256]),(165,[0,17]),(166,[1,17]),(167,[1,1024]),(168,[1,256]),(169,[1,1024]),(170,[0,1,4,4]),(171,[5,67174464]),(172,[4,1,4,81,4,321,20]),(173,[20,64,1,1,1,84,4,69,4,69,4,69,4,21829,4,21829,4,1345,4,1345,4,1345,4,1345,4,1345,4,1345,1,84,337]),(174,[69,0,4,1280,4,1280,4,1280,87041]),(175,[21,64,4113,5,16400,5,5121]),(176,[20,83269,1,84,84]),(177,[5,1,4,4,20,4,4,20,4,20,4,4,20,4,5,5]),(178,[81,0,4,84,4,4,21825,0,340,337,84]),(179,[81,0,4,1397761,4,5591041,4,1397761,84]),(180,[0,1041]),(181,[5,16,5,268435472,5,16777216,16385,0,69,21]),(182,[5,16,5,16384,20971776]),(183,[1,0,16641,65793]),(184,[21,64,4113,5,16,5,64,20481,20481]),(185,[5,17179885584,1,262145]),(186,[17,1052688,20,5570821]),(187,[4,16,20,348309]),(188,[85,21824,17,21764,64,5,21]),(189,[1,16,1,0,17,4096,64]),(190,[0,16,17,1,0,17,1024,17,4]),(191,[5,1,1,0,17,16385,17]),(192,[5,0,1360,87296,5456,1,1,1,16,0,4,16,64,341049344,267280,4,1,4,16,81,81]),(193,[1,64,1,345424,268501009]),(194,[1,0,1,16,266240,69,17]),(195,[5,0,256,16,0,4,0,1024,17,1,4,1]),(196,[1,4,0,17,0,5,16384,0,4,1,16,0,4,0,1028,4,0,69,279172874241,4,256,0,256,0,69,1041,4,333057,1041,5]),(197,[5,328704]),(198,[5,1,4,17,4,17,4,65552,1052688]),(199,[0,16448]),(200,[5,262144]),(201,[1,69]),(202,[1,69]),(203,[1,69]),(204,[1,69]),(205,[5,0,4,5,4,81,325]),(206,[5,0,4,5,4,5,325]),(207,[5,4096]),(208,[5,4096]),(209,[5,4096]),(210,[5,65600]),(211,[1,0,1,4,0,17,17,4096,17,0,1,17,16,65]),(212,[1,17]),(213,[5,4096,1,0,1,1048640]),(214,[1,5457,5]),(215,[1,0,0,1396800,17,0,97,68,0,263168,5]),(216,[85,1540,0,0,5,1281]),(217,[5,16,1,1,0,17,278528,256,17,4]),(218,[5,64,64,1360,1332224,256,0,1284,1284]),(219,[5,1,4,80,4,80,4,80,4,80,4,80,80]),(220,[1,16,16,1,1,1,1,1,1,0,1,5,1,1]),(221,[1,1,1,1]),(222,[5,16,5,65,5185]),(223,[5,349201,1297,21829,85]),(224,[1,0,1,4,1,4,1,4,1,4,1,4,1396736,5,17,1,64,65,4,4,1]),(226,[5,5456,16,64,0,83264,16,1044,329024,4,1088,81]),(227,[1,68]),(228,[5,1041,5184]),(229,[5,16,16,16,16,64,4164,16,17,1029,66629,69]),(230,[256,65,65]),(231,[1,1,16,0,4,16401,4,5]),(232,[1,2,0,16,0,4,4,4,0,4]),(233,[1,1396736,17,1,1,0,4096,16777232,1,263168,67108864,5586944,1,5,0,0,0,0,5,0,4,0,0,0,0,21316608,0,0,4,0,1,1]),(234,[5,64,4,0,320,16,262144,64,20544,64,20544,64,20544,16,1284,16,1284,16,1284,65600,20544,64,20816,20544,16,83264,321,4112,20816,21824,81940,16,82256,5243136,1280]),(235,[1,1025]),(237,[1,4112,65,16,1,16,1,4112,268697600,65]),(239,[5,65,0,1,1025]),(241,[5,16,4,1,64,0,16,20816,4,69,17,321])]
def Qd:List (Nat×List (Nat×aA)):=[(12,[(58,[2,3,14,15])]),(13,[(250,[0,2,4,30,31,32])]),(16,[(4090,[3,5,6,7,8])]),(18,[(122,[3,7,39,40])]),(19,[(58,[2,3,13,14,15])]),(20,[(2,[0,1])]),(21,[(490,[2,3,44,45,46])]),(22,[(58,[2,3,50,51])]),(23,[(58,[1,2,3,20,21])]),(24,[(58,[0,1,12,13])]),(27,[(250,[0,2,3,4,6,30,31])]),(29,[(122,[1,2,3,4,16,17])]),(33,[(26,[0,1,7,8])]),(35,[(122,[0,1,7,8,9])]),(36,[(122,[1,5,6,7])]),(37,[(6,[0,8,9,10])]),(41,[(122,[3,12,13,14])]),(44,[(58,[0,1,12,13])]),(45,[(1022,[0,3,4,5,6,7,8,9])]),(46,[(28,[1,3,4])]),(48,[(2042,[2,3,4,6,7])]),(49,[(58,[0,1,5,6])]),(50,[(122,[2,5,6,7,14,15])]),(53,[(122,[2,5,6,7,18,19])]),(57,[(506,[0,4,5]),(28,[0,3])]),(62,[(28,[0,1,5])]),(63,[(122,[0,1,6,7,8])]),(64,[(1018,[0,1,4,14,15]),(250,[0,1,4,12,73,74])]),(68,[(508,[1,3,4,5,6])]),(69,[(1020,[1,3,4,5,6,7])]),(72,[(58,[0,15,16])]),(73,[(506,[1,2,3,4,77,78]),(1037114,[1,2,3,4,6,7,8,77,78,92,93]),(122,[1,2,3,4,18,19])]),(75,[(122,[1,2,3,4,20,21]),(2005498,[1,2,3,4,5,6,7,8,9,20,21])]),(76,[(26,[1,2,9,10])]),(78,[(8186,[1,2,4,6,7,8,9])]),(79,[(503738,[2,5,6,14,15])]),(81,[(58,[0,1,5,10,11])]),(82,[(122,[3,18,19]),(58,[0,3,6])]),(83,[(58,[0,1,12,13])]),(86,[(250,[0,1,4,5,72,73,74])]),(87,[(26,[0,1,2,15,16,17])]),(99,[(12,[0,1])]),(100,[(58,[0,3,7,8])]),(101,[(1020,[0,1,4,7,8,9,10]),(28,[0,1,4,7])]),(102,[(122,[0,5,6]),(1026029554,[0,5,6,8])]),(108,[(122,[1,3,4,5,13,14])]),(109,[(124,[1,3,4,5])]),(113,[(122,[0,1,5,6,16,17])]),(114,[(122,[0,1,5,6,12,13])]),(115,[(26,[0,1,2,9,10])]),(117,[(58,[0,3,4])]),(119,[(58,[0,3,7,8])]),(121,[(506,[2,3,4,8,11,46,47]),(58,[1,2,3,4,8,9,19,20])]),(125,[(4189162,[1,2,5,6,12,15,109,110])]),(127,[(26,[0,3,7,8])]),(137,[(122,[0,1,2,3,8,34,35,36])]),(143,[(122,[0,1,4,6,30,31,32])]),(145,[(8186,[0,4,7,8]),(250,[0,4,5])]),(148,[(124,[0,5,6])]),(152,[(26,[0,1,5])]),(153,[(250,[0,1,6,26,27])]),(154,[(2042,[8,9,10,11])]),(155,[(8146,[1,2,5,11,14,56,57]),(8186,[1,2,3,4,5,11,12,13,16,113,114])]),(156,[(32602,[2,5,6,7,12,13,70,71]),(8186,[2,5,6,7,15,107,108]),(122,[1,2,5,6,7,23,24])]),(158,[(250,[1,3,7,9,10])]),(162,[(58,[1,2,5,6,12,13])]),(189,[(58,[1,2,3,4])]),(190,[(122,[2,3,4,5])]),(191,[(58,[1,3,4])]),(192,[(252,[1,2,5,6,7,8,9]),(32298,[1,2,5,6,7,8,9,34,35])]),(195,[(58,[0,1,5,16,17])]),(196,[(26,[1,2,3,4,8,9]),(431018,[1,2,3,4,8,9,10,11,44,45])]),(211,[(252,[0,3,4,5])]),(215,[(508,[7,8])]),(217,[(122,[2,3,4,5,6,7])]),(226,[(28,[1,3,4])]),(231,[(58,[0,3,6,7])]),(232,[(122,[0,3,7,8])]),(233,[(4090,[0,3,6,140,141])]),(241,[(124,[1,3,4,5])])]
def Ew (k:Nat):aA->Bool
 | []=>false
 | x::l=>Nat.beq x k||Ew k l
def CD (K:Nat):Option (ao->ae->Nat->Option (TV×ae)):=
 if K=25 then some (bI 4 32 0) else if K=2025 then some (bI 4 32 2) else if K=56 then some (bI 1 8 0) else if K=52 then some (bI 4 24 0) else if K=242 then some CE else if K=225 then some sC else if K=236 then some yh else if K=238 then some yg else if K=240 then some nR else if K=6 then some ja else none
def Pw:aA->Nat->Nat
 | [],_=>0
 | x::_,0=>x
 | _::l,n+1=>Pw l n
def AA:An:={
 an:=λK id i=>Pw (assoc [] K Vh) id/4^i%4
 rw:=λK=>Ew K [7,8,18,20,30,31,35,37,38,40,58,60,61,86,87,88,89,90,91,92,93,94,95,96,97,128,129,130,131,133,134,135,136,137,138,139,141,142,143,144,163,176,179,181,182,183,186,187,215,224,225,230,233,236,238,242,2025]
 aM:=λK=>Ew K [73,75,77,78,116,118,120,121,155,196]
 lv:=λK p=>assoc [] p (assoc [] K Qd)
 tp:=CD}
namespace Q
abbrev I (n:Int):TV:=.v (.int .i64 n)
abbrev U (n:Int):TV:=.v (.int .u8 n)
abbrev B (b:Bool):TV:=.v (.bool b)
abbrev S (l:List UInt8):TV:=.v (.string {data:=l.toArray})
abbrev N0:TV:=.sl true []
@[simp] def I0:TV:=I 0
@[simp] def I1:TV:=I 1
@[simp] def Bt:TV:=B true
@[simp] def Bf:TV:=B false
@[simp] def Vn:TV:=.v (.pointer none)
@[simp] def z2:ao:=[I 0]
@[simp] def z3:ao:=[I 0]
@[simp] def z5:ao:=[U 0]
@[simp] def z9:ao:=[S []]
@[simp] def z24:ao:=[N0,N0,I 0,I 0,I 0]
@[simp] def pV:ao:=[N0,N0,N0,N0,N0,N0,N0,N0,N0]
@[simp] def JZ:ao:=[U 0,U 0,I 0]
@[simp] def z51:ao:=[I 0,N0,N0,I 0,S [],I 0,I 0]
@[simp] def gK:ao:=[I 0,I 0,I 0]
@[simp] def z70:ao:=[N0,N0,N0]
@[simp] def z82:ao:=[N0,N0,N0,N0,N0,N0,N0,N0,N0,N0,N0,N0,N0,N0,I 0,I 0,I 0,.v (.pointer none),.v (.pointer none),I 0,N0,N0,B false,U 0,U 0,I 0,N0,N0,N0]
@[simp] def z86:ao:=[I 0,I 0,I 0,N0,N0]
@[simp] def z93:ao:=[I 0,I 0,I 0,N0,N0,.v (.pointer none),I 0,N0]
@[simp] def cE:ao:=[U 0,I 0,I 0,I 0]
@[simp] def K2:ao:=[U 0,I 0,I 0]
@[simp] def X6:ao:=[U 0,U 0,I 0,I 0]
@[simp] def qN:ao:=[S [],I 0,I 0,I 0,I 0,I 0,I 0,I 0]
@[simp] def z117:ao:=[N0,N0,N0,N0,N0,N0,N0,N0,N0,N0,N0,N0,I 0,.v (.map none)]
@[simp] def K1:ao:=[I 0,I 0,I 0,I 0,I 0]
@[simp] def z131:ao:=[N0,I 0,I 0,I 0,I 0,I 0]
@[simp] def et:ao:=[N0,N0,N0,N0,N0,N0,N0,N0,N0,N0,N0,N0,I 0,I 0,I 0,I 0]
@[simp] def z143:ao:=[N0,N0,N0,N0,N0,N0,N0,N0,N0,N0]
@[simp] def X5:ao:=[N0,N0,I 0,I 0]
@[simp] def A8:ao:=[I 0,I 0,N0]
@[simp] def z156:ao:=[U 0,I 0]
@[simp] def dw:ao:=[U 0,I 0,I 0,I 0,I 0,S []]
@[simp] def z162:ao:=[.v (.pointer none)]
@[simp] def z164:ao:=[U 0,I 0,S [],N0]
@[simp] def O6:ao:=[U 0,I 0,S [],N0,B false]
@[simp] def bS:ao:=[U 0,I 0,I 0,I 0,S []]
@[simp] def bR:ao:=[N0,N0,N0,N0,N0,N0,N0,N0,N0,N0,I 0,I 0,I 0]
@[simp] def G0:ao:=[S [],I 0]
@[simp] def BQ:ao:=[S [],I 0,I 0]
@[simp] def FZ:ao:=[S [],I 0,I 0,I 0]
@[simp] def K0:ao:=[I 0,S [],I 0,I 0,I 0]
@[simp] def pL:ao:=[I 0,I 0]
@[simp] def pK:ao:=[I 0,I 0,I 0,I 0,I 0,I 0,I 0,I 0]
@[simp] def O5:ao:=[I 0,I 0,I 0,I 0]
@[simp] def O4:ao:=[U 0,U 0,U 0,U 0,U 0,U 0,U 0,U 0,U 0,U 0,U 0,U 0,U 0,U 0,U 0,U 0,U 0,U 0,U 0,U 0]
@[simp] def FY:ao:=[.v (.pointer none),N0]
@[simp] def X4:ao:=[N0,N0,N0,N0,N0,N0,N0,N0,N0,.v (.pointer none),.v (.pointer none),N0,.v (.map none),B false]
@[simp] def KM:List (Nat×Nat):=[(0,1),(1,1),(2,1),(3,1),(4,1),(5,1),(6,1),(7,1),(8,1)]
@[simp] def Pf:List (Nat×Nat):=[(0,1),(1,1),(2,1),(3,1),(4,1),(5,1),(6,1)]
@[simp] def kF:List (Nat×Nat):=[(0,1),(1,1),(2,1)]
@[simp] def p73:List (Nat×Nat):=[(0,1)]
@[simp] def p82:List (Nat×Nat):=[(0,9),(9,3),(12,5),(17,1),(18,1),(19,1),(20,1),(21,1),(22,1),(23,3),(26,1),(27,1),(28,1)]
@[simp] def AI:List (Nat×Nat):=[(0,1),(1,1),(2,1),(3,1),(4,1),(5,1),(6,1),(7,1)]
@[simp] def YZ:List (Nat×Nat):=[(0,9),(9,3),(12,1),(13,1)]
@[simp] def nh:List (Nat×Nat):=[(0,1),(1,1),(2,1),(3,1),(4,1)]
@[simp] def YY:List (Nat×Nat):=[(0,1),(1,1),(2,1),(3,3)]
@[simp] def YX:List (Nat×Nat):=[(0,1),(1,1),(2,9),(11,1),(12,3),(15,1)]
@[simp] def a3S:List (Nat×Nat):=[(0,9),(9,1)]
@[simp] def cN:List (Nat×Nat):=[(0,1),(1,1),(2,1),(3,1)]
@[simp] def mG:List (Nat×Nat):=[(0,1),(1,1)]
@[simp] def sY:List (Nat×Nat):=[(0,1),(1,1),(2,1),(3,1),(4,1),(5,1)]
@[simp] def Pg:List (Nat×Nat):=[(0,4),(4,1)]
@[simp] def YW:List (Nat×Nat):=[(0,9),(9,1),(10,3)]
@[simp] def YV:List (Nat×Nat):=[(0,9),(9,1),(10,2),(12,1),(13,1)]
section
variable {X:CX}
def l1 (a:TV) (k:TV->RA X):RA X:=ld false 1 a k
def lg (n:Nat) (a:TV) (k:TV->RA X):RA X:=ld true n a k
def bo (op:BinOp) (t:aP) (x y:TV) (k:TV->RA X):RA X:=boP X.P op t x y k
def uo (op:UnOp) (x:TV) (k:TV->RA X):RA X:=uoP X.P op x k
def cv (a d:aP) (x:TV) (k:TV->RA X):RA X:=cvP X.P a d x k
def sl (t:aP) (x:TV) (lo hi mx:ek) (k:TV->RA X):RA X:=slP X.P t x lo hi mx k
def ix (t:aP) (x i:TV) (k:TV->RA X):RA X:=ixP X.P t x i k
def lk (t:aP) (ok:Bool) (x i:TV) (k:TV->RA X):RA X:=lkP X.P t ok x i k
def mu (t:aP) (m i x:TV) (k:TV->RA X):RA X:=muP X.P t m i x k
def ln (t:aP) (x:TV) (k:TV->RA X):RA X:=lnP X.P t x k
def bi (b:Builtin) (ts:Array aP) (ty:aP) (cs:Array Bool) (xs:ao) (k:TV->RA X):RA X:=biP X.P b ts ty cs xs k
def mv (x:TV) (k:TV->RA X):RA X:=k x
def exw (i:Nat) (x:TV) (k:TV->RA X):RA X:=ex i x λy=>k (dA y)
def gg (w:TV) (b:Bool) (st:(TV->RA X)->RA X) (k:TV->RA X):RA X:=X.gg w b st k
def bad:RA X:=λ_ _=>X.bad
def rt (v:TV):RA X:=λ_ s=>X.rt v s
def jn {A:Type} (j:A) (f:A->RA X):RA X:=f j
def sv (f:ae->ae->RA X):RA X:=λl s=>f l s l s
def NL:List (xk)->xk
 | [],_,_=>true
 | c::cs,l,s=>c l s&&NL cs l s
def rc (cs:List (xk)) (k:RA X):RA X:=λl s=>rX X (NL cs l s) (k l s)
def QT (x:List (LB X)) (i:Nat):LB X:=(x[i]?).getD λ_ _ _=>X.bad
def pl (n:Nat) (x:TV) (k:TV->RA X):RA X:=pa n x λy=>l1 y k
def il (e:Nat) (x i:TV) (k:TV->RA X):RA X:=ia e x i λy=>l1 y k
def nl (n:Nat) (x:TV) (k:TV->RA X):RA X:=nk x λy=>pl n y k
def np (n:Nat) (x:TV) (k:TV->RA X):RA X:=nk x λy=>pa n y k
def ip (e n:Nat) (x i:TV) (k:TV->RA X):RA X:=ia e x i λy=>pa n y k
def pp (n m:Nat) (x:TV) (k:TV->RA X):RA X:=pa n x λy=>pa m y k
def pq (n m:Nat) (x:TV) (k:TV->RA X):RA X:=pa n x λy=>pl m y k
def ps (n:Nat) (x:TV) (m:Nat) (v:TV) (k:TV->RA X):RA X:=pa n x λy=>st m y v k
def lr (n:Nat) (x:TV):RA X:=lt true n x λv=>rt v
def ey (v:TV) (k:TV->TV->RA X):RA X:=ex 0 v λa=>ex 1 (ct 0 v) λb=>k a b
def be (t:aP) (x y:TV) (k:TV->RA X):RA X:=bo .eql t x y k
def aE (t:aP) (x y:TV) (f g:RA X):RA X:=bo .eql t x y λc=>br c f g
def bn (t:aP) (x y:TV) (k:TV->RA X):RA X:=bo .neq t x y k
def kG (t:aP) (x y:TV) (f g:RA X):RA X:=bo .neq t x y λc=>br c f g
def bl (t:aP) (x y:TV) (k:TV->RA X):RA X:=bo .lss t x y k
def cU (t:aP) (x y:TV) (f g:RA X):RA X:=bo .lss t x y λc=>br c f g
def bg (t:aP) (x y:TV) (k:TV->RA X):RA X:=bo .gtr t x y k
def I5 (t:aP) (x y:TV) (f g:RA X):RA X:=bo .gtr t x y λc=>br c f g
def bm (t:aP) (x y:TV) (k:TV->RA X):RA X:=bo .leq t x y k
def WR (t:aP) (x y:TV) (f g:RA X):RA X:=bo .leq t x y λc=>br c f g
def bh (t:aP) (x y:TV) (k:TV->RA X):RA X:=bo .geq t x y k
def Tt (t:aP) (x y:TV) (f g:RA X):RA X:=bo .geq t x y λc=>br c f g
def ba (t:aP) (x y:TV) (k:TV->RA X):RA X:=bo .add t x y k
def bj (t:aP) (x y:TV) (k:TV->RA X):RA X:=bo .sub t x y k
def gt (w:TV) (f:(TV->RA X)->RA X) (k:TV->RA X):RA X:=gg w true f k
def gf (w:TV) (f:(TV->RA X)->RA X) (k:TV->RA X):RA X:=gg w false f k
def mt (w x:TV) (k:TV->RA X):RA X:=gg w true (mv x) k
def mf (w x:TV) (k:TV->RA X):RA X:=gg w false (mv x) k
def ck (K:Nat) (xs:ao) (k:TV->TV->RA X):RA X:=af K xs λv=>ey v k
def gj (w:TV) (f:(TV->RA X)->RA X) (k:TV->RA X):RA X:=gt w f λv=>pk w v Bf k
def gk (w:TV) (f:(TV->RA X)->RA X) (k:TV->RA X):RA X:=gf w f λv=>pk w Bt v k
def pb (w x y:TV) (f g:RA X):RA X:=pk w x y λc=>br c f g
def iq (e n:Nat) (x i:TV) (k:TV->RA X):RA X:=ia e x i λy=>pl n y k
def cz (K:Nat) (xs:ao) (n:Nat) (x:TV) (k:TV->RA X):RA X:=af K xs λv=>st n x v k
def lz (m:Nat) (y:TV) (n:Nat) (x:TV) (k:TV->RA X):RA X:=lg m y λv=>st n x v k
def lc (m:Nat) (y:TV) (K:Nat) (k:TV->RA X):RA X:=lg m y λv=>af K [v] k
def rv (xs:ao):RA X:=rt (.tu xs)
def ly (n:Nat) (x:TV) (k:TV->RA X):RA X:=lt true n x k
def sx (n:Nat) (x v:TV) (k:RA X):RA X:=st n x v λ_=>k
def px (n:Nat) (x:TV) (m:Nat) (v:TV) (k:RA X):RA X:=ps n x m v λ_=>k
def cx (K:Nat) (xs:ao) (n:Nat) (x:TV) (k:RA X):RA X:=cz K xs n x λ_=>k
def lx (m:Nat) (y:TV) (n:Nat) (x:TV) (k:RA X):RA X:=lz m y n x λ_=>k
def oJ:List (Nat×aA×(List (LB X)->LB X->LB X))->Nat->aA×(List (LB X)->LB X->LB X)
 | [],_=>([],λ_ k=>k)
 | e::r,p=>bif Nat.beq p e.1 then e.2 else oJ r p
def lq (lv:aA) (b:LB X->LB X) (τ:TF):RA X:=lp lv b (lv.map τ)
end
def rl (pd qe ro:Bool) (y:ek) (g:Bool) (n:Nat) (a v:TV) (l0 s0:ae):xk:=λl s=>(pd&&tq qe ro y a l0 s0&&Ah v)||IC (fp g n l s a) v
def rm (n:Nat) (a v:TV) (l0 s0:ae):xk:=rl true true true none true n a v l0 s0
def rn (a v:TV) (l0 s0:ae):xk:=rl true true true none false 1 a v l0 s0
def aT {X:CX} (t:List (Nat×aA×(List (LB X)->LB X->LB X))):cM X:=λp x τ=>lp (oJ t p).1 ((oJ t p).2 x) ((oJ t p).1.map τ)
def rlk (X:CX) (t:Nat) (ok:Bool) (x i v:TV):xk:=λl s=>IC (FM X.P t ok x i l s) v
def kf (X:CX) (t:Nat) (x:TV) (lo hi mx:ek) (v:TV):xk:=λl s=>IC (aK X.P t lo hi mx l s x) v
def Wf (X:CX) (a d:Nat) (x v:TV):xk:=λl s=>IC (bJ X.P a d x l s) v
def YH (X:CX) (t:Nat) (x v:TV):xk:=λl s=>IC (eP X.P t x l s) v
def rw (want:Bool) (w:TV) (c:xk):xk:=λl s=>Vy (Nv want w) (c l s)
def als {X:CX} (z:ao) (n:Nat) (k:TV->RA X):RA X:=λl s=>k (.p true s.length 0) l (s++[.row z n])
def dy {X:CX} (an:Nat) (f:TV) (xs:ao) (k:TV->RA X):RA X:=λl s=>match IG X.P f with
 | some K=>bif AA.aM (K+1000*an) then cl (K+1000*an) xs k l s else af (K+1000*an) xs k l s
 | none=>X.bad
def nq {X:CX}:cM X:=λ_ _ _ _ _=>X.bad
def a0 {X:CX} (f:RA X) (_:ao):RA X:=f
def a1 {X:CX} (f:TV->RA X) (l:ao):RA X:=f (l.getD 0 .u)
def a2 {X:CX} (f:TV->TV->RA X) (l:ao):RA X:=f (l.getD 0 .u) (l.getD 1 .u)
def a3 {X:CX} (f:TV->TV->TV->RA X) (l:ao):RA X:=f (l.getD 0 .u) (l.getD 1 .u) (l.getD 2 .u)
def a4 {X:CX} (f:TV->TV->TV->TV->RA X) (l:ao):RA X:=f (l.getD 0 .u) (l.getD 1 .u) (l.getD 2 .u) (l.getD 3 .u)
def a5 {X:CX} (f:TV->TV->TV->TV->TV->RA X) (l:ao):RA X:=f (l.getD 0 .u) (l.getD 1 .u) (l.getD 2 .u) (l.getD 3 .u) (l.getD 4 .u)
def a6 {X:CX} (f:TV->TV->TV->TV->TV->TV->RA X) (l:ao):RA X:=f (l.getD 0 .u) (l.getD 1 .u) (l.getD 2 .u) (l.getD 3 .u) (l.getD 4 .u) (l.getD 5 .u)
def a7 {X:CX} (f:TV->TV->TV->TV->TV->TV->TV->RA X) (l:ao):RA X:=f (l.getD 0 .u) (l.getD 1 .u) (l.getD 2 .u) (l.getD 3 .u) (l.getD 4 .u) (l.getD 5 .u) (l.getD 6 .u)
def a8 {X:CX} (f:TV->TV->TV->TV->TV->TV->TV->TV->RA X) (l:ao):RA X:=f (l.getD 0 .u) (l.getD 1 .u) (l.getD 2 .u) (l.getD 3 .u) (l.getD 4 .u) (l.getD 5 .u) (l.getD 6 .u) (l.getD 7 .u)
def a9 {X:CX} (f:TV->TV->TV->TV->TV->TV->TV->TV->TV->RA X) (l:ao):RA X:=f (l.getD 0 .u) (l.getD 1 .u) (l.getD 2 .u) (l.getD 3 .u) (l.getD 4 .u) (l.getD 5 .u) (l.getD 6 .u) (l.getD 7 .u) (l.getD 8 .u)
def a10 {X:CX} (f:TV->TV->TV->TV->TV->TV->TV->TV->TV->TV->RA X) (l:ao):RA X:=f (l.getD 0 .u) (l.getD 1 .u) (l.getD 2 .u) (l.getD 3 .u) (l.getD 4 .u) (l.getD 5 .u) (l.getD 6 .u) (l.getD 7 .u) (l.getD 8 .u) (l.getD 9 .u)
def JR {X:CX} (f:TV->TV->TV->TV->TV->TV->TV->TV->TV->TV->TV->RA X) (l:ao):RA X:=f (l.getD 0 .u) (l.getD 1 .u) (l.getD 2 .u) (l.getD 3 .u) (l.getD 4 .u) (l.getD 5 .u) (l.getD 6 .u) (l.getD 7 .u) (l.getD 8 .u) (l.getD 9 .u) (l.getD 10 .u)
end Q
def cG (f:Func):Code:=f.body.getD .skip
def dq (K:Nat):Bool:=Nat.blt (real K) 257&& !Ew (real K) [6,25,52,56,225,236,238,240,242,244,247,255,256]
def okF (K:Nat) (f:Func) (n:Nat):Bool:=dq K&&f.body.isSome&&Nat.ble n f.ntmps
structure BE (K:Nat) (f:Func) (n:Nat) (b:(X:CX)->ao->RA X):Prop where
 hf:prog.funcs[real K]? =some f
 ok:okF K f n=true
 eq:∀(X:CX) (ts:ao) (s:ae),ts.length=n->qy prog AA Pl (X.wp prog) K f (cG f) ts X.rt s=b (X.wp prog) ts [] s
noncomputable def JJ (K:Nat):Func:=(prog.funcs[real K]?).getD default
abbrev Q.E0 (K:Nat) (b:{X:CX}->RA X):Prop:=BE K (JJ K) 0 λ_=>Q.a0 b
abbrev Q.E1 (K:Nat) (b:{X:CX}->TV->RA X):Prop:=BE K (JJ K) 1 λ_=>Q.a1 b
abbrev Q.E2 (K:Nat) (b:{X:CX}->TV->TV->RA X):Prop:=BE K (JJ K) 2 λ_=>Q.a2 b
abbrev Q.E3 (K:Nat) (b:{X:CX}->TV->TV->TV->RA X):Prop:=BE K (JJ K) 3 λ_=>Q.a3 b
abbrev Q.E4 (K:Nat) (b:{X:CX}->TV->TV->TV->TV->RA X):Prop:=BE K (JJ K) 4 λ_=>Q.a4 b
abbrev Q.E5 (K:Nat) (b:{X:CX}->TV->TV->TV->TV->TV->RA X):Prop:=BE K (JJ K) 5 λ_=>Q.a5 b
abbrev Q.E6 (K:Nat) (b:{X:CX}->TV->TV->TV->TV->TV->TV->RA X):Prop:=BE K (JJ K) 6 λ_=>Q.a6 b
abbrev Q.E7 (K:Nat) (b:{X:CX}->TV->TV->TV->TV->TV->TV->TV->RA X):Prop:=BE K (JJ K) 7 λ_=>Q.a7 b
abbrev LX (P:aB) (X:CX) (K:Nat) (f:Func) (Λ:cM X) (ts:ao) (s:ae):X.R:=dQ P AA Pl X K Λ [] 1 (cG f) (aI ts) [] s (gQ P X f.results.toList X.rt) (λ_ _ _ _=>X.bad) (gQ P X f.results.toList X.rt)
section
variable {P:aB} {A:An} {Pl:cR} {X:CX} {K:Nat} {Λ:cM X} {x:List (LB X)} {p n:Nat} {a b c:Code} {kn:KN X} {ke:Nat->KN X} {kr:KN X}
theorem kA.l (h:iG c=true:=by kernel_rfl):kA P A Pl X K Λ x p c kn ke kr:=.leaf h
theorem kA.s (h:kA P A Pl X K Λ x (2*p+1) b kn ke kr) (h0:iG a=true:=by kernel_rfl):kA P A Pl X K Λ x p (.seq a b) kn ke kr:=.seq (.leaf h0) h
theorem kA.q (h:kA P A Pl X K Λ x (2*(2*(2*p)+1)) b (λτ l s=>dQ P A Pl X K Λ x (2*p+1) c τ l s kn ke kr) (λi τ l s=>bif Nat.beq i n then dQ P A Pl X K Λ x (2*p+1) c τ l s kn ke kr else ke i τ l s) kr) (h2:kA P A Pl X K Λ x (2*p+1) c kn ke kr) (h0:iG a=true:=by kernel_rfl):kA P A Pl X K Λ x p (.seq (.seq a (.block n b)) c) kn ke kr:=.seq (.s (.block h) h0) h2
theorem kA.lt {t:List (Nat×aA×(List (LB X)->LB X->LB X))} (h:∀k:LB X,kA P A Pl X K (Q.aT t) (k::x) (2*p) c (λτ l s=>k ((Q.oJ t p).1.map τ) l s) ke kr) (h1:A.lv K p=(Q.oJ t p).1:=by kernel_rfl) (h2:∀k τ l s,dQ P A Pl X K (Q.aT t) (k::x) (2*p) c (ej (Q.oJ t p).1 ((Q.oJ t p).1.map τ)) l s (λτ l s=>k ((Q.oJ t p).1.map τ) l s) ke kr=(Q.oJ t p).2 x k ((Q.oJ t p).1.map τ) l s:=by intros;kernel_rfl):kA P A Pl X K (Q.aT t) x p (.loop c) kn ke kr:=.loop _ _ h1 h2 (λ_ _ _=>rfl) h
end
section
variable {K:Nat} {f:Func} {b:(X:CX)->ao->RA X}
theorem BE.of {n:Nat} {Λ:(X:CX)->cM X} (hf:prog.funcs[real K]? =some f) (ok:okF K f n=true) (hl:∀X:CX,kA prog AA Pl (X.wp prog) K (Λ (X.wp prog)) [] 1 (cG f) (gQ prog (X.wp prog) f.results.toList X.rt) (λ_ _ _ _=>X.bad) (gQ prog (X.wp prog) f.results.toList X.rt))
  (h:∀(X:CX) (ts:ao) (s:ae),ts.length=n->LX prog (X.wp prog) K f (Λ (X.wp prog)) ts s=b (X.wp prog) ts [] s):BE K f n b:=
 ⟨hf,ok,λX ts s hn=>((hl X).body (X:=X.wp prog) s).trans (h X ts s hn)⟩
theorem BC {n:Nat} (ok:(okF K f n&&iG (cG f))=true):okF K f n=true/\iG (cG f)=true:=by simpa using ok
theorem BE.f1 (hf:prog.funcs[real K]? =some f:=by kernel_rfl) (ok:(okF K f 1&&iG (cG f))=true:=by kernel_rfl) (h:∀(X:CX) (t0:TV) (s:ae),LX prog (X.wp prog) K f Q.nq [t0] s=b (X.wp prog) [t0] [] s:=by intros;kernel_rfl):BE K f 1 b:=
 .of (Λ:=λ_=>Q.nq) hf (BC ok).1 (λ_=>.leaf (BC ok).2) λX ts s hn=>by
  match ts,hn with
  | [t0],_=>exact h X t0 s
theorem BE.G1 (Λ:(X:CX)->cM X) (hl:∀X:CX,kA prog AA Pl (X.wp prog) K (Λ (X.wp prog)) [] 1 (cG f) (gQ prog (X.wp prog) f.results.toList X.rt) (λ_ _ _ _=>X.bad) (gQ prog (X.wp prog) f.results.toList X.rt)) (hf:prog.funcs[real K]? =some f:=by kernel_rfl) (ok:okF K f 1=true:=by kernel_rfl) (h:∀(X:CX) (t0:TV) (s:ae),LX prog (X.wp prog) K f (Λ (X.wp prog)) [t0] s=b (X.wp prog) [t0] [] s:=by intros;kernel_rfl):BE K f 1 b:=
 .of hf ok hl λX ts s hn=>by
  match ts,hn with
  | [t0],_=>exact h X t0 s
theorem BE.f2 (hf:prog.funcs[real K]? =some f:=by kernel_rfl) (ok:(okF K f 2&&iG (cG f))=true:=by kernel_rfl) (h:∀(X:CX) (t0 t1:TV) (s:ae),LX prog (X.wp prog) K f Q.nq [t0,t1] s=b (X.wp prog) [t0,t1] [] s:=by intros;kernel_rfl):BE K f 2 b:=
 .of (Λ:=λ_=>Q.nq) hf (BC ok).1 (λ_=>.leaf (BC ok).2) λX ts s hn=>by
  match ts,hn with
  | [t0,t1],_=>exact h X t0 t1 s
theorem BE.G2 (Λ:(X:CX)->cM X) (hl:∀X:CX,kA prog AA Pl (X.wp prog) K (Λ (X.wp prog)) [] 1 (cG f) (gQ prog (X.wp prog) f.results.toList X.rt) (λ_ _ _ _=>X.bad) (gQ prog (X.wp prog) f.results.toList X.rt)) (hf:prog.funcs[real K]? =some f:=by kernel_rfl) (ok:okF K f 2=true:=by kernel_rfl) (h:∀(X:CX) (t0 t1:TV) (s:ae),LX prog (X.wp prog) K f (Λ (X.wp prog)) [t0,t1] s=b (X.wp prog) [t0,t1] [] s:=by intros;kernel_rfl):BE K f 2 b:=
 .of hf ok hl λX ts s hn=>by
  match ts,hn with
  | [t0,t1],_=>exact h X t0 t1 s
theorem BE.f3 (hf:prog.funcs[real K]? =some f:=by kernel_rfl) (ok:(okF K f 3&&iG (cG f))=true:=by kernel_rfl) (h:∀(X:CX) (t0 t1 t2:TV) (s:ae),LX prog (X.wp prog) K f Q.nq [t0,t1,t2] s=b (X.wp prog) [t0,t1,t2] [] s:=by intros;kernel_rfl):BE K f 3 b:=
 .of (Λ:=λ_=>Q.nq) hf (BC ok).1 (λ_=>.leaf (BC ok).2) λX ts s hn=>by
  match ts,hn with
  | [t0,t1,t2],_=>exact h X t0 t1 t2 s
theorem BE.G3 (Λ:(X:CX)->cM X) (hl:∀X:CX,kA prog AA Pl (X.wp prog) K (Λ (X.wp prog)) [] 1 (cG f) (gQ prog (X.wp prog) f.results.toList X.rt) (λ_ _ _ _=>X.bad) (gQ prog (X.wp prog) f.results.toList X.rt)) (hf:prog.funcs[real K]? =some f:=by kernel_rfl) (ok:okF K f 3=true:=by kernel_rfl) (h:∀(X:CX) (t0 t1 t2:TV) (s:ae),LX prog (X.wp prog) K f (Λ (X.wp prog)) [t0,t1,t2] s=b (X.wp prog) [t0,t1,t2] [] s:=by intros;kernel_rfl):BE K f 3 b:=
 .of hf ok hl λX ts s hn=>by
  match ts,hn with
  | [t0,t1,t2],_=>exact h X t0 t1 t2 s
theorem BE.f4 (hf:prog.funcs[real K]? =some f:=by kernel_rfl) (ok:(okF K f 4&&iG (cG f))=true:=by kernel_rfl) (h:∀(X:CX) (t0 t1 t2 t3:TV) (s:ae),LX prog (X.wp prog) K f Q.nq [t0,t1,t2,t3] s=b (X.wp prog) [t0,t1,t2,t3] [] s:=by intros;kernel_rfl):BE K f 4 b:=
 .of (Λ:=λ_=>Q.nq) hf (BC ok).1 (λ_=>.leaf (BC ok).2) λX ts s hn=>by
  match ts,hn with
  | [t0,t1,t2,t3],_=>exact h X t0 t1 t2 t3 s
theorem BE.G4 (Λ:(X:CX)->cM X) (hl:∀X:CX,kA prog AA Pl (X.wp prog) K (Λ (X.wp prog)) [] 1 (cG f) (gQ prog (X.wp prog) f.results.toList X.rt) (λ_ _ _ _=>X.bad) (gQ prog (X.wp prog) f.results.toList X.rt)) (hf:prog.funcs[real K]? =some f:=by kernel_rfl) (ok:okF K f 4=true:=by kernel_rfl) (h:∀(X:CX) (t0 t1 t2 t3:TV) (s:ae),LX prog (X.wp prog) K f (Λ (X.wp prog)) [t0,t1,t2,t3] s=b (X.wp prog) [t0,t1,t2,t3] [] s:=by intros;kernel_rfl):BE K f 4 b:=
 .of hf ok hl λX ts s hn=>by
  match ts,hn with
  | [t0,t1,t2,t3],_=>exact h X t0 t1 t2 t3 s
theorem BE.f5 (hf:prog.funcs[real K]? =some f:=by kernel_rfl) (ok:(okF K f 5&&iG (cG f))=true:=by kernel_rfl) (h:∀(X:CX) (t0 t1 t2 t3 t4:TV) (s:ae),LX prog (X.wp prog) K f Q.nq [t0,t1,t2,t3,t4] s=b (X.wp prog) [t0,t1,t2,t3,t4] [] s:=by intros;kernel_rfl):BE K f 5 b:=
 .of (Λ:=λ_=>Q.nq) hf (BC ok).1 (λ_=>.leaf (BC ok).2) λX ts s hn=>by
  match ts,hn with
  | [t0,t1,t2,t3,t4],_=>exact h X t0 t1 t2 t3 t4 s
theorem BE.G5 (Λ:(X:CX)->cM X) (hl:∀X:CX,kA prog AA Pl (X.wp prog) K (Λ (X.wp prog)) [] 1 (cG f) (gQ prog (X.wp prog) f.results.toList X.rt) (λ_ _ _ _=>X.bad) (gQ prog (X.wp prog) f.results.toList X.rt)) (hf:prog.funcs[real K]? =some f:=by kernel_rfl) (ok:okF K f 5=true:=by kernel_rfl) (h:∀(X:CX) (t0 t1 t2 t3 t4:TV) (s:ae),LX prog (X.wp prog) K f (Λ (X.wp prog)) [t0,t1,t2,t3,t4] s=b (X.wp prog) [t0,t1,t2,t3,t4] [] s:=by intros;kernel_rfl):BE K f 5 b:=
 .of hf ok hl λX ts s hn=>by
  match ts,hn with
  | [t0,t1,t2,t3,t4],_=>exact h X t0 t1 t2 t3 t4 s
theorem BE.f7 (hf:prog.funcs[real K]? =some f:=by kernel_rfl) (ok:(okF K f 7&&iG (cG f))=true:=by kernel_rfl) (h:∀(X:CX) (t0 t1 t2 t3 t4 t5 t6:TV) (s:ae),LX prog (X.wp prog) K f Q.nq [t0,t1,t2,t3,t4,t5,t6] s=b (X.wp prog) [t0,t1,t2,t3,t4,t5,t6] [] s:=by intros;kernel_rfl):BE K f 7 b:=
 .of (Λ:=λ_=>Q.nq) hf (BC ok).1 (λ_=>.leaf (BC ok).2) λX ts s hn=>by
  match ts,hn with
  | [t0,t1,t2,t3,t4,t5,t6],_=>exact h X t0 t1 t2 t3 t4 t5 t6 s
end
end T
namespace V
open Go
variable {a b c d e f g:Nat} {u v w:Value} {i j k:Int} {t:TypeId} {p:List Value} {q:Bool} {n:IntKind}
section
variable {P:aB}
theorem ar {b c:Type} (s:Sem b) (f:b->Sem c):aj P (s>>=f)=(aj P s).bind λa=>aj P (f a):=rF s f
theorem ay {b:Type} (a:b):aj P (pure a:Sem b)=some a:=rfl
theorem dt {d:TypeDesc} (h:P.underlying t=some d):aj P (Go.underlying t)=some d:=by unfold Go.underlying;show aj P (match P.underlying t with|some d=>pure d|none=>stuck _)=_;rw [h];rfl
theorem vJ (h:bq u):dv (some u)=some u:=by unfold dv;exact zO h
theorem bE {a:BinOp} (b:bq u) (c:bq v) (d:oA u) (e:aj P (eqGuard a t (.tmp 0) (.tmp 0) u v)=some ()) (f:aj P (binOp a t u v)=some w) (g:bq w):da P a t u v=some w:=by unfold da;rw [b,c,d];show dv _=_;rw [ar,e];show dv (aj P (binOp a t u v))=_;rw [f,vJ g]
section
variable (D:aP) (k:IntKind) (a E:Int)
theorem bU (b:BinOp) (c:IntKind):aj P (eqGuard b D (.tmp 0) (.tmp 0) (.int k a) (.int c E))=some ():=by cases b <;> rfl
theorem kj (b:BinOp) (a E:aU):aj P (eqGuard b D (.tmp 0) (.tmp 0) (.string a) (.string E))=some ():=by cases b <;> rfl
theorem vV (b:BinOp) (a E:Bool):aj P (eqGuard b D (.tmp 0) (.tmp 0) (.bool a) (.bool E))=some ():=by cases b <;> rfl
theorem MP:da P .add D (.int k a) (.int k E)=some (.int k (k.wrap (a+E))):=bE rfl rfl rfl (bU _ _ _ _ _ _) (by simp [binOp,Op.intArith,ay]) rfl
theorem Mv:da P .sub D (.int k a) (.int k E)=some (.int k (k.wrap (a-E))):=bE rfl rfl rfl (bU _ _ _ _ _ _) (by simp [binOp,Op.intArith,ay]) rfl
theorem MC:da P .mul D (.int k a) (.int k E)=some (.int k (k.wrap (a*E))):=bE rfl rfl rfl (bU _ _ _ _ _ _) (by simp [binOp,Op.intArith,ay]) rfl
theorem MF:da P .lss D (.int k a) (.int k E)=some (.bool (decide (a<E))):=bE rfl rfl rfl (bU _ _ _ _ _ _) (by simp [binOp,Op.intCmp,ay]) rfl
theorem MH:da P .leq D (.int k a) (.int k E)=some (.bool (decide (a<=E))):=bE rfl rfl rfl (bU _ _ _ _ _ _) (by simp [binOp,Op.intCmp,ay]) rfl
theorem MJ:da P .gtr D (.int k a) (.int k E)=some (.bool (decide (E<a))):=bE rfl rfl rfl (bU _ _ _ _ _ _) (by simp [binOp,Op.intCmp,ay]) rfl
theorem MK:da P .geq D (.int k a) (.int k E)=some (.bool (decide (E<=a))):=bE rfl rfl rfl (bU _ _ _ _ _ _) (by simp [binOp,Op.intCmp,ay]) rfl
theorem MM:da P .eql D (.int k a) (.int k E)=some (.bool (decide (a=E))):=bE rfl rfl rfl (bU _ _ _ _ _ _) (by simp [binOp,Op.intCmp,ay];by_cases h:a=E <;> simp [h]) rfl
theorem MA:da P .neq D (.int k a) (.int k E)=some (.bool (!decide (a=E))):=bE rfl rfl rfl (bU _ _ _ _ _ _) (by simp [binOp,Op.intCmp,ay];by_cases h:a=E <;> simp [h]) rfl
theorem My (h:E≠0):da P .quo D (.int k a) (.int k E)=some (.int k (k.wrap (a.tdiv E))):=bE rfl rfl rfl (bU _ _ _ _ _ _) (by simp [binOp,Op.intDiv,h,ay]) rfl
theorem Mx (h:E≠0):da P .rem D (.int k a) (.int k E)=some (.int k (a.tmod E)):=bE rfl rfl rfl (bU _ _ _ _ _ _) (by simp [binOp,Op.intDiv,h,ay]) rfl
theorem Mw (b:IntKind) (h:0<=E):da P .shl D (.int k a) (.int b E)=some (.int k (k.wrap (a*2^(min E.toNat k.bits)))):=bE rfl rfl rfl (bU _ _ _ _ _ _) (by simp [binOp,Op.shift,show ¬E<0 by omega,ay]) rfl
theorem Fh (b:IntKind) (h:0<=E):da P .shr D (.int k a) (.int b E)=some (.int k (a.fdiv (2^(min E.toNat k.bits)))):=bE rfl rfl rfl (bU _ _ _ _ _ _) (by simp [binOp,Op.shift,show ¬E<0 by omega,ay]) rfl
theorem Tr:da P .or D (.int k a) (.int k E)=some (.int k (k.wrap (BitVec.ofInt k.bits a||| BitVec.ofInt k.bits E).toNat)):=bE rfl rfl rfl (bU _ _ _ _ _ _) (by simp [binOp,Op.intBits,ay]) rfl
theorem Fi:da P .and D (.int k a) (.int k E)=some (.int k (k.wrap (BitVec.ofInt k.bits a&&& BitVec.ofInt k.bits E).toNat)):=bE rfl rfl rfl (bU _ _ _ _ _ _) (by simp [binOp,Op.intBits,ay]) rfl
theorem qC (a:aU):a.toList=a.data.toList:=by
 have e:∀(n i:Nat) (r:List UInt8),i+n=a.size->ByteArray.toList.loop a i r=r.reverse++a.data.toList.drop i:=by
  intro n;induction n with
  | zero=>
   intro i r h;unfold ByteArray.toList.loop;have:a.data.toList.length<=i:=by have:a.size=a.data.toList.length:=rfl;omega
   rw [zN O,yZ this,List.append_nil]
  | succ n d=>
   intro i r h;unfold ByteArray.toList.loop;rw [zO O,d (i+1) _ O];have b:i<a.data.toList.length:=by have:a.size=a.data.toList.length:=rfl;omega
   rw [yL b,List.reverse_cons,xA];congr 1;have:a.get! i=a.data.toList[i]:=by
    have c:i<a.data.size:=by simpa using b
    simp only [ByteArray.get!];rw [getElem!_pos a.data i c];simp
   rw [this];rfl
 have:=e a.size 0 [] O;simpa [ByteArray.toList] using this
theorem yp (a E:aU):(a.toList==E.toList)=decide (a=E):=by rw [qC,qC];by_cases h:a=E;subst h;simp;have:=λe=>h (ByteArray.ext (Array.ext' e));rw [decide_eq_false h];exact beq_eq_false_iff_ne.2 this
theorem ML (a E:aU):da P .eql D (.string a) (.string E)=some (.bool (decide (a=E))):=bE rfl rfl rfl (kj _ _ _ _) (by simp only [binOp,Op.stringOp,ay,yp]) rfl
theorem Mz (a E:aU):da P .neq D (.string a) (.string E)=some (.bool (!decide (a=E))):=bE rfl rfl rfl (kj _ _ _ _) (by simp only [binOp,Op.stringOp,ay,yp]) rfl
theorem MO (a E:aU) (h:a.size+E.size<9223372036854775808):da P .add D (.string a) (.string E)=some (.string (a++E)):=bE rfl rfl rfl (kj _ _ _ _) (by
 have:¬(((a.size+E.size:Nat):Int)>i64.max):=by
  have:i64.max=9223372036854775807:=by decide
  omega
 simp only [binOp,Op.stringOp];rw [zN this];rfl) rfl
theorem MN (a E:Bool) (h:P.underlying D=some .bool):da P .eql D (.bool a) (.bool E)=some (.bool (decide (a=E))):=bE rfl rfl rfl (vV _ _ _ _) (by
 have e:=dt h;have b:∀d,aj P (Op.equalIn (d+1) D (.bool a) (.bool E))=some (a==E):=by intro d;simp only [Op.equalIn,ar,e];rfl
 show aj P (Op.equal D (.bool a) (.bool E)>>=λc=>pure (Value.bool c))=_;rw [ar];show (aj P (Op.equalIn Op.maxDepth D (.bool a) (.bool E))).bind _=_;rw [show Op.maxDepth=(Op.maxDepth-1)+1 from rfl,b];show some (Value.bool (a==E))=_;cases a <;> cases E <;> rfl) rfl
theorem Ka (E:Bool):FU P .not (.bool E)=some (.bool (!E)):=by unfold FU;rw [zO (rfl:bq _)];simp only [Op.unary,ay];rfl
theorem Kb:FU P .neg (.int k E)=some (.int k (k.wrap (0-E))):=by unfold FU;rw [zO (rfl:bq _)];simp only [Op.unary,Op.intArith,ay];rfl
theorem LR (a:aU) (h:0<=E/\E<a.size) (d:P.underlying D=some .string):ls P D (.string a) (.int k E)=some (.int .u8 ((a.data.toList.getD E.toNat 0).toNat:Nat)):=by
 have b:E.toNat<a.size:=O;have e:aj P (Instr.index D (.string a) (.int k E))=some (.int .u8 ((a[E.toNat]'b).toNat:Nat)):=by simp only [Instr.index,ar,asIntOf,ay,dt d,zR,zO h.1];rw [getElem?_pos a E.toNat b];rfl
 unfold ls;rw [show (bq (.string a)&&bq (.int k E))=true from rfl,zO rfl,e];have:a[E.toNat]'b=a.data.toList.getD E.toNat 0:=by
  have c:E.toNat<a.data.toList.length:=by simpa using b
  rw [zG,zA c];rfl
 rw [this];rfl
end
end
section
variable {P:aB} {D:aP} {a E:aU} {H:AH} {k J:IntKind} {lo h:Int}
theorem yt {w:BoundsCode} (a:0<=h) (c:h<=b):aj P (Instr.sliceBound (.int k h) b w)=some h.toNat:=by simp only [Instr.sliceBound,ar,asIntOf,ay,zR,zO (And.intro a c)]
theorem Nh (b:0<=lo) (f:lo<=h) (c:h<=a.size) (d:P.underlying D=some .string):pJ P D (.string a) (some (.int k lo)) (some (.int J h)) none H=some (.string (a.extract lo.toNat h.toNat)):=by
 have e:aj P (Instr.sliceAt D (.string a) (some (.int k lo)) (some (.int J h)) none)=some (.string (a.extract lo.toNat h.toNat)):=by simp only [Instr.sliceAt,Instr.slice,Instr.sliceBounds,ar,dt d,zR];simp [ar,yt (show 0<=h by omega) c];rw [map_eq_pure_bind,ar,yt b O];rfl
 simp only [pJ];rw [e];rfl
theorem Ni (b:0<=lo) (c:lo<=a.size) (d:P.underlying D=some .string):pJ P D (.string a) (some (.int k lo)) none none H=some (.string (a.extract lo.toNat a.size)):=by
 have e:aj P (Instr.sliceAt D (.string a) (some (.int k lo)) none none)=some (.string (a.extract lo.toNat a.size)):=by simp only [Instr.sliceAt,Instr.slice,Instr.sliceBounds,ar,dt d,zR];simp;rw [map_eq_pure_bind,ar,yt b c];rfl
 simp only [pJ];rw [e];rfl
def strLt (a E:aU):Bool:=Op.bytesLess a.toList E.toList
theorem MI:da P .gtr D (.string a) (.string E)=some (.bool (!(strLt a E||a.toList==E.toList))):=bE rfl rfl rfl (kj _ _ _ _) (by simp only [binOp,Op.stringOp,ay,strLt]) rfl
end
theorem bW {x:Int} (a:-9223372036854775808<=x) (b:x<9223372036854775808):i64.wrap x=x:=by simp only [IntKind.wrap,IntKind.signed,IntKind.bits];simp;omega
theorem w8 {x:Int} (a:0<=x) (b:x<256):u8.wrap x=x:=by simp only [IntKind.wrap,IntKind.signed,IntKind.bits];simp;omega
def isI (P:aB) (t:aP) (k:IntKind):Bool:=match P.underlying t with|some (.int a)=>decide (a=k)|_=>false
theorem Tk {P:aB} {d:aP} (b:(P.underlying t).isSome) (h:isI P d n) (k:IntKind) (a:Int) (H:AH):gI P t d (.int k a) H=some (.int n (n.wrap a),H):=by
 unfold isI at h;split at h;rename_i c g;simp at h;subst h;have ⟨f,b⟩:=xR.1 b;have e:aj P (convert t d (.int k a))=some (.int c (c.wrap a)):=by unfold convert;rw [ar,dt b,zR,ar,dt g,zR];cases f <;> rfl
 show (if bq (.int k a)=true then (dv (aj P (convert t d (.int k a)))).map λv=>(v,H) else none)=_;rw [zO (show bq (.int k a)=true from rfl),e];rfl;cases h
end V
namespace T
open Go V Q
variable {a b c d e f g:Nat} {u v w:Value} {i j k:Int} {t:TypeId} {p:List Value} {n:IntKind} {x y z:TV} {r s:List TO}
theorem rr {b:Sort _} {a:b}:a=a:=Eq.trans (Eq.refl _) (Eq.refl _)
def fw {b:Type}:List b->Nat->Option b
 | [],_=>none
 | a::_,0=>some a
 | _::l,n+1=>fw l n
theorem dT {c:Type} (l:List c) (n:Nat):l[n]? =fw l n:=by
 induction l generalizing n with
 | nil=>rfl
 | cons a l b=>cases n with
  | zero=>rfl
  | succ n=>simp [fw,b]
@[simp ↓] theorem a0v {b:Type} (a:b) (l:List b):fw (a::l) 0=some a:=rfl
@[simp ↓] theorem a0u {b:Type} (a:b) (l:List b) (n:Nat):fw (a::l) (n+1)=fw l n:=rfl
def EN (P:aB) (K:Nat) (b:ao) (s:ae) (a:Nat) (k:jy):Prop:=Ends P AA Pl dq K b s a k
abbrev Xc (P:aB) (a:Nat) (r:jy):CX:=XP P AA Pl dq a r
def mk {b:Type} (a:b):b:=a
@[simp] theorem a3W {b:Type} (a:b):mk a=a:=rr
@[simp] theorem a4g (P:aB) (a:Nat) (r:jy):(Xc P a r).P=P:=rr
@[simp] theorem a2D (P:aB) (a:Nat) (r:jy):(Xc P a r).fl=a:=rr
section
variable {X:CX}
def nx (k:TV->RA X) (v:TV) (l s:ae):X.R:=k v l s
def nK (o:ek) (k:TV->RA X) (l s:ae):X.R:=bd X o λv=>k v l s
def Tu (o:Option (ae×ae)) (k:TV->RA X):X.R:=bd X o λp=>k (.tu []) p.1 p.2
def FT (o:Option (TV×ae×ae)) (k:TV->RA X):X.R:=bd X o λp=>k p.1 p.2.1 p.2.2
def Mo (b:Bool) (r:X.R):X.R:=rX X b r
def Pe (c a b:TV) (k:TV->RA X) (l s:ae):X.R:=match c with
 | .v (.bool t)=>k (bw (bif t then a else b)) l s
 | _=>X.bad
@[congr] theorem a3U {k:TV->RA X} {a b:ae} (c:mk x=y) (d:r=s) (e:a=b):nx k x r a=nx k y s b:=by subst c;subst d;subst e;rfl
@[congr] theorem a2A {k:TV->RA X} {o a:ek} (h:mk o=a):nK o k r s=nK a k r s:=by subst h;rfl
@[congr] theorem a2y {k:TV->RA X} {o a:Option (ae×ae)} (h:mk o=a):Tu o k=Tu a k:=by subst h;rfl
@[congr] theorem a2w {k:TV->RA X} {o a:Option (TV×ae×ae)} (h:mk o=a):FT o k=FT a k:=by subst h;rfl
@[congr] theorem a25 {b a:Bool} {r:X.R} (h:mk b=a):Mo b r=Mo a r:=by subst h;rfl
@[congr] theorem a1S {b:TV} {k:TV->RA X} (h:mk x=y):Pe x z b k r s=Pe y z b k r s:=by subst h;rfl
@[simp] theorem a3T {k:TV->RA X}:nx k x r s=k x r s:=rr
@[simp] theorem a2z {k:TV->RA X}:nK (some x) k r s=k x r s:=rr
@[simp] theorem a2x {k:TV->RA X}:Tu (some (r,s)) k=k (.tu []) r s:=rr
@[simp] theorem a2v {k:TV->RA X}:FT (some (x,r,s)) k=k x r s:=rr
@[simp] theorem a23 {r:X.R}:Mo true r=r:=rr
@[simp] theorem a1Q {k:TV->RA X}:Pe (.v (.bool true)) x y k r s=nx k (bw x) r s:=rr
@[simp] theorem a1R {k:TV->RA X}:Pe (.v (.bool false)) x y k r s=nx k (bw y) r s:=rr
variable {l s:ae} {k:TV->RA X}
@[simp ↓] theorem a3j:l1 x k l s=nK (fp false 1 l s x) k l s:=rr
@[simp ↓] theorem a3h:lg a x k l s=nK (fp true a l s x) k l s:=rr
@[simp ↓] theorem a3c {g:Bool}:lt g a x k l s=FT (gX g a X.fl l s x) k:=rr
@[simp ↓] theorem a2K:st a x y k l s=Tu (cF a X.fl y l s x) k:=rr
@[simp ↓] theorem a3u:fz x k l s=FT (ew l s x) k:=rr
@[simp ↓] theorem a30:nk x k l s=nK (Ao x) k l s:=rr
@[simp ↓] theorem X9 {a:BinOp}:bo a t x y k l s=nK (cm X.P a t x y) k l s:=rr
@[simp ↓] theorem a2H {a:UnOp}:uo a x k l s=nK (Gm X.P a x) k l s:=rr
@[simp ↓] theorem a3B {d:aP}:cv t d x k l s=nK (bJ X.P t d x l s) k l s:=rr
@[simp ↓] theorem a3R {z:ao}:al z a k l s=nx k (.p false l.length 0) (l++[.row z a]) s:=rr
@[simp ↓] theorem a1B {z:ao}:als z a k l s=nx k (.p true s.length 0) l (s++[.row z a]):=rr
@[simp ↓] theorem a3E:bx a x k l s=Mo (aW x&&pT a (ce x)) (nx k (.p false l.length 0) (l++[.row (ce x) a]) s):=rr
@[simp ↓] theorem a1u:bx0 a x k l s=Mo (aW x&&pT a (ce x)) (nx k (.p false l.length 0) (l++[.row ((ce x).map dY) a]) s):=rr
@[simp ↓] theorem a1t:F9 a x k l s=Mo (aW x&&pT a (ce x)) (nx k (.p true s.length 0) l (s++[.row ((ce x).map jB) a])):=rr
@[simp ↓] theorem a3F {z:ao} {pl:List (Nat×Nat)} {ps:List (Nat×TV)}:bu z pl ps k l s=nK ((iM pl z ps).map .ag) k l s:=by unfold bu nK;cases iM pl z ps <;> rfl
@[simp ↓] theorem a3G {z:ao} {ps:List (Nat×TV)}:bs a b z ps k l s=FT (WO a b z ps l s) k:=rr
@[simp ↓] theorem a35 {z:ao}:ms a b c z x y k l s=FT (Et a b c z x y l s) k:=rr
@[simp ↓] theorem X7 {b a c:ek}:sl t x b a c k l s=nK (aK X.P t b a c l s x) k l s:=rr
@[simp ↓] theorem a2X:pa a x k l s=nK (Nx a x) k l s:=rr
@[simp ↓] theorem a3v {g:Bool}:fd a g b x k l s=nK (NA a g b x) k l s:=rr
@[simp ↓] theorem a3o:ia a x y k l s=nK (uW a x y) k l s:=rr
@[simp ↓] theorem a1q:ED a b x y k l s=nK (As a b x y) k l s:=rr
@[simp ↓] theorem a3k:ix t x y k l s=nK (mw X.P t x y) k l s:=rr
@[simp ↓] theorem a3g {a:Bool}:lk t a x y k l s=nK (FM X.P t a x y l s) k l s:=rr
@[simp ↓] theorem a33:mu t x y z k l s=Tu (L3 X.P t X.fl x y z l s) k:=rr
@[simp ↓] theorem a3x:ex a x k l s=nK (text a x) k l s:=rr
@[simp ↓] theorem a1r:exw a x k l s=nK ((text a x).map dA) k l s:=by unfold exw ex nK;cases text a x <;> rfl
@[simp ↓] theorem a3Q {d:Bool}:ap d a b c x y k l s=FT (cq d a b c X.fl x y l s) k:=rr
@[simp ↓] theorem X8:cp a x y k l s=FT (lE a X.fl x y l s) k:=rr
@[simp ↓] theorem a3f:ln t x k l s=nK (eP X.P t x l s) k l s:=rr
@[simp ↓] theorem a3M {b:Builtin} {c:Array aP} {a:Array Bool} {d:ao}:bi b c t a d k l s=nK (CZ X.P b c t a d) k l s:=rr
@[simp ↓] theorem a2V:pk x y z k l s=Pe x y z k l s:=rr
@[simp ↓] theorem a32:mv x k l s=nx k x l s:=rr
@[simp ↓] theorem a2P {a:List (xk)} {r:RA X}:rc a r l s=Mo (NL a l s) (r l s):=rr
@[simp ↓] theorem a2U:pl a x k l s=pa a x (λy=>l1 y k) l s:=rr
@[simp ↓] theorem a3n:il a x y k l s=ia a x y (λb=>l1 b k) l s:=rr
@[simp ↓] theorem a2Z:nl a x k l s=nk x (λy=>pl a y k) l s:=rr
@[simp ↓] theorem a2Y:np a x k l s=nk x (λy=>pa a y k) l s:=rr
@[simp ↓] theorem a3m:ip a b x y k l s=ia a x y (λc=>pa b c k) l s:=rr
@[simp ↓] theorem a2T:pp a b x k l s=pa a x (λy=>pa b y k) l s:=rr
@[simp ↓] theorem a2S:pq a b x k l s=pa a x (λy=>pl b y k) l s:=rr
@[simp ↓] theorem a2R:ps a x b y k l s=pa a x (λc=>st b c y k) l s:=rr
@[simp ↓] theorem a3d:lr (X:=X) a x l s=lt true a x (λv=>rt v) l s:=rr
@[simp ↓] theorem a3w {k:TV->TV->RA X}:ey x k l s=ex 0 x (λa=>ex 1 (ct 0 x) λb=>k a b) l s:=rr
@[simp ↓] theorem a3P:be t x y k l s=bo .eql t x y k l s:=rr
@[simp ↓] theorem a1A {f g:RA X}:aE t x y f g l s=bo .eql t x y (λc=>br c f g) l s:=rr
@[simp ↓] theorem a3I:bn t x y k l s=bo .neq t x y k l s:=rr
@[simp ↓] theorem a1v {f g:RA X}:kG t x y f g l s=bo .neq t x y (λc=>br c f g) l s:=rr
@[simp ↓] theorem a3K:bl t x y k l s=bo .lss t x y k l s:=rr
@[simp ↓] theorem a1x {f g:RA X}:cU t x y f g l s=bo .lss t x y (λc=>br c f g) l s:=rr
@[simp ↓] theorem a3O:bg t x y k l s=bo .gtr t x y k l s:=rr
@[simp ↓] theorem a1z {f g:RA X}:I5 t x y f g l s=bo .gtr t x y (λc=>br c f g) l s:=rr
@[simp ↓] theorem a3J:bm t x y k l s=bo .leq t x y k l s:=rr
@[simp ↓] theorem a1w {f g:RA X}:WR t x y f g l s=bo .leq t x y (λc=>br c f g) l s:=rr
@[simp ↓] theorem a3N:bh t x y k l s=bo .geq t x y k l s:=rr
@[simp ↓] theorem a1y {f g:RA X}:Tt t x y f g l s=bo .geq t x y (λc=>br c f g) l s:=rr
@[simp ↓] theorem Xa:ba t x y k l s=bo .add t x y k l s:=rr
@[simp ↓] theorem a3L:bj t x y k l s=bo .sub t x y k l s:=rr
@[simp ↓] theorem a3D {b:ao} {k:TV->TV->RA X}:ck a b k l s=af a b (λv=>ey v k) l s:=rr
@[simp ↓] theorem a3r {f:(TV->RA X)->RA X}:gj x f k l s=gt x f (λv=>pk x v Bf k) l s:=rr
@[simp ↓] theorem a3q {f:(TV->RA X)->RA X}:gk x f k l s=gf x f (λv=>pk x Bt v k) l s:=rr
@[simp ↓] theorem a2W {f g:RA X}:pb x y z f g l s=pk x y z (λc=>br c f g) l s:=rr
@[simp ↓] theorem a3l:iq a b x y k l s=ia a x y (λc=>pl b c k) l s:=rr
@[simp ↓] theorem a3z {c:ao}:cz a c b x k l s=af a c (λv=>st b x v k) l s:=rr
@[simp ↓] theorem a39:lz a y b x k l s=lg a y (λv=>st b x v k) l s:=rr
@[simp ↓] theorem a3i:lc a x b k l s=lg a x (λv=>af b [v] k) l s:=rr
@[simp ↓] theorem a2L {a:ao}:rv (X:=X) a l s=rt (.tu a) l s:=rr
@[simp ↓] theorem a3a:ly a x k l s=lt true a x k l s:=rr
@[simp ↓] theorem a2I {k:RA X}:sx a x y k l s=st a x y (λ_=>k) l s:=rr
@[simp ↓] theorem a2Q {k:RA X}:px a x b y k l s=ps a x b y (λ_=>k) l s:=rr
@[simp ↓] theorem a3A {c:ao} {k:RA X}:cx a c b x k l s=cz a c b x (λ_=>k) l s:=rr
@[simp ↓] theorem a3b {k:RA X}:lx a y b x k l s=lz a y b x (λ_=>k) l s:=rr
@[simp ↓] theorem a3p {f:(TV->RA X)->RA X}:gt x f k l s=gg x true f k l s:=rr
@[simp ↓] theorem a3t {f:(TV->RA X)->RA X}:gf x f k l s=gg x false f k l s:=rr
@[simp ↓] theorem a34:mt x y k l s=gg x true (mv y) k l s:=rr
@[simp ↓] theorem a38:mf x y k l s=gg x false (mv y) k l s:=rr
@[simp ↓] theorem a2O {b:ae}:rm a x y r b=rl true true true none true a x y r b:=rr
@[simp ↓] theorem a2N {a:ae}:rn x y r a=rl true true true none false 1 x y r a:=rr
@[simp ↓] theorem a2J {f:ae->ae->RA X}:sv f l s=f l s l s:=rr
@[simp ↓] theorem dH {A:Type} {j:A} {f:A->RA X}:jn j f l s=f j l s:=rr
end
def ST (c:Bool) (p q:Prop):Prop:=bif c then p else q
@[congr] theorem a4k {c a:Bool} {p q:Prop} (h:mk c=a):ST c p q=ST a p q:=by subst h;rfl
@[simp] theorem a4h {p q:Prop}:ST true p q=p:=rr
@[simp] theorem a4j {p q:Prop}:ST false p q=q:=rr
@[simp] theorem a4i {c:Bool} {p q:Prop}:ST (!c) p q=ST c q p:=by cases c <;> rfl
theorem ST.mk {c:Bool} {p q:Prop} (a:c->p) (b:c=false->q):ST c p q:=by cases c;exact b rfl;exact a rfl
theorem ST.dc {c:Prop} {_:Decidable c} {p q:Prop} (a:c->p) (b:¬c->q):ST (decide c) p q:=ST.mk (λh=>a (yB h)) λh=>b (of_decide_eq_false h)
def WQ (c:TV) (p q:Prop):Prop:=match c with
 | .v (.bool t)=>bif t then p else q
 | _=>False
@[congr] theorem a2t {p q:Prop} (h:mk x=y):WQ x p q=WQ y p q:=by subst h;rfl
@[simp] theorem a2u {c:Bool} {p q:Prop}:WQ (.v (.bool c)) p q=ST c p q:=rr
def NQ (w:TV) (b:Bool) (p q:Prop):Prop:=match w with
 | .v (.bool c)=>bif c==b then p else q
 | .tu []=>q
 | _=>False
@[congr] theorem a22 {b:Bool} {p q:Prop} (h:mk x=y):NQ x b p q=NQ y b p q:=by subst h;rfl
@[simp] theorem a1Y {c:Bool} {p q:Prop}:NQ (.v (.bool c)) true p q=ST c p q:=by cases c <;> exact rr
@[simp] theorem a1Z {c:Bool} {p q:Prop}:NQ (.v (.bool c)) false p q=ST c q p:=by cases c <;> exact rr
@[simp] theorem a1X {b:Bool} {p q:Prop}:NQ (.tu []) b p q=q:=rr
section
variable {P:aB} {fl:Nat} {r:jy} {l s:ae}
def CL (P:aB) (K:Nat) (a:ao) (fl:Nat) (k:dM) (l s:ae):Prop:=bO a=true/\Ends P AA Pl dq K a s fl λv s=>k v l s
@[congr] theorem a4v {b c:ao} {k:dM} (h:mk b=c):CL P a b fl k l s=CL P a c fl k l s:=by subst h;rfl
def PR (p:Prop):Prop:=p
@[simp] theorem a4t (p:Prop):PR p=p:=rr
theorem CL.of {b:ao} {k:dM} {Q:jy} (h:EN P a b s fl Q) (e:bO b) (d:∀v c,Q v c->PR (k v l c)):CL P a b fl k l s:=⟨e,Ends.mono h d⟩
theorem CL.o {b:ao} {k:dM} {Q:jy} (h:EN P a b s fl Q) (d:∀v c,Q v c->PR (k v l c)) (e:bO b:=by rfl):CL P a b fl k l s:=.of h e d
theorem CL.eq {b:ao} {k:dM} {e:ae} (h:EN P a b s fl λr t=>r=x/\t=e) (j:bO b):CL P a b fl k l s=k x l e:=by obtain ⟨n,_,_,d,rfl,rfl⟩:=h;refine propext ⟨λh=>?_,λh=>⟨j,n,_,_,d,h⟩⟩;obtain ⟨_,m,o,p,g,i⟩:=h;have f:=jI (xZ n m) _ _ _ _ _ d;have c:=jI (wK m n) _ _ _ _ _ g;rw [f] at c;cases c;exact i
theorem CL.q {K:Nat} {a:ao} {k:dM} {v:TV} {b:ae} (h:EN P K a s fl λr t=>r=v/\t=b) (c:bO a:=by rfl):CL P K a fl k l s=k v l b:=CL.eq h c
@[simp ↓] theorem a1s {b:ao} {k:TV->RA (Xc P fl r)}:af (X:=Xc P fl r) a b k l s=CL P a (b.map dA) fl k l s:=by show (bif bO (b.map dA) then _ else False)=_;cases h:bO (b.map dA) <;> simp only [CL,h,cond_true,cond_false,true_and,false_and,xD] <;> rfl
@[simp ↓] theorem a3C {b:ao} {k:TV->RA (Xc P fl r)}:cl (X:=Xc P fl r) a b k l s=CL P a b fl k l s:=by show (bif bO b then _ else False)=_;cases h:bO b <;> simp only [CL,h,cond_true,cond_false,true_and,false_and,xD] <;> rfl
@[simp ↓] theorem a2M:rt (X:=Xc P fl r) x l s=r x s:=rr
@[simp ↓] theorem a3H {f g:RA (Xc P fl r)}:br (X:=Xc P fl r) x f g l s=WQ x (f l s) (g l s):=rr
@[simp ↓] theorem a3s {b:Bool} {f:(TV->RA (Xc P fl r))->RA (Xc P fl r)} {k:TV->RA (Xc P fl r)}:gg (X:=Xc P fl r) x b f k l s=NQ x b (f k l s) (k (.tu []) l s):=rr
def LP (P:aB) (fl:Nat) (r:jy) (a:aA) (b:LB (Xc P fl r)->LB (Xc P fl r)) (c:ao) (l s:ae):Prop:=lp (X:=Xc P fl r) a b c l s
@[congr] theorem a4u {a:aA} {b:LB (Xc P fl r)->LB (Xc P fl r)} {c d:ao} (h:mk c=d):LP P fl r a b c l s=LP P fl r a b d l s:=by subst h;rfl
@[simp ↓] theorem a3e {a:aA} {b:LB (Xc P fl r)->LB (Xc P fl r)} {c:ao}:lp (X:=Xc P fl r) a b c l s=LP P fl r a b c l s:=rr
theorem LP.ind {i:Type} (l:i->Nat) (I:i->Prop) (c:i->ao) (a g:i->ae) {lv:aA} {b:LB (Xc P fl r)->LB (Xc P fl r)} (m:Nat)
  (n:∀y,I y->(a y).length=m/\lv.map (ej lv (c y))=c y/\Jv m (c y))
  (h:∀x,I x->∀k:ao->ae->ae->Prop,(∀y d e f,d=c y->e.take m=a y->f=g y->I y->l y<l x->k d e f)->b k (c x) (a x) (g x))
  (x:i) (j:I x):LP P fl r lv b (c x) (a x) (g x):=by
 have z:∀N x,I x->l x<N->La False (λk d e f=>b (kc (Xc P fl r) (a x).length k) (lv.map (ej lv d)) e f) N (c x) (a x) (g x):=by
  intro N;induction N with
  | zero=>intro x _ h;exact absurd h (Nat.not_lt_zero _)
  | succ N w=>
   intro x j A;obtain ⟨p,q,_⟩:=n x j;show b _ (lv.map (ej lv (c x))) (a x) (g x);rw [q];refine h x j _ λy d e f s t v o C=>?_;obtain ⟨e3,_,e4⟩:=n y o;change (bif Jv (a x).length d then (La False _ N d (e.take (a x).length) f:Prop) else False)
   rw [s,p,e4,t,v];have:=w y o O;rw [e3] at this;exact this
 exact ⟨l x+1,z _ x j (yK _)⟩
end
def RO (o:ek) (s:ae) (k:jy):Prop:=∃v,o=some v/\k v s
@[congr] theorem a4r {o a:ek} {k:jy} (h:mk o=a):RO o r k=RO a r k:=by subst h;rfl
@[simp] theorem a4q {k:jy}:RO (some x) r k=k x r:=propext ⟨λ⟨_,a,b⟩=>by cases a;exact b,λh=>⟨_,rfl,h⟩⟩
def RT (a:Bool) (s:ae) (k:jy) (v:TV) (b:ae):Prop:=RO ((jH s.length b v).map (pS a)) s k
@[simp] theorem a4m {a:Bool} {k:jy}:RT a r k x s=RO ((jH r.length s x).map (pS a)) r k:=rr
theorem EN.of' {f:Func} {i:(X:CX)->ao->RA X} {d:ao} {k:jy} (e:BE a f b i) (n:AA.rw a=false) (m:d.length=b) (h:i (Xc prog r.length (RT (AA.aM a) r k)) d [] r):EN prog a d r c k:=by
 have o:=e.ok;simp only [okF,zP] at o;obtain ⟨⟨x,y⟩,z⟩:=o;obtain ⟨p,j⟩:=xR.1 y;have t:cG f=p:=by unfold cG;rw [j];rfl
 refine Ends.of x e.hf j (by rw [m];exact yR z) ?_;have l:=e.eq (XP prog AA Pl dq (bif AA.rw a then c else r.length) (Rt AA a r k)) d r m;rw [t] at l;apply cast l.symm;rw [n];have q:Rt AA a r k=RT (AA.aM a) r k:=by
  funext v A;unfold Rt RT RO jt;rw [n];simp only [cond_false];cases jH r.length A v with
  | none=>simp
  | some w=>simp only [zH,xP,Prod.mk.injEq];exact propext ⟨λ⟨_,_,⟨g,s⟩,h⟩=>⟨_,rfl,by rw [g,s];exact h⟩,λ⟨_,g,h⟩=>⟨_,_,⟨g,rfl⟩,h⟩⟩
 rw [q];exact h
theorem EN.of {f:Func} {g:(X:CX)->ao->RA X} {d:ao} {fl:Nat} {k:jy} (e:BE a f b g) (c:(AA.rw a||AA.aM a)=false) (i:d.length=b) (h:g (Xc prog r.length (RT false r k)) d [] r):EN prog a d r fl k:=by rw [Bool.or_eq_false_iff] at c;apply EN.of' e c.1 i;rw [c.2];exact h
theorem EN.o {f:Func} {g:(X:CX)->ao->RA X} {d:ao} {k:jy} (e:BE a f b g) (h:g (Xc prog r.length (RT false r k)) d [] r) (j:(AA.rw a||AA.aM a)=false:=by kernel_rfl) (i:d.length=b:=by rfl):EN prog a d r c k:=.of e j i h
theorem EN.mono {P:aB} {f:ao} {k c:jy} (h:EN P a f r b k) (g:∀d e,k d e->c d e):EN P a f r b c:=Ends.mono h g
def EP (P:aB) (K:Nat) (c:ao) (Q:TV->Prop):Prop:=∀s a,EN P K c s a λr b=>Q r/\s=b
def RQ (o:ek) (Q:TV->Prop):Prop:=∃v,o=some v/\Q (bw v)
@[congr] theorem a4o {o a:ek} {Q:TV->Prop} (h:mk o=a):RQ o Q=RQ a Q:=by subst h;rfl
@[simp] theorem a4n {Q:TV->Prop}:RQ (some x) Q=Q (bw x):=propext ⟨λ⟨_,a,b⟩=>by cases a;exact b,λh=>⟨_,rfl,h⟩⟩
def RP (Q:TV->Prop) (s:ae) (v:TV) (a:ae):Prop:=RQ (jH s.length a v) Q
@[simp] theorem a4p {Q:TV->Prop}:RP Q r x s=RQ (jH r.length s x) Q:=rr
abbrev PX (P:aB) (s:ae) (Q:TV->Prop):CX:=Xc P s.length (RP Q s)
theorem EP.of {f:Func} {i:(X:CX)->ao->RA X} {d:ao} {Q:TV->Prop} (e:BE a f b i) (l:(AA.rw a||AA.aM a)=false) (k:d.length=b) (h:∀(s:ae) (g:TV->Prop),(∀v,Q v->g v)->i (PX prog s g) d [] s):EP prog a d Q:=by
 intro s fl;apply EN.of e l k;have j:RT false s (λr m=>Q r/\s=m)=RP Q s:=by
  funext v n;unfold RT RP RO RQ;cases jH s.length n v with
  | none=>simp
  | some w=>exact propext ⟨λ⟨_,c,h,_⟩=>⟨_,rfl,by cases c;exact h⟩,λ⟨_,c,h⟩=>⟨_,rfl,by cases c;exact h,rfl⟩⟩
 rw [j];exact h s Q λ_ h=>h
theorem EP.o {f:Func} {g:(X:CX)->ao->RA X} {c:ao} {Q:TV->Prop} (e:BE a f b g) (h:∀(s:ae) (d:TV->Prop),(∀v,Q v->d v)->g (PX prog s d) c [] s) (j:(AA.rw a||AA.aM a)=false:=by kernel_rfl) (i:c.length=b:=by rfl):EP prog a c Q:=EP.of e j i h
section
variable {P:aB} {K:Nat} {J:ao} {Q:TV->Prop} {fl:Nat} {k:dM} {l s:ae}
theorem CP.of (h:EP P K J Q) (c:bO J) (b:∀v,Q v->PR (k v l s)):CL P K J fl k l s:=CL.of (h s fl) c λ_ _ d=>by obtain ⟨a,rfl⟩:=d;exact b _ a
theorem CP.o (h:EP P K J Q) (a:∀v,Q v->PR (k v l s)) (b:bO J:=by rfl):CL P K J fl k l s:=CP.of h b a
theorem CP.eq (h:EP P K J (· =x)) (b:bO J):CL P K J fl k l s=k x l s:=CL.eq (EN.mono (h s fl) λ_ _ a=>⟨a.1,a.2.symm⟩) b
theorem CP.q {v:TV} (h:EP P K J (· =v)) (a:bO J:=by rfl):CL P K J fl k l s=k v l s:=CP.eq h a
theorem EP.mono {a:TV->Prop} (h:EP P K J Q) (b:∀v,Q v->a v):EP P K J a:=λs fl=>EN.mono (h s fl) λ_ _ h=>⟨b _ h.1,h.2⟩
end
def O0 (o:ek) (Q:TV->Prop):Prop:=∃v,o=some v/\Q v
@[congr] theorem a2F {o a:ek} {Q:TV->Prop} (h:mk o=a):O0 o Q=O0 a Q:=by subst h;rfl
@[simp] theorem a2E {Q:TV->Prop}:O0 (some x) Q=Q x:=propext ⟨λ⟨_,a,b⟩=>by cases a;exact b,λh=>⟨_,rfl,h⟩⟩
def RK (Q:TV->Prop) (s:ae) (v:TV) (a:ae):Prop:=O0 (jH s.length a v) Q
@[simp] theorem a4s {Q:TV->Prop}:RK Q r x s=O0 (jH r.length s x) Q:=rr
abbrev KX (P:aB) (s:ae) (Q:TV->Prop):CX:=Xc P s.length (RK Q s)
theorem EK.of {f:Func} {j:(X:CX)->ao->RA X} {g:ao} {Q:TV->Prop} (e:BE a f b j) (d:(!AA.rw a&&AA.aM a)) (l:g.length=b) (h:∀(s:ae) (i:TV->Prop),(∀v,Q v->i v)->j (KX prog s i) g [] s):EP prog a g Q:=by
 intro s fl;rw [zP,xF] at d;apply EN.of' e d.1 l;have k:RT (AA.aM a) s (λr m=>Q r/\s=m)=RK Q s:=by
  funext v n;unfold RT RK RO O0;rw [d.2];cases jH s.length n v with
  | none=>simp
  | some w=>exact propext ⟨λ⟨_,c,h,_⟩=>⟨_,rfl,by cases c;exact h⟩,λ⟨_,c,h⟩=>⟨_,rfl,by cases c;exact h,rfl⟩⟩
 rw [k];exact h s Q λ_ h=>h
theorem EK.o {f:Func} {g:(X:CX)->ao->RA X} {c:ao} {Q:TV->Prop} (e:BE a f b g) (h:∀(s:ae) (d:TV->Prop),(∀v,Q v->d v)->g (KX prog s d) c [] s) (j:(!AA.rw a&&AA.aM a):=by kernel_rfl) (i:c.length=b:=by rfl):EP prog a c Q:=EK.of e j i h
end T
namespace T
open Go V Q
variable {a b c d e f g:Nat} {u v w:Value} {i j k:Int} {t:TypeId} {p:List Value} {q:Bool} {n:IntKind} {x y z:TV} {r s:List TO} {o:List TV}
@[simp] theorem a2p (x:aq):dY (.v x)= .v x:=rfl
@[simp] theorem a2l (x:aq):dA (.v x)= .v x:=rfl
@[simp] theorem a0Y (x:aq):bw (.v x)= .v x:=rfl
@[simp] theorem a3X (x:aq):ce (.v x)=[.v x]:=rfl
@[simp] theorem Zb (x:aq):cI (.v x):=rfl
@[simp] theorem Zf (x:aq):kz (.v x):=rfl
@[simp] theorem YO (x:aq):ng (.v x):=rfl
@[simp] theorem Z7 (x:aq):aW (.v x):=by simp [aW,cK]
@[simp] theorem a1T (x:aq):Eh (.v x)=some (.v x):=rfl
@[simp] theorem a17 (o:Bool) (a:cD):dY (.sl o a)= .sl false a:=rfl
@[simp] theorem a13 (o:Bool) (a:cD):dA (.sl o a)= .sl false a:=rfl
@[simp] theorem a2h (o:Bool) (a:cD):bw (.sl o a)= .sl false a:=rfl
@[simp] theorem a26 (o:Bool) (a:cD):ce (.sl o a)=[.sl o a]:=rfl
@[simp] theorem Wp (o:Bool) (a:cD):cI (.sl o a):=rfl
@[simp] theorem Ws (o:Bool) (a:cD):kz (.sl o a)= !o:=rfl
@[simp] theorem Wg (o:Bool) (a:cD):ng (.sl o a)= !o:=rfl
@[simp] theorem Wl (o:Bool) (a:cD):aW (.sl o a):=by simp [aW,cK]
@[simp] theorem XO (o:Bool) (a:cD):Ah (.sl o a):=rfl
@[simp] theorem Z3 (o:Bool) (a:cD):Eh (.sl o a)=some (.sl o a):=rfl
@[simp] theorem a2r (r:Bool) (a b:Nat):dY (.p r a b)= .p r a b:=rfl
@[simp] theorem a2n (r:Bool) (a b:Nat):dA (.p r a b)= .p r a b:=rfl
@[simp] theorem a43 (r:Bool) (a b:Nat):bw (.p r a b)= .p r a b:=rfl
@[simp] theorem a3Z (r:Bool) (a b:Nat):ce (.p r a b)=[.p r a b]:=rfl
@[simp] theorem Zd (r:Bool) (a b:Nat):cI (.p r a b)=r:=rfl
@[simp] theorem Zh (r:Bool) (a b:Nat):kz (.p r a b)=r:=rfl
@[simp] theorem YQ (r:Bool) (a b:Nat):ng (.p r a b)=false:=rfl
@[simp] theorem Z9 (r:Bool) (a b:Nat):aW (.p r a b)=r:=by simp [aW,cK]
@[simp] theorem a1F (r:Bool) (a b:Nat):Ah (.p r a b):=rfl
@[simp] theorem a1V (r:Bool) (a b:Nat):Eh (.p r a b)=some (.p r a b):=rfl
@[simp] theorem a2q (r:Bool) (a c i sz b:Nat):dY (.q r a c i sz b)= .q r a c i sz b:=rfl
@[simp] theorem a2m (r:Bool) (a c i sz b:Nat):dA (.q r a c i sz b)= .q r a c i sz b:=rfl
@[simp] theorem a42 (r:Bool) (a c i sz b:Nat):bw (.q r a c i sz b)= .q r a c i sz b:=rfl
@[simp] theorem a3Y (r:Bool) (a c i sz b:Nat):ce (.q r a c i sz b)=[.q r a c i sz b]:=rfl
@[simp] theorem Zc (r:Bool) (a c i sz b:Nat):cI (.q r a c i sz b)=r:=rfl
@[simp] theorem Zg (r:Bool) (a c i sz b:Nat):kz (.q r a c i sz b)=r:=rfl
@[simp] theorem YP (r:Bool) (a c i sz b:Nat):ng (.q r a c i sz b)=false:=rfl
@[simp] theorem Z8 (r:Bool) (a c i sz b:Nat):aW (.q r a c i sz b)=r:=by simp [aW,cK]
@[simp] theorem a1E (r:Bool) (a c i sz b:Nat):Ah (.q r a c i sz b):=rfl
@[simp] theorem a1U (r:Bool) (a c i sz b:Nat):Eh (.q r a c i sz b)=some (.q r a c i sz b):=rfl
@[simp] theorem a18 (a:ao) (b:Nat):dY (.pe a b)= .pe a b:=rfl
@[simp] theorem a14 (a:ao) (b:Nat):dA (.pe a b)= .pe a b:=rfl
@[simp] theorem a2i (a:ao) (b:Nat):bw (.pe a b)= .pe a b:=rfl
@[simp] theorem a27 (a:ao) (b:Nat):ce (.pe a b)=[.pe a b]:=rfl
@[simp] theorem Wq (a:ao) (b:Nat):cI (.pe a b):=rfl
@[simp] theorem Wt (a:ao) (b:Nat):kz (.pe a b):=rfl
@[simp] theorem Wh (a:ao) (b:Nat):ng (.pe a b)=false:=rfl
@[simp] theorem Wm (a:ao) (b:Nat):aW (.pe a b):=by simp [aW,cK]
@[simp] theorem XQ (a:ao) (b:Nat):Ah (.pe a b):=rfl
@[simp] theorem Z4 (a:ao) (b:Nat):Eh (.pe a b)=some (.pe a b):=rfl
@[simp] theorem a2s (r:Bool) (a c b n sz:Nat):dY (.m r a c b n sz)= .m r a c b n sz:=rfl
@[simp] theorem a2o (r:Bool) (a c b n sz:Nat):dA (.m r a c b n sz)= .m r a c b n sz:=rfl
@[simp] theorem a0Z (r:Bool) (a c b n sz:Nat):bw (.m r a c b n sz)= .m r a c b n sz:=rfl
@[simp] theorem a41 (r:Bool) (a c b n sz:Nat):ce (.m r a c b n sz)=[.m r a c b n sz]:=rfl
@[simp] theorem Ze (r:Bool) (a c b n sz:Nat):cI (.m r a c b n sz)=r:=rfl
@[simp] theorem Zi (r:Bool) (a c b n sz:Nat):kz (.m r a c b n sz)=r:=rfl
@[simp] theorem YR (r:Bool) (a c b n sz:Nat):ng (.m r a c b n sz)=false:=rfl
@[simp] theorem Za (r:Bool) (a c b n sz:Nat):aW (.m r a c b n sz)=r:=by simp [aW,cK]
@[simp] theorem a1G (r:Bool) (a c b n sz:Nat):Ah (.m r a c b n sz):=rfl
@[simp] theorem a1W (r:Bool) (a c b n sz:Nat):Eh (.m r a c b n sz)=some (.m r a c b n sz):=rfl
@[simp] theorem a19 (a:Nat):dY (.mp a)= .mp a:=rfl
@[simp] theorem a15 (a:Nat):dA (.mp a)= .mp a:=rfl
@[simp] theorem a2j (a:Nat):bw (.mp a)= .mp a:=rfl
@[simp] theorem a29 (a:Nat):ce (.mp a)=[.mp a]:=rfl
@[simp] theorem Wr (a:Nat):cI (.mp a):=rfl
@[simp] theorem Wu (a:Nat):kz (.mp a):=rfl
@[simp] theorem Wi (a:Nat):ng (.mp a)=false:=rfl
@[simp] theorem Wn (a:Nat):aW (.mp a):=by simp [aW,cK]
@[simp] theorem XR (a:Nat):Ah (.mp a):=rfl
@[simp] theorem Z5 (a:Nat):Eh (.mp a)=some (.mp a):=rfl
@[simp] theorem a2b (x:aq):jB (.v x)= .v x:=rfl
@[simp] theorem a2c (r:Bool) (a b:Nat):jB (.p r a b)= .p r a b:=rfl
@[simp] theorem a2e (r:Bool) (a c b n sz:Nat):jB (.m r a c b n sz)= .m r a c b n sz:=rfl
@[simp] theorem a0X (a:Nat):jB (.mp a)= .mp a:=rfl
@[simp] theorem a2d (o:Bool):jB (.sl o [])= .sl o []:=rfl
@[simp] theorem a2f (o:Bool) (e:ao) (a:cD):jB (.sl o (e::a))= .sl false (e::a):=rfl
@[simp] theorem WN (o:Bool) (a:cD):dY (jB (.sl o a))= .sl false a:=by cases a <;> rfl
@[simp] theorem a16 (a:ao):dA (.ag a)= .ag (a.map dY):=rfl
@[simp] theorem a2k (a:ao):bw (.ag a)= .ag (a.map dY):=rfl
@[simp] theorem a2g (a:ao):bw (.tu a)= .tu (a.map dA):=rfl
@[simp] theorem a2a (a:ao):ce (.ag a)=a:=rfl
@[simp] theorem Wo (a:ao):aW (.ag a)=cK a:=rfl
@[simp] theorem Z6 (a:ao):Eh (.ag a)=some (.ag a):=rfl
@[simp] theorem a1H (k:IntKind) (n:Int):Ah (.v (.int k n)):=rfl
@[simp] theorem a1I (n:Bool):Ah (.v (.bool n)):=rfl
@[simp] theorem a1D (n:aU):Ah (.v (.string n)):=rfl
@[simp] theorem XT (a:ao):Ah (.ag a)=Ag a:=rfl
@[simp] theorem XV (k:IntKind) (n:Int):rf (.v (.int k n)):=rfl
@[simp] theorem XW (n:Bool):rf (.v (.bool n)):=rfl
@[simp] theorem XU (n:aU):rf (.v (.string n)):=rfl
@[simp] theorem Vz (o:Bool) (a:cD):rf (.sl o a):=rfl
attribute [simp] cK bO pM n4 Ag eQ ob put wr mj cS ER isRow Jv rb dO
@[simp] theorem WJ (i:Nat) (a:ao):ct i (.tu a)= .tu (a.set i ((a[i]?).elim .u dA)):=rfl
@[simp] theorem a0x {b:Type} {c:Prop} [Decidable c] {a:b} (h:c):(if c then some a else none)=some a:=zO h
def YJ (g:Bool) (n b:Nat):Option TO->ek
 | some (.row a _)=>(part g n a b).map bw
 | _=>none
@[simp] theorem We (g:Bool) (n b:Nat) (a:ao) (sz:Nat):YJ g n b (some (.row a sz))=(part g n a b).map bw:=rfl
@[simp] theorem VF (g:Bool) (n:Nat) (l s:ae) (a b:Nat):fp g n l s (.p false a b)=YJ g n b (fw l a):=by simp only [fp,ob,cond_false,dT];rcases fw l a with _|o;rfl;cases o <;> rfl
@[simp] theorem VE (g:Bool) (n:Nat) (l s:ae) (a b:Nat):fp g n l s (.p true a b)=YJ g n b s[a]? :=by simp only [fp,ob,cond_true];rcases s[a]? with _|o;rfl;cases o <;> rfl
@[simp] theorem OB (g:Bool) (n:Nat) (l s:ae) (a:ao) (b:Nat):fp g n l s (.pe a b)=part g n a b:=rfl
@[simp] theorem YU (n b:Nat) (a:ao):part false n a b=fw a b:=dT a b
@[simp] theorem YT (n b:Nat) (a:ao):part true n a b=if b+n<=a.length then some (.ag ((a.drop b).take n)) else none:=rfl
def tkl (g:Bool) (n b c:Nat) (l s:ae):Option TO->Option (TV×ae×ae)
 | some (.row a sz)=>(part g n a b).map λx=>(x,l.set c (.row (eQ a b ((ce x).map dY)) sz),s)
 | _=>none
@[simp] theorem VK (g:Bool) (n b c:Nat) (l s:ae) (a:ao) (sz:Nat):tkl g n b c l s (some (.row a sz))=(part g n a b).map λx=>(x,l.set c (.row (eQ a b ((ce x).map dY)) sz),s):=rfl
@[simp] theorem VC (g:Bool) (n c:Nat) (l s:ae) (a b:Nat):gX g n c l s (.p false a b)=tkl g n b a l s (fw l a):=by simp only [gX,ob,cond_false,dT,wr,put];rcases fw l a with _|o;rfl;cases o <;> rfl
def YA (n a c:Nat) (x:TV) (l s:ae):Option TO->Option (ae×ae)
 | some (.row b sz)=>if (ce x).length=n/\a+n<=b.length/\aW x/\AK sz a n=true then some (l.set c (.row (eQ b a (ce x)) sz),s) else none
 | _=>none
@[simp] theorem Wd (n a c:Nat) (x:TV) (l s:ae) (b:ao) (sz:Nat):YA n a c x l s (some (.row b sz))=if (ce x).length=n/\a+n<=b.length/\aW x/\AK sz a n=true then some (l.set c (.row (eQ b a (ce x)) sz),s) else none:=rfl
@[simp] theorem Ot (n c:Nat) (x:TV) (l s:ae) (a b:Nat):cF n c x l s (.p false a b)=YA n b a x l s (fw l a):=by simp only [cF,ob,cond_false,dT,wr,put];rcases fw l a with _|o;rfl;cases o <;> simp [YA]
attribute [simp] Ao Nx text NA As List.set_cons_zero List.set_cons_succ
@[simp] theorem VX (i:Nat) (a:ao):text i (.tu a)=(fw a i).bind Eh:=by rw [text,dT]
@[simp] theorem VL (e:Nat) (o:Bool) (a:cD) (k:IntKind) (m:Int):uW e (.sl o a) (.v (.int k m))=if 0<=m then (a[m.toNat]?).bind λc=>if c.length=e then some (.pe c 0) else none else none:=rfl
def tfl (pl:List (Nat×Nat)) (a:ao) (x:TV) (ps:List (Nat×TV)):Option (Nat×Nat)->Option (ao)
 | some (b,n)=>if (ce x).length=n/\b+n<=a.length/\aW x=true then iM pl (eQ a b ((ce x).map jB)) ps else none
 | none=>none
@[simp] theorem a1J (pl:List (Nat×Nat)) (a:ao) (x:TV) (ps:List (Nat×TV)) (b n:Nat):tfl pl a x ps (some (b,n))=if (ce x).length=n/\b+n<=a.length/\aW x=true then iM pl (eQ a b ((ce x).map jB)) ps else none:=rfl
@[simp] theorem VV (pl:List (Nat×Nat)) (a:ao):iM pl a []=some a:=rfl
@[simp] theorem VW (pl:List (Nat×Nat)) (c:ao) (i:Nat) (x:TV) (ps:List (Nat×TV)):iM pl c ((i,x)::ps)=tfl pl c x ps (fw pl i):=by simp only [iM,<-dT];rcases pl[i]? with _|⟨a,b⟩ <;> rfl
@[simp] theorem OJ (e:Nat) (a:cD):jb e a []=some a:=rfl
@[simp] theorem OL (e:Nat) (a:cD) (i:Nat) (x:TV) (ps:List (Nat×TV)):jb e a ((i,x)::ps)=if (ce x).length=e/\i<a.length then jb e (a.set i ((ce x).map dY)) ps else none:=rfl
attribute [simp] WO df
@[simp] theorem a3V (n m:Nat):Nat.beq n m=decide (n=m):=by by_cases h:n=m;subst h;simp;rw [decide_eq_false h];exact Bool.eq_false_iff.2 λe=>h (zS e)
@[simp] theorem Yk (e:Nat) (r:Bool) (a c b n sz:Nat) (k:IntKind) (m:Int):uW e (.m r a c b n sz) (.v (.int k m))=if 0<=m/\m<n/\sz=e then some (.q r a c (b+m.toNat) sz 0) else none:=rfl
def Wc (n b d i sz c:Nat) (x:TV) (l s:ae):Option TO->Option (ae×ae)
 | some (.aY k z a)=>if k=d/\z=sz/\z<1000000 then match a[i]? with
   | some e=>if (ce x).length=n/\b+n<=e.length/\n4 ((ce x).map dY)=true then some (l.set c (.aY k z (a.set i (eQ e b ((ce x).map dY)))),s) else none
   | none=>none
  else none
 | _=>none
@[simp] theorem Wb (n b d i sz c:Nat) (x:TV) (l s:ae) (k z:Nat) (a:cD):Wc n b d i sz c x l s (some (.aY k z a))=if k=d/\z=sz/\z<1000000 then match a[i]? with
   | some e=>if (ce x).length=n/\b+n<=e.length/\n4 ((ce x).map dY)=true then some (l.set c (.aY k z (a.set i (eQ e b ((ce x).map dY)))),s) else none
   | none=>none
  else none:=rfl
@[simp] theorem Oq (n d:Nat) (x:TV) (l s:ae) (a c i sz b:Nat):cF n d x l s (.q false a c i sz b)=Wc n b c i sz a x l s (fw l a):=by simp only [cF,ob,cond_false,wr,put];rw [dT l a];rcases fw l a with _|o;rfl;cases o <;> first|(simp [Wc];done)|(simp [Wc];rfl)
def ldq (g:Bool) (n b c i sz:Nat):Option TO->ek
 | some (.aY k z a)=>if k=c/\z=sz then (a[i]?).bind λe=>part g n e b else none
 | _=>none
@[simp] theorem Wy (g:Bool) (n b c i sz k z:Nat) (a:cD):ldq g n b c i sz (some (.aY k z a))=if k=c/\z=sz then (a[i]?).bind λe=>part g n e b else none:=rfl
@[simp] theorem OA (g:Bool) (n:Nat) (l s:ae) (a c i sz b:Nat):fp g n l s (.q false a c i sz b)=ldq g n b c i sz (fw l a):=by simp only [fp,ob,cond_false];rw [dT l a];rcases fw l a with _|o;rfl;cases o <;> rfl
@[simp] theorem Oz (g:Bool) (n:Nat) (l s:ae) (a c i sz b:Nat):fp g n l s (.q true a c i sz b)=ldq g n b c i sz s[a]? :=by simp only [fp,ob,cond_true];rcases s[a]? with _|o;rfl;cases o <;> rfl
@[simp] theorem Kk (l s:ae) (o:Bool) (a:cD):ew l s (.sl o a)=some (.sl o a,l,s):=rfl
def frq (d c n sz b:Nat) (l s:ae):Option TO->Option (TV×ae×ae)
 | some (.aY k z a)=>if k=d/\z=sz/\c=0/\n=a.length/\a≠[]/\cS 0 sz a=true then some (.sl true a,l.set b .dead,s) else none
 | _=>none
@[simp] theorem WE (d c n sz b:Nat) (l s:ae) (k z:Nat) (a:cD):frq d c n sz b l s (some (.aY k z a))=if k=d/\z=sz/\c=0/\n=a.length/\a≠[]/\cS 0 sz a=true then some (.sl true a,l.set b .dead,s) else none:=rfl
@[simp] theorem Nz (l s:ae) (a c b n sz:Nat):ew l s (.m false a c b n sz)=frq c b n sz a l s (fw l a):=by simp only [ew,ob,cond_false,put];rw [dT l a];rcases fw l a with _|o;rfl;cases o <;> simp [frq]
@[simp] theorem fW {r:Bool} {id az off n sz:Nat} {l s:ae} {a:aP} (h:prog.underlying t=some (.slice a)):eP prog t (.m r id az off n sz) l s=some (.v (.int .i64 (n:Nat))):=by unfold eP;rw [h]
section
variable {P:aB} {t:aP} {k:IntKind} {a b:Int}
theorem cy {a:BinOp} (b:bq u) (c:bq v) (h:da P a t u v=some w) (d:iI (.v u)=some u:=by rfl):cm P a t (.v u) (.v v)=some (iX w):=by unfold cm;simp only [iI,b,c,Bool.and_self,if_true,h,zH]
@[simp] theorem Kp:cm P .add t (.v (.int k a)) (.v (.int k b))=some (.v (.int k (k.wrap (a+b)))):=cy rfl rfl (MP t k a b)
@[simp] theorem Yn:cm P .sub t (.v (.int k a)) (.v (.int k b))=some (.v (.int k (k.wrap (a-b)))):=cy rfl rfl (Mv t k a b)
@[simp] theorem Yq:cm P .mul t (.v (.int k a)) (.v (.int k b))=some (.v (.int k (k.wrap (a*b)))):=cy rfl rfl (MC t k a b)
@[simp] theorem Yr:cm P .lss t (.v (.int k a)) (.v (.int k b))=some (.v (.bool (decide (a<b)))):=cy rfl rfl (MF t k a b)
@[simp] theorem Ys:cm P .leq t (.v (.int k a)) (.v (.int k b))=some (.v (.bool (decide (a<=b)))):=cy rfl rfl (MH t k a b)
@[simp] theorem Yu:cm P .gtr t (.v (.int k a)) (.v (.int k b))=some (.v (.bool (decide (b<a)))):=cy rfl rfl (MJ t k a b)
@[simp] theorem Yv:cm P .geq t (.v (.int k a)) (.v (.int k b))=some (.v (.bool (decide (b<=a)))):=cy rfl rfl (MK t k a b)
@[simp] theorem Yx:cm P .eql t (.v (.int k a)) (.v (.int k b))=some (.v (.bool (decide (a=b)))):=cy rfl rfl (MM t k a b)
@[simp] theorem Yp:cm P .neq t (.v (.int k a)) (.v (.int k b))=some (.v (.bool (!decide (a=b)))):=cy rfl rfl (MA t k a b)
theorem vc (h:b≠0):cm P .quo t (.v (.int k a)) (.v (.int k b))=some (.v (.int k (k.wrap (a.tdiv b)))):=cy rfl rfl (My t k a b h)
theorem rp (h:b≠0):cm P .rem t (.v (.int k a)) (.v (.int k b))=some (.v (.int k (a.tmod b))):=cy rfl rfl (Mx t k a b h)
@[simp] theorem Yw (a b:aU):cm P .eql t (.v (.string a)) (.v (.string b))=some (.v (.bool (decide (a=b)))):=cy rfl rfl (ML t a b)
@[simp] theorem Yo (a b:aU):cm P .neq t (.v (.string a)) (.v (.string b))=some (.v (.bool (!decide (a=b)))):=cy rfl rfl (Mz t a b)
theorem jc (a b:aU) (h:a.size+b.size<9223372036854775808):cm P .add t (.v (.string a)) (.v (.string b))=some (.v (.string (a++b))):=cy rfl rfl (MO t a b h)
theorem Cx {a:UnOp} (h:FU P a u=some v):Gm P a (.v u)=some (iX v):=by unfold Gm;simp only [iI,zR,h,zH]
@[simp] theorem XY (b:Bool):Gm P .not (.v (.bool b))=some (.v (.bool (!b))):=Cx (Ka b)
@[simp] theorem XZ:Gm P .neg (.v (.int k b))=some (.v (.int k (k.wrap (0-b)))):=Cx (Kb k b)
end
@[simp] theorem bX {t:aP} {a:cD} {el:aP} (h:prog.underlying t=some (.slice el)):eP prog t (.sl q a) r s=some (.v (.int .i64 (a.length:Nat))):=by unfold eP;rw [h]
@[simp] theorem Yl (a:Nat) (s:ae) (x:aq):jH a s (.v x)=some (.v x):=rfl
@[simp] theorem VO (b:Nat) (s:ae) (o:Bool) (a:cD):jH b s (.sl o a)=some (.sl o a):=rfl
@[simp] theorem VP (b:Nat) (s:ae) (a:ao):jH b s (.ag a)=(nU b s a).map .ag:=rfl
@[simp] theorem VN (b:Nat) (s:ae) (a:ao):jH b s (.tu a)=(my b s a).map .tu:=rfl
@[simp] theorem VU (a:Nat) (s:ae) (x:aq):jG a s (.v x)=some (.v x):=rfl
@[simp] theorem OI (b:Nat) (s:ae) (o:Bool) (a:cD):jG b s (.sl o a)=some (.sl o a):=rfl
@[simp] theorem VT (a:Nat) (s:ae) (x:aq):kC a s (.v x)=some (.v x):=rfl
@[simp] theorem OG (b:Nat) (s:ae) (o:Bool) (a:cD):kC b s (.sl o a)=some (.sl o a):=rfl
@[simp] theorem OH (b:Nat) (s:ae) (a:ao):kC b s (.ag a)=(nU b s a).map .ag:=rfl
attribute [simp] nU my
@[simp] theorem a0U (x:TV):pS true x=x:=rfl
@[simp] theorem a0V (x:TV):pS false x=bw x:=rfl
@[simp] theorem a1O (l s:ae):NL [] l s:=rfl
@[simp] theorem a1P (c:xk) (a:List (xk)) (l s:ae):NL (c::a) l s=(c l s&&NL a l s):=rfl
attribute [simp] rl rlk kf Wf YH Q.rw tq FW IC Vy Nv
@[simp ↓] theorem a4e {X:CX} (f:TV->RA X) (a:TV):a1 f [a]=f a:=Eq.trans (Eq.refl _) (Eq.refl _)
@[simp ↓] theorem a4d {X:CX} (f:TV->TV->RA X) (a b:TV):a2 f [a,b]=f a b:=Eq.trans (Eq.refl _) (Eq.refl _)
@[simp ↓] theorem a4c {X:CX} (f:TV->TV->TV->RA X) (a b c:TV):a3 f [a,b,c]=f a b c:=Eq.trans (Eq.refl _) (Eq.refl _)
@[simp ↓] theorem a4b {X:CX} (f:TV->TV->TV->TV->RA X) (a b c d:TV):a4 f [a,b,c,d]=f a b c d:=Eq.trans (Eq.refl _) (Eq.refl _)
@[simp ↓] theorem a4a {X:CX} (f:TV->TV->TV->TV->TV->RA X) (a b c d e:TV):a5 f [a,b,c,d,e]=f a b c d e:=Eq.trans (Eq.refl _) (Eq.refl _)
@[simp ↓] theorem a48 {X:CX} (f:TV->TV->TV->TV->TV->TV->RA X) (a b c d e g:TV):a6 f [a,b,c,d,e,g]=f a b c d e g:=Eq.trans (Eq.refl _) (Eq.refl _)
@[simp ↓] theorem a47 {X:CX} (f:TV->TV->TV->TV->TV->TV->TV->RA X) (a b c d e g h:TV):a7 f [a,b,c,d,e,g,h]=f a b c d e g h:=Eq.trans (Eq.refl _) (Eq.refl _)
@[simp ↓] theorem a45 {X:CX} (f:TV->TV->TV->TV->TV->TV->TV->TV->RA X) (a b c d e g h i:TV):a8 f [a,b,c,d,e,g,h,i]=f a b c d e g h i:=Eq.trans (Eq.refl _) (Eq.refl _)
@[simp ↓] theorem a44 {X:CX} (f:TV->TV->TV->TV->TV->TV->TV->TV->TV->RA X) (a b c d e g h i j:TV):a9 f [a,b,c,d,e,g,h,i,j]=f a b c d e g h i j:=Eq.trans (Eq.refl _) (Eq.refl _)
@[simp ↓] theorem a2C {X:CX} (f:TV->TV->TV->TV->TV->TV->TV->TV->TV->TV->RA X) (a b c d e g h i j k:TV):a10 f [a,b,c,d,e,g,h,i,j,k]=f a b c d e g h i j k:=Eq.trans (Eq.refl _) (Eq.refl _)
@[simp ↓] theorem a2B {X:CX} (f:TV->TV->TV->TV->TV->TV->TV->TV->TV->TV->TV->RA X) (a b d e g h i j k l c:TV):JR f [a,b,d,e,g,h,i,j,k,l,c]=f a b d e g h i j k l c:=Eq.trans (Eq.refl _) (Eq.refl _)
@[simp ↓] theorem a4f {X:CX} (f:RA X):a0 f []=f:=Eq.trans (Eq.refl _) (Eq.refl _)
theorem sM {P:aB} {d:aP} {a:IntKind} (b:(P.underlying t).isSome) (h:isI P d a):bJ P t d (.v (.int n i)) r s=some (.v (.int a (a.wrap i))):=by unfold bJ;simp only [iI,zR];rw [zO (by rfl),Tk b h];rfl
theorem tix {P:aB} {b:aU} (a:P.underlying t=some .string) (h:0<=i/\i<b.size):mw P t (.v (.string b)) (.v (.int n i))=some (.v (.int .u8 ((b.data.toList.getD i.toNat 0).toNat:Nat))):=by unfold mw;simp only [iI,zR,LR t n i b h a,zH];rfl
section
variable {l J:ae} {D:Bool} {E:cD}
theorem Kj {b:aU}:eP prog 9 (.v (.string b)) l J=some (.v (.int .i64 (b.size:Nat))):=by unfold eP;rw [show prog.underlying 9=some .string by kernel_rfl]
@[simp] theorem Yi:eP prog 22 (.sl D E) l J=some (.v (.int .i64 (E.length:Nat))):=bX (el:=2) Y
@[simp] theorem Yh:eP prog 25 (.sl D E) l J=some (.v (.int .i64 (E.length:Nat))):=bX (el:=158) Y
@[simp] theorem Yg:eP prog 27 (.sl D E) l J=some (.v (.int .i64 (E.length:Nat))):=bX (el:=156) Y
@[simp] theorem Yf:eP prog 28 (.sl D E) l J=some (.v (.int .i64 (E.length:Nat))):=bX (el:=217) Y
@[simp] theorem Ye:eP prog 29 (.sl D E) l J=some (.v (.int .i64 (E.length:Nat))):=bX (el:=215) Y
@[simp] theorem Yd:eP prog 30 (.sl D E) l J=some (.v (.int .i64 (E.length:Nat))):=bX (el:=111) Y
@[simp] theorem Yc:eP prog 31 (.sl D E) l J=some (.v (.int .i64 (E.length:Nat))):=bX (el:=3) Y
@[simp] theorem Yb:eP prog 32 (.sl D E) l J=some (.v (.int .i64 (E.length:Nat))):=bX (el:=256) Y
@[simp] theorem Ya:eP prog 33 (.sl D E) l J=some (.v (.int .i64 (E.length:Nat))):=bX (el:=310) Y
@[simp] theorem Y9:eP prog 48 (.sl D E) l J=some (.v (.int .i64 (E.length:Nat))):=bX (el:=89) Y
@[simp] theorem Y8:eP prog 49 (.sl D E) l J=some (.v (.int .i64 (E.length:Nat))):=bX (el:=164) Y
@[simp] theorem Y7:eP prog 55 (.sl D E) l J=some (.v (.int .i64 (E.length:Nat))):=bX (el:=86) Y
@[simp] theorem Y6:eP prog 66 (.sl D E) l J=some (.v (.int .i64 (E.length:Nat))):=bX (el:=102) Y
@[simp] theorem Y5:eP prog 68 (.sl D E) l J=some (.v (.int .i64 (E.length:Nat))):=bX (el:=9) Y
@[simp] theorem Y4:eP prog 77 (.sl D E) l J=some (.v (.int .i64 (E.length:Nat))):=bX (el:=5) Y
@[simp] theorem Y3:eP prog 78 (.sl D E) l J=some (.v (.int .i64 (E.length:Nat))):=bX (el:=90) Y
@[simp] theorem Y2:eP prog 79 (.sl D E) l J=some (.v (.int .i64 (E.length:Nat))):=bX (el:=96) Y
@[simp] theorem VJ:eP prog 127 (.sl D E) l J=some (.v (.int .i64 (E.length:Nat))):=bX (el:=170) Y
@[simp] theorem VH:eP prog 151 (.sl D E) l J=some (.v (.int .i64 (E.length:Nat))):=bX (el:=162) Y
@[simp] theorem VG:eP prog 218 (.sl D E) l J=some (.v (.int .i64 (E.length:Nat))):=bX (el:=254) Y
attribute [simp] Kj
end
theorem sI {k:IntKind} {m:Int} {b:aU} (h:0<=m/\m<b.size):mw prog 9 (.v (.string b)) (.v (.int k m))=some (.v (.int .u8 ((b.data.toList.getD m.toNat 0).toNat:Nat))):=tix Y h
@[simp] theorem Wa:bJ prog 2 5 (.v (.int n i)) r s=some (.v (.int .u8 (u8.wrap i))):=sM Y Y
@[simp] theorem NK:bJ prog 2 301 (.v (.int n i)) r s=some (.v (.int .u64 (u64.wrap i))):=sM Y Y
@[simp] theorem W0:bJ prog 3 5 (.v (.int n i)) r s=some (.v (.int .u8 (u8.wrap i))):=sM Y Y
@[simp] theorem ND:bJ prog 3 301 (.v (.int n i)) r s=some (.v (.int .u64 (u64.wrap i))):=sM Y Y
@[simp] theorem NC:bJ prog 3 332 (.v (.int n i)) r s=some (.v (.int .u64 (u64.wrap i))):=sM Y Y
@[simp] theorem VZ:bJ prog 5 2 (.v (.int n i)) r s=some (.v (.int .i64 (i64.wrap i))):=sM Y Y
@[simp] theorem VY:bJ prog 5 3 (.v (.int n i)) r s=some (.v (.int .i64 (i64.wrap i))):=sM Y Y
@[simp] theorem NB:bJ prog 5 301 (.v (.int n i)) r s=some (.v (.int .u64 (u64.wrap i))):=sM Y Y
@[simp] theorem NJ:bJ prog 301 2 (.v (.int n i)) r s=some (.v (.int .i64 (i64.wrap i))):=sM Y Y
@[simp] theorem NI:bJ prog 301 3 (.v (.int n i)) r s=some (.v (.int .i64 (i64.wrap i))):=sM Y Y
@[simp] theorem NH:bJ prog 301 5 (.v (.int n i)) r s=some (.v (.int .u8 (u8.wrap i))):=sM Y Y
@[simp] theorem IL:bJ prog 301 344 (.v (.int n i)) r s=some (.v (.int .u32 (u32.wrap i))):=sM Y Y
@[simp] theorem NG:bJ prog 332 3 (.v (.int n i)) r s=some (.v (.int .i64 (i64.wrap i))):=sM Y Y
@[simp] theorem IK:bJ prog 332 344 (.v (.int n i)) r s=some (.v (.int .u32 (u32.wrap i))):=sM Y Y
@[simp] theorem NF:bJ prog 344 5 (.v (.int n i)) r s=some (.v (.int .u8 (u8.wrap i))):=sM Y Y
@[simp] theorem IJ:bJ prog 344 301 (.v (.int n i)) r s=some (.v (.int .u64 (u64.wrap i))):=sM Y Y
@[simp] theorem II:bJ prog 344 332 (.v (.int n i)) r s=some (.v (.int .u64 (u64.wrap i))):=sM Y Y
end T
namespace V
open Go
variable {a b c d e f g:Nat} {u v w:Value} {i j k:Int} {t:TypeId} {p:List Value} {q:Bool} {n:IntKind}
theorem u5:prog.underlying 5=some (.int .u8):=Y
theorem u2:prog.underlying 2=some (.int .i64):=Y
theorem u3:prog.underlying 3=some (.int .i64):=Y
theorem nD {P:aB}:aj P (program:Sem aB)=some P:=rfl
theorem KK {P:aB} (h:P.underlying t=some (.int n)):aj P (isAgg t)=some false:=by unfold isAgg;rw [ar,dt h];rfl
theorem bL {P:aB} (h:P.underlying t=some (.int n)) {b:Array aq} (c:b[a]? =some u):aj P (part t b a)=some u:=by unfold part;rw [ar,KK h];simp only [zR,xD,if_false,c];rfl
theorem cA {P:aB} (h:P.underlying t=some (.int n)) (d:Nat) (c:IntKind) (a b:Int):aj P (Op.equalIn (d+1) t (.int c a) (.int c b))=some (a==b):=by rw [Op.equalIn,ar,dt h];simp;rfl
theorem jN {P:aB} (h:P.eqGuardType P.depth t=false) (a:BinOp) (b c:Array aq):aj P (eqGuard a t (.tmp 0) (.tmp 0) (.agg b) (.agg c))=some ():=by cases a <;> first|rfl|(show aj P (if (!P.eqGuardType P.depth t)=true then pure () else _)=some ();rw [h];rfl)
theorem Ke:prog.underlying 156=some (.struct #[{name:= "Kind",type:=5,offset:=0,embedded:=false,tag:= "",pkgPath:= "",byteOffset:=0},{name:= "Of",type:=3,offset:=1,embedded:=false,tag:= "",pkgPath:= "",byteOffset:=8}]):=Y
theorem WC:prog.stoodInHeld 156=false:=Y
theorem EH:prog.eqGuardType prog.depth 156=false:=Y
theorem EO (d:Nat) (a0 a1 a b:Int):aj prog (Op.equalIn (d+2) 156 (.agg #[.int .u8 a0,.int .i64 a1]) (.agg #[.int .u8 a,.int .i64 b]))=some (decide (a0=a/\a1=b)):=by rw [Op.equalIn,ar,dt Ke];simp;rw [ar,nD];simp;by_cases c:a0=a;rotate_left;simp [ar,ay,bL u5,cA u5,c];by_cases e:a1=b;rotate_left;simp [ar,ay,bL u3,cA u3,bL u5,cA u5,c,e];simp [ar,ay,bL u3,cA u3,bL u5,cA u5,c,e]
theorem Rb (a0 a1 a b:Int):da prog .eql 156 (.agg #[.int .u8 a0,.int .i64 a1]) (.agg #[.int .u8 a,.int .i64 b])=some (.bool (decide (a0=a/\a1=b))):=by refine bE rfl rfl rfl (jN EH _ _ _) ?_ rfl;show aj _ (do pure (Value.bool (<-Op.equalIn (9998+2) 156 _ _)))=_;rw [ar,EO];rfl
theorem Pv (a0 a1 a b:Int):da prog .neq 156 (.agg #[.int .u8 a0,.int .i64 a1]) (.agg #[.int .u8 a,.int .i64 b])=some (.bool (!decide (a0=a/\a1=b))):=by refine bE rfl rfl rfl (jN EH _ _ _) ?_ rfl;show aj _ (do pure (Value.bool (!(<-Op.equalIn (9998+2) 156 _ _))))=_;rw [ar,EO];rfl
theorem Kd:prog.underlying 270=some (.struct #[{name:= "Re",type:=2,offset:=0,embedded:=false,tag:= "",pkgPath:= "",byteOffset:=0},{name:= "Im",type:=2,offset:=1,embedded:=false,tag:= "",pkgPath:= "",byteOffset:=8}]):=Y
theorem WB:prog.stoodInHeld 270=false:=Y
theorem LW:prog.eqGuardType prog.depth 270=false:=Y
theorem M5 (d:Nat) (a0 a1 a b:Int):aj prog (Op.equalIn (d+2) 270 (.agg #[.int .i64 a0,.int .i64 a1]) (.agg #[.int .i64 a,.int .i64 b]))=some (decide (a0=a/\a1=b)):=by rw [Op.equalIn,ar,dt Kd];simp;rw [ar,nD];simp;by_cases c:a0=a;rotate_left;simp [ar,ay,bL u2,cA u2,c];by_cases e:a1=b;rotate_left;simp [ar,ay,bL u2,cA u2,c,e];simp [ar,ay,bL u2,cA u2,c,e]
theorem Ra (a0 a1 a b:Int):da prog .eql 270 (.agg #[.int .i64 a0,.int .i64 a1]) (.agg #[.int .i64 a,.int .i64 b])=some (.bool (decide (a0=a/\a1=b))):=by refine bE rfl rfl rfl (jN LW _ _ _) ?_ rfl;show aj _ (do pure (Value.bool (<-Op.equalIn (9998+2) 270 _ _)))=_;rw [ar,M5];rfl
theorem Ok:prog.underlying 45=some (.struct #[{name:= "Kind",type:=5,offset:=0,embedded:=false,tag:= "",pkgPath:= "",byteOffset:=0},{name:= "Trap",type:=5,offset:=1,embedded:=false,tag:= "",pkgPath:= "",byteOffset:=1},{name:= "Line",type:=3,offset:=2,embedded:=false,tag:= "",pkgPath:= "",byteOffset:=8}]):=Y
theorem a0z:prog.stoodInHeld 45=false:=Y
theorem R0:prog.eqGuardType prog.depth 45=false:=Y
theorem R9 (d:Nat) (a0 a1 a2 b c e:Int):aj prog (Op.equalIn (d+2) 45 (.agg #[.int .u8 a0,.int .u8 a1,.int .i64 a2]) (.agg #[.int .u8 b,.int .u8 c,.int .i64 e]))=some (decide (a0=b/\a1=c/\a2=e)):=by rw [Op.equalIn,ar,dt Ok];simp;rw [ar,nD];simp;by_cases a:a0=b;rotate_left;simp [ar,ay,bL u5,cA u5,a];by_cases f:a1=c;rotate_left;simp [ar,ay,bL u5,cA u5,a,f];by_cases g:a2=e;rotate_left;simp [ar,ay,bL u3,cA u3,bL u5,cA u5,a,f,g];simp [ar,ay,bL u3,cA u3,bL u5,cA u5,a,f,g]
theorem a0B (a0 a1 a2 a b c:Int):da prog .eql 45 (.agg #[.int .u8 a0,.int .u8 a1,.int .i64 a2]) (.agg #[.int .u8 a,.int .u8 b,.int .i64 c])=some (.bool (decide (a0=a/\a1=b/\a2=c))):=by refine bE rfl rfl rfl (jN R0 _ _ _) ?_ rfl;show aj _ (do pure (Value.bool (<-Op.equalIn (9998+2) 45 _ _)))=_;rw [ar,R9];rfl
theorem Oj:prog.underlying 96=some (.struct #[{name:= "Kind",type:=5,offset:=0,embedded:=false,tag:= "",pkgPath:= "",byteOffset:=0},{name:= "N",type:=2,offset:=1,embedded:=false,tag:= "",pkgPath:= "",byteOffset:=8},{name:= "Re",type:=2,offset:=2,embedded:=false,tag:= "",pkgPath:= "",byteOffset:=16},{name:= "Im",type:=2,offset:=3,embedded:=false,tag:= "",pkgPath:= "",byteOffset:=24}]):=Y
theorem a0y:prog.stoodInHeld 96=false:=Y
theorem QZ:prog.eqGuardType prog.depth 96=false:=Y
theorem R8 (d:Nat) (a0 a1 a2 a3 c e f b3:Int):aj prog (Op.equalIn (d+2) 96 (.agg #[.int .u8 a0,.int .i64 a1,.int .i64 a2,.int .i64 a3]) (.agg #[.int .u8 c,.int .i64 e,.int .i64 f,.int .i64 b3]))=some (decide (a0=c/\a1=e/\a2=f/\a3=b3)):=by rw [Op.equalIn,ar,dt Oj];simp;rw [ar,nD];simp;by_cases a:a0=c;rotate_left;simp [ar,ay,bL u5,cA u5,a];by_cases b:a1=e;rotate_left;simp [ar,ay,bL u2,cA u2,bL u5,cA u5,a,b];by_cases g:a2=f;rotate_left;simp [ar,ay,bL u2,cA u2,bL u5,cA u5,a,b,g];by_cases h:a3=b3;rotate_left;simp [ar,ay,bL u2,cA u2,bL u5,cA u5,a,b,g,h];simp [ar,ay,bL u2,cA u2,bL u5,cA u5,a,b,g,h]
theorem Zj (a0 a1 a2 a3 a b c b3:Int):da prog .neq 96 (.agg #[.int .u8 a0,.int .i64 a1,.int .i64 a2,.int .i64 a3]) (.agg #[.int .u8 a,.int .i64 b,.int .i64 c,.int .i64 b3])=some (.bool (!decide (a0=a/\a1=b/\a2=c/\a3=b3))):=by refine bE rfl rfl rfl (jN QZ _ _ _) ?_ rfl;show aj _ (do pure (Value.bool (!(<-Op.equalIn (9998+2) 96 _ _))))=_;rw [ar,R8];rfl
end V
namespace T
open Go V Q
variable {a b c d e f g:Nat} {u v w:Value} {i j k:Int} {t:TypeId} {p:List Value} {q:Bool} {n:IntKind}
theorem D3 (a0 a1 a b:Int):cm prog .eql 156 (.ag [.v (.int .u8 a0),.v (.int .i64 a1)]) (.ag [.v (.int .u8 a),.v (.int .i64 b)])=some (B (decide (a0=a/\a1=b))):=by unfold cm;simp only [iI,nS,zH];rw [Rb];rfl
theorem D1 (a0 a1 a b:Int):cm prog .neq 156 (.ag [.v (.int .u8 a0),.v (.int .i64 a1)]) (.ag [.v (.int .u8 a),.v (.int .i64 b)])=some (B (!decide (a0=a/\a1=b))):=by unfold cm;simp only [iI,nS,zH];rw [Pv];rfl
theorem D2 (a0 a1 a b:Int):cm prog .eql 270 (.ag [.v (.int .i64 a0),.v (.int .i64 a1)]) (.ag [.v (.int .i64 a),.v (.int .i64 b)])=some (B (decide (a0=a/\a1=b))):=by unfold cm;simp only [iI,nS,zH];rw [Ra];rfl
theorem GJ (a0 a1 a2 a b c:Int):cm prog .eql 45 (.ag [.v (.int .u8 a0),.v (.int .u8 a1),.v (.int .i64 a2)]) (.ag [.v (.int .u8 a),.v (.int .u8 b),.v (.int .i64 c)])=some (B (decide (a0=a/\a1=b/\a2=c))):=by unfold cm;simp only [iI,nS,zH];rw [a0B];rfl
theorem GH (a0 a1 a2 a3 a b c b3:Int):cm prog .neq 96 (.ag [.v (.int .u8 a0),.v (.int .i64 a1),.v (.int .i64 a2),.v (.int .i64 a3)]) (.ag [.v (.int .u8 a),.v (.int .i64 b),.v (.int .i64 c),.v (.int .i64 b3)])=some (B (!decide (a0=a/\a1=b/\a2=c/\a3=b3))):=by unfold cm;simp only [iI,nS,zH];rw [Zj];rfl
end T
end Go.Proofs.YtglilpjokhgidaaGreatDoor
