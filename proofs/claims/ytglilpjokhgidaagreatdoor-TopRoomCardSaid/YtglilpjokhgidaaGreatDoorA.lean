/- A part of TopRoom's proof. No condition. -/
import Derived.WalkKit
import Derived.Orders
import Derived.Lib.ItoaNum
import Derived.Laws.Cells
import Derived.Laws.IdiomCopy
import Derived.Laws.Append
import Derived.Laws.AppendOwn
import Derived.Laws.BytesString
import Derived.IntWalk
import Derived.Test.YtglilpjokhgidaaGreatDoorProg
set_option maxRecDepth 100000
set_option maxHeartbeats 4000000
set_option linter.unusedVariables false
set_option linter.unusedSimpArgs false
namespace Go.Proofs.YtglilpjokhgidaaGreatDoor
open Go.Proofs.Tryz (prog)
open Go.IntKind
theorem O {p:Prop} (h:p:=by omega):p:=h
theorem Y {p:Prop} (h:p:=by kernel_rfl):p:=h
theorem Z {p:Prop} (h:p:=by simp):p:=h
theorem W {p:Prop} (h:p:=by simp;omega):p:=h
theorem Zs {p q:Prop} (h:q) (e:q->p:=by intro h;simpa using h):p:=e h
theorem Zo {p q:Prop} (h:q) (e:q->p:=by intro h;omega):p:=e h
theorem Zr {p q:Prop} (h:q) (e:q->p:=by intro h;rw [h]):p:=e h
abbrev aq:=Value
abbrev aP:=TypeId
abbrev aU:=ByteArray
abbrev aB:=Program
abbrev aQ:=List Value
abbrev aA:=List Nat
abbrev dj:=Option Nat
abbrev fR:=Option Value
abbrev zA:=@List.getElem?_eq_getElem
abbrev zB:=@List.getElem?_append_left
abbrev zC:=@eq_false
abbrev zD:=@List.getElem?_set_ne
abbrev zE:=@Nat.le_refl
abbrev zF:=@List.getElem?_set_self
abbrev zG:=@List.getD_eq_getElem?_getD
abbrev zH:=@Option.map_some
abbrev zI:=@List.mem_of_getElem?
abbrev zJ:=@List.getElem?_append_right
abbrev zK:=@List.getElem?_map
abbrev zL:=@List.eq_nil_of_length_eq_zero
abbrev zM:=@eq_true
abbrev zN:=@if_neg
abbrev zO:=@if_pos
abbrev zP:=@Bool.and_eq_true
abbrev zQ:=@List.all_eq_true
abbrev zR:=@Option.bind_some
abbrev zS:=@Nat.eq_of_beq_eq_true
abbrev zT:=@Option.bind_eq_some_iff
abbrev zU:=@List.getElem?_take
abbrev zV:=@List.getElem_mem
abbrev zW:=@Nat.mul_le_mul_right
abbrev zX:=@Nat.lt_or_ge
abbrev zY:=@Nat.ble_eq_true_of_le
abbrev zZ:=@Nat.zero_le
abbrev yA:=@List.getElem_of_mem
abbrev yB:=@of_decide_eq_true
abbrev yC:=@congrArg
abbrev yD:=@Option.some.inj
abbrev yE:=@List.take_of_length_le
abbrev yF:=@Array.getElem?_eq_getElem
abbrev yG:=@List.mem_of_mem_take
abbrev yH:=@Int.eq_ofNat_of_zero_le
abbrev yI:=@List.getElem?_eq_none
abbrev yJ:=@Array.getD_eq_getD_getElem?
abbrev yK:=@Nat.lt_succ_self
abbrev yL:=@List.drop_eq_getElem_cons
abbrev yM:=@Nat.zero_add
abbrev yN:=@Nat.le_trans
abbrev yO:=@List.map_set
abbrev yP:=@List.getElem?_drop
abbrev yQ:=@List.mem_cons
abbrev yR:=@Nat.le_of_ble_eq_true
abbrev yS:=@Array.getElem?_eq_none
abbrev yT:=@List.getElem?_set
abbrev yU:=@List.mem_cons_of_mem
abbrev yV:=@List.length_map
abbrev yW:=@Int.toNat_natCast
abbrev yX:=@Option.map_eq_some_iff
abbrev yY:=@List.map_cons
abbrev yZ:=@List.drop_eq_nil_of_le
abbrev xA:=@List.append_assoc
abbrev xB:=@ByteArray.size_append
abbrev xC:=@List.length_append
abbrev xD:=@Bool.false_eq_true
abbrev xE:=@List.contains_iff_mem
abbrev xF:=@Bool.not_eq_true'
abbrev xG:=@Nat.lt_of_lt_of_le
abbrev xH:=@List.mem_append
abbrev xI:=@List.length_set
abbrev xJ:=@List.take_add_one
abbrev xK:=@List.ext_getElem?
abbrev xL:=@Array.mem_of_getElem?
abbrev xM:=@Bool.and_eq_true_iff
abbrev xN:=@Nat.succ_mul
abbrev xO:=@ByteArray.size_extract
abbrev xP:=@Option.some.injEq
abbrev xQ:=@List.getElem?_range
abbrev xR:=@Option.isSome_iff_exists
abbrev xS:=@List.mem_cons_self
abbrev xT:=@List.take_append_of_le_length
abbrev xU:=@List.getElem?_cons_succ
abbrev xV:=@Nat.lt_trichotomy
abbrev xW:=@List.map_append
abbrev xX:=@Array.length_toList
abbrev xY:=@Array.getElem?_push
abbrev xZ:=@Nat.le_add_right
abbrev wA:=@List.set_set
abbrev wB:=@List.mem_map
abbrev wC:=@List.extract_eq_take_drop
abbrev wD:=@List.range_succ
abbrev wE:=@List.map_nil
abbrev wF:=@Nat.lt_irrefl
abbrev wG:=@List.length_take
abbrev wH:=@List.mem_range
abbrev wI:=@Nat.min_eq_left
abbrev wJ:=@Nat.le_of_lt
abbrev wK:=@Nat.le_add_left
abbrev wL:=@List.take_append_drop
abbrev wM:=@List.mem_of_mem_drop
abbrev wN:=@List.drop_zero
abbrev wO:=@List.take_length
abbrev wP:=@Array.toList_map
abbrev wQ:=@Ne.symm
abbrev wR:=@Int.le_refl
abbrev wS:=@Array.toList_zipIdx
abbrev wT:=@Nat.zero_mul
abbrev wU:=@Nat.lt_of_le_of_lt
abbrev wV:=@Nat.add_assoc
abbrev wW:=@List.map_take
abbrev wX:=@Nat.add_mul
abbrev wY:=@Nat.sub_self
abbrev wZ:=@Nat.add_zero
abbrev vA:=@List.length_replicate
abbrev vB:=@Array.getElem?_modify
namespace V
open Go
variable {a b c d e f g:Nat} {u v w:Value} {i j k:Int} {t:TypeId} {p:List Value} {q:Bool} {n:IntKind}
def aj {b:Type} (P:aB):Sem b->Option b
 | .pure a=>some a
 | .program k=>aj P (k P)
 | .mark _ k=>aj P k
 | _=>none
theorem jM {c:Type} {P:aB} {s:Sem c} {v:c} (h:aj P s=some v) (w:World):s.run P w= .ok v w:=by
 induction s with
 | pure a=>simp only [aj] at h;cases h;rfl
 | program k b=>exact b P h
 | mark m k b=>exact b h
 | _=>cases h
theorem rF {c d:Type} {P:aB} (s:Sem c) (f:c->Sem d):aj P (s.bind f)=(aj P s).bind λa=>aj P (f a):=by
 induction s with
 | pure a=>rfl
 | program k b=>exact b P
 | mark m k b=>exact b
 | _=>rfl
def ak:aq->Bool
 | .bool _|.int _ _|.float _ _|.complex _ _ _|.string _|.pointer none|.slice none 0 0|.map none|.nilFunc|.nilIface=>true
 | .func (.func _) a b=>a.isEmpty&&b.isEmpty
 | _=>false
def bq:aq->Bool
 | .agg a=>a.toList.all ak
 | v=>ak v
def one:aq->Bool
 | .agg _|.tuple _|.chan _=>false
 | _=>true
structure gJ where
 b:Nat
 n:Nat
 sz:Nat
abbrev au:=Nat->Option gJ
inductive VR (β:au):aq->aq->Prop
 | sc {v:aq} (h:ak v):VR β v v
 | ptr {id off:Nat} {B:gJ} (h:β id=some B):VR β (.pointer (some ⟨id,off,none⟩)) (.pointer (some ⟨B.b,off,none⟩))
 | sl {id off n c:Nat} {B:gJ} (h:β id=some B) (hn:n<=c) (hc:off+c*B.sz<=B.n):VR β (.slice (some ⟨id,off,none⟩) n 1) (.slice (some ⟨B.b,off,none⟩) n c)
 | pG {id off:Nat} {a:Addr}:VR β (.slice (some ⟨id,off,none⟩) 0 0) (.slice (some a) 0 0)
 | sle {id off c:Nat} {a:Addr}:VR β (.slice (some ⟨id,off,none⟩) 0 2) (.slice (some a) 0 c)
 | map {id:Nat} {B:gJ} (h:β id=some B):VR β (.map (some id)) (.map (some B.b))
 | agg {xs ys:Array aq} (hs:xs.size=ys.size) (h:∀(i:Nat) (a v:aq),xs[i]? =some a->ys[i]? =some v->VR β a v):VR β (.agg xs) (.agg ys)
 | Kg {xs ys:Array aq} (hs:xs.size=ys.size) (h:∀(i:Nat) (a v:aq),xs[i]? =some a->ys[i]? =some v->VR β a v):VR β (.tuple xs) (.tuple ys)
def cd (d:au) (b c:aQ):Prop:=b.length=c.length/\∀(i:Nat) (a v:aq),b[i]? =some a->c[i]? =some v->VR d a v
section
variable {D E:au} {a v:aq}
theorem VR.ak (h:VR D a v) (b:V.ak a):v=a:=by
 cases h with
 | sc _=>rfl
 | _=>simp [V.ak] at b
theorem VR.bq (h:VR D a v) (b:V.bq a):v=a:=by
 cases h with
 | sc _=>rfl
 | agg c h=>rename_i d e;congr 1;refine Array.ext c.symm λi f g=>?_;refine VR.ak (h i d[i] e[i] (yF _) (yF _)) ?_;simp only [V.bq,zQ] at b;exact b _ Z
 | _=>simp [V.bq,V.ak] at b
theorem VR.lP (b:V.bq a):VR D a a:=by
 cases a with
 | agg e=>refine .agg rfl λi x y c d=>?_;rw [c] at d;cases d;simp only [V.bq,zQ] at b;exact .sc (b x (Zs (xL c)))
 | _=>exact .sc b
theorem VR.eB {s:dj} (h:VR D (.pointer (some ⟨b,c,s⟩)) v):s=none/\∃B,D b=some B/\v= .pointer (some ⟨B.b,c,none⟩):=by
 cases h with
 | sc h=>simp [V.ak] at h
 | ptr h=>exact ⟨rfl,_,h,rfl⟩
theorem VR.eA {A:Addr} (h:VR D (.slice (some A) b c) v):A=⟨A.block,A.off,none⟩/\
  ((b=0/\c=0/\∃a,v= .slice (some a) 0 0)\/(b=0/\c=2/\∃a k,v= .slice (some a) 0 k)\/(c=1/\∃B k,D A.block=some B/\b<=k/\A.off+k*B.sz<=B.n/\v= .slice (some ⟨B.b,A.off,none⟩) b k)):=by
 cases h with
 | sc h=>simp [V.ak] at h
 | sl h e d=>exact ⟨rfl,.inr (.inr ⟨rfl,_,_,h,e,d,rfl⟩)⟩
 | pG=>exact ⟨rfl,.inl ⟨rfl,rfl,_,rfl⟩⟩
 | sle=>exact ⟨rfl,.inr (.inl ⟨rfl,rfl,_,_,rfl⟩)⟩
theorem VR.rO (h:VR D (.map (some b)) v):∃B,D b=some B/\v= .map (some B.b):=by
 cases h with
 | sc h=>simp [V.ak] at h
 | map h=>exact ⟨_,h,rfl⟩
theorem VR.zy {b:Array aq} (h:VR D (.agg b) v):∃c:Array aq,v= .agg c/\cd D b.toList c.toList:=by
 cases h with
 | sc h=>simp [V.ak] at h
 | agg e h=>exact ⟨_,rfl,by simpa using e,λi a v d f=>h i a v (Zs d) (Zs f)⟩
theorem VR.Gk {b:Array aq} (h:VR D (.tuple b) v):∃c:Array aq,v= .tuple c/\cd D b.toList c.toList:=by
 cases h with
 | sc h=>simp [V.ak] at h
 | Kg e h=>exact ⟨_,rfl,by simpa using e,λi a v d f=>h i a v (Zs d) (Zs f)⟩
theorem VR.ou {b c:Array aq} (h:cd D b.toList c.toList):VR D (.agg b) (.agg c):=
 .agg (Zs h.1) λi a v d e=>h.2 i a v (Zs d) (Zs e)
theorem VR.rL {b c:Array aq} (h:cd D b.toList c.toList):VR D (.tuple b) (.tuple c):=
 .Kg (Zs h.1) λi a v d e=>h.2 i a v (Zs d) (Zs e)
theorem VR.mono (b:∀e B,D e=some B->E e=some B) (h:VR D a v):VR E a v:=by
 induction h with
 | sc h=>exact .sc h
 | ptr h=>exact .ptr (b _ _ h)
 | sl h g f=>exact .sl (b _ _ h) g f
 | pG=>exact .pG
 | sle=>exact .sle
 | map h=>exact .map (b _ _ h)
 | agg c h d=>exact .agg c d
 | Kg c h d=>exact .Kg c d
theorem VR.undef:VR D undef undef:=.Kg rfl (λi a v b _=>by simp at b)
theorem VR.one (h:VR D a v):one v=one a:=by cases h <;> rfl
theorem VR.bool (h:VR D (.bool q) v):v= .bool q:=h.ak rfl
theorem VR.int (h:VR D (.int n i) v):v= .int n i:=h.ak rfl
end
section
variable {D E:au} {J h zs us:aQ}
theorem cd.mono (e:∀c B,D c=some B->E c=some B) (b:cd D J h):cd E J h:=⟨b.1,λi a v d f=>(b.2 i a v d f).mono e⟩
theorem cd.nil:cd D [] []:=⟨rfl,λi a v b _=>by simp at b⟩
theorem cd.cons (d:VR D u v) (c:cd D J h):cd D (u::J) (v::h):=by
 refine ⟨by simp [c.1],λi x y a b=>?_⟩;cases i with
 | zero=>simp at a b;subst a b;exact d
 | succ i=>exact c.2 i x y (Zs a) (Zs b)
theorem cd.eu (a:cd D (u::J) h):∃v b,h=v::b/\VR D u v/\cd D J b:=by
 cases h with
 | nil=>simp [cd] at a
 | cons v b=>exact ⟨v,b,rfl,a.2 0 u v rfl rfl,by simpa using a.1,λi x y c d=>a.2 (i+1) x y (Zs c) (Zs d)⟩
theorem cd.append (b:cd D J h) (k:cd D zs us):cd D (J++zs) (h++us):=by refine ⟨by simp [b.1,k.1],λi a v d e=>?_⟩;rcases zX i J.length with c|c;rw [zB c] at d;rw [zB (b.1▸c)] at e;exact b.2 i a v d e;rw [zJ c] at d;rw [zJ (b.1▸c),<-b.1] at e;exact k.2 _ a v d e
theorem cd.take (d:cd D J h) (n:Nat):cd D (J.take n) (h.take n):=by refine ⟨by simp [d.1],λi a v b c=>?_⟩;rw [zU] at b c;split at b;rename_i e;rw [zO e] at c;exact d.2 i a v b c;cases b
theorem cd.drop (b:cd D J h) (n:Nat):cd D (J.drop n) (h.drop n):=by refine ⟨by simp [b.1],λi a v c d=>?_⟩;rw [yP] at c d;exact b.2 _ a v c d
theorem cd.set (d:cd D J h) (k:VR D u v) (n:Nat):cd D (J.set n u) (h.set n v):=by refine ⟨by simp [d.1],λi x y c a=>?_⟩;rw [yT] at c a;rw [<-d.1] at a;split at c;rename_i e;rw [zO e] at a;split at c;rename_i f;rw [zO f] at a;cases c;cases a;exact k;cases c;rename_i e;rw [zN e] at a;exact d.2 i x y c a
theorem cd.bq (d:∀a∈J,V.ak a):cd D J J:=
 ⟨rfl,λi a v b c=>by rw [b] at c;cases c;exact .sc (d a (zI b))⟩
theorem cd.get (d:cd D J h) {i:Nat} {a:aq} (c:J[i]? =some a):∃v,h[i]? =some v/\VR D a v:=by
 have b:i<J.length:=by rcases zX i J.length with b|b;exact b;rw [yI b] at c;cases c
 refine ⟨h[i]'(d.1▸b),zA _,d.2 i a _ c (zA _)⟩
theorem cd.one (b:cd D J h) (d:∀a∈J,one a):∀v∈h,V.one v:=by intro v e;obtain ⟨i,c,rfl⟩:=yA e;have f:=b.1▸c;rw [(b.2 i J[i] h[i] (zA _) (zA _)).one];exact d _ (zV _)
theorem VR.cells (a:VR D u v):cd D u.cells.toList v.cells.toList:=by
 cases a with
 | agg e k=>exact (VR.agg e k).zy.elim λh f=>by have ⟨b,c⟩:=f;cases b;exact c
 | sc a=>cases u <;> first|exact cd.cons (.sc a) .nil|(simp [V.ak] at a)
 | ptr a=>exact cd.cons (.ptr a) .nil
 | sl b c d=>exact cd.cons (.sl b c d) .nil
 | pG=>exact cd.cons .pG .nil
 | sle=>exact cd.cons .sle .nil
 | map a=>exact cd.cons (.map a) .nil
 | Kg b c=>exact cd.cons (.Kg b c) .nil
end
inductive AO where
 | row (cs:aQ) (sz:Nat) (lo:dj)
 | mp (es:Array MapEntry) (clock:Nat)
 | dead
deriving Inhabited
abbrev AH:=List AO
def AO.own:AO->Bool
 | .row _ _ a=>a.isSome
 | .mp _ _=>true
 | .dead=>false
def AO.under:AO->AO->Prop
 | .row _ _ (some k),.row a _ none=>a.length<=k
 | _,_=>False
theorem AO.ed {o a:AO} (h:a.own):¬o.under a:=by unfold AO.under;split;cases h;exact id
theorem AO.pZ {o b:AO} (h:o.under b):∃c sz k a d,o= .row c sz (some k)/\b= .row a d none/\a.length<=k:=by unfold AO.under at h;split at h;exact ⟨_,_,_,_,_,rfl,rfl,h⟩;exact h.elim
theorem AO.nM {sz:Nat} {c:AO} (h:(AO.row p sz (some a)).under c) (f:a<=b) (d:aQ) (g:Nat):(AO.row d g (some b)).under c:=by obtain ⟨_,_,_,_,_,e,rfl,h⟩:=AO.pZ h;cases e;exact yN h f
def kW (a:Nat×Nat) (j:Nat):Prop:=¬(a.1<=j/\j<a.2)
def Fx (d:au) (H:AH) (w:World):Prop:=(∃(b:aP) (c:Nat×Nat),w.heap[0]? =some (.cells (Lib.pow10Tab.map λz=>Value.int .u64 z).toArray b c))/\∀(a:Nat) (o:AO) (B:gJ),H[a]? =some o->d a=some B->o.own->B.b≠0
def JK:aq:=.chan (some 0)
def nj:aq->Bool
 | .chan _=>false
 | _=>true
theorem KR (h:one u):u≠JK:=by rintro rfl;cases h
theorem yz (h:nj u):u≠JK:=by rintro rfl;cases h
structure nu (β:au) (H:AH) (w:World):Prop where
 rows:∀(id:Nat) (cs:aQ) (sz:Nat) (ro:dj) (B:gJ),H[id]? =some (.row cs sz ro)->β id=some B->B.sz=sz/\(ro≠none->∀a∈cs,one a)/\cs.length<=B.n/\
  ∃(C:Array aq) (el:aP) (fr:Nat×Nat),w.heap[B.b]? =some (.cells C el fr)/\C.size=B.n/\(∀(j:Nat) (a v:aq),cs[j]? =some a->C[j]? =some v->a≠JK->VR β a v)/\(ro≠none->∀j,j<C.size->kW fr j)
 maps:∀(id:Nat) (es:Array MapEntry) (cl:Nat) (B:gJ),H[id]? =some (.mp es cl)->β id=some B->w.heap[B.b]? =some (.map es cl)/\∀e∈es,ak e.key/\ak e.val
 inj:∀(id id':Nat) (o o':AO) (B B':gJ),H[id]? =some o->H[id']? =some o'->β id=some B->β id'=some B'->o.own->o'≠ .dead->B.b=B'.b->id=id'\/o.under o'
 lt:∀(id:Nat) (B:gJ),β id=some B->id<H.length
def dK (w:World) (b:Nat):Option aP:=match w.heap[b]? with
 | some (.cells _ a _)=>some a
 | _=>none
def gy (sz:Nat):Option (aP×Nat×Nat):=if sz=1000339 then some (339,0,2) else if sz=1000341 then some (341,10,14) else none
def Bu (f:au) (H:AH) (w:World):Prop:=∀(d:Nat) (b:aQ) (sz:Nat) (g:dj) (B:gJ) (c:aP) (o N:Nat),H[d]? =some (.row b sz g)->f d=some B->gy sz=some (c,o,N)->
 dK w B.b=some c/\B.n=N/\∀(e n:Nat) (a:gJ),b[o+1]? =some (.slice (some ⟨e,0,none⟩) n 1)->n≠0->f e=some a->dK w a.b=some 5
def s9 (sz:Nat) (a:aQ) (n:Nat) (b:aP):Prop:=∀(e:aP) (o N:Nat),gy sz=some (e,o,N)->b=e/\n=N/\∀c m,a[o+1]? =some (.slice (some ⟨c,0,none⟩) m 1)->m=0
theorem oC {sz:Nat} (h:sz<1000000):gy sz=none:=by unfold gy;rw [zN O,zN O]
theorem s9.small {sz:Nat} (h:sz<1000000):s9 sz p a t:=λ_ _ _ b=>by rw [oC h] at b;cases b
class Small (P:aB):Prop where
 bs:∀(i:TypeInfo) (z:aq),P.info? 339=some i->i.zero=some z->z.cells.size=2
 bp:∀(i:TypeInfo) (z:aq),P.info? 341=some i->i.zero=some z->z.cells.size=14
structure Rel (β:au) (H:AH) (w:World):Prop extends nu β H w where
 fx:Fx β H w
 bu:Bu β H w
structure Iq (β:au) (H:AH) (w:World) (β':au) (H':AH) (w':World):Prop where
 os:w'.os=w.os
 tape:w'.tape=w.tape
 output:w'.output=w.output
 mono:∀(id:Nat) (B:gJ),β id=some B->β' id=some B
 fix:∀(id:Nat),id<H.length->β id=none->β' id=none/\H'[id]? =H[id]?
 len:H.length<=H'.length
 size:w.heap.size<=w'.heap.size
 frame:∀b,b<w.heap.size->(∀(id:Nat) (o:AO) (B:gJ),H[id]? =some o->β id=some B->o.own->B.b≠b)->w'.heap[b]? =w.heap[b]?
 ro:∀(id:Nat) (o:AO),H[id]? =some o->o.own=false->H'[id]? =some o
 fresh:∀(id:Nat) (o:AO) (B:gJ),H'[id]? =some o->β' id=some B->o.own->B.b<w.heap.size->∃(id0:Nat) (o0:AO) (B0:gJ),H[id0]? =some o0/\β id0=some B0/\o0.own/\B0.b=B.b
structure Ext (β:au) (H:AH) (w:World) (β':au) (H':AH) (w':World):Prop extends Iq β H w β' H' w' where
 Iz:∀(b:Nat) (el:aP),dK w b=some el->dK w' b=some el
theorem Fx.pos {c:au} {H:AH} {w:World} (f:Fx c H w):0<w.heap.size:=by obtain ⟨⟨d,e,b⟩,_⟩:=f;rcases zX 0 w.heap.size with a|a;exact a;rw [yS a] at b;cases b
theorem Iq.fx {l m:au} {H g:AH} {w k:World} (h:Iq l H w m g k) (f:Fx l H w):Fx m g k:=by have j:=f.pos;obtain ⟨⟨p,q,r⟩,i⟩:=f;refine ⟨⟨p,q,by rw [h.frame 0 j λd o B a b c=>i d o B a b c];exact r⟩,λd o B a b c e=>?_⟩;obtain ⟨s,z,n,t,v,x,y⟩:=h.fresh d o B a b c (e▸j);exact i s z n t v x (y.trans e)
theorem nu.up {s f:au} {H g:AH} {w c:World} (h:Rel s H w) (k:nu f g c/\Iq s H w f g c) (y:∀(b:Nat) (a:aP),dK w b=some a->dK c b=some a)
  (P:∀(p:Nat) (i:aQ) (sz:Nat) (z:dj) (B:gJ),g[p]? =some (.row i sz z)->f p=some B->
   (∃j d q,H[j]? =some (.row d sz q)/\s j=some B/\∀o x,i[o+1]? =some x->d[o+1]? =some x)\/
   ∀a o N,gy sz=some (a,o,N)->dK c B.b=some a/\B.n=N/\∀(r n:Nat) (t:gJ),i[o+1]? =some (.slice (some ⟨r,0,none⟩) n 1)->n≠0->f r=some t->dK c t.b=some 5):Rel f g c/\Ext s H w f g c:=by
 refine ⟨⟨k.1,k.2.fx h.fx,?_⟩,⟨k.2,y⟩⟩;intro p i sz z B a o N K L D;rcases P p i sz z B K L with ⟨j,d,q,F,J,q3⟩|b1;obtain ⟨r1,r0,r2⟩:=h.bu j d sz q B a o N F J D;refine ⟨y _ _ r1,r0,λr n t M v E=>?_⟩;have l:=q3 o _ M;obtain ⟨_,_,p3,C,_,_,_,p4,X,_⟩:=h.rows j d sz q B F J;have R:o+1<C.size:=by rcases zX (o+1) d.length with A|A;omega;rw [yI A] at l;cases l
 obtain ⟨_,⟨e,_⟩|⟨e,_⟩|⟨_,B2,_,m,_⟩⟩:=(X (o+1) _ C[o+1] l (yF R) (λe=>by cases e)).eA;exact absurd e v;exact absurd e v;have m:=m;have:=k.2.mono _ _ m;rw [this] at E;cases E;exact y _ _ (r2 r n _ l v m);exact b1 a o N D
theorem Ext.refl (a:au) (H:AH) (w:World):Ext a H w a H w:=
 ⟨⟨rfl,rfl,rfl,λ_ _ h=>h,λ_ _ h=>⟨h,rfl⟩,zE _,zE _,λ_ _ _=>rfl,λ_ _ h _=>h,λe o B b c d _=>⟨e,o,B,b,c,d,rfl⟩⟩,λ_ _ h=>h⟩
theorem Ext.trans {D E F:au} {H q r:AH} {w A C:World} (h:Ext D H w E q A) (k:Ext E q A F r C):Ext D H w F r C:={
 os:=k.os.trans h.os
 tape:=k.tape.trans h.tape
 output:=k.output.trans h.output
 mono:=λa B c=>k.mono a B (h.mono a B c)
 fix:=λa x K=>by obtain ⟨e,f⟩:=h.fix a x K;obtain ⟨g,d⟩:=k.fix a (xG x h.len) e;exact ⟨g,d.trans f⟩
 len:=yN h.len k.len
 size:=yN h.size k.size
 frame:=λb c v=>by refine (k.frame b (xG c h.size) ?_).trans (h.frame b c v);intro a o B i l m t;obtain ⟨n,p,j,e,f,g,d⟩:=h.fresh a o B i l m (t▸c);exact v n p j e f g (d.trans t)
 ro:=λa o i z=>k.ro a o (h.ro a o i z) z
 fresh:=λa o B i l m y=>by obtain ⟨n,p,j,e,f,g,d⟩:=k.fresh a o B i l m (xG y h.size);obtain ⟨L,X,J,M,N,P,R⟩:=h.fresh n p j e f g (d▸y);exact ⟨L,X,J,M,N,P,R.trans d⟩
 Iz:=λb s c=>k.Iz b s (h.Iz b s c)}
theorem Ext.drew {a:au} {H:AH} {w:World} (n:Nat):Ext a H w a H {w with drawn:=n}:=
 ⟨⟨rfl,rfl,rfl,λ_ _ h=>h,λ_ _ h=>⟨h,rfl⟩,zE _,zE _,λ_ _ _=>rfl,λ_ _ h _=>h,λe o B b c d _=>⟨e,o,B,b,c,d,rfl⟩⟩,λ_ _ h=>h⟩
theorem Rel.drew {a:au} {H:AH} {w:World} (h:Rel a H w) (n:Nat):Rel a H {w with drawn:=n}:=⟨⟨h.rows,h.maps,h.inj,h.lt⟩,h.fx,h.bu⟩
theorem Rel.blt {f:au} {H:AH} {w:World} (h:Rel f H w) {o:AO} {B:gJ} (e:H[a]? =some o) (d:f a=some B) (j:o≠ .dead):B.b<w.heap.size:=by
 cases o with
 | dead=>exact absurd rfl j
 | row g sz k=>obtain ⟨_,_,_,C,l,m,c,_⟩:=h.rows a g sz k B e d;rcases zX B.b w.heap.size with b|b;exact b;rw [yS b] at c;cases c
 | mp i cl=>obtain ⟨c,_⟩:=h.maps a i cl B e d;rcases zX B.b w.heap.size with b|b;exact b;rw [yS b] at c;cases c
def au.put (b:au) (a:Nat) (B:gJ):au:=λk=>if k=a then some B else b k
theorem au.aC (b:au) (a:Nat) (B:gJ):b.put a B a=some B:=zO rfl
theorem au.gb {b:au} (c:b a=none) (B:gJ):∀k C,b k=some C->b.put a B k=some C:=by intro k C h;unfold au.put;split;rename_i e;subst e;rw [c] at h;cases h;exact h
def cr:aQ->Nat->aQ->aQ
 | a,_,[]=>a
 | a,b,x::c=>cr (a.set b x) (b+1) c
@[simp] theorem iE (c:aQ):∀(a:aQ) (b:Nat),(cr a b c).length=a.length:=by
 induction c with
 | nil=>intro a b;rfl
 | cons x c d=>intro a b;simp [cr,d]
theorem cQ (b o j:Nat):(⟨b,o,none⟩:Addr).add j=⟨b,o+j,none⟩:=by unfold Addr.add;split;rename_i h;subst h;rfl;rfl
section
variable {D:au} {H:AH} {E:World} {P:aB}
theorem aa {c:Type} {l:List c} {d:c} (h:l[a]? =some d):a<l.length:=by rcases zX a l.length with b|b;exact b;rw [yI b] at h;cases h
theorem Rel.load (h:Rel D H E) {f:Nat} {d:aQ} {sz:Nat} {k:dj} {B:gJ} (q:H[f]? =some (.row d sz k)) (l:D f=some B) {off n:Nat} (x:off+n<=d.length) (b:∀a∈(d.drop off).take n,a≠JK):
  ∃g:aQ,g.length=n/\cd D ((d.drop off).take n) g/\∀j v,g[j]? =some v->E.cell? ((⟨B.b,off,none⟩:Addr).add j)=some v:=by
 obtain ⟨_,_,w,C,s,t,m,y,r,_⟩:=h.rows f d sz k B q l;refine ⟨(C.toList.drop off).take n,W,⟨W,λi a v c e=>?_⟩,λj v b=>?_⟩;have p:=b a (zI c);rw [zU] at c e;split at c;rename_i o;rw [zO o] at e;rw [yP] at c e;exact r _ a v c (Zs e) p;cases c;rw [zU] at b;split at b;rw [yP] at b;rw [cQ];unfold World.cell?;simp only [m,Option.isSome_none];simpa using b;cases b
theorem Rel.rA (h:Rel D H E) {sz:Nat} {B:gJ} (q:H[a]? =some (.row p sz (some b))) (t:D a=some B) {k:Nat} (hk:k<B.n) (f6:b<=k) {cs':aQ} (c3:∀(j:Nat) (x:aq),cs'[j]? =some x->(j=k/\x=u)\/(j≠k/\p[j]? =some x)) (f1:cs'.length<=B.n) (hv:VR D u v) (h1:one u) (d6:∀s o b2,gy sz=some (s,o,b2)->k=o+1->∀(b1 n:Nat) (f:gJ),u= .slice (some ⟨b1,0,none⟩) n 1->n≠0->D b1=some f->dK E f.b=some 5):
  (store ⟨B.b,k,none⟩ v).run P E= .ok () (E.setCell ⟨B.b,k,none⟩ v)/\Rel D (H.set a (.row cs' sz (some b))) (E.setCell ⟨B.b,k,none⟩ v)/\Ext D H E D (H.set a (.row cs' sz (some b))) (E.setCell ⟨B.b,k,none⟩ v):=by
 obtain ⟨f3,f2,hl,C,s,fr,M,hs,f5,c9⟩:=h.rows a p sz (some b) B q t;have hid:=aa q;have J:k<C.size:=O;have d7:E.cell? ⟨B.b,k,none⟩=some C[k]:=by unfold World.cell?;simp only [M,Option.isSome_none];simp [J]
 have e6:E.frozen? ⟨B.b,k,none⟩=false:=by unfold World.frozen?;simp only [M];have:=c9 Z k J;unfold kW at this;simp;omega
 have f4:=hv.one.trans h1;have A:∀g,(E.setCell ⟨B.b,k,none⟩ v).heap[g]? =if g=B.b then some (.cells (C.set k v J) s fr) else E.heap[g]? :=by intro g;unfold World.setCell;simp only [vB];by_cases d:B.b=g;subst d;simp [M,J,Array.setIfInBounds];rw [zN d,zN (wQ d)]
 have c5:∀g,dK (E.setCell ⟨B.b,k,none⟩ v) g=dK E g:=by intro g;unfold dK;rw [A];by_cases d:g=B.b;subst d;simp [M];rw [zN d]
 refine ⟨?_,nu.up h ⟨⟨?_,?_,?_,?_⟩,⟨rfl,rfl,rfl,λ_ _ h=>h,?_,Z,by simp [World.setCell],?_,?_,?_⟩⟩ (λg s d=>(c5 g).trans d) ?_⟩;show (Sem.store .plain ⟨B.b,k,none⟩ v (.pure ())).run P E=_;cases v <;> first|(simp [one] at f4;done)|simp [Sem.run,d7,e6]
 intro z cs' d1 c6 f m y;by_cases c:a=z;subst c;rw [zF hid] at m;cases m;rw [t] at y;cases y;refine ⟨f3,λ_=>?_,f1,C.set k v J,s,fr,by rw [A,zO rfl],by simpa using hs,?_,by simpa using c9⟩;intro x r;obtain ⟨j,F,rfl⟩:=yA r;rcases c3 j _ (zA F) with ⟨_,e⟩|⟨_,e⟩;rw [e];exact h1;exact f2 Z _ (zI e);intro j x c7 r w c4;rw [Array.getElem?_set] at w;rcases c3 j x r with ⟨F,e⟩|⟨F,e⟩;subst F e;simp at w;subst w;exact hv;rw [zN (wQ F)] at w;exact f5 j x c7 e w c4;rw [zD c] at m;obtain ⟨K,L,q3,C',d2,d3,r1,r2,r3,r4⟩:=h.rows z cs' d1 c6 f m y;by_cases c2:B.b=f.b;rcases h.inj a z _ _ B f q m t y rfl Z c2 with e|e;exact absurd e c;obtain ⟨_,_,_,_,_,e1,e2,e3⟩:=AO.pZ e;cases e1;cases e2;rw [<-c2,M] at r1;cases r1;refine ⟨K,L,q3,C.set k v J,s,fr,by rw [A,zO c2.symm],by simpa using r2,λj x c7 r w c4=>?_,λh=>absurd rfl h⟩;have F:=aa r;rw [Array.getElem?_set,zN O] at w;exact r3 j x c7 r w c4;exact ⟨K,L,q3,C',d2,d3,by rw [A,zN (wQ c2)];exact r1,r2,r3,r4⟩;intro z es cl f m y;by_cases c:a=z;subst c;rw [zF hid] at m;cases m;rw [zD c] at m;obtain ⟨K,L⟩:=h.maps z es cl f m y;refine ⟨?_,L⟩;rw [A,zN ?_];exact K;intro e;rcases h.inj a z _ _ B f q m t y rfl Z e.symm with e|e;exact c e;exact e.elim;intro i j o o' B1 B2 b6 c8 d4 d5 N d8 d9;have e1:∃R,H[i]? =some R/\R.own/\∀x,R.under x->o.under x:=by by_cases c:a=i;subst c;rw [zF hid] at b6;cases b6;exact ⟨_,q,rfl,λx r=>AO.nM r (zE _) _ _⟩;rw [zD c] at b6;exact ⟨_,b6,N,λ_ h=>h⟩
 have e2:∃X,H[j]? =some X/\X≠ .dead/\∀x:AO,x.under X->x.under o':=by by_cases c:a=j;subst c;exact ⟨_,q,Z,λx r=>absurd r (AO.ed rfl)⟩;rw [zD c] at c8;exact ⟨_,c8,d8,λ_ h=>h⟩
 obtain ⟨R,K,L,q5⟩:=e1;obtain ⟨X,q3,q4,q6⟩:=e2;exact (h.inj i j R X B1 B2 K q3 d4 d5 L q4 d9).imp (λh=>h) λh=>q6 _ (q5 _ h);intro i g d;simpa using h.lt i g d;intro i l hn;refine ⟨hn,?_⟩;rw [zD];rintro rfl;rw [t] at hn;cases hn;intro g d hf;rw [A,zN];rintro rfl;exact hf a _ B q t rfl rfl;intro i o l N;rw [zD];exact l;rintro rfl;rw [q] at l;cases l;cases N;intro i o f l d N _;by_cases c:a=i;subst c;exact ⟨a,_,f,q,d,rfl,rfl⟩;rw [zD c] at l;exact ⟨i,o,f,l,d,N,rfl⟩;intro i ds d1 c6 f l d;by_cases c:a=i;subst c;rw [zF hid] at l;cases l;rw [t] at d;cases d;right;intro s o b2 hm;obtain ⟨t1,t0,t2⟩:=h.bu a p sz _ B s o b2 q t hm;refine ⟨(c5 _).trans t1,t0,λb1 n f h4 h5 h6=>(c5 _).trans ?_⟩;rcases c3 _ _ h4 with ⟨e,e'⟩|⟨_,e⟩;exact d6 s o b2 hm e.symm b1 n f e'.symm h5 h6;exact t2 b1 n f e h5 h6;rw [zD c] at l;exact .inl ⟨i,ds,c6,l,d,λ_ _ h=>h⟩
theorem Rel.D8 (h:Rel D H E) {sz:Nat} {B:gJ} (i:H[a]? =some (.row p sz (some b))) (g:D a=some B) {k:Nat} (q:k<p.length) (s:b<=k) (t:VR D u v) (l:one u) (n:∀d o N,gy sz=some (d,o,N)->k≠o+1):
  (store ⟨B.b,k,none⟩ v).run P E= .ok () (E.setCell ⟨B.b,k,none⟩ v)/\Rel D (H.set a (.row (p.set k u) sz (some b))) (E.setCell ⟨B.b,k,none⟩ v)/\Ext D H E D (H.set a (.row (p.set k u) sz (some b))) (E.setCell ⟨B.b,k,none⟩ v):=by
 obtain ⟨_,_,r,_⟩:=h.rows a p sz (some b) B i g;refine h.rA i g O s (λj x c=>?_) (Zs r) t l λd o N m e=>absurd e (n d o N m);rw [yT] at c;by_cases f:k=j;subst f;simp [q] at c;exact .inl ⟨rfl,c.symm⟩;rw [zN f] at c;exact .inr ⟨wQ f,c⟩
theorem Rel.D7 {sz:Nat} {B:gJ} (C:D a=some B) (c:Nat) (b1:b<=c):∀(d g:aQ) (i:Nat) (H:AH) (e:aQ) (E:World),Rel D H E->H[a]? =some (.row e sz (some b))->c+i+d.length<=e.length->cd D d g->(∀n∈d,one n)->(∀l o N,gy sz=some (l,o,N)->¬(c+i<=o+1/\o+1<c+i+d.length))->
  ∃f,(storeCells ⟨B.b,c,none⟩ g i).run P E= .ok () f/\Rel D (H.set a (.row (cr e (c+i) d) sz (some b))) f/\Ext D H E D (H.set a (.row (cr e (c+i) d) sz (some b))) f/\f.heap.size=E.heap.size:=by
 intro d;induction d with
 | nil=>
  intro g i H e E h m s t p r;have:=zL t.1.symm;subst this;have w:H.set a (.row e sz (some b))=H:=by apply xK;intro j;by_cases v:a=j;subst v;rw [zF (aa m),m];rw [zD v]
  refine ⟨E,rfl,?_,?_,rfl⟩;simp only [cr,w];exact h;simp only [cr,w];exact Ext.refl _ _ _
 | cons x d L=>intro g i H e E h m s t p r;obtain ⟨b2,g,rfl,K,J⟩:=t.eu;obtain ⟨M,R,X⟩:=h.D8 (P:=P) m C (k:=c+i) (by simp at s;omega) O K (p x Z) (λl o N q A=>r l o N q ⟨O,W⟩);obtain ⟨f,s1,y,z,s4⟩:=L g (i+1) _ (e.set (c+i) x) _ R (by rw [zF (aa m)]) (by simp at s ⊢;omega) J (λn F=>p n (by simp [F])) (λl o N q A=>r l o N q ⟨O,W⟩);rw [wA] at y z;refine ⟨f,?_,y,X.trans z,s4.trans (by simp [World.setCell])⟩;simp only [storeCells,Sem.run_bind,cQ,M,Result.andThen_ok];exact s1
theorem je (H:AH) (a:Nat) (o:AO) (c:H[a]? =some o):H.set a o=H:=by apply xK;intro j;by_cases b:a=j;subst b;rw [zF (aa c),c];rw [zD b]
theorem Rel.QY {sz:Nat} {B:gJ} (y:D a=some B) (m:Nat) (b1:b<=m):∀(d f:aQ) (i:Nat) (H:AH) (c:aQ) (E:World),Rel D H E->H[a]? =some (.row c sz (some b))->c.length=m+i->m+i+d.length<=B.n->cd D d f->(∀o∈d,one o)->(d=[]\/gy sz=none)->
  ∃n,(storeCells ⟨B.b,m,none⟩ f i).run P E= .ok () n/\Rel D (H.set a (.row (c++d) sz (some b))) n/\Ext D H E D (H.set a (.row (c++d) sz (some b))) n:=by
 intro d;induction d with
 | nil=>intro f i H c E h l A w r p g;have:=zL r.1.symm;subst this;refine ⟨E,rfl,?_,?_⟩;rw [List.append_nil,je H a _ l];exact h;rw [List.append_nil,je H a _ l];exact Ext.refl _ _ _
 | cons x d J=>
  intro f i H c E h l A w r p g;obtain ⟨b6,f,rfl,F,C⟩:=r.eu;have g:=g.resolve_left Z;simp at w;obtain ⟨K,L,M⟩:=h.rA (P:=P) (cs':=c++[x]) l y (k:=m+i) O O (λj c2 e=>by rcases zX j c.length with q|q;rw [zB q] at e;exact .inr ⟨O,e⟩;rw [zJ q] at e;have:=aa e;simp at this;have:j=c.length:=O;subst this;simp at e;exact .inl ⟨O,e.symm⟩) W F (p x Z) (λX b2 N v=>by rw [g] at v;cases v)
  obtain ⟨n,R,s,t⟩:=J f (i+1) _ (c++[x]) _ L (by rw [zF (aa l)]) W O C (λo z=>p o (by simp [z])) (.inr g);rw [wA] at s t;rw [xA,List.singleton_append] at s t;refine ⟨n,?_,s,M.trans t⟩;simp only [storeCells,Sem.run_bind,cQ,K,Result.andThen_ok];exact R
theorem Rel.less (h:Rel D H E) {sz:Nat} {B:gJ} (v:H[a]? =some (.row p sz (some b))) (hB:D a=some B) (n:Nat):
  Rel D (H.set a (.row (p.take n) sz (some b))) E/\Ext D H E D (H.set a (.row (p.take n) sz (some b))) E:=by
 have hid:=aa v;have m:∀i (o:AO),(H.set a (AO.row (p.take n) sz (some b)))[i]? =some o->∃f,H[i]? =some f/\(f=o\/(i=a/\o= .row (p.take n) sz (some b)/\f= .row p sz (some b))):=by intro i o c;by_cases z:a=i;subst z;rw [zF hid] at c;cases c;exact ⟨_,v,.inr ⟨rfl,rfl,rfl⟩⟩;rw [zD z] at c;exact ⟨o,c,.inl rfl⟩
 refine nu.up h ⟨⟨?_,?_,?_,?_⟩,⟨rfl,rfl,rfl,λ_ _ h=>h,?_,Z,zE _,λ_ _ _=>rfl,?_,?_⟩⟩ (λ_ _ h=>h) ?_;intro i R K y g c d;obtain ⟨f,e,rfl|⟨rfl,k,rfl⟩⟩:=m i _ c;exact h.rows i R K y g e d;cases k;obtain ⟨x,r,F,N,b1,b2,r1,r2,r3,r4⟩:=h.rows i p _ _ g e d;refine ⟨x,λc7 s l=>r c7 s (yG l),W,N,b1,b2,r1,r2,λj s c8 l hv hj=>?_,r4⟩;rw [zU] at l;split at l;exact r3 j s c8 l hv hj;cases l;intro i es cl g c d;obtain ⟨f,e,rfl|⟨rfl,k,rfl⟩⟩:=m i _ c;exact h.maps i es cl g e d;cases k;intro i j o f L M b6 c2 c3 c4 q c5 c6;obtain ⟨A,x,r⟩:=m i _ b6;obtain ⟨C,F,J⟩:=m j _ c2;have w1:A.own:=by rcases r with rfl|⟨_,rfl,rfl⟩;exact q;rfl
 have w2:C≠ .dead:=by rcases J with rfl|⟨_,rfl,rfl⟩;exact c5;simp
 refine (h.inj i j A C L M x F c3 c4 w1 w2 c6).imp (λh=>h) λw=>?_;rcases J with rfl|⟨_,rfl,rfl⟩;rcases r with rfl|⟨_,rfl,rfl⟩;exact w;exact AO.nM w (zE _) _ _;exact absurd w (AO.ed rfl);intro i P d;simpa using h.lt i P d;intro i c t;refine ⟨t,?_⟩;rw [zD];rintro rfl;rw [hB] at t;cases t;intro i o c q;rw [zD];exact c;rintro rfl;rw [v] at c;cases c;cases q;intro i o g c d q _;obtain ⟨f,e,k⟩:=m i _ c;refine ⟨i,f,g,e,d,?_,rfl⟩;rcases k with rfl|⟨_,rfl,rfl⟩;exact q;rfl;intro i X K y g c d;left;obtain ⟨f,e,rfl|⟨rfl,k,rfl⟩⟩:=m i _ c;exact ⟨i,X,y,e,d,λ_ _ h=>h⟩;cases k;refine ⟨i,p,_,e,d,λo c9 h=>?_⟩;rw [zU] at h;split at h;exact h;cases h
theorem Rel.push (h:Rel D H E) {xs:aQ} (C:Array aq) (p:aP) (q:Nat×Nat) (sz:Nat) (hl:xs.length<=C.size) (hv:∀(j:Nat) (l v:aq),xs[j]? =some l->C[j]? =some v->VR D l v) (h1:∀l∈xs,one l) (c4:∀j,j<C.size->kW q j) (R:s9 sz xs C.size p):
  Rel (D.put H.length ⟨E.heap.size,C.size,sz⟩) (H++[.row xs sz (some a)]) {E with heap:=E.heap.push (.cells C p q)}/\Ext D H E (D.put H.length ⟨E.heap.size,C.size,sz⟩) (H++[.row xs sz (some a)]) {E with heap:=E.heap.push (.cells C p q)}:=by
 have hn:D H.length=none:=by
  cases c:D H.length with
  | none=>rfl
  | some B=>exact absurd (h.lt _ _ c) (wF _)
 have P:=au.gb hn ⟨E.heap.size,C.size,sz⟩;have m:∀i (o:AO),(H++[AO.row xs sz (some a)])[i]? =some o->i≠H.length->H[i]? =some o:=by intro i o d b2;have:=aa d;simp at this;rwa [zB O] at d
 have b1:∀o,(H++[AO.row xs sz (some a)])[H.length]? =some o->o= .row xs sz (some a):=by intro o d;simpa [eq_comm] using d
 have k:∀i B,i≠H.length->D.put H.length ⟨E.heap.size,C.size,sz⟩ i=some B->D i=some B:=by intro i B b2 c;simpa [au.put,b2] using c
 have y:∀b,b<E.heap.size->(E.heap.push (Obj.cells C p q))[b]? =E.heap[b]? :=by intro b c;rw [xY,zN O]
 refine nu.up h ⟨⟨?_,?_,?_,?_⟩,⟨rfl,rfl,rfl,P,?_,Z,Z,?_,?_,?_⟩⟩ (λb p c=>by
  unfold dK at c ⊢;have M:b<E.heap.size:=by rcases zX b E.heap.size with F|F;exact F;rw [yS F] at c;cases c
  rw [y b M];exact c) ?_
 intro i cs b6 ro B t r;by_cases g:i=H.length;subst g;cases b1 _ t;rw [au.aC] at r;cases r;exact ⟨rfl,λ_=>h1,hl,C,p,q,Z,rfl,λj l v K X _=>(hv j l v K X).mono P,λ_=>c4⟩;have w:=m i _ t g;have s:=k i B g r;obtain ⟨q1,q2,q3,C',c2,c3,r1,r2,r3,r4⟩:=h.rows i cs b6 ro B w s;exact ⟨q1,q2,q3,C',c2,c3,(y _ (h.blt w s Z)).trans r1,r2,λj l v K X z=>(r3 j l v K X z).mono P,r4⟩;intro i es cl B t r;by_cases g:i=H.length;subst g;cases b1 _ t;have w:=m i _ t g;have s:=k i B g r;obtain ⟨q1,q2⟩:=h.maps i es cl B w s;exact ⟨(y _ (h.blt w s Z)).trans q1,q2⟩;intro i j o o' B B' d z c x A hd L;by_cases f:i=H.length <;> by_cases n:j=H.length;left;rw [f,n];subst f;rw [au.aC] at c;cases c;have:=h.blt (m j _ z n) (k j _ n x) hd;simp at L;omega;subst n;rw [au.aC] at x;cases x;have:=h.blt (m i _ d f) (k i _ f c) (by rintro rfl;cases A);simp at L;omega;exact h.inj i j o o' B B' (m i _ d f) (m j _ z n) (k i _ f c) (k j _ n x) A hd L;intro i B c;by_cases f:i=H.length;simp [f];have:=h.lt i B (k i B f c);simp;omega;intro i d c5;refine ⟨?_,?_⟩;unfold au.put;rw [zN O];exact c5;rw [zB d];intro b c _;exact y b c;intro i o d _;rw [zB (aa d)];exact d;intro i o B d c A M;by_cases f:i=H.length;subst f;rw [au.aC] at c;cases c;simp at M;exact ⟨i,o,B,m i _ d f,k i _ f c,A,rfl⟩;intro i ds b6 c7 B' d c;by_cases g:i=H.length;subst g;cases b1 _ d;rw [au.aC] at c;cases c;exact .inr λe o N J=>⟨by rw [<-(R e o N J).1];simp [dK],(R e o N J).2.1,λc8 c6 _ h4 h5 _=>absurd ((R e o N J).2.2 c8 c6 h4) h5⟩;exact .inl ⟨i,ds,c7,m i _ d g,k i _ g c,λ_ _ h=>h⟩
theorem Rel.Hb (h:Rel D H E):
  Rel (D.put H.length ⟨E.heap.size,0,0⟩) (H++[.mp #[] 0]) {E with heap:=E.heap.push (.map #[] 0)}/\Ext D H E (D.put H.length ⟨E.heap.size,0,0⟩) (H++[.mp #[] 0]) {E with heap:=E.heap.push (.map #[] 0)}:=by
 have hn:D H.length=none:=by
  cases c:D H.length with
  | none=>rfl
  | some B=>exact absurd (h.lt _ _ c) (wF _)
 have K:=au.gb hn ⟨E.heap.size,0,0⟩;have k:∀i (o:AO),(H++[AO.mp #[] 0])[i]? =some o->i≠H.length->H[i]? =some o:=by intro i o d L;have:=aa d;simp at this;rwa [zB O] at d
 have z:∀o,(H++[AO.mp #[] 0])[H.length]? =some o->o= .mp #[] 0:=by intro o d;simpa [eq_comm] using d
 have g:∀i B,i≠H.length->D.put H.length ⟨E.heap.size,0,0⟩ i=some B->D i=some B:=by intro i B L c;simpa [au.put,L] using c
 have s:∀b,b<E.heap.size->(E.heap.push (Obj.map #[] 0))[b]? =E.heap[b]? :=by intro b c;rw [xY,zN O]
 refine nu.up h ⟨⟨?_,?_,?_,?_⟩,⟨rfl,rfl,rfl,K,?_,Z,Z,?_,?_,?_⟩⟩ (λb el c=>by
  unfold dK at c ⊢;have y:b<E.heap.size:=by rcases zX b E.heap.size with w|w;exact w;rw [yS w] at c;cases c
  rw [s b y];exact c) ?_
 intro i P M ro B p m;by_cases f:i=H.length;subst f;cases z _ p;have q:=k i _ p f;have n:=g i B f m;obtain ⟨A,C,q3,N,X,b1,r1,r2,r3,r4⟩:=h.rows i P M ro B q n;exact ⟨A,C,q3,N,X,b1,(s _ (h.blt q n Z)).trans r1,r2,λj a c3 ha b6 t=>(r3 j a c3 ha b6 t).mono K,r4⟩;intro i es cl B p m;by_cases f:i=H.length;subst f;cases z _ p;rw [au.aC] at m;cases m;exact ⟨Z,λc4 f=>by simp at f⟩;have q:=k i _ p f;have n:=g i B f m;obtain ⟨A,C⟩:=h.maps i es cl B q n;exact ⟨(s _ (h.blt q n Z)).trans A,C⟩;intro i j o o' B F d t c r v J x;by_cases e:i=H.length <;> by_cases l:j=H.length;left;rw [e,l];subst e;rw [au.aC] at c;cases c;have:=h.blt (k j _ t l) (g j _ l r) J;simp at x;omega;subst l;rw [au.aC] at r;cases r;have:=h.blt (k i _ d e) (g i _ e c) (by rintro rfl;cases v);simp at x;omega;exact h.inj i j o o' B F (k i _ d e) (k j _ t l) (g i _ e c) (g j _ l r) v J x;intro i B c;by_cases e:i=H.length;simp [e];have:=h.lt i B (g i B e c);simp;omega;intro i d b2;refine ⟨?_,?_⟩;unfold au.put;rw [zN O];exact b2;rw [zB d];intro b c _;exact s b c;intro i o d _;rw [zB (aa d)];exact d;intro i o B d c v y;by_cases e:i=H.length;subst e;rw [au.aC] at c;cases c;simp at y;exact ⟨i,o,B,k i _ d e,g i _ e c,v,rfl⟩;intro i R M c2 F d c;by_cases f:i=H.length;subst f;cases z _ d;exact .inl ⟨i,R,c2,k i _ d f,g i _ f c,λ_ _ h=>h⟩
theorem Rel.Df (h:Rel D H E) {K:Array MapEntry} {cl:Nat} {B:gJ} (k:H[a]? =some (.mp K cl)) (n:D a=some B) (m:Array MapEntry) (r:Nat) (hs:∀e∈m,ak e.key/\ak e.val):
  Rel D (H.set a (.mp m r)) {E with heap:=E.heap.setIfInBounds B.b (.map m r)}/\Ext D H E D (H.set a (.mp m r)) {E with heap:=E.heap.setIfInBounds B.b (.map m r)}:=by
 have hid:=aa k;have c8:=h.blt k n Z;have s:∀b,(E.heap.setIfInBounds B.b (.map m r))[b]? =if b=B.b then some (.map m r) else E.heap[b]? :=by intro b;rw [Array.getElem?_setIfInBounds];by_cases d:B.b=b;subst d;simp [c8];rw [zN d,zN (wQ d)]
 refine nu.up h ⟨⟨?_,?_,?_,?_⟩,⟨rfl,rfl,rfl,λ_ _ h=>h,?_,Z,Z,?_,?_,?_⟩⟩ (λb el d=>by unfold dK at d ⊢;rw [s];by_cases N:b=B.b;subst N;rw [(h.maps a K cl B k n).1] at d;cases d;rw [zN N];exact d) ?_
 intro q b2 P J l g p;by_cases c:a=q;subst c;rw [zF hid] at g;cases g;rw [zD c] at g;obtain ⟨y,z,F,C',b6,c3,r1,r2⟩:=h.rows q b2 P J l g p;refine ⟨y,z,F,C',b6,c3,?_,r2⟩;rw [s,zN ?_];exact r1;intro e;rcases h.inj a q _ _ B l k g n p rfl Z e.symm with e|e;exact c e;exact e.elim;intro q c2 b1 l g p;by_cases c:a=q;subst c;rw [zF hid] at g;cases g;rw [n] at p;cases p;exact ⟨by rw [s,zO rfl],hs⟩;rw [zD c] at g;obtain ⟨y,z⟩:=h.maps q c2 b1 l g p;refine ⟨?_,z⟩;rw [s,zN ?_];exact y;intro e;rcases h.inj a q _ _ B l k g n p rfl Z e.symm with e|e;exact c e;exact e.elim;intro i j o o' R X L M c4 c5 t c6 c7;have e1:∃v,H[i]? =some v/\v.own/\∀x,v.under x->o.under x:=by by_cases c:a=i;subst c;exact ⟨_,k,rfl,λx C=>C.elim⟩;rw [zD c] at L;exact ⟨_,L,t,λ_ h=>h⟩
 have e2:∃w,H[j]? =some w/\w≠ .dead/\∀x:AO,x.under w->x.under o':=by by_cases c:a=j;subst c;exact ⟨_,k,Z,λx C=>absurd C (AO.ed rfl)⟩;rw [zD c] at M;exact ⟨_,M,c6,λ_ h=>h⟩
 obtain ⟨v,y,z,q5⟩:=e1;obtain ⟨w,F,q4,q6⟩:=e2;exact (h.inj i j v w R X y F c4 c5 z q4 c7).imp (λh=>h) λh=>q6 _ (q5 _ h);intro i b d;simpa using h.lt i b d;intro i f A;refine ⟨A,?_⟩;rw [zD];rintro rfl;rw [n] at A;cases A;intro b d hf;rw [s,zN];rintro rfl;exact hf a _ B k n rfl rfl;intro i o f t;rw [zD];exact f;rintro rfl;rw [k] at f;cases f;cases t;intro i o l f d t _;by_cases c:a=i;subst c;exact ⟨a,_,l,k,d,rfl,rfl⟩;rw [zD c] at f;exact ⟨i,o,l,f,d,t,rfl⟩;intro i ds P J l f d;by_cases c:a=i;subst c;rw [zF hid] at f;cases f;rw [zD c] at f;exact .inl ⟨i,ds,J,f,d,λ_ _ h=>h⟩
theorem Rel.kill (h:Rel D H E) {sz:Nat} {B:gJ} (q:H[a]? =some (.row p sz (some b))) (C:D a=some B):
  Rel D (H.set a .dead) E/\Ext D H E D (H.set a .dead) E:=by
 have hid:=aa q;have g:∀(i:Nat) (o:AO),(H.set a AO.dead)[i]? =some o->o≠ .dead->H[i]? =some o:=by intro i o c K;by_cases n:a=i;subst n;rw [zF hid] at c;cases c;exact absurd rfl K;rwa [zD n] at c
 refine nu.up h ⟨⟨λi w r l f c d=>h.rows i w r l f (g i _ c Z) d,λi y cl f c d=>h.maps i y cl f (g i _ c Z) d,?_,?_⟩,⟨rfl,rfl,rfl,λ_ _ h=>h,?_,Z,zE _,λ_ _ _=>rfl,?_,?_⟩⟩ (λ_ _ h=>h) ?_;intro i j o M s t z A F J e m L;exact h.inj i j o M s t (g i _ z (by rintro rfl;cases e)) (g j _ A m) F J e m L;intro i v d;simpa using h.lt i v d;intro i c k;refine ⟨k,?_⟩;rw [zD];rintro rfl;rw [C] at k;cases k;intro i o c e;rw [zD];exact c;rintro rfl;rw [q] at c;cases c;cases e;intro i o f c d e _;exact ⟨i,o,f,g i _ c (by rintro rfl;cases e),d,e,rfl⟩;intro i x r l f c d;exact .inl ⟨i,x,l,g i _ c Z,d,λ_ _ h=>h⟩
theorem Rel.rename (h:Rel D H E) {sz:Nat} {B:gJ} (r:H[a]? =some (.row p sz (some b))) (w:D a=some B):
  Rel (D.put H.length B) (H.set a .dead++[.row p sz (some b)]) E/\Ext D H E (D.put H.length B) (H.set a .dead++[.row p sz (some b)]) E:=by
 have hid:=aa r;have hn:D H.length=none:=by
  cases d:D H.length with
  | none=>rfl
  | some B=>exact absurd (h.lt _ _ d) (wF _)
 have N:=au.gb hn B;have n:∀i (o:AO),(H.set a AO.dead++[AO.row p sz (some b)])[i]? =some o->i≠H.length->o≠ .dead->H[i]? =some o/\i≠a:=by intro i o c b6 x;have:=aa c;simp at this;rw [zB W] at c;by_cases f:a=i;subst f;rw [zF hid] at c;cases c;exact absurd rfl x;rw [zD f] at c;exact ⟨c,wQ f⟩
 have y:∀o,(H.set a AO.dead++[AO.row p sz (some b)])[H.length]? =some o->o= .row p sz (some b):=by intro o c;rw [zJ Z] at c;simpa [eq_comm] using c
 have m:∀i k,i≠H.length->D.put H.length B i=some k->D i=some k:=by intro i k b6 d;simpa [au.put,b6] using d
 refine nu.up h ⟨⟨?_,?_,?_,?_⟩,⟨rfl,rfl,rfl,N,?_,Z,zE _,λ_ _ _=>rfl,?_,?_⟩⟩ (λ_ _ h=>h) ?_;intro i c4 c2 b1 k c d;by_cases f:i=H.length;subst f;cases y _ c;rw [au.aC] at d;cases d;obtain ⟨s,t,X,C,J,K,r1,r2,r3,r4⟩:=h.rows a p sz (some b) B r w;exact ⟨s,t,X,C,J,K,r1,r2,λj F b2 L R q=>(r3 j F b2 L R q).mono N,r4⟩;obtain ⟨s,t,X,C,J,K,r1,r2,r3,r4⟩:=h.rows i c4 c2 b1 k (n i _ c f Z).1 (m i _ f d);exact ⟨s,t,X,C,J,K,r1,r2,λj F b2 L R q=>(r3 j F b2 L R q).mono N,r4⟩;intro i es cl k c d;by_cases f:i=H.length;subst f;cases y _ c;exact h.maps i es cl k (n i _ c f Z).1 (m i _ f d);intro i j o o' B1 B2 c q z A l x M;by_cases g:i=H.length <;> by_cases v:j=H.length;left;rw [g,v];subst g;cases y _ c;rw [au.aC] at z;cases z;obtain ⟨s,t⟩:=n j _ q v x;rcases h.inj a j _ _ _ _ r s w (m j _ v A) rfl x M with e|e;exact absurd e.symm t;exact .inr e;subst v;cases y _ q;rw [au.aC] at A;cases A;obtain ⟨s,t⟩:=n i _ c g (by rintro rfl;cases l);rcases h.inj i a _ _ _ _ s r (m i _ g z) w l Z M with e|e;exact absurd e t;exact absurd e (AO.ed rfl);exact h.inj i j o o' B1 B2 (n i _ c g (by rintro rfl;cases l)).1 (n j _ q v x).1 (m i _ g z) (m j _ v A) l x M;intro i c3 d;by_cases g:i=H.length;simp [g];have:=h.lt i c3 (m i _ g d);simp;omega;intro i c P;refine ⟨?_,?_⟩;unfold au.put;rw [zN O];exact P;rw [zB (Zs c),zD];rintro rfl;rw [w] at P;cases P;intro i o c l;rw [zB (Zs (aa c)),zD];exact c;rintro rfl;rw [r] at c;cases c;cases l;intro i o k c d l c5;by_cases g:i=H.length;subst g;rw [au.aC] at d;cases d;exact ⟨a,_,B,r,w,rfl,rfl⟩;exact ⟨i,o,k,(n i _ c g (by rintro rfl;cases l)).1,m i _ g d,l,rfl⟩;intro i ds c2 b1 k c d;left;by_cases f:i=H.length;subst f;cases y _ c;rw [au.aC] at d;cases d;exact ⟨a,p,_,r,w,λ_ _ h=>h⟩;exact ⟨i,ds,b1,(n i _ c f Z).1,m i _ f d,λ_ _ h=>h⟩
theorem Rel.fork (h:Rel D H E) {sz:Nat} {B:gJ} (w:H[a]? =some (.row p sz (some b))) (n:D a=some B) (c5:b<=d) (hn:c<=d):
  Rel (D.put H.length B) (H.set a (.row (p.take c) sz none)++[.row p sz (some d)]) E/\Ext D H E (D.put H.length B) (H.set a (.row (p.take c) sz none)++[.row p sz (some d)]) E:=by
 have hid:=aa w;have c6:D H.length=none:=by
  cases g:D H.length with
  | none=>rfl
  | some B=>exact absurd (h.lt _ _ g) (wF _)
 have hm:=au.gb c6 B;have z:∀i (o:AO),(H.set a (AO.row (p.take c) sz none)++[AO.row p sz (some d)])[i]? =some o->i≠H.length->(i≠a/\H[i]? =some o)\/(i=a/\o= .row (p.take c) sz none):=by intro i o f b6;have:=aa f;simp at this;rw [zB W] at f;by_cases k:a=i;subst k;rw [zF hid] at f;cases f;exact .inr ⟨rfl,rfl⟩;rw [zD k] at f;exact .inl ⟨wQ k,f⟩
 have M:∀o,(H.set a (AO.row (p.take c) sz none)++[AO.row p sz (some d)])[H.length]? =some o->o= .row p sz (some d):=by intro o f;rw [zJ Z] at f;simpa [eq_comm] using f
 have m:∀i q,i≠H.length->D.put H.length B i=some q->D i=some q:=by intro i q b6 g;simpa [au.put,b6] using g
 refine nu.up h ⟨⟨?_,?_,?_,?_⟩,⟨rfl,rfl,rfl,hm,?_,Z,zE _,λ_ _ _=>rfl,?_,?_⟩⟩ (λ_ _ h=>h) ?_;intro i c4 c2 b2 q f g;obtain ⟨s,A,q3,N,P,R,r1,r2,r3,r4⟩:=h.rows a p sz _ B w n;by_cases k:i=H.length;subst k;cases M _ f;rw [au.aC] at g;cases g;exact ⟨s,λ_=>A Z,q3,N,P,R,r1,r2,λj F v x L t=>(r3 j F v x L t).mono hm,λ_=>r4 Z⟩;rcases z i _ f k with ⟨_,K⟩|⟨rfl,e⟩;obtain ⟨s,A,q3,N,P,R,r1,r2,r3,r4⟩:=h.rows i c4 c2 b2 q K (m i _ k g);exact ⟨s,A,q3,N,P,R,r1,r2,λj F v x L t=>(r3 j F v x L t).mono hm,r4⟩;cases e;have g:=m i _ k g;rw [n] at g;cases g;refine ⟨s,λh=>absurd rfl h,W,N,P,R,r1,r2,λj F v x L t=>?_,λh=>absurd rfl h⟩;rw [zU] at x;split at x;exact (r3 j F v x L t).mono hm;cases x;intro i es cl q f g;by_cases k:i=H.length;subst k;cases M _ f;rcases z i _ f k with ⟨_,K⟩|⟨_,e⟩;exact h.maps i es cl q K (m i _ k g);cases e;intro i j o o' B1 B2 f t J y r hd X;by_cases l:i=H.length <;> by_cases C:j=H.length;left;rw [l,C];subst l;cases M _ f;rw [au.aC] at J;cases J;rcases z j _ t C with ⟨A,s⟩|⟨rfl,rfl⟩;rcases h.inj a j _ _ _ _ w s n (m j _ C y) rfl hd X with e|e;exact absurd e.symm A;exact .inr (AO.nM e c5 _ _);right;show (p.take c).length<=d;simp;omega;subst C;cases M _ t;rw [au.aC] at y;cases y;rcases z i _ f l with ⟨A,s⟩|⟨rfl,rfl⟩;rcases h.inj i a _ _ _ _ s w (m i _ l J) n r Z X with e|e;exact absurd e A;exact absurd e (AO.ed rfl);cases r;rcases z i _ f l with ⟨p2,p1⟩|⟨rfl,rfl⟩;rcases z j _ t C with ⟨A,s⟩|⟨rfl,rfl⟩;exact h.inj i j o o' B1 B2 p1 s (m i _ l J) (m j _ C y) r hd X;have y:=m j _ C y;rw [n] at y;cases y;rcases h.inj i j _ _ _ _ p1 w (m i _ l J) n r Z X with e|e;exact absurd e p2;exact absurd e (AO.ed rfl);cases r;intro i c3 g;by_cases l:i=H.length;simp [l];have:=h.lt i c3 (m i _ l g);simp;omega;intro i f b1;refine ⟨?_,?_⟩;unfold au.put;rw [zN O];exact b1;rw [zB (Zs f),zD];rintro rfl;rw [n] at b1;cases b1;intro i o f r;rw [zB (Zs (aa f)),zD];exact f;rintro rfl;rw [w] at f;cases f;cases r;intro i o q f g r c7;by_cases l:i=H.length;subst l;rw [au.aC] at g;cases g;exact ⟨a,_,B,w,n,rfl,rfl⟩;rcases z i _ f l with ⟨_,p1⟩|⟨_,rfl⟩;exact ⟨i,o,q,p1,m i _ l g,r,rfl⟩;cases r;intro i ds c2 b2 q f g;left;by_cases k:i=H.length;subst k;cases M _ f;rw [au.aC] at g;cases g;exact ⟨a,p,_,w,n,λ_ _ h=>h⟩;have g:=m i _ k g;rcases z i _ f k with ⟨_,K⟩|⟨rfl,e⟩;exact ⟨i,ds,b2,K,g,λ_ _ h=>h⟩;cases e;rw [n] at g;cases g;refine ⟨i,p,_,w,n,λo c8 h=>?_⟩;rw [zU] at h;split at h;exact h;cases h
theorem Rel.freeze (h:Rel D H E) {sz:Nat} {B:gJ} (q:H[a]? =some (.row p sz (some b))) (g:D a=some B) (n:Nat):
  Rel D (H.set a (.row (p.take n) sz none)) E/\Ext D H E D (H.set a (.row (p.take n) sz none)) E:=by
 have hid:=aa q;have l:∀i (o:AO),(H.set a (AO.row (p.take n) sz none))[i]? =some o->(i≠a/\H[i]? =some o)\/(i=a/\o= .row (p.take n) sz none):=by intro i o c;by_cases v:a=i;subst v;rw [zF hid] at c;cases c;exact .inr ⟨rfl,rfl⟩;rw [zD v] at c;exact .inl ⟨wQ v,c⟩
 refine nu.up h ⟨⟨?_,?_,?_,?_⟩,⟨rfl,rfl,rfl,λ_ _ h=>h,?_,Z,zE _,λ_ _ _=>rfl,?_,?_⟩⟩ (λ_ _ h=>h) ?_;intro i P F z k c d;rcases l i _ c with ⟨_,m⟩|⟨rfl,e⟩;exact h.rows i P F z k m d;cases e;rw [g] at d;cases d;obtain ⟨y,q2,q3,L,X,b1,r1,r2,r3,r4⟩:=h.rows i p sz _ B q g;refine ⟨y,λh=>absurd rfl h,W,L,X,b1,r1,r2,λj M b2 r hv w=>?_,λh=>absurd rfl h⟩;rw [zU] at r;split at r;exact r3 j M b2 r hv w;cases r;intro i es cl k c d;rcases l i _ c with ⟨_,m⟩|⟨_,e⟩;exact h.maps i es cl k m d;cases e;intro i j o o' J K c w A t f hd C;rcases l i _ c with ⟨p2,s⟩|⟨rfl,rfl⟩;rcases l j _ w with ⟨q2,y⟩|⟨rfl,rfl⟩;exact h.inj i j o o' J K s y A t f hd C;rw [g] at t;cases t;rcases h.inj i j _ _ _ _ s q A g f Z C with e|e;exact absurd e p2;exact absurd e (AO.ed rfl);cases f;intro i N d;simpa using h.lt i N d;intro i c x;refine ⟨x,?_⟩;rw [zD];rintro rfl;rw [g] at x;cases x;intro i o c f;rw [zD];exact c;rintro rfl;rw [q] at c;cases c;cases f;intro i o k c d f _;rcases l i _ c with ⟨_,s⟩|⟨_,rfl⟩;exact ⟨i,o,k,s,d,f,rfl⟩;cases f;intro i R F z k c d;left;rcases l i _ c with ⟨_,m⟩|⟨rfl,e⟩;exact ⟨i,R,z,m,d,λ_ _ h=>h⟩;cases e;rw [g] at d;cases d;refine ⟨i,p,_,q,g,λo b6 h=>?_⟩;rw [zU] at h;split at h;exact h;cases h
end
def mL:TypeDesc->Bool
 | .struct _|.array _ _=>true
 | _=>false
section
variable {D:au} {H:AH} {E:World} {P:aB}
theorem qm {d:TypeDesc} (h:P.underlying t=some d) (E:World):(isAgg t).run P E= .ok (mL d) E:=by unfold isAgg;simp only [Sem.run_bind,run_underlying h,Result.andThen_ok];cases d <;> rfl
theorem jL {i:TypeInfo} (h:P.info? t=some i) (E:World):(typeInfo t).run P E= .ok i E:=by simp [typeInfo,h]
theorem aV {i:TypeInfo} (h:P.info? t=some i) (E:World):(sizeOf t).run P E= .ok i.size E:=by simp [sizeOf,jL h]
theorem dr {i:TypeInfo} (h:P.info? t=some i) (a:i.zero=some u) (E:World):(zeroValue t).run P E= .ok u E:=by simp [zeroValue,jL h,a]
def cV (P:aB) (t:aP) (a:aq) (H:AH):fR:=
 match a with
 | .pointer (some ⟨e,c,none⟩)=>
  match H[e]?,P.underlying t,P.info? t with
  | some (.row b _ _),some d,some i=>if mL d=true then (if c+i.size<=b.length/\((b.drop c).take i.size).all nj=true then some (.agg ((b.drop c).take i.size).toArray) else none) else (b[c]?).bind λa=>if nj a=true then some a else none
  | _,_,_=>none
 | _=>none
theorem qE (h:cV P t u H=some w) (s:Rel D H E) (a:VR D u v):∃c,(Instr.loadAt t v).run P E= .ok c E/\VR D w c:=by
 unfold cV at h;split at h;rename_i K b;obtain ⟨_,B,o,rfl⟩:=a.eB;split at h;rename_i f sz L d i r y z;simp only [Instr.loadAt,Instr.sureAddr,Sem.run_bind,Sem.run_pure,Result.andThen_ok,loadVar,qm y];split at h;rename_i g;split at h;rename_i k;have ⟨k,q⟩:=k;cases h;have ⟨m,p,l,j⟩:=s.load r o k (λu a=>yz (by simp at q;exact q u a));refine ⟨.agg m.toArray,?_,VR.ou (Zs l)⟩;have:=run_loadCells_list (P:=P) (w:=E) ⟨B.b,b,none⟩ m j;rw [p] at this;simp [g,aV z,this];cases h;rename_i g;have h:f[b]? =some w/\nj w:=by
  cases x:f[b]? with
  | none=>rw [x] at h;cases h
  | some u=>rw [x] at h;simp only [zR] at h;split at h;rename_i A;cases h;exact ⟨rfl,A⟩;cases h
 have ⟨h,C⟩:=h;have ⟨m,p,l,j⟩:=s.load r o (off:=b) (n:=1) (Zo (aa h)) (λu a=>by
  have e:(f.drop b).take 1=[w]:=by rw [yL (aa h)];have:=zA (aa h);rw [h] at this;simp at this;rw [<-this];simp
  rw [e] at a;rcases yQ.1 a with rfl|a;exact yz C;cases a)
 have ⟨c,F,J⟩:=l.get (i:=0) (a:=w) (by simp [h]);refine ⟨c,?_,J⟩;have:=j 0 c F;simp only [cQ,wZ] at this;simp [g,this];cases h;cases h
def AK (sz a n:Nat):Bool:=bif Nat.ble sz 999999 then true else match gy sz with
 | some (_,o,_)=> !(Nat.ble a (o+1)&&Nat.ble (o+2) (a+n))
 | none=>true
@[simp] theorem KU {sz:Nat} (h:sz<1000000):AK sz a b:=by unfold AK;rw [zY O];rfl
theorem iS {sz:Nat} (h:gy sz=some (t,b,a)):(sz=1000339/\a=2/\t=339/\b=0)\/(sz=1000341/\a=14/\t=341/\b=10):=by unfold gy at h;split at h;rename_i c;cases h;exact .inl ⟨c,rfl,rfl,rfl⟩;split at h;rename_i c;cases h;exact .inr ⟨c,rfl,rfl,rfl⟩;cases h
theorem tB {sz:Nat} (h:gy sz=some (t,b,a)):Nat.ble sz 999999=false:=by
 cases e:Nat.ble sz 999999 with
 | false=>rfl
 | true=>have:=yR e;rcases iS h with ⟨rfl,_⟩|⟨rfl,_⟩ <;> omega
theorem KT {sz:Nat} (h:AK sz a b):∀c o N,gy sz=some (c,o,N)->¬(a<=o+1/\o+1<a+b):=by intro c o N d ⟨e,f⟩;unfold AK at h;rw [tB d,d] at h;simp only [cond_false] at h;rw [zY e,zY (by omega:o+2<=a+b)] at h;cases h
def fF (P:aB) (t:aP) (a x:aq) (H:AH):Option AH:=
 match a with
 | .pointer (some ⟨d,b,none⟩)=>
  match H[d]?,P.info? t with
  | some (.row c sz (some e)),some i=>if x.cells.size=i.size/\b+i.size<=c.length/\x.cells.toList.all one/\e<=b/\AK sz b i.size=true then some (H.set d (.row (cr c b x.cells.toList) sz (some e))) else none
  | _,_=>none
 | _=>none
theorem wg {b:aq} {c:AH} (h:fF P t u w H=some c) (j:Rel D H E) (q:VR D u v) (z:VR D w b):∃a,(Instr.storeAt t v b).run P E= .ok () a/\Rel D c a/\Ext D H E D c a:=by
 unfold fF at h;split at h;rename_i A C;obtain ⟨_,B,e,rfl⟩:=q.eB;split at h;rename_i d sz R i g s;split at h;rename_i r;have ⟨l,L,m,n,p⟩:=r;have ⟨_,_,M,_⟩:=j.rows A d sz _ B g e;cases h;have f:=z.cells;have y:b.cells.size=i.size:=by have:=f.1;simp at this;omega
 have ⟨a,F,J,K,_⟩:=Rel.D7 (P:=P) e C n w.cells.toList b.cells.toList 0 H d E j g W f (by simpa only [zQ] using m) (λk o N x=>by simpa [l] using KT p k o N x);refine ⟨a,?_,J,K⟩;simp only [Instr.storeAt,Instr.sureAddr,Sem.run_bind,Sem.run_pure,Result.andThen_ok,storeVar,aV s];simp [y,F];cases h;cases h;cases h
def ry (P:aB) (e:aP):Nat:=
 match P.underlying e with
 | some (.array _ a)=>((P.info? a).map (·.size)).getD 0
 | _=>0
def bc (P:aB) (e:aP):Nat:=bif Nat.beq e 339 then 1000339 else bif Nat.beq e 341 then 1000341 else bif Nat.ble (ry P e) 999999 then ry P e else 0
theorem n5 {g:aP} (h:gy (bc P t)=some (g,b,a)):t=g:=by
 have c:=iS h;unfold bc at c;cases e:Nat.beq t 339 with
 | true=>have:=zS e;rw [e] at c;rcases c with ⟨_,_,rfl,_⟩|⟨d,_⟩;exact this;simp at d
 | false=>
  rw [e] at c;cases d:Nat.beq t 341 with
  | true=>have:=zS d;rw [d] at c;rcases c with ⟨d,_⟩|⟨_,_,rfl,_⟩;simp at d;exact this
  | false=>
   rw [d] at c;cases f:Nat.ble (ry P t) 999999 with
   | true=>rw [f] at c;have:=yR f;simp at c;omega
   | false=>rw [f] at c;simp at c
def Ts (sz:Nat) (a:aQ):Bool:=bif Nat.ble sz 999999 then true else match gy sz with
 | some (_,o,N)=>Nat.beq a.length N&&match a[o+1]? with
  | some (.slice (some _) (_+1) _)=>false
  | _=>true
 | none=>true
theorem Eu (h:Ts (bc P t) p):s9 (bc P t) p p.length t:=λc o N a=>by
 unfold Ts at h;rw [tB a,a] at h;simp only [cond_false,zP] at h;refine ⟨n5 a,zS h.1,λd m b=>?_⟩;rw [b] at h;cases m with
 | zero=>rfl
 | succ m=>simp at h
theorem mk_zero [a:Small P] {e:aP} {i:TypeInfo} {z:aq} (b:P.info? e=some i) (d:i.zero=some z) (h:z.cells.toList.all ak):s9 (bc P e) z.cells.toList z.cells.toList.length e:=λj o N c=>by have g:=n5 c;subst g;refine ⟨rfl,?_,λk m f=>?_⟩;rcases iS c with ⟨_,rfl,rfl,_⟩|⟨_,rfl,rfl,_⟩;simpa using a.bs i z b d;simpa using a.bp i z b d;simp only [zQ] at h;have:=h _ (zI f);simp [ak] at this
def Fy (a:aQ) (sz:Nat) (H:AH):aq×AH:=(.pointer (some ⟨H.length,0,none⟩),H++[.row a sz (some 0)])
def pB (P:aB) (e:aP) (x:aq) (H:AH):Option (aq×AH):=if x.cells.toList.all one=true/\Ts (bc P e) x.cells.toList=true then some (Fy x.cells.toList (bc P e) H) else none
theorem tF (j:Nat):kW (0,0) j:=λh=>by simp at h
theorem tS {sz:Nat} (f:u.cells.toList.all one) (h:s9 sz u.cells.toList u.cells.toList.length t) (i:Rel D H E) (l:VR D u v):
  ∃b c,(newVar t v).run P E= .ok ⟨E.heap.size,0,none⟩ b/\Rel c (Fy u.cells.toList sz H).2 b/\Ext D H E c (Fy u.cells.toList sz H).2 b/\VR c (Fy u.cells.toList sz H).1 (.pointer (some ⟨E.heap.size,0,none⟩)):=by
 have d:=l.cells;have e:=d.1;obtain ⟨m,n⟩:=i.push v.cells t (0,0) sz (by simp at e ⊢;omega) (λj a o g k=>d.2 j a o g (Zs k)) (by simpa only [zQ] using f) (λj _=>tF j) (by rw [show v.cells.size=u.cells.toList.length from by simp at e ⊢;omega];exact h);exact ⟨_,_,by simp [newVar,newRow],m,n,.ptr (au.aC _ _ _)⟩
theorem FF {c:AH} (h:pB P t u H=some (w,c)) (f:Rel D H E) (g:VR D u v):∃e a b,(Instr.box t v).run P E= .ok e a/\Rel b c a/\Ext D H E b c a/\VR b w e:=by unfold pB at h;split at h;rename_i d;have ⟨a,b,i,j,k,l⟩:=tS (P:=P) d.1 (Eu d.2) f g;cases h;exact ⟨_,a,b,by simp [Instr.box,i],j,k,l⟩;cases h
def mT (P:aB) (e:aP) (H:AH):Option (aq×AH):=
 match P.info? e with
 | some i=>match i.zero with
  | some z=>if z.cells.toList.all ak=true then some (Fy z.cells.toList (bc P e) H) else none
  | none=>none
 | none=>none
theorem eS (h:ak u):one u:=by cases u <;> first|rfl|(simp [ak] at h)
theorem oV (h:u.cells.toList.all ak):(∃a,u= .tuple a)\/VR D u u:=by
 cases u with
 | agg b=>exact .inr (VR.lP h)
 | tuple a=>exact .inl ⟨_,rfl⟩
 | _=>right;simp [Value.cells] at h;exact .sc h
theorem xd [Small P] {e:AH} (h:mT P t H=some (u,e)) (l:Rel D H E):∃j c d,(Instr.alloc t true (.tuple #[])).run P E= .ok j c/\Rel d e c/\Ext D H E d e c/\VR d u j:=by unfold mT at h;split at h;rename_i i f;split at h;rename_i z g;split at h;rename_i b;rcases oV b with ⟨r,rfl⟩|m;simp [Value.cells,ak] at b;have ⟨c,d,n,o,p,q⟩:=tS (P:=P) (by simp at b ⊢;exact λa k=>eS (b a k)) (mk_zero f g b) l m;cases h;exact ⟨_,c,d,by simp [Instr.alloc,dr f g,n],o,p,q⟩;cases h;cases h;cases h
theorem cd.AX {off:Nat}:∀(l a:List (aq×Nat)) (c d:Array aq),cd D (l.map (·.1)) (a.map (·.1))->l.map (·.2)=a.map (·.2)->cd D c.toList d.toList->
  cd D (l.foldl (λf (p:aq×Nat)=>f.setIfInBounds (off+p.2) p.1) c).toList (a.foldl (λf (p:aq×Nat)=>f.setIfInBounds (off+p.2) p.1) d).toList:=by
 intro l;induction l with
 | nil=>
  intro a c d h b g;have:a=[]:=by cases a with|nil=>rfl|cons _ _=>simp at b
  subst this;exact g
 | cons p l k=>
  intro a c d h b g;cases a with
  | nil=>simp at b
  | cons q a=>simp at b;obtain ⟨v,m,e,i,j⟩:=cd.eu h;simp at e;obtain ⟨rfl,rfl⟩:=e;simp;apply k a _ _ j b.2;rw [<-b.1];simp;exact g.set i _
theorem lW {m:Nat->Option (Nat×Nat)}:∀(ps b:List (Nat×aq)) (k g d:Array aq),Instr.fill m k ps=some d->ps.map (·.1)=b.map (·.1)->cd D (ps.map (·.2)) (b.map (·.2))->cd D k.toList g.toList->
  ∃n,Instr.fill m g b=some n/\cd D d.toList n.toList:=by
 intro ps;induction ps with
 | nil=>
  intro b k g d h f r l;have:b=[]:=by cases b with|nil=>rfl|cons _ _=>simp at f
  subst this;simp only [Instr.fill,xP] at h ⊢;subst h;exact ⟨g,rfl,l⟩
 | cons p ps F=>
  intro b k g d h f r l;cases b with
  | nil=>simp at f
  | cons q b=>
   have ⟨i,v⟩:=p;have ⟨j,y⟩:=q;simp at f;obtain ⟨rfl,f⟩:=f;have ⟨K,L,e,z,A⟩:=cd.eu r;simp at e;obtain ⟨rfl,rfl⟩:=e;simp only [Instr.fill] at h ⊢;cases w:m i with
   | none=>simp [w] at h
   | some H=>
    have ⟨x,J⟩:=H;simp only [w] at h ⊢;have s:=z.cells;have t:y.cells.size=v.cells.size:=by have:=s.1;simp at this;omega
    have E:g.size=k.size:=by have:=l.1;simp at this;omega
    rw [t,E];split at h;cases h;rename_i C;rw [zN C];apply F b _ _ d h f A;have o:=λ(a:Array aq) (c:Array aq)=>(Array.foldl_toList (λ(d:Array aq) (p:aq×Nat)=>d.setIfInBounds (x+p.2) p.1) (init:=a) (xs:=c.zipIdx));have:=cd.AX (off:=x) v.cells.zipIdx.toList y.cells.zipIdx.toList k g (by rw [wS,wS,List.zipIdx_map_fst,List.zipIdx_map_fst];exact s) (by rw [wS,wS,List.zipIdx_map_snd,List.zipIdx_map_snd];simp [t]) l;rw [o,o] at this;exact this
end
section
variable {D:au} {H:AH} {w:World} {P:aB}
def places (P:aB) (a:Array Field):Option (Array (Nat×Nat)):=aj P (a.mapM λf=>do pure (f.offset,<-sizeOf f.type))
def mS (P:aB) (t:aP) (ps:List (Nat×aq)):fR:=
 match P.info? t with
 | some i=>match i.zero with
  | some z=>if z.cells.toList.all ak=true then
    match P.underlying t with
    | some (.struct b)=>match places P b with
     | some pl=>(Instr.fill (pl[·]?) z.cells ps).map .agg
     | none=>none
    | some (.array _ a)=>match P.info? a with
     | some e=>(Instr.fill (λi=>some (i*e.size,e.size)) z.cells ps).map .agg
     | none=>none
    | _=>none
   else none
  | none=>none
 | none=>none
theorem qj {a:Array aq} (h:a.toList.all ak):cd D a.toList a.toList:=cd.bq (by simpa only [zQ] using h)
theorem xc {ps b:Array (Nat×aq)} (h:mS P t ps.toList=some u) (k:ps.toList.map (·.1)=b.toList.map (·.1)) (l:cd D (ps.toList.map (·.2)) (b.toList.map (·.2))):∃p,(Instr.build t b).run P w= .ok p w/\VR D u p:=by
 unfold mS at h;split at h;rename_i i m;split at h;rename_i z o;split at h;rename_i n;split at h;rename_i x f;split at h;rename_i pl s;cases a:Instr.fill (pl[·]?) z.cells ps.toList with
 | none=>rw [a] at h;cases h
 | some c=>rw [a] at h;cases h;have ⟨d,g,j⟩:=lW ps.toList b.toList _ _ c a k l (qj n);refine ⟨.agg d,?_,VR.ou j⟩;have r:=jM s w;simp only [Instr.build,Sem.run_bind,dr m o,run_underlying f,Result.andThen_ok];rw [r];simp [g]
 cases h;rename_i v f;split at h;rename_i e q;cases a:Instr.fill (λi=>some (i*e.size,e.size)) z.cells ps.toList with
 | none=>rw [a] at h;cases h
 | some c=>rw [a] at h;cases h;have ⟨d,g,j⟩:=lW ps.toList b.toList _ _ c a k l (qj n);refine ⟨.agg d,?_,VR.ou j⟩;simp [Instr.build,dr m o,run_underlying f,aV q,g]
 cases h;cases h;cases h;cases h;cases h
def eV (n:Nat):Nat:=if n=0 then 0 else 1
def fO (P:aB) (t:aP) (a:Nat) (ps:List (Nat×aq)) (H:AH):Option (aq×AH):=
 match P.underlying t with
 | some (.slice c)=>match P.info? c with
  | some i=>match i.zero with
   | some z=>if z.cells.toList.all ak=true/\a*i.size<=2^24/\z.cells.size=i.size/\i.size<1000000 then
     match Instr.fill (λj=>some (j*i.size,i.size)) ((Array.range (a*i.size)).map (z.cells[· %z.cells.size]!)) ps with
     | some b=>if b.toList.all one=true/\b.size=a*i.size then some (.slice (some ⟨H.length,0,none⟩) a (eV a),H++[.row b.toList i.size (some 0)]) else none
     | none=>none
    else none
   | none=>none
  | none=>none
 | _=>none
theorem jS [hP:Small P] {t:aP} {c:Nat} {ps d:Array (Nat×aq)} {v:aq} {g:AH} (h:fO P t c ps.toList H=some (v,g)) (N:Rel D H w) (A:ps.toList.map (·.1)=d.toList.map (·.1)) (C:cd D (ps.toList.map (·.2)) (d.toList.map (·.2))):
  ∃x l m,(Instr.buildSlice t c d).run P w= .ok x l/\Rel m g l/\Ext D H w m g l/\VR m v x:=by
 unfold fO at h;split at h;rename_i y X;split at h;rename_i i p;split at h;rename_i z hz;split at h;rename_i f;have ⟨f,hl,b2,R⟩:=f;split at h;rename_i n J;split at h;rename_i E;have ⟨F,b6⟩:=E;cases h;have b1:cd D ((Array.range (c*i.size)).map (z.cells[· %z.cells.size]!)).toList ((Array.range (c*i.size)).map (z.cells[· %z.cells.size]!)).toList:=by
  refine cd.bq λa e=>?_;simp at e;obtain ⟨j,K,rfl⟩:=e;have q:j<c*i.size:=by simpa using K
  have M:0<z.cells.size:=by rcases Nat.eq_zero_or_pos z.cells.size with b|b;rw [<-b2,b] at q;simp at q;exact b
  have L:=Nat.mod_lt j M;rw [getElem!_pos z.cells _ L];simp only [zQ] at f;exact f _ Z
 have ⟨k,r,s⟩:=lW ps.toList d.toList _ _ n J A C b1;have c2:k.size=n.size:=by have:=s.1;simp at this;omega
 obtain ⟨q1,q2⟩:=N.push k y (0,0) i.size W (λj a v e hv=>s.2 j a v e (Zs hv)) (by simpa only [zQ] using F) (λj _=>tF j) (.small (R));refine ⟨.slice (some ⟨w.heap.size,0,none⟩) c c,_,_,?_,q1,q2,?_⟩;simp only [Instr.buildSlice,Sem.run_bind,run_underlying X,aV p,Result.andThen_ok];rw [zN O];by_cases b:c*i.size=0;have o:Instr.fill (λj=>some (j*i.size,i.size)) ((Array.range (c*i.size)).map ((#[]:Array aq)[· %(#[]:Array aq).size]!)) d.toList=some k:=by rw [<-r];congr 1;rw [b];apply Array.ext <;> simp
 simp only [b,if_true,Sem.run_bind,Sem.run_pure,Result.andThen_ok];rw [b] at o;rw [o];simp [newRow];simp only [b,if_false,Sem.run_bind,dr p hz,Sem.run_pure,Result.andThen_ok];rw [r];simp [newRow];unfold eV;split;rename_i b;subst b;exact .pG;exact .sl (au.aC _ _ _) (zE _) W;cases h;cases h;cases h;cases h;cases h;cases h
def eZ (P:aB) (s:aP) (a:aq) (f:Nat):fR:=
 match P.underlying s with
 | some (.struct b)=>match b[f]? with
  | some fd=>match P.info? fd.type,a with
   | some i,.pointer (some ⟨c,d,none⟩)=>if i.size≠0 then some (.pointer (some ⟨c,d+fd.offset,none⟩)) else none
   | _,_=>none
  | none=>none
 | _=>none
theorem pw {b:aq} (h:eZ P t u a=some b) (f:VR D u v):∃c,(Instr.fieldAt t v a).run P w= .ok c w/\VR D b c:=by unfold eZ at h;split at h;rename_i l k;split at h;rename_i fd g;split at h;rename_i i m n j;obtain ⟨_,B,e,rfl⟩:=f.eB;split at h;rename_i d;cases h;exact ⟨_,by simp [Instr.fieldAt,run_underlying k,g,Instr.sureAddr,fieldPlace,aV j,d,cQ],.ptr e⟩;cases h;cases h;cases h;cases h
def apart (P:aB) (t:aP) (b:Array aq) (a:Nat):fR:=
 match P.underlying t,P.info? t with
 | some d,some i=>if mL d=true then some (.agg (b.extract a (a+i.size))) else b[a]?
 | _,_=>none
theorem Bl {f c:Array aq} (h:apart P t f a=some u) (g:cd D f.toList c.toList):∃b,(part t c a).run P w= .ok b w/\VR D u b:=by
 unfold apart at h;split at h;rename_i d i m n;simp only [part,Sem.run_bind,qm m,Result.andThen_ok];split at h;rename_i e;cases h;refine ⟨.agg (c.extract a (a+i.size)),by simp [e,aV n],VR.ou ?_⟩;rw [Array.toList_extract,Array.toList_extract,wC,wC];exact (g.drop _).take _;rename_i e;obtain ⟨b,j,l⟩:=g.get (Zs h);have k:c[a]? =some b:=by simpa using j
 exact ⟨b,by simp [e,k],l⟩;cases h
def py (P:aB) (t:aP) (x:aq) (f:Nat):fR:=
 match P.underlying t with
 | some (.struct b)=>match b[f]?,x with
  | some fd,.agg a=>apart P fd.type a fd.offset
  | _,_=>none
 | _=>none
theorem x9 {c:aq} (h:py P t u a=some c) (f:VR D u v):∃b,(Instr.field t v a).run P w= .ok b w/\VR D c b:=by unfold py at h;split at h;rename_i l e;split at h;rename_i fd k d;obtain ⟨m,rfl,g⟩:=f.zy;have ⟨b,i,j⟩:=Bl (w:=w) h g;exact ⟨b,by simp [Instr.field,run_underlying e,d,asAgg,i],j⟩;cases h;cases h
def cY (P:aB) (t:aP) (x ix:aq):fR:=
 match ix with
 | .int _ m=>match P.underlying t,x with
  | some (.slice a),.slice (some ⟨b,c,none⟩) n 1=>match P.info? a with
   | some e=>if 0<=m/\m<n then some (.pointer (some ⟨b,c+m.toNat*e.size,none⟩)) else none
   | none=>none
  | some (.array d a),.pointer (some ⟨b,c,none⟩)=>match P.info? a with
   | some e=>if 0<=m/\m<d then some (.pointer (some ⟨b,c+m.toNat*e.size,none⟩)) else none
   | none=>none
  | _,_=>none
 | _=>none
theorem po {ix j l:aq} (h:cY P t u ix=some l) (i:VR D u v) (q:VR D ix j):∃o,(Instr.indexAt t v j).run P w= .ok o w/\VR D l o:=by unfold cY at h;split at h;rename_i k m;cases q.int;split at h;rename_i p r s n g;obtain ⟨_,⟨_,a,_⟩|⟨_,a,_⟩|⟨_,B,c,b,x,y,rfl⟩⟩:=i.eA;cases a;cases a;split at h;rename_i e d;split at h;rename_i f;cases h;exact ⟨_,by simp [Instr.indexAt,asIntOf,run_underlying g,f,aV d,cQ],.ptr b⟩;cases h;cases h;rename_i z p r s g;obtain ⟨_,B,b,rfl⟩:=i.eB;split at h;rename_i e d;split at h;rename_i f;cases h;exact ⟨_,by simp [Instr.indexAt,asIntOf,run_underlying g,Instr.sureAddr,f,aV d,cQ],.ptr b⟩;cases h;cases h;cases h;cases h
def FB (x:aq) (i:Nat):fR:=match x with|.tuple a=>a[i]?|_=>none
theorem FA {c:aq} (h:FB u a=some c) (g:VR D u v):∃b,(Instr.extract v a).run P w= .ok b w/\VR D c b:=by
 unfold FB at h;split at h;rename_i k;obtain ⟨j,rfl,i⟩:=g.Gk;obtain ⟨b,d,f⟩:=i.get (Zs h);have e:j[a]? =some b:=by simpa using d
 exact ⟨b,by simp [Instr.extract,e],f⟩;cases h
def Nn (x:aq):fR:=match x with|.pointer (some _)=>some x|_=>none
def HP:BinOp->Option Bool
 | .eql=>some true
 | .neq=>some false
 | _=>none
theorem nG {a:BinOp} (h:HP a=some q):(a= .eql/\q)\/(a= .neq/\q=false):=by cases a <;> simp [HP] at h <;> simp [h]
def mR (P:aB) (a:BinOp) (t:aP) (x y:aq):fR:=
 match HP a,P.underlying t,x,y with
 | some b,some (.pointer _),.pointer (some _),.pointer none=>some (.bool !b)
 | some b,some (.pointer _),.pointer none,.pointer (some _)=>some (.bool !b)
 | some b,some (.slice _),.slice (some _) _ _,.slice none 0 0=>some (.bool !b)
 | some b,some (.slice _),.slice none 0 0,.slice (some _) _ _=>some (.bool !b)
 | _,_,_,_=>none
theorem VR.lJ {A:Addr} (h:VR D (.pointer (some A)) u):∃a,u= .pointer (some a):=by obtain ⟨_,B,_,rfl⟩:=VR.eB h;exact ⟨_,rfl⟩
theorem VR.fi {A:Addr} (h:VR D (.slice (some A) a b) u):∃c e,u= .slice (some c) a e:=by obtain ⟨_,⟨rfl,_,d,rfl⟩|⟨rfl,_,d,k,rfl⟩|⟨_,B,k,_,_,_,rfl⟩⟩:=h.eA <;> exact ⟨_,_,rfl⟩
theorem vZ {a:aP} (b:P.underlying t=some (.pointer a)) (A:Addr) (d:Nat):(Op.equalIn (d+1) t (.pointer (some A)) (.pointer none)).run P w= .ok false w:=by simp [Op.equalIn,run_underlying b]
theorem vY {a:aP} (b:P.underlying t=some (.pointer a)) (A:Addr) (d:Nat):(Op.equalIn (d+1) t (.pointer none) (.pointer (some A))).run P w= .ok false w:=by simp [Op.equalIn,run_underlying b]
theorem B7 {a:aP} (b:P.underlying t=some (.slice a)) (A:Addr) (n c:Nat) (d:Nat):(Op.equalIn (d+1) t (.slice (some A) n c) (.slice none 0 0)).run P w= .ok false w:=by simp [Op.equalIn,run_underlying b]
theorem B6 {a:aP} (b:P.underlying t=some (.slice a)) (A:Addr) (n c:Nat) (d:Nat):(Op.equalIn (d+1) t (.slice none 0 0) (.slice (some A) n c)).run P w= .ok false w:=by simp [Op.equalIn,run_underlying b]
theorem x7 {j:BinOp} {l m k:aq} (h:mR P j t u v=some k) (f:VR D u l) (g:VR D v m):ak k/\((binOp j t l m).run P w= .ok k w/\∀a b,(eqGuard j t a b l m).run P w= .ok () w):=by unfold mR at h;split at h;rename_i b i A d e;obtain ⟨_,rfl⟩:=f.lJ;cases g.ak rfl;cases h;refine ⟨rfl,?_⟩;rcases nG d with ⟨rfl,rfl⟩|⟨rfl,rfl⟩ <;> simp [binOp,Op.equal,show Op.maxDepth=9999+1 from rfl,vZ e _ 9999,eqGuard];rename_i b i A d e;obtain ⟨_,rfl⟩:=g.lJ;cases f.ak rfl;cases h;refine ⟨rfl,?_⟩;rcases nG d with ⟨rfl,rfl⟩|⟨rfl,rfl⟩ <;> simp [binOp,Op.equal,show Op.maxDepth=9999+1 from rfl,vY e _ 9999,eqGuard];rename_i b i A n c d e;obtain ⟨_,_,rfl⟩:=f.fi;cases g.ak rfl;cases h;refine ⟨rfl,?_⟩;rcases nG d with ⟨rfl,rfl⟩|⟨rfl,rfl⟩ <;> simp [binOp,Op.equal,show Op.maxDepth=9999+1 from rfl,B7 e _ _ _ 9999,eqGuard];rename_i b i A n c d e;obtain ⟨_,_,rfl⟩:=g.fi;cases f.ak rfl;cases h;refine ⟨rfl,?_⟩;rcases nG d with ⟨rfl,rfl⟩|⟨rfl,rfl⟩ <;> simp [binOp,Op.equal,show Op.maxDepth=9999+1 from rfl,B6 e _ _ _ 9999,eqGuard];cases h
end
section
variable {D:au} {H:AH} {E:World} {P:aB}
def rY (o:fR) (d:Nat):dj:=
 match o with
 | none=>some d
 | some (.int _ i)=>if 0<=i then some i.toNat else none
 | _=>none
def xe (D:au):fR->fR->Prop
 | none,none=>True
 | some a,some b=>VR D a b
 | _,_=>False
theorem zp {o c:fR} (h:rY o a=some b) (d:xe D o c):(o=none/\c=none/\b=a)\/∃k,c=some (.int k (b:Int)):=by
 unfold rY at h;split at h;cases h;cases c with
 | none=>exact .inl ⟨rfl,rfl,rfl⟩
 | some _=>exact d.elim
 rename_i k i;cases c with
 | none=>exact d.elim
 | some v=>have:=VR.int d;subst this;split at h;rename_i e;cases h;exact .inr ⟨k,by rw [Int.toNat_of_nonneg e]⟩;cases h
 cases h
theorem iO {k:IntKind} {y:Nat} (b:BoundsCode) (h:a<=y) (E:World):(Instr.sliceBound (.int k (a:Int)) y b).run P E= .ok a E:=by simp only [Instr.sliceBound,asIntOf,Sem.run_bind,Sem.run_pure,Result.andThen_ok];rw [zO ⟨O,O⟩];simp
theorem kO {g h e f:fR} (i:rY g 0=some c) (j:rY e a=some d) (m:xe D g h) (l:xe D e f) (p:c<=d) (o:d<=a) (n:a<=b) (E:World):
  (Instr.sliceBounds q a b h f none).run P E= .ok (c,d,b) E:=by
 rcases zp i m with ⟨_,rfl,rfl⟩|⟨k,rfl⟩ <;> rcases zp j l with ⟨_,rfl,rfl⟩|⟨r,rfl⟩ <;> simp only [Instr.sliceBounds,Sem.run_bind,Sem.run_pure,Result.andThen_ok];rw [iO _ O];simp;rw [iO _ O];simp;rw [iO _ O];simp;rw [iO _ O];simp
def cL (P:aB) (t:aP) (x:aq) (g f:fR) (H:AH):fR:=
 match P.underlying t,x with
 | some (.slice d),.slice none 0 0=>match rY g 0,rY f 0,P.info? d with
  | some 0,some 0,some _=>some (.slice none 0 0)
  | _,_,_=>none
 | some (.slice d),.slice (some ⟨a,b,none⟩) n c=>match rY g 0,rY f n,P.info? d with
  | some l,some h,some e=>if l<=h/\h<=n then
    if l=0 then some (.slice (some ⟨a,b,none⟩) h c)
    else if h=l then some (.slice (some ⟨a,b,none⟩) 0 2)
    else match H[a]? with
     | some (.row _ sz _)=>if e.size=sz/\c=1 then some (.slice (some ⟨a,b+l*sz,none⟩) (h-l) 1) else none
     | _=>none
   else none
  | _,_,_=>none
 | some (.array n d),.pointer (some ⟨a,b,none⟩)=>match rY g 0,rY f n,P.info? d with
  | some l,some h,some e=>if l<=h/\h<=n then
    if h=l then some (.slice (some ⟨a,b,none⟩) 0 2)
    else match H[a]? with
     | some (.row i sz _)=>if e.size=sz/\b+n*sz<=i.length then some (.slice (some ⟨a,b+l*sz,none⟩) (h-l) 1) else none
     | _=>none
   else none
  | _,_,_=>none
 | _,_=>none
theorem Da (c:Prop) [Decidable c] (a b:Addr):(if c then some a else some b)=some (if c then a else b):=by split <;> rfl
theorem wh {lo y hi x:fR} (h:cL P t u lo hi H=some w) (hr:Rel D H E) (q:VR D u v) (K:xe D lo y) (F:xe D hi x):
  ∃v',(Instr.sliceAt t v y x none).run P E= .ok v' E/\VR D w v':=by
 unfold cL at h;split at h;rename_i R p;cases q.ak rfl;split at h;rename_i e g i m;cases h;refine ⟨.slice none 0 0,?_,.sc rfl⟩;simp only [Instr.sliceAt,Instr.slice,Sem.run_bind,run_underlying p,Result.andThen_ok,kO g i K F (zE _) (zE _) (zE _)];simp [aV m];cases h;rename_i R M r n b6 p;split at h;rename_i l o e g i m;split at h;rename_i d;have ⟨d,J⟩:=d;have b:∀A (k:Nat),n<=k->(Instr.sliceAt t (.slice (some A) n k) y x none).run P E= .ok (.slice (some (if k=l then A else A.add (l*e.size))) (o-l) (k-l)) E:=by intro A k hk;simp only [Instr.sliceAt,Instr.slice,Sem.run_bind,run_underlying p,Result.andThen_ok,kO g i K F d J hk];simp [aV m,Da]
 split at h;rename_i X;subst X;cases h;obtain ⟨_,⟨rfl,rfl,a,rfl⟩|⟨rfl,rfl,a,k,rfl⟩|⟨rfl,B,k,c,s,f,rfl⟩⟩:=q.eA;obtain rfl:o=0:=by omega
 exact ⟨_,b _ _ O,.pG⟩;obtain rfl:o=0:=by omega
 exact ⟨_,b _ _ O,.sle⟩;refine ⟨_,b _ _ s,?_⟩;rw [wT,cQ,wZ,ite_self,Nat.sub_zero,Nat.sub_zero];exact .sl c O f;rename_i X;split at h;rename_i j;subst j;cases h;obtain ⟨_,⟨rfl,rfl,a,rfl⟩|⟨rfl,rfl,a,k,rfl⟩|⟨rfl,B,k,c,s,f,rfl⟩⟩:=q.eA;omega;omega;refine ⟨_,b _ _ s,?_⟩;rw [wY];exact .sle;rename_i j;split at h;rename_i cs sz ro L;split at h;rename_i z;obtain ⟨C,rfl⟩:=z;cases h;obtain ⟨_,⟨rfl,h9,a,rfl⟩|⟨rfl,h9,a,k,rfl⟩|⟨_,B,k,c,s,f,rfl⟩⟩:=q.eA;omega;omega;refine ⟨_,b _ _ s,?_⟩;have ⟨N,_⟩:=hr.rows M _ _ _ B L c;rw [zN O,cQ,C];refine .sl c O ?_;have f:r+k*B.sz<=B.n:=f;rw [N] at f ⊢;have:l*sz+(k-l)*sz=k*sz:=by rw [<-Nat.add_mul];congr 1;omega
 omega;cases h;cases h;cases h;cases h;rename_i n R M r p;obtain ⟨_,B,c,rfl⟩:=q.eB;split at h;rename_i l o e g i m;split at h;rename_i d;have ⟨d,J⟩:=d;have b:(Instr.sliceAt t (.pointer (some ⟨B.b,r,none⟩)) y x none).run P E= .ok (.slice (some (if n=l then ⟨B.b,r,none⟩ else (⟨B.b,r,none⟩:Addr).add (l*e.size))) (o-l) (n-l)) E:=by simp only [Instr.sliceAt,Instr.sureAddr,Sem.run_bind,Sem.run_pure,run_underlying p,Result.andThen_ok,kO g i K F d J (zE _)];simp [aV m]
 split at h;rename_i j;subst j;cases h;refine ⟨_,b,?_⟩;rw [wY];exact .sle;rename_i j;split at h;rename_i cs sz ro L;split at h;rename_i z;have ⟨C,c2⟩:=z;cases h;refine ⟨_,b,?_⟩;have ⟨N,_,p3,_⟩:=hr.rows M _ _ _ B L c;rw [zN O,cQ,C];refine .sl c O ?_;rw [N];have:l*sz+(n-l)*sz=n*sz:=by rw [<-Nat.add_mul];congr 1;omega
 omega;cases h;cases h;cases h;cases h;cases h
def fN (P:aB) (t:aP) (x:aq) (d b e:fR):fR:=
 match P.underlying t,x,d,b,e with
 | some (.slice a),.slice none 0 0,none,some (.int _ 0),some (.int _ 0)=>match P.info? a with
  | some _=>some (.slice none 0 0)
  | none=>none
 | some (.slice a),.slice (some ⟨c,f,none⟩) _ _,none,some (.int _ 0),some (.int _ 0)=>match P.info? a with
  | some _=>some (.slice (some ⟨c,f,none⟩) 0 0)
  | none=>none
 | _,_,_,_,_=>none
theorem mY {e:IntKind} (E:World):(Instr.sliceBounds q a b none (some (.int n 0)) (some (.int e 0))).run P E= .ok (0,0,0) E:=by have d:=λn (c:BoundsCode) (y:Nat)=>iO (P:=P) (k:=n) (y:=y) c (zZ _) E;have f:=λn (c:BoundsCode) (y:Nat)=>d n c y;simp at f;simp only [Instr.sliceBounds,Sem.run_bind,Sem.run_pure,Result.andThen_ok];rw [show (Value.int e 0)= .int e ((0:Nat):Int) from rfl,show (Value.int n 0)= .int n ((0:Nat):Int) from rfl,d];simp only [Result.andThen_ok];rw [d];simp
theorem tQ {z d s b A f:fR} (h:fN P t u z s A=some w) (y:VR D u v) (x:xe D z d) (g:xe D s b) (i:xe D A f):
  ∃C,(Instr.sliceAt t v d b f).run P E= .ok C E/\VR D w C:=by
 unfold fN at h;split at h;rename_i F k q p;cases y.ak rfl;have l:d=none:=by cases d with|none=>rfl|some _=>exact x.elim
 have m:b=some (.int k 0):=by cases b with|none=>exact g.elim|some w=>rw [VR.int g]
 have e3:f=some (.int q 0):=by cases f with|none=>exact i.elim|some w=>rw [VR.int i]
 subst l m e3;split at h;rename_i e o;cases h;refine ⟨.slice none 0 0,?_,.sc rfl⟩;simp only [Instr.sliceAt,Instr.slice,Sem.run_bind,run_underlying p,Result.andThen_ok,mY];simp [aV o];cases h;rename_i F H J n c k q p;have l:d=none:=by cases d with|none=>rfl|some _=>exact x.elim
 have m:b=some (.int k 0):=by cases b with|none=>exact g.elim|some w=>rw [VR.int g]
 have e3:f=some (.int q 0):=by cases f with|none=>exact i.elim|some w=>rw [VR.int i]
 subst l m e3;split at h;rename_i e o;cases h;obtain ⟨j,r,rfl⟩:∃j r,v= .slice (some j) n r:=by obtain ⟨_,⟨rfl,_,a,rfl⟩|⟨rfl,_,a,k,rfl⟩|⟨_,B,k,_,_,_,rfl⟩⟩:=y.eA <;> exact ⟨_,_,rfl⟩
 refine ⟨.slice (some j) 0 0,?_,.pG⟩;simp only [Instr.sliceAt,Instr.slice,Sem.run_bind,run_underlying p,Result.andThen_ok,mY];simp [aV o];cases h;cases h
def iB (P:aB) (t:aP) (d a:aq) (H:AH):Option (aq×AH):=
 match P.underlying t,d,a with
 | some (.slice b),.int _ l,.int _ c=>match P.info? b with
  | some e=>match e.zero with
   | some z=>if z.cells.toList.all ak=true/\z.cells.size=e.size/\l=c/\0<=l/\l<=1099511627776/\e.bytes*l<=1099511627776/\e.size<1000000 then
     some (.slice (some ⟨H.length,0,none⟩) l.toNat 1,H++[.row (List.replicate l.toNat z.cells.toList).flatten e.size (some 0)])
    else none
   | none=>none
  | none=>none
 | _,_,_=>none
theorem rC:Array.range 0= #[]:=by apply Array.ext <;> simp
theorem oR (c:aQ):∀(n j:Nat) (a:aq),(List.replicate n c).flatten[j]? =some a->c[j%c.length]? =some a/\j<n*c.length:=by
 intro n;induction n with
 | zero=>intro j a h;simp at h
 | succ n e=>intro j a h;rw [List.replicate_succ,List.flatten_cons] at h;rcases zX j c.length with b|b;rw [zB b] at h;rw [Nat.mod_eq_of_lt b];exact ⟨h,by rw [xN];omega⟩;rw [zJ b] at h;have ⟨d,f⟩:=e _ a h;refine ⟨?_,by rw [xN];omega⟩;rw [<-d,Nat.mod_eq_sub_mod b]
theorem Bn [hP:Small P] {t:aP} {w o x p v:aq} {i:AH} (h:iB P t w o H=some (v,i)) (N:Rel D H E) (M:VR D w x) (K:VR D o p):
  ∃A l m,(Instr.makeSlice t x p).run P E= .ok A l/\Rel m i l/\Ext D H E m i l/\VR m v A:=by
 unfold iB at h;split at h;rename_i F c3 c4 k' b2 X;cases M.int;cases K.int;split at h;rename_i e k;split at h;rename_i z hz;split at h;rename_i L;obtain ⟨c,s,rfl,J,b6,hb,R⟩:=L;cases h;obtain ⟨n,rfl⟩:=yH J;have b1:i64.wrap (n:Int)=n:=by exact IntWalk.i64_in _ O
 have c2:cd D (List.replicate n z.cells.toList).flatten (List.replicate n z.cells.toList).flatten:=by refine cd.bq λa b=>?_;simp at b;obtain ⟨_,⟨_,rfl⟩,b⟩:=b;simp only [zQ] at c;exact c a b
 let C:Array aq:=(Array.range (n*e.size)).map (z.cells[· %z.cells.size]!)
 obtain ⟨q1,q2⟩:=N.push (xs:=(List.replicate n z.cells.toList).flatten) C F (0,0) e.size (by simp [C,s]) (λj a y b d=>by
  have ⟨f,q⟩:=oR _ _ _ _ b;have r:j%z.cells.size<z.cells.size:=by simpa using aa f
  have:y=a:=by simp only [C,Array.getElem?_map] at d;rw [Array.getElem?_range] at d;simp only [xX,s] at q;rw [zO q] at d;simp at d;rw [getElem!_pos z.cells _ r] at d;rw [<-d];simp at f;simp [r] at f;exact f
  subst this;simp only [zQ] at c;exact .sc (c y (zI f))) (λa b=>by simp at b;obtain ⟨_,⟨_,rfl⟩,b⟩:=b;simp only [zQ] at c;exact eS (c a b)) (λj _=>tF j) (.small (R))
 refine ⟨.slice (some ⟨E.heap.size,0,none⟩) n n,_,_,?_,q1,q2,?_⟩;simp only [Instr.makeSlice,Sem.run_bind,run_underlying X,asInt,asIntOf,Sem.run_pure,Result.andThen_ok,jL k,b1];rw [zN W];simp only [Sem.run_bind,run_askRoom,aV k,Result.andThen_ok,yW];by_cases g:n*e.size=0;have:C= #[]:=by show (Array.range (n*e.size)).map _=_;rw [g,rC];simp
 rw [zO g,this];simp only [g];simp [newRow,rC];rw [zN g];simp only [Sem.run_bind,dr k hz,Sem.run_pure,Result.andThen_ok];simp [newRow,C];simp;exact .sl (au.aC _ _ _) (zE _) (by simp [C]);cases h;cases h;cases h;cases h
def cZ (d n:Nat) (x:aq) (H:AH):Option (aQ):=
 match x with
 | .slice none _ _=>some []
 | .slice (some ⟨e,c,none⟩) _ _=>if n=0 then some [] else match H[e]? with
  | some (.row a _ _)=>if c+n*d<=a.length/\((a.drop c).take (n*d)).all nj=true then some ((a.drop c).take (n*d)) else none
  | _=>none
 | .string s=>some ((s.extract 0 n).data.toList.map λb=>.int .u8 b.toNat)
 | _=>none
def wz (x:aq):dj:=
 match x with
 | .slice _ n _=>some n
 | .string s=>some s.size
 | _=>none
theorem tX (h:wz u=some a) (b:VR D u v) (E:World):(Builtin.lenOf v).run P E= .ok a E:=by
 unfold wz at h;split at h;cases h;cases b with
 | sc _=>rfl
 | sl _ _ _=>rfl
 | pG=>rfl
 | sle=>rfl
 cases h;cases b.ak rfl;rfl;cases h
theorem jm (h:cZ a b u H=some p) (s:wz u=some c) (L:b<=c) (x:Rel D H E) (f:VR D u v):∃d:aQ,(Builtin.firstCells a b v).run P E= .ok d.toArray E/\cd D p d:=by
 unfold cZ at h;split at h;cases h;cases f with
 | sc _=>exact ⟨[],rfl,.nil⟩
 rename_i M z N F;cases s;split at h;rename_i k;subst k;cases h;obtain ⟨A,C,rfl⟩:=f.fi;refine ⟨[],?_,.nil⟩;simp [Builtin.firstCells,loadCells,loadCellsFrom];rename_i k;split at h;rename_i J sz ro w;split at h;rename_i i;have ⟨i,n⟩:=i;cases h;obtain ⟨_,⟨o,_⟩|⟨o,_⟩|⟨_,B,c,q,R,X,rfl⟩⟩:=f.eA;omega;omega;have ⟨d,t,y,r⟩:=x.load w q i (λj e=>yz (by simp at n;exact n j e));refine ⟨d,?_,y⟩;have:=run_loadCells_list (P:=P) (w:=E) ⟨B.b,z,none⟩ d r;rw [t] at this;exact this;cases h;cases h;cases h;cases f.ak rfl;refine ⟨_,?_,cd.bq (λj e=>?_)⟩;have K:∀(l:List UInt8) (m:Nat),(l.map λg=>Value.int .u8 (g.toNat:Int)).take m=(l.take m).map λg=>Value.int .u8 (g.toNat:Int):=λl m=>by rw [wW]
 simp only [Builtin.firstCells,Sem.run_pure];congr 1;apply Array.ext';simp;simp only [wB] at e;obtain ⟨_,_,rfl⟩:=e;rfl;cases h
def vT:TypeDesc->Bool
 | .slice _|.string=>true
 | _=>false
def qu (t:aP):Bool:=t==66||t==78||t==79||t==151
def sX (k:Bool) (a:aQ) (sz:Nat):AO:=bif k then .dead else .row a sz none
def cC (P:aB) (c i:aP) (s x:aq) (H:AH):Option (aq×AH):=
 match P.underlying c,P.underlying i,wz x with
 | some (.slice h),some g,some k=>match P.info? h,vT g with
  | some e,true=>match e.zero,cZ e.size k x H with
   | some z,some a=>if z.cells.size=e.size/\a.all one/\a.length=k*e.size/\e.size<1000000 then
     match s with
     | .slice none 0 0=>if k=0 then some (s,H) else if k*e.bytes<=140737488355328/\k<=4611686018427387904 then some (.slice (some ⟨H.length,0,none⟩) k 1,H++[.row a e.size (some 0)]) else none
     | .slice (some ⟨_,_,none⟩) 0 0=>if k=0 then some (s,H) else if k*e.bytes<=140737488355328/\k<=4611686018427387904 then some (.slice (some ⟨H.length,0,none⟩) k 1,H++[.row a e.size (some 0)]) else none
     | .slice (some ⟨d,0,none⟩) n 1=>match H[d]? with
      | some (.row b sz (some f))=>if sz=e.size/\n*sz<=b.length/\f<=n*sz/\(n+k)*e.bytes<=140737488355328/\n+k<=4611686018427387904 then
        some (.slice (some ⟨H.length,0,none⟩) (n+k) 1,H.set d (sX (qu c) (b.take (n*sz)) sz)++[.row (b.take (n*sz)++a) sz (some (bif qu c then f else n*sz))]) else none
      | _=>none
     | _=>none
    else none
   | _,_=>none
  | _,_=>none
 | _,_,_=>none
theorem oc {h r g:aP} {e:TypeInfo} {f:TypeDesc} {d:Option Addr} (o:P.underlying t=some (.slice g)) (q:P.underlying h=some f) (j:vT f) (k:P.info? g=some e)
  (m:(Builtin.lenOf u).run P E= .ok b E) (n:a+b<=c) (l:(Builtin.firstCells e.size b u).run P E= .ok p.toArray E):
  (Builtin.append_ #[t,h] r #[.slice d a c,u]).run P E=(match d with|some i=>(storeCells (i.add (a*e.size)) p).run P E|none=>.ok () E).andThen λ_ s=>.ok (.slice d (a+b) c) s:=by
 cases f <;> cases j <;> cases d <;> simp [Builtin.append_,run_underlying o,run_underlying q,aV k,m,n,l]
theorem od {i z d:aP} {e:TypeInfo} {f:TypeDesc} {h:Option Addr} {NP:aQ} (w:P.underlying t=some (.slice d)) (x:P.underlying i=some f) (m:vT f) (g:P.info? d=some e) (y:e.zero=some u)
  (q:(Builtin.lenOf v).run P E= .ok b E) (s:c<a+b) (l:(a+b)*e.bytes<=140737488355328) (A:a+b<=4611686018427387904)
  (n:(Builtin.firstCells e.size a (.slice h a c)).run P E.drew= .ok NP.toArray E.drew) (o:(Builtin.firstCells e.size b v).run P E.drew= .ok p.toArray E.drew):
  (Builtin.append_ #[t,i] z #[.slice h a c,v]).run P E= .ok (.slice (some ⟨E.heap.size,0,none⟩) (a+b) (grownCap E (a+b) c d)) (E.drew.alloc (.cells ((NP++p).toArray++Builtin.zeroCells u.cells (grownCap E (a+b) c d-(a+b))) d)):=by
 have C:=growslice_fits (show c<a+b from s) l;have r:¬(a+b<=c):=O;have k:¬(9223372036854775807<((a:Int)+(b:Int))):=O;have j:¬(281474976710656<Builtin.nextslicecap (a+b) c*e.bytes):=O;cases f <;> cases m <;> simp [Builtin.append_,run_underlying w,run_underlying x,aV g,jL g,dr g y,q,r,k,j,Question.forced,n,o,newRow,grownCap] <;> (congr 2;apply Array.ext';simp)
theorem kX (E:World) (C:Array aq) (a:aP):dK (E.drew.alloc (.cells C a)) E.heap.size=some a:=by unfold dK;rw [show (E.drew.alloc (.cells C a)).heap=E.heap.push (.cells C a) from rfl,Array.getElem?_push_size]
theorem nc [hP:Small P] {g t1 ty:aP} {e6 f2 s' x' f1:aq} {H':AH} (h:cC P g t1 e6 f2 H=some (f1,H')) (L:Rel D H E) (hs:VR D e6 s') (hx:VR D f2 x'):
  ∃v' v i,(Builtin.append_ #[g,t1] ty #[s',x']).run P E= .ok v' v/\Rel i H' v/\Ext D H E i H' v/\VR i f1 v'/\
   ((∃sb n c d2,s'= .slice sb n c/\v'= .slice sb d2 c)\/∃d2 c,v'= .slice (some ⟨E.heap.size,0,none⟩) d2 c/\∀f,P.underlying g=some (.slice f)->dK v E.heap.size=some f):=by
 unfold cC at h;split at h;rename_i f d1 k r M hk;split at h;rename_i e J F;split at h;rename_i b2 o hz d5;split at h;rename_i hc;have ⟨g2,f9,X,d9⟩:=hc;have K:=λE:World=>tX (P:=P) hk hx E;obtain ⟨ys,hf,hv⟩:=jm d5 hk (zE _) L hx;have w:=L.drew (E.drawn+1);have c4:Ext D H E D H E.drew:=Ext.drew _;have w:=w;obtain ⟨b1,c5,c8⟩:=jm d5 hk (zE _) w hx;have d8:∀a∈o,one a:=by simpa only [zQ] using f9
 have c3:∀l (C:AH) (z q:aQ) (n c:Nat),C.length=H.length->Rel D C E.drew->cd D z q->(∀a∈z,one a)->z.length=n*e.size->c<n+k->
   ∃i,Rel i (C++[.row (z++o) e.size (some l)]) (E.drew.alloc (.cells ((q++b1).toArray++Builtin.zeroCells b2.cells (grownCap E (n+k) c f-(n+k))) f))/\
    Ext D C E.drew i (C++[.row (z++o) e.size (some l)]) (E.drew.alloc (.cells ((q++b1).toArray++Builtin.zeroCells b2.cells (grownCap E (n+k) c f-(n+k))) f))/\
    VR i (.slice (some ⟨H.length,0,none⟩) (n+k) 1) (.slice (some ⟨E.heap.size,0,none⟩) (n+k) (grownCap E (n+k) c f)):=by
  intro l C z q n c f4 hR c6 g1 d7 f6;have d3:=grownCap_ge E (n+k) c f;have e1:((q++b1).toArray++Builtin.zeroCells b2.cells (grownCap E (n+k) c f-(n+k))).size=grownCap E (n+k) c f*e.size:=by simp only [Array.size_append,List.size_toArray,xC,size_zeroCells,g2,<-c6.1,<-c8.1,d7,X,<-Nat.add_mul];congr 1;omega
  obtain ⟨s,t⟩:=hR.push (xs:=z++o) ((q++b1).toArray++Builtin.zeroCells b2.cells (grownCap E (n+k) c f-(n+k))) f (0,0) e.size
   (by rw [e1,xC,d7,X,<-Nat.add_mul];exact zW _ d3)
   (λc9 a u j e2=>by refine (c6.append c8).2 c9 a u j ?_;have hj:=aa j;rw [(c6.append c8).1] at hj;rw [Array.getElem?_append_left (Zs hj)] at e2;simpa using e2)
   (λa j=>by rcases xH.1 j with h|h;exact g1 a h;exact d8 a h) (λc9 _=>tF c9) (.small (d9))
  refine ⟨_,s,t,?_⟩;rw [<-f4];exact .sl (au.aC _ _ _) d3 (by rw [e1];simp)
 split at h;cases hs.ak rfl;split at h;rename_i d;subst d;cases h;exact ⟨_,E,D,by rw [oc r M F J (K E) (zE _) hf];rfl,L,Ext.refl _ _ _,.sc rfl,.inl ⟨_,_,_,_,rfl,rfl⟩⟩;rename_i d;split at h;rename_i N;cases h;have ⟨i,s,t,A⟩:=c3 0 H [] [] 0 0 rfl w .nil (λa j=>by simp at j) Z O;simp at s t A;refine ⟨_,_,i,od r M F J hz (K E) O (by rw [yM];exact N.1) O rfl c5,?_,?_,?_,.inr ⟨_,_,rfl,λ_ d=>by rw [r] at d;cases d;exact kX _ _ _⟩⟩;simpa using s;exact c4.trans (Zs t);simpa using A;cases h;obtain ⟨_,⟨_,_,a,rfl⟩|⟨_,x,_⟩|⟨x,_⟩⟩:=hs.eA;split at h;rename_i d;subst d;cases h;have:=zL (by rw [<-hv.1,X];simp);subst this;exact ⟨.slice (some a) 0 0,E,D,by rw [oc r M F J (K E) (zE _) hf];simp [storeCells],L,Ext.refl _ _ _,.pG,.inl ⟨_,_,_,_,rfl,rfl⟩⟩;rename_i d;split at h;rename_i N;cases h;have ⟨i,s,t,A⟩:=c3 0 H [] [] 0 0 rfl w .nil (λa j=>by simp at j) Z O;simp at s t A;refine ⟨_,_,i,od (NP:=[]) r M F J hz (K E) O (by rw [yM];exact N.1) O (by simp [Builtin.firstCells,loadCells,loadCellsFrom]) c5,?_,?_,?_,.inr ⟨_,_,rfl,λ_ d=>by rw [r] at d;cases d;exact kX _ _ _⟩⟩;simpa using s;exact c4.trans (Zs t);simpa using A;cases h;cases x;cases x;rename_i m n;obtain ⟨_,⟨_,x,_⟩|⟨_,x,_⟩|⟨_,B,c,p,c1,R,rfl⟩⟩:=hs.eA;cases x;cases x;split at h;rename_i b sz l y;split at h;rename_i N;obtain ⟨rfl,hn,d4,f5,f3⟩:=N;cases h;have ⟨p1,p2,p3,_⟩:=L.rows m b _ _ B y p;have R:=R;have p:=p;by_cases c7:n+k<=c;have ⟨r1,r2⟩:=L.less y p (n*e.size);have f8:(H.set m (.row (b.take (n*e.size)) e.size (some l)))[m]? =some (.row (b.take (n*e.size)) e.size (some l)):=zF (aa y);have f6:n*e.size+o.length<=B.n:=by rw [X,<-Nat.add_mul];rw [p1] at R;exact yN (zW _ c7) O
 obtain ⟨v,s1,s2,s3⟩:=Rel.QY p (n*e.size) d4 o ys 0 _ (b.take (n*e.size)) E r1 f8 W O hv d8 (.inr (oC (d9)));rw [wA] at s2 s3;have d6:(H.set m (.row (b.take (n*e.size)++o) e.size (some l)))[m]? =some (.row (b.take (n*e.size)++o) e.size (some l)):=zF (aa y);have b6:Rel (D.put H.length B) (H.set m (sX (qu g) (b.take (n*e.size)) e.size)++[.row (b.take (n*e.size)++o) e.size (some (bif qu g then l else n*e.size))]) v/\Ext D (H.set m (.row (b.take (n*e.size)++o) e.size (some l))) v (D.put H.length B) (H.set m (sX (qu g) (b.take (n*e.size)) e.size)++[.row (b.take (n*e.size)++o) e.size (some (bif qu g then l else n*e.size))]) v:=by
  cases qu g with
  | true=>have:=s2.rename d6 p;rw [wA,xI] at this;exact this
  | false=>have:=s2.fork d6 p d4 (zE _);rw [wA,xI,List.take_left' W] at this;exact this
 have ⟨g3,t2⟩:=b6;refine ⟨.slice (some ⟨B.b,0,none⟩) (n+k) c,v,_,?_,g3,(r2.trans s3).trans t2,?_,.inl ⟨_,_,_,_,rfl,rfl⟩⟩;rw [oc r M F J (K E) c7 hf];simp only [cQ,yM];rw [s1];rfl;exact .sl (au.aC _ _ _) c7 (Zs R);have b6:Rel D (H.set m (sX (qu g) (b.take (n*e.size)) e.size)) E.drew/\Ext D H E.drew D (H.set m (sX (qu g) (b.take (n*e.size)) e.size)) E.drew:=by
  cases qu g with
  | true=>exact w.kill y p
  | false=>exact w.freeze y p _
 have ⟨r1,r2⟩:=b6;have ⟨q,l1,l2,l3⟩:=w.load y p (off:=0) (n:=n*e.size) O (λa j=>KR (p2 Z a (Zs (yG j))));rw [wN] at l2;have ⟨i,s,t,A⟩:=c3 (bif qu g then l else n*e.size) (H.set m (sX (qu g) (b.take (n*e.size)) e.size)) (b.take (n*e.size)) q n c Z r1 l2 (λa j=>p2 Z a (yG j)) W O;have f7:(Builtin.firstCells e.size n (.slice (some ⟨B.b,0,none⟩) n c)).run P E.drew= .ok q.toArray E.drew:=by have:=run_loadCells_list (P:=P) (w:=E.drew) ⟨B.b,0,none⟩ q l3;rw [l1] at this;exact this
 exact ⟨_,_,i,od r M F J hz (K E) O f5 f3 f7 c5,s,(c4.trans r2).trans t,A,.inr ⟨_,_,rfl,λ_ d=>by rw [r] at d;cases d;exact kX _ _ _⟩⟩;cases h;cases h;cases h;cases h;cases h;cases h;cases h
theorem iC [r:Small P] {f g q:aP} {s x e i v:aq} {d:AH} (h:cC P f g s x H=some (v,d)) (n:Rel D H E) (o:VR D s e) (p:VR D x i):
  ∃c a b,(Builtin.append_ #[f,g] q #[e,i]).run P E= .ok c a/\Rel b d a/\Ext D H E b d a/\VR b v c:=by
 obtain ⟨c,a,b,j,k,l,m,_⟩:=nc h n o p;exact ⟨c,a,b,j,k,l,m⟩
def pA (P:aB) (j:aP) (d x:aq) (H:AH):Option (aq×AH):=
 match P.underlying j,wz x,d with
 | some (.slice g),some k,.slice A n c=>match P.info? g,cZ ((P.info? g).elim 0 (·.size)) (Nat.min k n) x H with
  | some e,some a=>
   if Nat.min k n=0 then some (.int .i64 0,H) else
   match A with
   | some ⟨h,b,none⟩=>match H[h]? with
    | some (.row f sz (some i))=>if b+a.length<=f.length/\a.all one/\0<e.size/\i<=b then some (.int .i64 (Nat.min k n:Nat),H.set h (.row (cr f b a) sz (some i))) else none
    | _=>none
   | _=>none
  | _,_=>none
 | _,_,_=>none
theorem Bp {t1 ty:aP} {R L:aq} {g:AH} (h:pA P t u v H=some (L,g)) (e:Rel D H E) (m:VR D u w) (J:VR D v R):
  ∃M f,(Builtin.copy_ #[t,t1] ty #[w,R]).run P E= .ok M f/\Rel D g f/\Ext D H E D g f/\VR D L M:=by
 unfold pA at h;split at h;rename_i s c3 A n c8 C x;split at h;rename_i c9 c5 o a;simp only [o,Option.elim] at a;have y:=tX (P:=P) x J E;have ⟨X,p,F⟩:=jm (P:=P) a x (Nat.min_le_left _ _) e J;have b2:∃c i,w= .slice c n i/\(c=none->A=none):=by
  cases A with
  | none=>
   cases m with
   | sc _=>exact ⟨_,_,rfl,λ_=>rfl⟩
  | some A=>obtain ⟨c,i,rfl⟩:=m.fi;exact ⟨_,_,rfl,λh=>by cases h⟩
 split at h;rename_i b;cases h;obtain ⟨c,i,rfl,hA⟩:=b2;have hy:X=[]:=by apply zL;rw [<-F.1];rw [b] at a;unfold cZ at a;split at a;cases a;rfl;rw [zO rfl] at a;cases a;rfl;cases a;simp;cases a
 subst hy;refine ⟨.int .i64 0,E,?_,e,Ext.refl _ _ _,.sc rfl⟩;rw [b] at p;have b1:=b;cases c <;> simp [Builtin.copy_,run_underlying C,aV o,y,b1,p,storeCells,goInt];rename_i b;split at h;rename_i _ K c7;split at h;rename_i j sz lo r;split at h;rename_i l;cases h;obtain ⟨_,⟨k,_⟩|⟨k,_⟩|⟨_,B,q,d,c1,c2,rfl⟩⟩:=m.eA;subst k;simp at b;subst k;simp at b;have d:=d;have ⟨f,s1,s2,s3,_⟩:=Rel.D7 (P:=P) d c7 l.2.2.2 c5 X 0 H j E e r (Zo l.1) F (by have:=l.2.1;simpa only [zQ] using this) (λs c6 N z=>by
  have ⟨p1,_⟩:=e.rows K j sz _ B r d;have ⟨_,p2,_⟩:=e.bu K j sz _ B s c6 N r d z;have hq:q≠0:=by have:min c3 n≠0:=b;omega
  obtain ⟨q,rfl⟩:∃c4,q=c4+1:=⟨q-1,O⟩;rw [p1,p2,xN] at c2;rcases iS z with ⟨rfl,rfl,_⟩|⟨rfl,rfl,_⟩ <;> omega)
 refine ⟨_,f,?_,s2,s3,.sc rfl⟩;have b6:=p;simp [Builtin.copy_,run_underlying C,aV o,y,b6,goInt,s1];cases h;cases h;cases h;cases h;cases h
def gY:aQ->Option (List UInt8)
 | []=>some []
 | .int .u8 n::l=>(gY l).map (UInt8.ofNat n.toNat:: ·)
 | _=>none
theorem rj:∀(a:aQ) (bs:List UInt8),gY a=some bs->∃b:List Int,a=b.map (Value.int .u8)/\bs=b.map λn=>UInt8.ofNat n.toNat:=by
 intro a;induction a with
 | nil=>intro bs h;cases h;exact ⟨[],rfl,rfl⟩
 | cons x a i=>
  intro bs h;unfold gY at h;split at h;rename_i e;cases e;rename_i n l e;cases e;cases c:gY a with
  | none=>rw [c] at h;cases h
  | some d=>rw [c] at h;cases h;have ⟨b,f,g⟩:=i d c;exact ⟨n::b,by rw [f];rfl,by rw [g];rfl⟩
  cases h
def jT (P:aB) (b a:aP) (x:aq) (H:AH):fR:=
 match P.underlying b,P.underlying a,x with
 | some (.slice e),some .string,.slice A n c=>match P.underlying e with
  | some (.int .u8)=>match cZ 1 n (.slice A n c) H with
   | some d=>if A=none then some (.string ByteArray.empty) else (gY d).map λbs=>.string ⟨bs.toArray⟩
   | none=>none
  | _=>none
 | _,_,_=>none
theorem foldl_push (a:List Int):∀(r:aU),(a.foldl (λr n=>r.push (UInt8.ofNat n.toNat)) r).data.toList=r.data.toList++a.map λn=>UInt8.ofNat n.toNat:=by
 induction a with
 | nil=>intro r;simp
 | cons n a b=>intro r;rw [List.foldl_cons,b];simp [ByteArray.push]
theorem xa {f:aP} (h:jT P t f u H=some w) (F:Rel D H E) (k:VR D u v):(convert t f v).run P E= .ok w E/\ak w:=by
 unfold jT at h;split at h;rename_i e A n c r p;split at h;rename_i q;split at h;rename_i b J;obtain ⟨x,z,s⟩:=jm J rfl (zE _) F k;split at h;rename_i g;subst g;cases h;refine ⟨?_,rfl⟩;cases k with
 | sc _=>simp [convert,run_underlying r,run_underlying p,run_underlying q,Conv.bytesToString]
 rename_i g;cases j:gY b with
 | none=>rw [j] at h;cases h
 | some bs=>
  rw [j] at h;cases h;have ⟨l,o,y⟩:=rj b bs j;have K:x=b:=by apply List.ext_getElem s.1.symm;intro i L M;refine (s.2 i b[i] x[i] (zA _) (zA _)).ak ?_;simp [o,ak]
  subst K;obtain ⟨a,rfl⟩:∃a,A=some a:=by cases A with|none=>exact absurd rfl g|some a=>exact ⟨a,rfl⟩
  obtain ⟨d,m,rfl⟩:=k.fi;refine ⟨?_,rfl⟩;rw [run_convert_bytes_string E t f e (some d) n m r q p];have C:(loadCells d n).run P E= .ok (l.map (Value.int .u8)).toArray E:=by rw [<-o];simpa [Builtin.firstCells] using z
  rw [run_bytesToString E d n m l C];congr 2;have:=foldl_push l ByteArray.empty;rw [y];apply ByteArray.ext;apply Array.ext';rw [this];simp
 cases h;cases h;cases h
theorem sT (a:World) (C:Array aq) (b:aP):(markStringish ⟨a.heap.size,0,none⟩).run P (a.alloc (.cells C b))= .ok () {a with heap:=a.heap.push (.cells C b (C.size,C.size+1))}:=by
 have d:(a.alloc (.cells C b)).shape? a.heap.size=some (b,C.size):=by unfold World.shape? World.alloc;simp
 simp only [markStringish,Sem.run_bind,run_shape,Result.andThen_ok,d,run_freeze];congr 1;unfold World.freeze World.alloc;simp;congr 1;apply Array.ext_getElem?;intro i;simp only [vB,xY];by_cases c:a.heap.size=i;subst c;simp;have:¬i=a.heap.size:=λe=>c e.symm;simp [c,this]
def tP (P:aB) (c a:aP) (x:aq) (H:AH):Option (aq×AH):=
 match P.underlying c,P.underlying a,x with
 | some .string,some (.slice e),.string s=>match P.underlying e with
  | some (.int .u8)=>if s.size<=4611686018427387904 then some (.slice (some ⟨H.length,0,none⟩) s.size 1,H++[.row (s.data.toList.map λb=>.int .u8 b.toNat) 1 (some 0)]) else none
  | _=>none
 | _,_,_=>none
theorem Bi {n:aP} {g:AH} (h:tP P t n u H=some (w,g)) (z:Rel D H E) (F:VR D u v):
  ∃p l m,(convert t n v).run P E= .ok p l/\Rel m g l/\Ext D H E m g l/\VR m w p:=by
 unfold tP at h;split at h;rename_i e s C q;split at h;rename_i r;split at h;rename_i M;cases h;cases F.ak rfl;have A:Rel D H E.drew:=z.drew _;have x:Ext D H E D H E.drew:=Ext.drew _;have y:=grownCap_ge E s.size 0 e;have k:(s.data.map (λb=>Value.int .u8 (b.toNat:Int))++Array.replicate (grownCap E s.size 0 e-s.size) (Value.int .u8 0)).size=grownCap E s.size 0 e:=by have:s.data.size=s.size:=rfl;simp;omega
 obtain ⟨J,K⟩:=A.push (xs:=s.data.toList.map λb=>.int .u8 b.toNat) (s.data.map (λb=>Value.int .u8 (b.toNat:Int))++Array.replicate (grownCap E s.size 0 e-s.size) (.int .u8 0)) e
  (grownCap E s.size 0 e,grownCap E s.size 0 e+1) 1 Z (λj a L c f=>by
   have i:=aa c;rw [Array.getElem?_append_left (Zs i)] at f;have:L=a:=by simp only [zK,Array.getElem?_map] at c f;simp only [Array.getElem?_toList] at c;rw [c] at f;simpa using f.symm
   subst this;simp only [zK] at c;cases o:s.data.toList[j]? with
   | none=>rw [o] at c;cases c
   | some b=>rw [o] at c;cases c;exact .sc rfl) (λa c=>by simp at c;obtain ⟨_,_,rfl⟩:=c;rfl) (λj i=>by rw [k] at i;unfold kW;simp;omega) (.small O)
 refine ⟨.slice (some ⟨E.heap.size,0,none⟩) s.size (grownCap E s.size 0 e),_,_,?_,J,x.trans K,.sl (au.aC _ _ _) y (by rw [k];simp)⟩;have N:(s.data.map (λb=>Value.int .u8 (b.toNat:Int))).size+(grownCap E s.size 0 e-s.size)=grownCap E s.size 0 e:=by have:s.data.size=s.size:=rfl;simp;omega
 have d:=sT (P:=P) E.drew (s.data.map (λb=>Value.int .u8 (b.toNat:Int))++Array.replicate (grownCap E s.size 0 e-s.size) (.int .u8 0)) e;rw [k] at d;simp at d;unfold grownCap at d ⊢;simp [convert,run_underlying C,run_underlying q,run_underlying r,Conv.stringToBytes,Question.forced,newRow,d];cases h;cases h;cases h
def keyed:TypeDesc->aq->Bool
 | .int _,.int _ _=>true
 | .string,.string _=>true
 | _,_=>false
theorem run_checkKey {e:Bool} {n:Nat} {d:TypeDesc} (b:P.underlying t=some d) (a:keyed d u) (E:World):(Instr.checkKey e (n+1) t u).run P E= .ok () E:=by unfold keyed at a;split at a;simp [Instr.checkKey,run_underlying b];simp [Instr.checkKey,run_underlying b];cases a
theorem run_findKey {d:TypeDesc} {a:List MapEntry} {r:Option (Nat×aq)} (b:P.underlying t=some d) (h:Instr.findNow d u a 0=some r) (E:World):(Instr.findKey t u a).run P E= .ok r E:=by simp [Instr.findKey,run_underlying b,h]
theorem fZ {b:Array MapEntry} {cl:Nat} (h:E.heap[a]? =some (.map b cl)):(getObj a).run P E= .ok (.map b cl) E:=by simp [getObj,Sem.run,h]
theorem o9 {b:Array MapEntry} {cl:Nat} {o:Obj} (h:E.heap[a]? =some (.map b cl)):(setObj a o).run P E= .ok () {E with heap:=E.heap.setIfInBounds a o}:=by simp [setObj,Sem.run,h]
def fP (P:aB) (t:aP) (x ix:aq) (b:Bool) (H:AH):fR:=
 match P.underlying t,x with
 | some (.map e c),.map (some id)=>match H[id]?,P.underlying e with
  | some (.mp d _),some a=>if keyed a ix=true then
    match Instr.findNow a ix d.toList 0 with
    | some (some (_,v))=>some (if b=true then .tuple #[v,.bool true] else v)
    | some none=>match P.info? c with
     | some i=>match i.zero with
      | some z=>if ak z=true then some (if b=true then .tuple #[z,.bool false] else z) else none
      | none=>none
     | none=>none
    | none=>none
   else none
  | _,_=>none
 | _,_=>none
theorem na {d:TypeDesc}:∀(a:List MapEntry) (i j:Nat) (v:aq),Instr.findNow d u a i=some (some (j,v))->∃e∈a,e.val=v:=by
 intro a;induction a with
 | nil=>intro i j v h;cases h
 | cons e a g=>intro i j v h;unfold Instr.findNow at h;split at h;cases h;exact ⟨e,Z,rfl⟩;have ⟨b,c,f⟩:=g _ _ _ h;exact ⟨b,by simp [c],f⟩;cases h
theorem VR.two (h:V.ak u) (b:Bool):VR D (.tuple #[u,.bool b]) (.tuple #[u,.bool b]):=
 VR.rL (cd.cons (.sc h) (cd.cons (.sc rfl) .nil))
theorem tV {ix o:aq} (h:fP P t u ix q H=some o) (F:Rel D H E) (J:VR D u v) (f:VR D ix w):∃p,(Instr.lookup t v w q).run P E= .ok p E/\VR D o p:=by
 unfold fP at h;split at h;rename_i R M L l;obtain ⟨B,s,rfl⟩:=J.rO;split at h;rename_i r cl N C c;have ⟨g,x⟩:=F.maps L r cl B C s;split at h;rename_i b;have:w=ix:=by unfold keyed at b;split at b;exact f.ak rfl;exact f.ak rfl;cases b
 subst this;have d:=λe=>run_checkKey (e:=e) (n:=9999) c b E;split at h;rename_i j X a;cases h;obtain ⟨e,y,rfl⟩:=na _ _ _ _ a;have m:=(x e (Zs y)).2;refine ⟨if q=true then .tuple #[e.val,.bool true] else e.val,?_,?_⟩;simp [Instr.lookup,run_underlying l,fZ g,d,run_findKey c a];split;exact VR.two m _;exact .sc m;rename_i a;split at h;rename_i i A;split at h;rename_i z K;split at h;rename_i k;cases h;refine ⟨if q=true then .tuple #[z,.bool false] else z,?_,?_⟩;simp [Instr.lookup,run_underlying l,fZ g,d,run_findKey c a,dr A K];split;exact VR.two k _;exact .sc k;cases h;cases h;cases h;cases h;cases h;cases h;cases h
def iz (P:aB) (t:aP) (x k v:aq) (H:AH):Option AH:=
 match P.underlying t,x with
 | some (.map c _),.map (some id)=>match H[id]?,P.underlying c with
  | some (.mp a cl),some b=>if keyed b k=true/\ak v=true then
    match Instr.findNow b k a.toList 0 with
    | some (some (i,_))=>if Instr.sameBits 10000 (((a[i]?).map (·.key)).getD k) k=true then some (H.set id (.mp (a.modify i λe=>{e with key:=k,val:=v}) cl)) else none
    | some none=>some (H.set id (.mp (a.push {key:=k,val:=v,born:=cl}) (cl+1)))
    | none=>none
   else none
  | _,_=>none
 | _,_=>none
theorem gz {d:TypeDesc} (h:keyed d u):ak u:=by unfold keyed at h;split at h;rfl;rfl;cases h
theorem tO {C z A:aq} {d:AH} (h:iz P t u v w H=some d) (m:Rel D H E) (M:VR D u C) (J:VR D v z) (L:VR D w A):∃r,(Instr.mapUpdate t C z A).run P E= .ok () r/\Rel D d r/\Ext D H E D d r:=by
 unfold iz at h;split at h;rename_i b2 R N y;obtain ⟨B,g,rfl⟩:=M.rO;split at h;rename_i f cl kd l k;have ⟨c,s⟩:=m.maps N f cl B l g;split at h;rename_i F;have ⟨b,o⟩:=F;cases J.ak (gz b);cases L.ak o;have x:=λe=>run_checkKey (e:=e) (n:=9999) k b E;split at h;rename_i i v0 j;split at h;rename_i K;cases h;have ⟨p,q⟩:=m.Df l g (f.modify i λe=>{e with key:=v,val:=w}) cl (λe a=>by obtain ⟨b1,X,rfl⟩:=Array.getElem_of_mem a;rw [Array.getElem_modify];split;exact ⟨gz b,o⟩;exact s _ (Array.getElem_mem _))
 refine ⟨_,?_,p,q⟩;simp [Instr.mapUpdate,run_underlying y,fZ c,x,run_findKey k j,Instr.keyThatStays,K,o9 c];cases h;rename_i j;cases h;have ⟨p,q⟩:=m.Df l g (f.push {key:=v,val:=w,born:=cl}) (cl+1) (λe a=>by rcases Array.mem_push.1 a with a|rfl;exact s e a;exact ⟨gz b,o⟩)
 refine ⟨_,?_,p,q⟩;simp [Instr.mapUpdate,run_underlying y,fZ c,x,run_findKey k j,o9 c];cases h;cases h;cases h;cases h
def dv (o:fR):fR:=match o with|some v=>if bq v=true then some v else none|none=>none
theorem gu {s:Sem aq} (h:dv (aj P s)=some u) (E:World):s.run P E= .ok u E/\VR D u u:=by unfold dv at h;split at h;rename_i c a;split at h;rename_i b;cases h;exact ⟨jM a E,VR.lP b⟩;cases h;cases h
def oA:aq->Bool
 | .nilIface=>false
 | _=>true
def da (P:aB) (a:BinOp) (t:aP) (x y:aq):fR:=
 if (bq x&&bq y&&oA x)=true then dv (aj P (do eqGuard a t (.tmp 0) (.tmp 0) x y;binOp a t x y)) else mR P a t x y
theorem tK {c:BinOp} (h:oA u) (a b:Operand):eqGuard c t a b u v=eqGuard c t (.tmp 0) (.tmp 0) u v:=by cases u <;> first|(cases h;done)|rfl|(cases v <;> rfl)
theorem FH {g:BinOp} {i c:aq} (h:da P g t u v=some c) (k:VR D u w) (l:VR D v i) (a b:Operand) (E:World):(do eqGuard g t a b w i;binOp g t w i:Sem aq).run P E= .ok c E/\VR D c c:=by unfold da at h;split at h;rename_i j;simp at j;have ⟨⟨d,e⟩,f⟩:=j;cases k.bq d;cases l.bq e;rw [tK f];exact gu h E;have ⟨d,e,f⟩:=x7 (w:=E) h k l;exact ⟨by simp only [Sem.run_bind,f,Result.andThen_ok,e],.sc d⟩
def FU (P:aB) (a:UnOp) (x:aq):fR:=if bq x=true then dv (aj P (Op.unary a x)) else none
def gI (P:aB) (s d:aP) (x:aq) (H:AH):Option (aq×AH):=
 match x with
 | .slice _ _ _=>(jT P s d x H).map λv=>(v,H)
 | .string _=>match P.underlying d,P.underlying s with
  | some .string,some .string=>some (x,H)
  | _,_=>tP P s d x H
 | _=>if bq x=true then (dv (aj P (convert s d x))).map λv=>(v,H) else none
def ls (P:aB) (t:aP) (x ix:aq):fR:=if (bq x&&bq ix)=true then dv (aj P (Instr.index t x ix)) else none
def pJ (P:aB) (t:aP) (x:aq) (b a c:fR) (H:AH):fR:=
 match c with
 | none=>match x with
  | .string _=>if (b.all bq&&a.all bq)=true then dv (aj P (Instr.sliceAt t x b a none)) else none
  | _=>cL P t x b a H
 | some _=>fN P t x b a c
def qH (P:aB) (b:Builtin) (a:Array aP) (i:aP) (g:Array Bool) (c:aQ) (H:AH):Option (aq×AH):=
 match b,c with
 | .append,[s,x]=>match a.toList with
  | [e,f]=>cC P e f s x H
  | _=>none
 | .copy,[d,x]=>match a.toList with
  | [e,f]=>pA P e d x H
  | _=>none
 | .len,[x]=>match a.toList,x with
  | [t],.slice _ n _=>match P.underlying t with
   | some (.slice _)=>some (.int .i64 (n:Nat),H)
   | _=>none
  | [t],.string s=>match P.underlying t with
   | some .string=>some (.int .i64 (s.size:Nat),H)
   | _=>none
  | [t],.map (some id)=>match P.underlying t,H[id]? with
   | some (.map _ _),some (.mp h _)=>some (.int .i64 (h.size:Nat),H)
   | _,_=>none
  | _,_=>none
 | _,_=>if c.all bq=true then match aj P (builtin b a i g c.toArray) with
   | some (.value v)=>if bq v=true then some (v,H) else none
   | _=>none
  else none
def fH (P:aB) (g:Operand->aq) (o:Oper) (H:AH):Option (aq×AH):=
 match o.op with
 | .move x=>some (g x,H)
 | .assign x=>some (g x,H)
 | .pick c a b=>match g c with|.bool t=>some (if t then g a else g b,H)|_=>none
 | .alloc e=>mT P e H
 | .box e x=>pB P e (g x) H
 | .build t ps=>(mS P t (ps.map λ(i,x)=>(i,g x)).toList).map λv=>(v,H)
 | .buildSlice t n ps=>fO P t n (ps.map λ(i,x)=>(i,g x)).toList H
 | .load t a=>(cV P t (g a) H).map λv=>(v,H)
 | .store t a x=>(fF P t (g a) (g x) H).map λh=>(undef,h)
 | .nilCheck x=>(Nn (g x)).map λv=>(v,H)
 | .binOp j t x y _=>(da P j t (g x) (g y)).map λv=>(v,H)
 | .unOp j _ x=>(FU P j (g x)).map λv=>(v,H)
 | .convert s d x=>gI P s d (g x) H
 | .makeMap _ none=>some (.map (some H.length),H++[.mp #[] 0])
 | .makeSlice t l c=>iB P t (g l) (g c) H
 | .slice t x q p r=>(pJ P t (g x) (q.map g) (p.map g) (r.map g) H).map λv=>(v,H)
 | .fieldAddr s x f=>(eZ P s (g x) f).map λv=>(v,H)
 | .field t x f=>(py P t (g x) f).map λv=>(v,H)
 | .indexAddr t x i=>(cY P t (g x) (g i)).map λv=>(v,H)
 | .index t x i=>(ls P t (g x) (g i)).map λv=>(v,H)
 | .lookup t x i w=>(fP P t (g x) (g i) w H).map λv=>(v,H)
 | .mapUpdate t m k x=>(iz P t (g m) (g k) (g x) H).map λh=>(undef,h)
 | .extract x i=>(FB (g x) i).map λv=>(v,H)
 | .call {callee:=.builtin b,args,argTypes}=>qH P b argTypes o.type (args.map λ| .const _=>true|_=>false) (args.map g).toList H
 | _=>none
def Vt (D:au) (H:AH) (E:World) (v:aq) (c:AH) (r:Result Next):Prop:=
 ∃n a b,r= .ok n a/\((∃d,n= .value d/\VR b v d)\/(n= .skip/\v=undef))/\Rel b c a/\Ext D H E b c a
theorem bM {s:Sem aq} (h:s.run P E= .ok v E) (a:Rel D H E) (b:VR D u v):Vt D H E u H ((do pure (.value (<-s)):Sem Next).run P E):=
 ⟨.value v,E,D,by simp only [Sem.run_bind,h,Result.andThen_ok,Sem.run_pure],.inl ⟨v,rfl,b⟩,a,Ext.refl _ _ _⟩
theorem iw {s:Sem aq} {c:AH} {a:World} {b:au} (h:s.run P E= .ok v a) (e:Rel b c a) (d:Ext D H E b c a) (f:VR b u v):Vt D H E u c ((do pure (.value (<-s)):Sem Next).run P E):=
 ⟨.value v,a,b,by simp only [Sem.run_bind,h,Result.andThen_ok,Sem.run_pure],.inl ⟨v,rfl,f⟩,e,d⟩
theorem tL {s:Sem Unit} {b:AH} {a:World} (h:s.run P E= .ok () a) (d:Rel D b a) (c:Ext D H E D b a):Vt D H E undef b ((do s;pure .skip:Sem Next).run P E):=
 ⟨.skip,a,D,by simp only [Sem.run_bind,h,Result.andThen_ok,Sem.run_pure],.inr ⟨rfl,rfl⟩,d,c⟩
theorem map_some {b d:Type} {o:Option b} {f:b->d} {c:d} (h:o.map f=some c):∃a,o=some a/\f a=c:=by
 cases o with
 | none=>cases h
 | some a=>exact ⟨a,rfl,by simpa using h⟩
theorem cd.of_map {l:List Operand} {e f:Operand->aq} (h:∀x∈l,VR D (e x) (f x)):cd D (l.map e) (l.map f):=by
 refine ⟨Z,λi a v b c=>?_⟩;simp only [zK] at b c;cases d:l[i]? with
 | none=>rw [d] at b;cases b
 | some x=>rw [d] at b c;cases b;cases c;exact h x (zI d)
theorem cd.parts {ps:Array (Nat×Operand)} {a b:Operand->aq} (h:∀x∈ps.toList.map (·.2),VR D (a x) (b x)):
  ((ps.map λ(i,x)=>(i,a x)).toList.map (·.1))=((ps.map λ(i,x)=>(i,b x)).toList.map (·.1))/\cd D ((ps.map λ(i,x)=>(i,a x)).toList.map (·.2)) ((ps.map λ(i,x)=>(i,b x)).toList.map (·.2)):=by
 constructor;simp [Function.comp_def];have:=cd.of_map h;simpa [Function.comp_def] using this
theorem Bq {d:aP} {b:AH} (h:gI P t d u H=some (w,b)) (a:Rel D H E) (g:VR D u v):∃m k l,(convert t d v).run P E= .ok m k/\Rel l b k/\Ext D H E l b k/\VR l w m:=by unfold gI at h;split at h;have ⟨o,c,e⟩:=map_some h;cases e;have ⟨i,j⟩:=xa c a g;exact ⟨w,E,D,i,a,Ext.refl _ _ _,.sc j⟩;rename_i p;cases g.ak rfl;split at h;rename_i n f;cases h;exact ⟨_,E,D,by simp [convert,run_underlying n,run_underlying f],a,Ext.refl _ _ _,.sc rfl⟩;exact Bi h a (.sc rfl);split at h;rename_i f;cases g.bq f;have ⟨o,c,e⟩:=map_some h;cases e;obtain ⟨i,j⟩:=gu c E;exact ⟨w,E,D,i,a,Ext.refl _ _ _,j⟩;cases h
theorem xe.of {x:Option Operand} {a b:Operand->aq} (h:∀y∈x.toArray,VR D (a y) (b y)):xe D (x.map a) (x.map b):=by
 cases x with
 | none=>trivial
 | some y=>exact h y Z
theorem xe.bq {x a:fR} (h:xe D x a) (b:x.all V.bq):a=x:=by cases x <;> cases a <;> first|rfl|exact h.elim|(simp at b;exact yC some (VR.bq h b))
theorem Ij [hP:Small P] {b:Builtin} {f:Array aP} {N:aP} {K:Array Bool} {l args':aQ} {v:aq} {J:AH} (h:qH P b f N K l H=some (v,J)) (d:Rel D H E) (k:cd D l args'):Vt D H E v J ((builtin b f N K args'.toArray).run P E):=by
 unfold qH at h;split at h;rename_i s x;obtain ⟨s',l1,rfl,o,p⟩:=k.eu;obtain ⟨F,M,rfl,c,g⟩:=p.eu;have:=zL g.1.symm;subst this;split at h;rename_i z C a;obtain ⟨v',w',c4,q,r,w,y⟩:=iC h d o c;have:f= #[z,C]:=by apply Array.ext';simpa using a
 subst this;exact iw q r w y;cases h;rename_i s x;obtain ⟨s',l1,rfl,o,p⟩:=k.eu;obtain ⟨F,M,rfl,c,g⟩:=p.eu;have:=zL g.1.symm;subst this;split at h;rename_i z C a;obtain ⟨v',w',q,r,w,y⟩:=Bp h d o c;have:f= #[z,C]:=by apply Array.ext';simpa using a
 subst this;exact iw q r w y;cases h;rename_i x;obtain ⟨F,M,rfl,c,g⟩:=k.eu;have:=zL g.1.symm;subst this;split at h;rename_i t A b1 b2 a;have:f= #[t]:=by apply Array.ext';simpa using a
 subst this;split at h;rename_i el j;cases h;have:∃m n,F= .slice m b1 n:=by
  cases A with
  | none=>cases c with|sc _=>exact ⟨_,_,rfl⟩
  | some A=>have ⟨m,n,e⟩:=c.fi;exact ⟨_,_,e⟩
 obtain ⟨m,n,rfl⟩:=this;exact bM (by simp [Builtin.len_,run_underlying j,goInt]) d (.sc rfl);cases h;rename_i t s a;have:f= #[t]:=by apply Array.ext';simpa using a
 subst this;split at h;rename_i j;cases h;cases c.ak rfl;exact bM (by simp [Builtin.len_,run_underlying j,goInt]) d (.sc rfl);cases h;rename_i t id a;have:f= #[t]:=by apply Array.ext';simpa using a
 subst this;split at h;rename_i c3 b6 R cl j ho;cases h;obtain ⟨B,X,rfl⟩:=c.rO;have ⟨hm,_⟩:=d.maps id R cl B ho X;exact bM (by simp [Builtin.len_,run_underlying j,goInt,fZ hm]) d (.sc rfl);cases h;cases h;split at h;rename_i L;have:args'=l:=by apply List.ext_getElem k.1.symm;intro i hi c2;refine (k.2 i l[i] args'[i] (zA _) (zA _)).bq ?_;simp at L;exact L _ (zV _)
 subst this;split at h;rename_i v0 hp;split at h;rename_i hv;cases h;exact ⟨.value v,E,D,jM hp E,.inl ⟨v,rfl,VR.lP hv⟩,d,Ext.refl _ _ _⟩;cases h;cases h;cases h
theorem Ih [hP:Small P] {o:Oper} {R p:Operand->aq} {v:aq} {L:AH} (h:fH P R o H=some (v,L)) (g:Rel D H E) (e:∀x∈o.op.operands,VR D (R x) (p x)):Vt D H E v L ((execOp p o).run P E):=by
 have ⟨c6,op,c9,pos,c4,guard⟩:=o;unfold fH at h;simp only at e;split at h;all_goals first|(cases h;done)|skip
 all_goals rename_i M
 all_goals simp only at M
 all_goals subst M
 all_goals simp only [Op.operands] at e
 all_goals simp only [execOp]
 cases h;exact ⟨_,E,D,rfl,.inl ⟨_,rfl,e _ Z⟩,g,Ext.refl _ _ _⟩;cases h;exact ⟨_,E,D,rfl,.inl ⟨_,rfl,e _ Z⟩,g,Ext.refl _ _ _⟩;rename_i c x y;split at h;rename_i t hc;cases h;have a:=e c Z;rw [hc] at a;have f:=a.bool;refine ⟨.value (if t then p x else p y),E,D,by simp [f,asBool],.inl ⟨_,rfl,?_⟩,g,Ext.refl _ _ _⟩;cases t;exact e y Z;exact e x Z;cases h;have ⟨k,q,w,b,d,j,m⟩:=xd h g;exact iw b d j m;have ⟨k,q,w,b,d,j,m⟩:=FF h g (e _ Z);exact iw b d j m;rename_i t ps;have ⟨l,a,f⟩:=map_some h;cases f;obtain ⟨J,K⟩:=cd.parts (λx i=>e x (by simpa using i));obtain ⟨k,b,d⟩:=xc a J K;exact bM b g d;rename_i t c7 ps;obtain ⟨J,K⟩:=cd.parts (λx i=>e x (by simpa using i));have ⟨k,q,w,b,d,j,m⟩:=jS h g J K;exact iw b d j m;have ⟨l,a,f⟩:=map_some h;cases f;have ⟨k,b,d⟩:=qE a g (e _ Z);exact bM b g d;have ⟨X,a,f⟩:=map_some h;cases f;have ⟨q,b,d,j⟩:=wg a g (e _ Z) (e _ Z);exact tL b d j;rename_i x;have ⟨l,a,f⟩:=map_some h;cases f;have i:=e x Z;unfold Nn at a;split at a;rename_i c3 hA;cases a;have s:=i;rw [hA] at s;have ⟨A',b2⟩:=s.lJ;refine ⟨.value (p x),E,D,by simp [b2],.inl ⟨_,rfl,i⟩,g,Ext.refl _ _ _⟩;cases a;have ⟨l,a,f⟩:=map_some h;cases f;obtain ⟨b,d⟩:=FH a (e _ Z) (e _ Z) _ _ E;exact bM b g d;have ⟨l,a,f⟩:=map_some h;cases f;unfold FU at a;split at a;rename_i n;rw [(e _ Z).bq n];obtain ⟨b,d⟩:=gu a E;exact bM b g d;cases a;have ⟨k,q,w,b,d,j,m⟩:=Bq h g (e _ Z);exact iw b d j m;cases h;have ⟨b,d⟩:=g.Hb;exact iw (by simp [Instr.makeMap]) b d (.map (au.aC _ _ _));have ⟨k,q,w,b,d,j,m⟩:=Bn h g (e _ Z) (e _ Z);exact iw b d j m;rename_i t x lo hi N;have ⟨l,a,f⟩:=map_some h;cases f;have i:=e x Z;have C:=xe.of (λy r=>e y (by simp only [Array.mem_append];exact .inl (.inl (.inr r))));have A:=xe.of (λy r=>e y (by simp only [Array.mem_append];exact .inl (.inr r)));unfold pJ at a;split at a;rename_i hm;have b6:N=none:=by cases N with|none=>rfl|some _=>cases hm
 subst b6;split at a;rename_i c8 n;split at a;rename_i F;simp at F;rw [n] at i;have s:=i.ak rfl;obtain ⟨b,d⟩:=gu a E;refine bM ?_ g d;rw [n] at b;rw [s,C.bq F.1,A.bq F.2];exact b;cases a;have ⟨k,b,d⟩:=wh a g i C A;exact bM b g d;have c2:=xe.of (λy r=>e y (by simp only [Array.mem_append];exact .inr r));obtain ⟨k,b,d⟩:=tQ a i C A c2;exact bM b g d;have ⟨l,a,f⟩:=map_some h;cases f;obtain ⟨k,b,d⟩:=pw a (e _ Z);exact bM b g d;have ⟨l,a,f⟩:=map_some h;cases f;obtain ⟨k,b,d⟩:=x9 a (e _ Z);exact bM b g d;obtain ⟨l,a,f⟩:=map_some h;cases f;obtain ⟨k,b,d⟩:=po a (e _ Z) (e _ Z);exact bM b g d;obtain ⟨l,a,f⟩:=map_some h;cases f;unfold ls at a;split at a;rename_i n;simp at n;rw [(e _ Z).bq n.1,(e _ Z).bq n.2];obtain ⟨b,d⟩:=gu a E;exact bM b g d;cases a;obtain ⟨l,a,f⟩:=map_some h;cases f;obtain ⟨k,b,d⟩:=tV a g (e _ Z) (e _ Z);exact bM b g d;obtain ⟨X,a,f⟩:=map_some h;cases f;obtain ⟨q,b,d,j⟩:=tO a g (e _ Z) (e _ Z) (e _ Z);exact tL b d j;obtain ⟨l,a,f⟩:=map_some h;cases f;obtain ⟨k,b,d⟩:=FA a (e _ Z);exact bM b g d;rename_i c5 z ts;simp;have:=Ij (args':=(z.map p).toList) h g (by simpa using cd.of_map (λx i=>e x (by simp [Call.operands,Array.mem_toList_iff.1 i])));have b1:(z.map p).toList.toArray=z.map p:=Array.toArray_toList;rw [b1] at this;exact this
end
def ev (a:aQ):Operand->aq
 | .tmp t=>a.getD t undef
 | .const v=>v
 | .global g=>.pointer (some ⟨g,0,none⟩)
 | .func f=>.func (.func f) #[] #[]
def pI:Operand->Bool
 | .tmp _=>true
 | .const v=>bq v
 | .global _=>false
 | .func _=>true
def kP (o:Oper):Bool:=o.op.operands.toList.all pI
abbrev Callee:=Nat->aQ->AH->Option (aq×AH)
def eG (P:aB) (K:Nat):Bool:=
 match P.funcs[K]? with
 | some a=> !(a.name== "runtime.NumGoroutine")&&a.body.isSome
 | none=>false
def kH (P:aB) (d:Callee) (c:Operand->aq) (o:Oper) (H:AH):Option (aq×AH):=
 match o.op with
 | .call {callee:=.value f,args, ..}=>match c f with
  | .func (.func K) a b=>if (a.isEmpty&&b.isEmpty&&eG P K)=true then d K (args.map c).toList H else none
  | _=>none
 | _=>fH P c o H
def db (P:aB) (h:Callee):Prop:=
 ∀(K:Nat) (d:aQ) (H:AH) (r:aq) (a:AH),h K d H=some (r,a)->eG P K->∀(b:au) (w:World) (f:aQ),Rel b H w->cd b d f->
  Calls P K f.toArray w λe g=>∃v c,e= .returned v/\VR c r v/\Rel c a g/\Ext b H w c a g
section
variable {D:au} {H:AH} {E:World} {P:aB}
abbrev Tm (D:au) (b:aQ) (a:Act):Prop:=cd D b a.tmps.toList
theorem Tm.get {a:Act} (h:Tm D p a) (t:Nat):VR D (p.getD t undef) (a.tmps.getD t undef):=by
 rw [zG,yJ];cases b:p[t]? with
 | some v=>
  obtain ⟨f,c,e⟩:=cd.get h b;have d:a.tmps[t]? =some f:=by simpa using c
  rw [d];exact e
 | none=>
  have:a.tmps[t]? =none:=by rw [List.getElem?_eq_none_iff] at b;rw [Array.getElem?_eq_none_iff];have:=h.1;simp at this;omega
  rw [this];exact VR.undef
theorem EM {a:Act} (h:Tm D p a) {x:Operand} (b:pI x):VR D (ev p x) (a.eval x):=by
 cases x with
 | tmp t=>exact h.get t
 | const v=>exact VR.lP b
 | global g=>cases b
 | func f=>exact .sc rfl
theorem HN {a:Act} (h:Tm D p a) {o:Oper} (b:kP o):∀x∈o.op.operands,VR D (ev p x) (a.eval x):=by intro x c;simp only [kP,zQ] at b;exact EM h (b x (Zs c))
def bZ (a:aQ) (b:Option Tmp) (v:aq):aQ:=
 match b with
 | some d=>a.set d v
 | none=>a
theorem Tm.put {e:aQ} {a:Act} (h:Tm D e a) (b:Option Tmp) {v c:aq} (f:VR D v c):Tm D (bZ e b v) (a.put b c):=by
 cases b with
 | none=>exact h
 | some d=>simpa [bZ,Act.put,Tm] using cd.set h f d
theorem nA [hP:Small P] {w:Callee} (X:db P w) {o:Oper} {n:Operand->aq} {a:Act} {v:aq} {i:AH} {next:Act->World->Prop} {Q:Exit->Act->World->Prop} (h:kH P w n o H=some (v,i)) (L:Rel D H E) (m:∀x∈o.op.operands,VR D (n x) (a.eval x))
  (k:∀g b c,VR c v g->Rel c i b->Ext D H E c i b->next (a.put o.dst g) b):o.wp P a E next Q:=by
 have c5:fH P n o H=some (v,i)->o.wp P a E next Q:=by intro h;have ⟨c8,b,c,q,l,z,A⟩:=Ih h L m;unfold Oper.wp;rw [q];rcases l with ⟨g,rfl,l⟩|⟨rfl,rfl⟩;exact k g b c l z A;exact k undef b c VR.undef z A
 unfold kH at h;split at h;rename_i f j ts s;split at h;rename_i K t y hf;split at h;rename_i F;simp at F;have ⟨⟨C,r⟩,d⟩:=F;rw [s] at m;have J:=m f (by simp [Op.operands,Call.operands]);rw [hf] at J;have c4:ak (Value.func (.func K) t y):=by simp [ak,C,r]
 have b6:=J.ak c4;have b1:t= #[]:=by simpa using C
 have b2:y= #[]:=by simpa using r
 subst b1 b2;have R:cd D (j.map n).toList (j.map a.eval).toList:=by simpa using cd.of_map (λx hx=>m x (by simp [Op.operands,Call.operands,Array.mem_toList_iff.1 hx]))
 have:=X K _ H v i h d D E _ L R;have e:(j.map a.eval).toList.toArray=j.map a.eval:=Array.toArray_toList;rw [e] at this;unfold eG at d;split at d;rename_i p c2;simp at d;have ⟨q,l⟩:=d;have M:¬p.name= "runtime.NumGoroutine":=by simpa using q
 have N:¬p.body=none:=by cases r:p.body <;> simp_all
 have c3:(execOp a.eval o).run P E= .ok (.enter K (j.map a.eval)) E:=by have ⟨c7,op,c9,pos,c6,guard⟩:=o;simp only at s;subst s;simp [execOp,resolve,b6,Deferred.ofValue,invoke,callFunc,c2,M,N]
 unfold Oper.wp;rw [c3];refine this.mono λe b he=>?_;obtain ⟨g,c,rfl,q1,q2,q3⟩:=he;exact k g b c q1 q2 q3;cases d;cases h;cases h;exact c5 h
end
def kx:aq->aq->Bool
 | .bool a,.bool b=>a==b
 | .int k a,.int e b=>decide (k=e)&&a==b
 | .string a,.string b=>decide (a.data.toList=b.data.toList)
 | .pointer a,.pointer b=>decide (a=b)
 | .slice a n c,.slice b m d=>decide (a=b)&&n==m&&c==d
 | .map a,.map b=>a==b
 | .float k a,.float e b=>decide (k=e)&&a==b
 | .complex k a c,.complex e b d=>decide (k=e)&&a==b&&c==d
 | _,_=>false
def Gf:aq->aq->Bool
 | .agg c,.agg d=>c.size==d.size&&(c.toList.zip d.toList).all λp=>kx p.1 p.2
 | a,b=>kx a b
theorem xr (h:kx u v):u=v:=by
 unfold kx at h;split at h
 grind
 simp_all
 simp at h;congr 1;apply ByteArray.ext;omega
 grind
 simp_all
 grind
 simp_all
 simp_all
 cases h
theorem JY:∀(b a:aQ),b.length=a.length->(b.zip a).all (λp=>kx p.1 p.2)=true->b=a:=by
 intro b;induction b with
 | nil=>grind
 | cons x b c=>
  intro a h k;cases a with
  | nil=>cases h
  | cons y a=>simp only [List.zip_cons_cons,List.all_cons,zP] at k;rw [xr k.1,c a (Zs h) k.2]
theorem BV (h:Gf u v):u=v:=by unfold Gf at h;split at h;rename_i a b;simp only [zP,beq_iff_eq] at h;congr 1;apply Array.ext';exact JY _ _ (Zs h.1) h.2;exact xr h
section
variable {D:au} {H:AH} {E:World} {P:aB} {J:Array Oper} {h:Callee}
def bH (J:Array Oper) (a:aQ) (j:Nat):Option Bool:=
 match ((J[j]?).bind (·.dst)).bind (a[·]?) with
 | some (.bool b)=>some b
 | _=>none
def vE (P:aB) (J:Array Oper) (a:aQ) (H:AH) (j:Nat):Bool:=
 match J[j]? with
 | some o=> !(Region.wanted o (bH J a))||(match fH P (ev a) o H,o.dst with|some (v,_),some d=>decide (d<a.length)&&Gf v (a.getD d undef)|_,_=>false)
 | none=>false
def oe (P:aB) (h:Callee) (J:Array Oper) (p:Nat×aA) (s:aQ×AH):Option (aQ×AH):=
 match J[p.1]? with
 | none=>none
 | some o=>
  if Region.wanted o (bH J s.1)=true then
   match kH P h (ev s.1) o s.2 with
   | some (v,a)=>if p.2.all (vE P J (bZ s.1 o.dst v) a)=true then some (bZ s.1 o.dst v,a) else none
   | none=>none
  else some (bZ s.1 o.dst undef,s.2)
def eH (P:aB) (h:Callee) (J:Array Oper):List (Nat×aA)->aQ×AH->Option (aQ×AH)
 | [],s=>some s
 | p::ps,s=>(oe P h J p s).bind (eH P h J ps)
theorem VR.Fg (h:VR D u (.bool q)):u= .bool q:=by cases h;rfl
theorem A9 {a:Act} (h:Tm D p a) (j:Nat):yielded J a.tmps j=bH J p j:=by
 unfold yielded bH;cases m:(J[j]?).bind (·.dst) with
 | none=>rfl
 | some d=>
  simp;cases f:p[d]? with
  | none=>
   have:a.tmps[d]? =none:=by rw [List.getElem?_eq_none_iff] at f;rw [Array.getElem?_eq_none_iff];have:=h.1;simp at this;omega
   rw [this]
  | some v=>
   have ⟨l,g,c⟩:=cd.get h f;have i:a.tmps[d]? =some l:=by simpa using g
   rw [i];split;rename_i b e;cases e;cases c.Fg;rfl;rename_i k;split;rename_i b e;cases e;exact absurd (yC some c.bool) (k b);rfl
theorem uj {a:Act} (h:Tm D p a) (o:Oper):Region.wanted o (yielded J a.tmps)=Region.wanted o (bH J p):=by have:yielded J a.tmps=bH J p:=funext λj=>A9 h j;rw [this]
theorem DW [hP:Small P] (F:db P h) (H:∀o∈J,kP o) {Q:Exit->Act->World->Prop}:∀(l:aA) (s c:aQ×AH) (D:au) (a:Act) (E:World),eH P h J (l.map λi=>(i,[])) s=some c->Rel D s.2 E->Tm D s.1 a->
  (∀(g:au) (m:Act) (f:World),Rel g c.2 f->Ext D s.2 E g c.2 f->Tm g c.1 m->m.defers=a.defers->Q .normal m f)->wpOps P J Q l a E:=by
 intro l;induction l with
 | nil=>intro s c D a E e j d k;simp only [wE,eH,xP] at e;subst e;exact k D a E j (Ext.refl _ _ _) d rfl
 | cons i l A=>
  intro s c D a E e j d k;simp only [yY,eH,zT] at e;have ⟨s1,b,y⟩:=e;unfold oe at b;simp only at b;simp only [wpOps];cases z:J[i]? with
  | none=>simp_all
  | some o=>rw [z] at b;simp only at b ⊢;rw [uj d];have K:=H o (xL z);split at b;rename_i p;rw [zO p];refine .inl ?_;split at b;rename_i b1 X L;simp at b;subst b;refine nA F L j (HN d K) λR f g M N C=>?_;refine A _ c g (a.put o.dst R) f y N (Tm.put (cd.mono C.mono d) o.dst M) λx n w q r t v=>?_;refine k x n w q (C.trans r) t (v.trans ?_);cases o.dst <;> rfl;cases b;rename_i p;rw [zN p];simp at b;subst b;refine A _ c D _ E y j (d.put o.dst VR.undef) λx n w q r t v=>?_;refine k x n w q r t (v.trans ?_);cases o.dst <;> rfl
end
section
variable {D:au} {H:AH} {E:World} {P:aB}
def cls (P:aB) (o:Oper):Nat:=
 match o.op with
 | .move _|.assign _|.pick ..|.build ..|.nilCheck _|.binOp ..|.unOp ..|.fieldAddr ..|.field ..|.indexAddr ..|.index ..|.extract .. =>0
 | .load ..|.lookup ..|.slice .. =>1
 | .convert _ d _=>match P.underlying d with|some (.slice _)=>3|_=>1
 | .alloc _|.box ..|.buildSlice ..|.makeSlice .. =>2
 | .call {callee:=.builtin b, ..}=>match b with|.append|.copy=>3|_=>1
 | _=>3
theorem p9 {i:Operand->aq} {o:Oper} {g:AH} (e:cls P o=0) (h:fH P i o H=some (u,g)):g=H/\∀G,fH P i o G=some (u,G):=by
 have ⟨p,l,t,pos,n,guard⟩:=o;cases l <;> (try (simp [cls] at e;done));all_goals simp only [fH] at h ⊢
 case move x=>cases h;exact ⟨rfl,λ_=>rfl⟩
 case assign x=>cases h;exact ⟨rfl,λ_=>rfl⟩
 case pick c a b=>split at h;cases h;exact ⟨rfl,λ_=>rfl⟩;cases h
 case convert s d x=>simp only [cls] at e;split at e <;> cases e
 case call c=>
  have ⟨callee,args,q⟩:=c;cases callee with
  | value f=>simp [cls] at e
  | invoke r m=>simp [cls] at e
  | builtin b=>cases b <;> simp [cls] at e
 all_goals
  have ⟨v,j,k⟩:=map_some h;cases k;exact ⟨rfl,λG=>by rw [j];rfl⟩
theorem cX {o:AO} (h:H[a]? =some o) (ext:AH):(H++ext)[a]? =some o:=by rw [zB (aa h)];exact h
theorem qF (h:cV P t u H=some v) (ext:AH):cV P t u (H++ext)=some v:=by unfold cV at h ⊢;split at h;split at h;rename_i c a b;simp only [cX c ext,a,b];exact h;cases h;cases h
theorem wm {f e:fR} (h:cL P t u f e H=some v) (ext:AH):cL P t u f e (H++ext)=some v:=by unfold cL at h ⊢;split at h;exact h;split at h;split at h;rename_i c;rw [zO c];split at h;rename_i b;rw [zO b];exact h;rename_i b;rw [zN b];split at h;rename_i a;rw [zO a];exact h;rename_i a;rw [zN a];split at h;rename_i d;simp only [cX d ext];exact h;cases h;cases h;cases h;split at h;split at h;rename_i c;rw [zO c];split at h;rename_i a;rw [zO a];exact h;rename_i a;rw [zN a];split at h;rename_i d;simp only [cX d ext];exact h;cases h;cases h;cases h;cases h
theorem x8 (h:cZ a b u H=some p) (ext:AH):cZ a b u (H++ext)=some p:=by unfold cZ at h ⊢;split at h;exact h;split at h;rename_i c;rw [zO c];exact h;rename_i c;rw [zN c];split at h;rename_i d;simp only [cX d ext];exact h;cases h;exact h;cases h
theorem tW {ix:aq} (h:fP P t u ix q H=some v) (ext:AH):fP P t u ix q (H++ext)=some v:=by unfold fP at h ⊢;split at h;split at h;rename_i a _;simp only [cX a ext, *];cases h;cases h
theorem xb {d:aP} (h:jT P t d u H=some v) (ext:AH):jT P t d u (H++ext)=some v:=by unfold jT at h ⊢;split at h;split at h;split at h;rename_i a;simp only [x8 a ext];exact h;cases h;cases h;cases h
theorem fA {p:Operand->aq} {o:Oper} {l:AH} (j:cls P o=1) (h:fH P p o H=some (u,l)):l=H/\∀ext,fH P p o (H++ext)=some (u,H++ext):=by
 have ⟨A,y,M,pos,z,guard⟩:=o;cases y <;> (try (simp [cls] at j;done));all_goals simp only [fH] at h ⊢
 case load t a=>have ⟨k,e,g⟩:=map_some h;cases g;exact ⟨rfl,λext=>by rw [qF e ext];rfl⟩
 case convert s d x=>simp only [cls] at j;unfold gI at h ⊢;split at h;have ⟨k,e,g⟩:=map_some h;cases g;exact ⟨rfl,λext=>by rw [xb e ext];rfl⟩;split at h;cases h;exact ⟨rfl,λext=>rfl⟩;unfold tP at h;split at h;rename_i q _;simp [q] at j;cases h;split at h;have ⟨k,e,g⟩:=map_some h;cases g;rename_i n;exact ⟨rfl,λext=>by rw [zO n,e];rfl⟩;cases h
 case slice t x F C J=>have ⟨k,e,g⟩:=map_some h;cases g;refine ⟨rfl,λext=>?_⟩;unfold pJ at e ⊢;split at e;rename_i D;split at e;rw [e];rfl;rw [wm e ext];rfl;rw [e];rfl
 case lookup t x i K=>have ⟨k,e,g⟩:=map_some h;cases g;exact ⟨rfl,λext=>by rw [tW e ext];rfl⟩
 case call c=>
  have ⟨callee,args,L⟩:=c;cases callee with
  | value f=>simp [cls] at j
  | invoke r m=>simp [cls] at j
  | builtin b=>simp only [cls] at j;simp at h ⊢;unfold qH at h ⊢;split at h;simp at j;simp at j;split at h;split at h;cases h;exact ⟨rfl,λext=>rfl⟩;cases h;split at h;cases h;exact ⟨rfl,λext=>rfl⟩;cases h;split at h;rename_i w v;cases h;refine ⟨rfl,λext=>?_⟩;simp only [cX v ext,w];cases h;cases h;split at h;rename_i n;split at h;split at h;rename_i E;cases h;refine ⟨rfl,λext=>?_⟩;simp only [*,if_true];cases h;cases h;cases h
def A7 (D:au) (s:Sem aq) (P:aB) (mk:Nat->aq) (b:aQ) (sz:Nat):Prop:=
 ∀E:World,∃(C:Array aq) (c:aP) (e:aq),s.run P E= .ok e {E with heap:=E.heap.push (.cells C c (0,0))}/\b.length<=C.size/\(∀(j:Nat) (a v:aq),b[j]? =some a->C[j]? =some v->VR D a v)/\(∀a∈b,one a)/\s9 sz b C.size c/\
  ∀(f:au) (d:Nat),f d=some ⟨E.heap.size,C.size,sz⟩->VR f (mk d) e
theorem tT (sz:Nat) (e:u.cells.toList.all one) (h:s9 sz u.cells.toList u.cells.toList.length t) (k:VR D u v):A7 D (do pure (.pointer (some (<-newVar t v)))) P (λd=>.pointer (some ⟨d,0,none⟩)) u.cells.toList sz:=by intro E;have b:=k.cells;have c:=b.1;exact ⟨v.cells,t,.pointer (some ⟨E.heap.size,0,none⟩),by simp [newVar,newRow],by simp at c ⊢;omega,λj a l f i=>b.2 j a l f (Zs i),by simpa only [zQ] using e,(by rw [show v.cells.size=u.cells.toList.length from by simp at c ⊢;omega];exact h),λm d g=>.ptr g⟩
theorem Fv [hP:Small P] {t:aP} {b:Nat} {ps f:Array (Nat×aq)} {v:aq} {o:AH} (h:fO P t b ps.toList H=some (v,o)) (J:ps.toList.map (·.1)=f.toList.map (·.1)) (K:cd D (ps.toList.map (·.2)) (f.toList.map (·.2))):
  ∃d sz,v= .slice (some ⟨H.length,0,none⟩) b (eV b)/\o=H++[.row d sz (some 0)]/\(∀G:AH,fO P t b ps.toList G=some (.slice (some ⟨G.length,0,none⟩) b (eV b),G++[.row d sz (some 0)]))/\
   A7 D (Instr.buildSlice t b f) P (λy=>.slice (some ⟨y,0,none⟩) b (eV b)) d sz:=by
 have c:=h;unfold fO at h;split at h;rename_i F w;split at h;rename_i i m;split at h;rename_i z x;split at h;rename_i e;have ⟨e,X,n,s⟩:=e;split at h;rename_i d l;split at h;rename_i M;have ⟨p,N⟩:=M;cases h;have b6:cd D ((Array.range (b*i.size)).map (z.cells[· %z.cells.size]!)).toList ((Array.range (b*i.size)).map (z.cells[· %z.cells.size]!)).toList:=by
  refine cd.bq λa g=>?_;simp at g;obtain ⟨j,R,rfl⟩:=g;have r:j<b*i.size:=by simpa using R
  have b2:0<z.cells.size:=by rcases Nat.eq_zero_or_pos z.cells.size with c|c;rw [<-n,c] at r;simp at r;exact c
  have b1:=Nat.mod_lt j b2;rw [getElem!_pos z.cells _ b1];simp only [zQ] at e;exact e _ Z
 have ⟨k,A,C⟩:=lW ps.toList f.toList _ _ d l J K b6;have c2:k.size=d.size:=by have:=C.1;simp at this;omega
 refine ⟨d.toList,i.size,rfl,rfl,λG=>?_,λE=>⟨k,F,.slice (some ⟨E.heap.size,0,none⟩) b b,?_,W,λj a v g hv=>C.2 j a v g (Zs hv),by simpa only [zQ] using p,(.small (s)),λc3 y L=>?_⟩⟩;unfold fO;rw [n] at l;simp only [w,m,x,l,e,X,n,p,N,s,and_self,if_true];simp only [Instr.buildSlice,Sem.run_bind,run_underlying w,aV m,Result.andThen_ok];rw [zN O];by_cases c:b*i.size=0;have q:Instr.fill (λj=>some (j*i.size,i.size)) ((Array.range (b*i.size)).map ((#[]:Array aq)[· %(#[]:Array aq).size]!)) f.toList=some k:=by rw [<-A];congr 1;rw [c];apply Array.ext <;> simp
 simp only [c,if_true,Sem.run_bind,Sem.run_pure,Result.andThen_ok];rw [c] at q;rw [q];simp [newRow];simp only [c,if_false,Sem.run_bind,dr m x,Sem.run_pure,Result.andThen_ok];rw [A];simp [newRow];unfold eV;split;rename_i c;subst c;exact .pG;exact .sl L (zE _) W;cases h;cases h;cases h;cases h;cases h;cases h
theorem Bo [hP:Small P] {t:aP} {o j J q v:aq} {p:AH} (h:iB P t o j H=some (v,p)) (R:VR D o J) (M:VR D j q):
  ∃n k sz,v= .slice (some ⟨H.length,0,none⟩) n 1/\p=H++[.row k sz (some 0)]/\(∀G:AH,iB P t o j G=some (.slice (some ⟨G.length,0,none⟩) n 1,G++[.row k sz (some 0)]))/\
   A7 D (Instr.makeSlice t J q) P (λF=>.slice (some ⟨F,0,none⟩) n 1) k sz:=by
 unfold iB at h;split at h;rename_i L c3 c4 k' b6 y;cases R.int;cases M.int;split at h;rename_i e g;split at h;rename_i z A;split at h;rename_i N;obtain ⟨c,m,rfl,r,X,l,x⟩:=N;cases h;obtain ⟨n,rfl⟩:=yH r;have b1:i64.wrap (n:Int)=n:=by exact IntWalk.i64_in _ O
 have c2:cd D (List.replicate n z.cells.toList).flatten (List.replicate n z.cells.toList).flatten:=by refine cd.bq λa b=>?_;simp at b;obtain ⟨_,⟨_,rfl⟩,b⟩:=b;simp only [zQ] at c;exact c a b
 let C:Array aq:=(Array.range (n*e.size)).map (z.cells[· %z.cells.size]!)
 refine ⟨n,(List.replicate n z.cells.toList).flatten,e.size,rfl,rfl,λG=>?_,λE=>⟨C,L,.slice (some ⟨E.heap.size,0,none⟩) n n,?_,by simp [C,m],(λb2 a K b d=>by
  have ⟨f,s⟩:=oR _ _ _ _ b;have w:b2%z.cells.size<z.cells.size:=by simpa using aa f
  have:K=a:=by simp only [C,Array.getElem?_map] at d;rw [Array.getElem?_range] at d;simp only [xX,m] at s;rw [zO s] at d;simp at d;rw [getElem!_pos z.cells _ w] at d;rw [<-d];simp at f;simp [w] at f;exact f
  subst this;simp only [zQ] at c;exact .sc (c K (zI f))),(λa b=>by simp at b;obtain ⟨_,⟨_,rfl⟩,b⟩:=b;simp only [zQ] at c;exact eS (c a b)),(.small (x)),λc5 F l=>?_⟩⟩
 unfold iB;simp only [y,g,A,c,m,r,X,l,x,and_self,if_true,yW];simp only [Instr.makeSlice,Sem.run_bind,run_underlying y,asInt,asIntOf,Sem.run_pure,Result.andThen_ok,jL g,b1];rw [zN W];simp only [Sem.run_bind,run_askRoom,aV g,Result.andThen_ok,yW];by_cases i:n*e.size=0;have:C= #[]:=by show (Array.range (n*e.size)).map _=_;rw [i,rC];simp
 rw [zO i,this];simp only [i];simp [newRow,rC];rw [zN i];simp only [Sem.run_bind,dr g A,Sem.run_pure,Result.andThen_ok];simp [newRow,C];exact .sl l (zE _) (by simp [C]);cases h;cases h;cases h;cases h
theorem wo {ps:List (Nat×aq)} {c:AH} (h:fO P t a ps H=some (u,c)):
  ∃b sz,u= .slice (some ⟨H.length,0,none⟩) a (eV a)/\c=H++[.row b sz (some 0)]/\(∀G:AH,fO P t a ps G=some (.slice (some ⟨G.length,0,none⟩) a (eV a),G++[.row b sz (some 0)])):=by
 unfold fO at h;split at h;rename_i l j;split at h;rename_i i f;split at h;rename_i z k;split at h;rename_i g;split at h;rename_i b e;split at h;rename_i d;cases h;refine ⟨_,_,rfl,rfl,λG=>?_⟩;unfold fO;simp only [j,f,k,zO g,e,zO d];cases h;cases h;cases h;cases h;cases h;cases h
theorem tU {a:AH} (h:iB P t u v H=some (w,a)):
  ∃n b sz,w= .slice (some ⟨H.length,0,none⟩) n 1/\a=H++[.row b sz (some 0)]/\(∀G:AH,iB P t u v G=some (.slice (some ⟨G.length,0,none⟩) n 1,G++[.row b sz (some 0)])):=by
 unfold iB at h;split at h;rename_i j k l m c g;split at h;rename_i e f;split at h;rename_i z i;split at h;rename_i d;cases h;refine ⟨_,_,_,rfl,rfl,λG=>?_⟩;unfold iB;simp only [g,f,i,zO d];cases h;cases h;cases h;cases h
theorem yv {b:aQ} {sz:Nat} (h:H++[AO.row p sz (some 0)]=H++[AO.row b a (some 0)]):p=b/\sz=a:=by have:=List.append_cancel_left h;simpa using this
theorem fB {p:Operand->aq} {o:Oper} {t:AH} (g:cls P o=2) (h:fH P p o H=some (u,t)):
  ∃mk f sz,u=mk H.length/\t=H++[.row f sz (some 0)]/\(∀G:AH,fH P p o G=some (mk G.length,G++[.row f sz (some 0)]))/\
   ∀[Small P] (D:au) (k:Operand->aq),(∀x∈o.op.operands,VR D (p x) (k x))->∃s:Sem aq,execOp k o=(do pure (.value (<-s)))/\A7 D s P mk f sz:=by
 have ⟨c4,N,c9,pos,c2,guard⟩:=o;cases N <;> (try (simp [cls] at g;done));all_goals simp only [fH] at h ⊢
 case alloc e=>unfold mT at h ⊢;split at h;rename_i c6 w;split at h;rename_i b6 y;split at h;rename_i d;cases h;refine ⟨λi=>.pointer (some ⟨i,0,none⟩),b6.cells.toList,bc P e,rfl,rfl,λG=>by simp only [d,if_true];rfl,λD k _=>⟨_,rfl,?_⟩⟩;rcases oV d with ⟨xs,rfl⟩|L;simp [Value.cells,ak] at d;have:=tT (P:=P) (bc P e) (by simp at d ⊢;exact λa J=>eS (d a J)) (mk_zero w y d) L;intro E;obtain ⟨C,F,v',r1,r2⟩:=this E;exact ⟨C,F,v',by simpa [Instr.alloc,dr w y] using r1,r2⟩;cases h;cases h;cases h
 case box e x=>unfold pB at h ⊢;split at h;rename_i d;cases h;refine ⟨λi=>.pointer (some ⟨i,0,none⟩),(p x).cells.toList,bc P e,rfl,rfl,λG=>by rw [zO d];rfl,λD k j=>⟨_,rfl,?_⟩⟩;exact tT (bc P e) d.1 (Eu d.2) (j x (by simp [Op.operands]));cases h
 case buildSlice b2 n ps=>have ⟨f,sz,d,m,q⟩:=wo h;refine ⟨λi=>.slice (some ⟨i,0,none⟩) n (eV n),f,sz,d,m,q,λD k j=>⟨_,rfl,?_⟩⟩;obtain ⟨R,X⟩:=cd.parts (λx K=>j x (by simpa [Op.operands] using K));have ⟨z,b1,_,e,_,r⟩:=Fv h R X;obtain ⟨rfl,rfl⟩:=yv (m.symm.trans e);exact r
 case makeSlice b2 l c=>
  have ⟨n,f,sz,d,m,q⟩:=tU h;refine ⟨λi=>.slice (some ⟨i,0,none⟩) n 1,f,sz,d,m,q,λD k j=>⟨_,rfl,?_⟩⟩;have ⟨M,z,b1,v,e,_,r⟩:=Bo h (j l (by simp [Op.operands])) (j c (by simp [Op.operands]));obtain ⟨rfl,rfl⟩:=yv (m.symm.trans e);have:M=n:=by rw [d] at v;injection v with _ A _;exact A.symm
  subst this;exact r
 case convert s c3 x=>simp only [cls] at g;split at g <;> cases g
 case call c=>
  have ⟨callee,args,ts⟩:=c;cases callee with
  | value c5=>simp [cls] at g
  | invoke c8 c7=>simp [cls] at g
  | builtin b=>cases b <;> simp [cls] at g
end
def L6 (a:aA) (o:Oper):Nat:=o.after.toList.foldl (λs e=>if Region.binds .any e=true then s||| 2^e.on||| a.getD e.on 0 else s) 0
def eN:List Oper->aA->aA
 | [],a=>a
 | o::b,a=>eN b (a++[L6 a o])
theorem AZ (a:aA):∀(l:List Edge) (s i:Nat),(l.foldl (λs e=>if Region.binds .any e=true then s||| 2^e.on||| a.getD e.on 0 else s) s).testBit i=true->
  s.testBit i=true\/∃e∈l,Region.binds .any e/\(i=e.on\/(a.getD e.on 0).testBit i):=by
 intro l;induction l with
 | nil=>intro s i h;exact .inl h
 | cons e l g=>intro s i h;rw [List.foldl_cons] at h;rcases g _ i h with h|⟨c,d,f⟩;split at h;rename_i b;simp at h;rcases h with (h|h)|h;exact .inl h;exact .inr ⟨e,Z,b,.inl (by simpa [Nat.testBit_two_pow] using Eq.symm (by simpa [Nat.testBit_two_pow] using h))⟩;exact .inr ⟨e,Z,b,.inr h⟩;exact .inl h;exact .inr ⟨c,by simp [d],f⟩
theorem AY (c:aA):∀(l:List Edge) (s i:Nat),(s.testBit i=true\/∃e∈l,Region.binds .any e/\i=e.on)->(l.foldl (λs e=>if Region.binds .any e=true then s||| 2^e.on||| c.getD e.on 0 else s) s).testBit i=true:=by
 intro l;induction l with
 | nil=>intro s i h;rcases h with h|⟨e,h,_⟩;exact h;cases h
 | cons e l f=>intro s i h;rw [List.foldl_cons];apply f _ i;rcases h with h|⟨d,a,b,rfl⟩;left;split;simp [h];exact h;rcases yQ.1 a with rfl|a;left;rw [zO b];simp;exact .inr ⟨d,a,b,rfl⟩
theorem oD (S:Nat->Prop) (c:List Oper) (z:∀(j:Nat) (o:Oper),c[j]? =some o->S j->∀e∈o.after.toList,Region.binds .any e->S e.on):
  ∀(f:List Oper) (a:aA),(∀(j:Nat) (o:Oper),f[j]? =some o->c[a.length+j]? =some o)->
   (∀(j m:Nat) (o:Oper),a[j]? =some m->c[j]? =some o->(∀i,m.testBit i->(∀e∈o.after.toList,Region.binds .any e->S e.on)->S i)/\(∀e∈o.after.toList,Region.binds .any e->m.testBit e.on))->
   ∀(j m:Nat) (o:Oper),(eN f a)[j]? =some m->c[j]? =some o->(∀i,m.testBit i->(∀e∈o.after.toList,Region.binds .any e->S e.on)->S i)/\(∀e∈o.after.toList,Region.binds .any e->m.testBit e.on):=by
 intro f;induction f with
 | nil=>intro a _ h j m o b d;exact h j m o b d
 | cons o f E=>
  intro a t s;rw [eN];refine E _ (λj r b=>?_) (λj m r b q=>?_);have:=t (j+1) r (Zs b);rw [xC,List.length_singleton,show a.length+1+j=a.length+(j+1) by omega];exact this;rcases zX j a.length with w|A;rw [zB w] at b;exact s j m r b q;rw [zJ A] at b;have:=aa b;simp at this;have D:j=a.length:=O;subst D;have d:=t 0 o rfl;rw [wZ] at d;rw [d] at q;cases q;simp at b;subst b;refine ⟨λi C v=>?_,λe l k=>AY a _ 0 _ (.inr ⟨e,l,k,rfl⟩)⟩;rcases AZ a _ 0 i C with y|⟨e,l,k,rfl|g⟩;simp at y;exact v e l k;cases n:a[e.on]? with
  | none=>rw [zG,n] at g;simp at g
  | some mk=>
   rw [zG,n] at g;have w:=aa n;obtain ⟨p,x⟩:∃p,c[e.on]? =some p:=by have:=aa d;exact ⟨c[e.on],zA O⟩
   exact (s e.on mk p n x).1 i g (z e.on p x (v e l k))
def zt (M:aA) (i j:Nat):Bool:=(M.getD j 0).testBit i
section
variable {D:au} {H:AH} {E:World} {P:aB} {J:Array Oper}
def mH (P:aB) (J:Array Oper) (M:aA) (p q:Nat×aA):Bool:=
 match J[p.1]?,J[q.1]? with
 | some a,some b=>
  p.1 != q.1&& !zt M q.1 p.1&&
  (match a.dst with|some d=>b.dst != some d&&(!(b.looksAt J).contains d||zt M p.1 q.1)|none=>true)&&
  (match b.dst with|some d=> !(a.looksAt J).contains d||(zt M p.1 q.1&&cls P a != 1)|none=>true)&&
  (cls P a != 3||cls P b==0||zt M p.1 q.1)&&
  (cls P a != 1||cls P b != 3||zt M p.1 q.1||q.2.contains p.1)
 | _,_=>false
def nF (P:aB) (J:Array Oper) (M:aA):List (Nat×aA)->Bool
 | []=>true
 | p::ps=>ps.all (mH P J M p)&&nF P J M ps
def rJ (J:Array Oper) (p:Nat×aA):Bool:=
 match J[p.1]? with
 | some a=>kP a&&(match a.dst with|some d=> !(a.looksAt J).contains d|none=>true)&&a.after.toList.all λe=>decide (e.on<J.size)&&e.on != p.1
 | none=>false
def rK (P:aB) (J:Array Oper) (a:List (Nat×aA)):Bool:=
 a.length==J.size&&((List.range J.size).all λi=>a.any λp=>p.1==i)&&a.all (rJ J)&&nF P J (eN J.toList []) a
theorem sZ {M:aA}:∀(l:List (Nat×aA)),nF P J M l->∀(m a:Nat) (p b:Nat×aA),m<a->l[m]? =some p->l[a]? =some b->mH P J M p b:=by
 intro l;induction l with
 | nil=>intro _ m a p b _ h;simp at h
 | cons x l e=>
  intro h m a p b f c d;simp only [nF,zP,zQ] at h;cases a with
  | zero=>omega
  | succ a=>
   rw [xU] at d;cases m with
   | zero=>simp at c;subst c;exact h.1 b (zI d)
   | succ m=>rw [xU] at c;exact e h.2 m a p b O c d
theorem p8 {d:Callee}:∀(a:List (Nat×aA)) (s b:aQ×AH),eH P d J a s=some b->∃st:Nat->aQ×AH,st 0=s/\st a.length=b/\∀m p,a[m]? =some p->oe P d J p (st m)=some (st (m+1)):=by
 intro a;induction a with
 | nil=>intro s b h;cases h;exact ⟨λ_=>s,rfl,rfl,λm p h=>by simp at h⟩
 | cons x a j=>
  intro s b h;simp only [eH,zT] at h;have ⟨k,g,i⟩:=h;have ⟨st,e,f,e3⟩:=j k b i;refine ⟨λm=>match m with|0=>s|m+1=>st m,rfl,by simpa using f,λm p c=>?_⟩;cases m with
  | zero=>simp at c;subst c;simpa [e] using g
  | succ m=>exact e3 m p (Zs c)
theorem Bm {d e:Operand->aq} (o:Oper) (h:∀x∈o.op.operands,d x=e x) (H:AH):fH P d o H=fH P e o H:=by
 have ⟨v,q,y,pos,s,guard⟩:=o;have f:∀ps:Array (Nat×Operand),(∀x∈ps.map (·.2),d x=e x)->
   (ps.map λ(i,x)=>(i,d x))=(ps.map λ(i,x)=>(i,e x)):=λps k=>
  Array.map_congr_left λp j=>by have ⟨i,x⟩:=p;simp only [k x (Array.mem_map.2 ⟨(i,x),j,rfl⟩)]
 cases q <;> simp only [Op.operands] at h <;> simp only [fH]
 case build t ps=>rw [f ps λx a=>h x (Zs a)]
 case buildSlice t n ps=>rw [f ps λx a=>h x (Zs a)]
 case call c=>
  have ⟨callee,args,w⟩:=c;cases callee with
  | builtin b=>have:args.map d=args.map e:=Array.map_congr_left λx a=>h x (by simp [Call.operands,a]);simp only [this]
  | _=>rfl
 case slice t x l g m=>cases l <;> cases g <;> cases m <;> simp_all
 case makeMap t r=>cases r <;> rfl
 all_goals (first|rfl|(simp_all;done))
theorem Rel.FE (h:Rel D H E) {sz:Nat} (hn:D a=none) (P:H[a]? =some (.row p sz (some 0))) (C:Array aq) (l:aP) (hl:p.length<=C.size) (hv:∀(j:Nat) (k v:aq),p[j]? =some k->C[j]? =some v->VR D k v) (h1:∀k∈p,one k) (b6:s9 sz p C.size l):
  Rel (D.put a ⟨E.heap.size,C.size,sz⟩) H {E with heap:=E.heap.push (.cells C l (0,0))}:=by
 have hm:=au.gb hn ⟨E.heap.size,C.size,sz⟩;have g:∀i B,i≠a->D.put a ⟨E.heap.size,C.size,sz⟩ i=some B->D i=some B:=by intro i B d3 c;simpa [au.put,d3] using c
 have L:∀b,b<E.heap.size->(E.heap.push (Obj.cells C l (0,0)))[b]? =E.heap[b]? :=by intro b c;rw [xY,zN O]
 have c5:∀b m,dK E b=some m->dK {E with heap:=E.heap.push (.cells C l (0,0))} b=some m:=by
  intro b m c;unfold dK at c ⊢;have b2:b<E.heap.size:=by rcases zX b E.heap.size with n|n;exact n;rw [yS n] at c;cases c
  show (match (E.heap.push (Obj.cells C l (0,0)))[b]? with|some (.cells _ l _)=>some l|_=>none)=_;rw [L b b2];exact c
 refine ⟨⟨?_,?_,?_,?_⟩,?_,?_⟩;intro i c8 X ro B f t;by_cases x:i=a;subst x;rw [P] at f;cases f;rw [au.aC] at t;cases t;exact ⟨rfl,λ_=>h1,hl,C,l,(0,0),Z,rfl,λj k v ha c2 _=>(hv j k v ha c2).mono hm,λ_ j _=>tF j⟩;have w:=g i B x t;obtain ⟨q1,q2,q3,y,m,d1,r1,r2,r3,r4⟩:=h.rows i c8 X ro B f w;exact ⟨q1,q2,q3,y,m,d1,(L _ (h.blt f w Z)).trans r1,r2,λj k v ha c2 N=>(r3 j k v ha c2 N).mono hm,r4⟩;intro i es cl B f t;by_cases x:i=a;subst x;rw [P] at f;cases f;have w:=g i B x t;obtain ⟨q1,q2⟩:=h.maps i es cl B f w;exact ⟨(L _ (h.blt f w Z)).trans q1,q2⟩;intro i j o o' B B' M N c K R hd b1;by_cases d:i=a <;> by_cases z:j=a;left;rw [d,z];subst d;rw [au.aC] at c;cases c;have:=h.blt N (g j _ z K) hd;simp at b1;omega;subst z;rw [au.aC] at K;cases K;have:=h.blt M (g i _ d c) (by rintro rfl;cases R);simp at b1;omega;exact h.inj i j o o' B B' M N (g i _ d c) (g j _ z K) R hd b1;intro i B c;by_cases d:i=a;subst d;exact aa P;exact h.lt i B (g i B d c);have hl:=h.fx.pos;obtain ⟨⟨c9,d2,h0⟩,k1⟩:=h.fx;refine ⟨⟨c9,d2,(L 0 hl).trans h0⟩,λi o B M c R e=>?_⟩;by_cases d:i=a;subst d;rw [au.aC] at c;cases c;have e:E.heap.size=0:=e;omega;exact k1 i o B M (g i _ d c) R e;intro i ds X c6 B m o c7 A q F;by_cases d:i=a;subst d;rw [P] at A;cases A;rw [au.aC] at q;cases q;refine ⟨by rw [<-(b6 _ _ _ F).1];simp [dK],(b6 _ _ _ F).2.1,λc4 c3 _ r s _=>absurd ((b6 _ _ _ F).2.2 c4 c3 r) s⟩;have q:=g i B d q;obtain ⟨r1,r0,r2⟩:=h.bu i ds X c6 B m o c7 A q F;refine ⟨c5 _ _ r1,r0,λc4 c3 B' r s h7=>?_⟩;obtain ⟨_,_,p3,y,_,_,_,p4,p5,_⟩:=h.rows i ds X c6 B A q;have b2:o+1<y.size:=by rcases zX (o+1) ds.length with n|n;omega;rw [yI n] at r;cases r
 obtain ⟨_,⟨e,_⟩|⟨e,_⟩|⟨_,B2,_,J,_⟩⟩:=(p5 (o+1) _ y[o+1] r (yF b2) (λe=>by cases e)).eA;exact absurd e s;exact absurd e s;have J:=J;have:=hm _ _ J;rw [this] at h7;cases h7;exact c5 _ _ (r2 c4 c3 _ r s J)
theorem Ext.FE {m:au} {d:AH} {l:World} (h:Ext m d l D H E) (t:D a=none) (hid:d.length<=a) (ob:Obj) (n sz:Nat):
  Ext m d l (D.put a ⟨E.heap.size,n,sz⟩) H {E with heap:=E.heap.push ob}:={
 os:=h.os
 tape:=h.tape
 output:=h.output
 mono:=λi B c=>au.gb t _ i B (h.mono i B c)
 fix:=λi g p=>by obtain ⟨q,r⟩:=h.fix i g p;refine ⟨?_,r⟩;unfold au.put;rw [zN O];exact q
 len:=h.len
 size:=yN h.size Z
 frame:=λb c s=>by show (E.heap.push ob)[b]? =_;rw [xY,zN (Zo h.size)];exact h.frame b c s
 ro:=h.ro
 fresh:=λi o B g c v j=>by by_cases k:i=a;subst k;rw [au.aC] at c;cases c;have:=h.size;simp at j;omega;exact h.fresh i o B g (by simpa [au.put,k] using c) v j
 Iz:=λb e c=>by
  have c:=h.Iz b e c;unfold dK at c ⊢;have j:b<E.heap.size:=by rcases zX b E.heap.size with f|f;exact f;rw [yS f] at c;cases c
  show (match (E.heap.push ob)[b]? with|some (.cells _ e _)=>some e|_=>none)=_;rw [xY,zN O];exact c}
theorem Rel.more (h:Rel D H E) (ext:AH):Rel D (H++ext) E:=by
 have c:∀(i:Nat) (o:AO) (B:gJ),(H++ext)[i]? =some o->D i=some B->H[i]? =some o:=by intro i o B b a;rwa [zB (h.lt i B a)] at b
 refine ⟨⟨λi g sz d B b a=>h.rows i g sz d B (c i _ B b a) a,λi m cl B b a=>h.maps i m cl B (c i _ B b a) a,?_,λi B a=>?_⟩,⟨h.fx.1,λi o B b a=>h.fx.2 i o B (c i _ B b a) a⟩,λi k sz d B l o N b a=>h.bu i k sz d B l o N (c i _ B b a) a⟩;intro i j o s B e b q a f r n p;exact h.inj i j o s B e (c i _ B b a) (c j _ e q f) a f r n p;have:=h.lt i B a;simp;omega
theorem Ext.more {f:au} {c:AH} {e:World} (h:Ext f c e D H E) (m:Rel D H E) (ext:AH):Ext f c e D (H++ext) E:={
 os:=h.os
 tape:=h.tape
 output:=h.output
 mono:=h.mono
 fix:=λi a g=>by obtain ⟨j,k⟩:=h.fix i a g;exact ⟨j,by rw [zB (xG a h.len)];exact k⟩
 len:=yN h.len Z
 size:=h.size
 frame:=h.frame
 ro:=λi o a b=>cX (h.ro i o a b) ext
 fresh:=λi o B a d b l=>by rw [zB (m.lt i B d)] at a;exact h.fresh i o B a d b l
 Iz:=h.Iz}
end
structure Inv (P:aB) (ops:Array Oper) (plan:List (Nat×aA)) (st:Nat->aQ×AH) (β0:au) (w0:World) (sh:List Deferred) (S:Nat->Prop) (a:Act) (w:World) (β:au) (q:Nat):Prop where
 le:q<=plan.length
 M7:∀(m:Nat) (p:Nat×aA) (o:Oper),plan[m]? =some p->ops[p.1]? =some o->cls P o=3->(S p.1↔m<q)
 stop:q<plan.length->∃(p:Nat×aA) (o:Oper),plan[q]? =some p/\ops[p.1]? =some o/\cls P o=3
 rel:Rel β (st q).2 w
 ext:Ext β0 (st 0).2 w0 β (st q).2 w
 len:a.tmps.size=(st 0).1.length
 Yj:∀(m:Nat) (p:Nat×aA) (o:Oper) (t:Nat),plan[m]? =some p->ops[p.1]? =some o->o.dst=some t->S p.1->VR β ((st plan.length).1.getD t undef) (a.tmps.getD t undef)
 Gs:∀(t:Nat),(∀(m:Nat) (p:Nat×aA) (o:Oper),plan[m]? =some p->ops[p.1]? =some o->o.dst=some t->¬S p.1)->VR β ((st 0).1.getD t undef) (a.tmps.getD t undef)
 DX:∀(m:Nat) (p:Nat×aA) (o:Oper),m<q->plan[m]? =some p->ops[p.1]? =some o->cls P o=2->¬S p.1->Region.wanted o (bH ops (st m).1)->β (st m).2.length=none/\(st q).2[(st m).2.length]? =(st (m+1)).2[(st m).2.length]?
 rd:∀(m:Nat) (p:Nat×aA) (o:Oper) (v:aq),m<q->plan[m]? =some p->ops[p.1]? =some o->cls P o=1->¬S p.1->Region.wanted o (bH ops (st m).1)->fH P (ev (st m).1) o (st m).2=some (v,(st m).2)->fH P (ev (st m).1) o (st q).2=some (v,(st q).2)
 mono:∀(m m':Nat),m<=m'->m'<=q->(st m).2.length<=(st m').2.length
 sh:a.defers=sh
section
variable {P:aB} {J:Array Oper} {D:List (Nat×aA)} {st:Nat->aQ×AH} {h:Callee}
structure cf (P:aB) (call:Callee) (ops:Array Oper) (plan:List (Nat×aA)) (st:Nat->aQ×AH):Prop where
 len:plan.length=ops.size
 Kt:∀(i:Nat),i<ops.size->∃(m:Nat) (p:Nat×aA),plan[m]? =some p/\p.1=i
 self:∀(m:Nat) (p:Nat×aA),plan[m]? =some p->rJ ops p
 pair:∀(m m':Nat) (p p':Nat×aA),m<m'->plan[m]? =some p->plan[m']? =some p'->mH P ops (eN ops.toList []) p p'
 step:∀(m:Nat) (p:Nat×aA),plan[m]? =some p->oe P call ops p (st m)=some (st (m+1))
theorem cf.of {s b:aQ×AH} (c:rK P J D) (o:eH P h J D s=some b):∃st:Nat->aQ×AH,st 0=s/\st D.length=b/\cf P h J D st:=by obtain ⟨st,d,e,f⟩:=p8 D s b o;simp only [rK,zP,beq_iff_eq,zQ,List.any_eq_true,wH] at c;obtain ⟨⟨⟨q,r⟩,t⟩,v⟩:=c;refine ⟨st,d,e,q,λi j=>?_,λm p a=>t p (zI a),λm w p x k a n=>sZ D v m w p x k a n,f⟩;obtain ⟨p,a,g⟩:=r i j;obtain ⟨m,l,rfl⟩:=yA a;exact ⟨m,_,zA l,g⟩
theorem getD_set_ne (h:a≠b):(p.set a u).getD b undef=p.getD b undef:=by simp only [zG,zD h]
theorem cJ (b:aQ) (a:Option Tmp) (v:aq):(bZ b a v).length=b.length:=by cases a <;> simp [bZ]
theorem wx {b:Option Tmp} (h:b≠some a):(bZ p b u).getD a undef=p.getD a undef:=by
 cases b with
 | none=>rfl
 | some d=>exact getD_set_ne (λe=>h (Zr e))
namespace cf
variable (E:cf P h J D st)
include E
theorem oper {p:Nat×aA} (b:D[a]? =some p):∃o,J[p.1]? =some o:=by have:=E.self a p b;unfold rJ at this;split at this;exact ⟨_,by assumption⟩;cases this
theorem rU {p:Nat×aA} {o:Oper} (e:D[a]? =some p) (d:J[p.1]? =some o):
  (Region.wanted o (bH J (st a).1)=true/\∃v,kH P h (ev (st a).1) o (st a).2=some (v,(st (a+1)).2)/\(st (a+1)).1=bZ (st a).1 o.dst v/\p.2.all (vE P J (st (a+1)).1 (st (a+1)).2))\/
  (Region.wanted o (bH J (st a).1)=false/\(st (a+1)).2=(st a).2/\(st (a+1)).1=bZ (st a).1 o.dst undef):=by
 have b:=E.step a p e;unfold oe at b;rw [d] at b;simp only at b;split at b;rename_i c;split at b;rename_i v i g;split at b;rename_i f;simp at b;rw [<-b];exact .inl ⟨c,v,g,rfl,f⟩;cases b;cases b;rename_i c;simp at b;rw [<-b];exact .inr ⟨by simpa using c,rfl,rfl⟩
theorem put {m:Nat} {p:Nat×aA} {o:Oper} (b:D[m]? =some p) (a:J[p.1]? =some o):∃v,(st (m+1)).1=bZ (st m).1 o.dst v:=by rcases E.rU b a with ⟨_,v,_,h,_⟩|⟨_,_,h⟩;exact ⟨v,h⟩;exact ⟨undef,h⟩
theorem length (f:a<=D.length):(st a).1.length=(st 0).1.length:=by
 induction a with
 | zero=>rfl
 | succ a e=>have b:=zA (show a<D.length by omega);have ⟨o,c⟩:=E.oper b;have ⟨v,d⟩:=E.put b c;rw [d,cJ];exact e O
theorem aM {m:Nat}:∀(k:Nat),m+k<=D.length->(∀(b:Nat) (p:Nat×aA) (o:Oper),m<=b->b<m+k->D[b]? =some p->J[p.1]? =some o->o.dst≠some a)->(st (m+k)).1.getD a undef=(st m).1.getD a undef:=by
 intro k;induction k with
 | zero=>intro _ _;rfl
 | succ k g=>intro j h;have c:=zA (show m+k<D.length by omega);have ⟨o,d⟩:=E.oper c;have ⟨v,f⟩:=E.put c d;rw [show m+(k+1)=m+k+1 by omega,f,wx (h (m+k) _ o O O c d)];exact g O λb p o e i=>h b p o e O
theorem once {p d:Nat×aA} {o l:Oper} (j:D[a]? =some p) (g:J[p.1]? =some o) (e:o.dst=some c) (k:D[b]? =some d) (i:J[d.1]? =some l) (f:l.dst=some c):a=b:=by rcases xV a b with h|h|h;have:=E.pair a b p d h j k;unfold mH at this;rw [g,i] at this;simp [e,f] at this;exact h;have:=E.pair b a d p h k j;unfold mH at this;rw [g,i] at this;simp [e,f] at this
theorem final {p:Nat×aA} {o:Oper} (l:D[a]? =some p) (k:J[p.1]? =some o) (h:o.dst=some b) (i:a<c) (j:c<=D.length):(st c).1.getD b undef=(st D.length).1.getD b undef:=by
 have d:∀n,a<n->n<=D.length->(st n).1.getD b undef=(st (a+1)).1.getD b undef:=by
  intro n m q;have:=E.aM (m:=a+1) (n-(a+1)) O λt w v r s e f g=>by have:=E.once l k h e f g;omega
  rwa [show a+1+(n-(a+1))=n by omega] at this
 rw [d c i j,d D.length O (zE _)]
end cf
end
section
variable {P:aB} {J:Array Oper} {D:List (Nat×aA)} {st:Nat->aQ×AH} {h:Callee}
theorem rN:∀(a:List Oper) (b:aA),(eN a b).length=b.length+a.length:=by
 intro a;induction a with
 | nil=>intro b;simp [eN]
 | cons o a c=>intro b;rw [eN,c];simp;omega
def jV (J:Array Oper) (S:Nat->Prop):Prop:=∀(j:Nat) (o:Oper),J[j]? =some o->S j->∀e∈o.after.toList,Region.binds .any e->S e.on
theorem zb {o:Oper} (c:J[a]? =some o):∃m,(eN J.toList [])[a]? =some m/\∀i,zt (eN J.toList []) i a=m.testBit i:=by
 have b:a<(eN J.toList []).length:=by rw [rN];have:a<J.toList.length:=aa (Zs c);simpa using this
 exact ⟨_,zA b,λi=>by simp [zt,zG,zA b]⟩
theorem rZ {S:Nat->Prop} (g:jV J S) {o:Oper} (c:J[a]? =some o) (j:∀e∈o.after.toList,Region.binds .any e->S e.on) (h:zt (eN J.toList []) b a):S b:=by have ⟨m,d,f⟩:=zb c;rw [f] at h;exact (oD S J.toList (λa o i=>g a o (Zs i)) J.toList [] (λa o h=>by simpa using h) (λa m o h=>by simp at h) a m o d (Zs c)).1 b h j
theorem ES {o:Oper} (b:J[a]? =some o) {e:Edge} (g:e∈o.after.toList) (f:Region.binds .any e):zt (eN J.toList []) e.on a:=by have ⟨m,c,d⟩:=zb b;rw [d];exact (oD (λ_=>True) J.toList (λ_ _ _ _ _ _ _=>trivial) J.toList [] (λa o h=>by simpa using h) (λa m o h=>by simp at h) a m o c (Zs b)).2 e g f
structure Nr (P:aB) (ops:Array Oper) (p p':Nat×aA) (a b:Oper):Prop where
 ne:p.1≠p'.1
 not:zt (eN ops.toList []) p'.1 p.1=false
 out:∀d,a.dst=some d->d∈b.looksAt ops->zt (eN ops.toList []) p.1 p'.1
 inn:∀d,b.dst=some d->d∈a.looksAt ops->zt (eN ops.toList []) p.1 p'.1/\cls P a≠1
 act:cls P a=3->cls P b≠0->zt (eN ops.toList []) p.1 p'.1
 NY:cls P a=1->cls P b=3->zt (eN ops.toList []) p.1 p'.1\/p.1∈p'.2
theorem cf.mZ (g:cf P h J D st) {p e:Nat×aA} {m n:Oper} (w:a<b) (x:D[a]? =some p) (y:D[b]? =some e) (t:J[p.1]? =some m) (v:J[e.1]? =some n):Nr P J p e m n:=by have c:=g.pair a b p e w x y;unfold mH at c;rw [t,v] at c;simp only [zP,bne_iff_ne,ne_eq,xF,Bool.or_eq_true,beq_iff_eq] at c;obtain ⟨⟨⟨⟨⟨o,q⟩,i⟩,j⟩,r⟩,s⟩:=c;refine ⟨o,q,λd k l=>?_,λd k l=>?_,λc1 f=>?_,λc1 f=>?_⟩;rw [k] at i;simp only [zP,Bool.or_eq_true,xF] at i;rcases i.2 with c|c;rw [xE.2 l] at c;cases c;exact c;rw [k] at j;simp only [zP,Bool.or_eq_true,xF,bne_iff_ne,ne_eq] at j;rcases j with c|c;rw [xE.2 l] at c;cases c;exact c;rcases r with (c|c)|c;exact absurd c1 (Zs c);exact absurd c f;exact c;rcases s with ((c|c)|c)|c;exact absurd c1 (Zs c);exact absurd f (Zs c);exact .inl c;exact .inr (Zs c)
theorem cf.same (g:cf P h J D st) {p k:Nat×aA} (d:D[a]? =some p) (e:D[b]? =some k) (j:p.1=k.1):a=b:=by obtain ⟨l,f⟩:=g.oper d;obtain ⟨m,i⟩:=g.oper e;rcases xV a b with c|c|c;exact absurd j (g.mZ c d e f i).ne;exact c;exact absurd j.symm (g.mZ c e d i f).ne
theorem cf.yr (g:cf P h J D st) {p:Nat×aA} {c:Oper} (k:D[a]? =some p) (f:J[p.1]? =some c):kP c/\(∀d,c.dst=some d->d∉c.looksAt J)/\∀e∈c.after.toList,e.on<J.size/\e.on≠p.1:=by have b:=g.self a p k;unfold rJ at b;rw [f] at b;simp only [zP,zQ,decide_eq_true_eq,bne_iff_ne,ne_eq] at b;refine ⟨b.1.1,λd i j=>?_,b.2⟩;have:=b.1.2;rw [i] at this;simp only [xF] at this;rw [xE.2 j] at this;cases this
section
variable {β0 E:au} {w0 w:World} {sh:List Deferred} {S:Nat->Prop} {a:Act} {q:Nat}
theorem Inv.ah (C:Inv P J D st β0 w0 sh S a w E q) (g:cf P h J D st) (F:jV J S) {p:Nat×aA} {o:Oper} (v:D[b]? =some p) (s:J[p.1]? =some o) (R:¬S p.1) (X:∀e∈o.after.toList,Region.binds .any e->S e.on):
  ∀t∈o.looksAt J,VR E ((st b).1.getD t undef) (a.tmps.getD t undef):=by
 intro t K;have b2:=aa v;have L:(∀d (p:Nat×aA) (o:Oper),d<b->D[d]? =some p->J[p.1]? =some o->o.dst≠some t)->(st b).1.getD t undef=(st 0).1.getD t undef:=by intro k;have:=g.aM (m:=0) b O λd p o _ f=>k d p o O;rwa [yM] at this
 by_cases M:∃(d:Nat) (r:Nat×aA) (n:Oper),D[d]? =some r/\J[r.1]? =some n/\n.dst=some t;obtain ⟨d,r,n,j,i,m⟩:=M;rcases xV d b with k|k|k;have H:=(g.mZ k j v i s).out t m K;have x:=rZ F s X H;rw [g.final j i m k O];exact C.Yj d r n t j i m x;subst k;rw [v] at j;cases j;rw [s] at i;cases i;exact absurd K ((g.yr v s).2.1 t m);have H:=((g.mZ k v j s i).inn t m K).1;have x:=λx=>R (rZ F i (F r.1 n i x) H);rw [L λy A z b1 c f l=>by have:=g.once j i m c f l;omega]
 refine C.Gs t λy A z c f l=>?_;have:=g.once j i m c f l;subst this;rw [j] at c;cases c;exact x;have N:=λd r n c f l=>M ⟨d,r,n,c,f,l⟩;rw [L λy A z _ c f=>N y A z c f];exact C.Gs t λy A z c f l=>absurd l (N y A z c f)
theorem Inv.KO (l:Inv P J D st β0 w0 sh S a w E q) (g:cf P h J D st) (m:jV J S) {p:Nat×aA} {o:Oper} (j:D[b]? =some p) (d:J[p.1]? =some o) (n:¬S p.1) (r:∀e∈o.after.toList,Region.binds .any e->S e.on):
  ∀x∈o.op.operands,VR E (ev (st b).1 x) (a.eval x):=by
 intro x k;have i:=(g.yr j d).1;simp only [kP,zQ] at i;have c:=i x (Zs k);cases x with
 | tmp t=>apply l.ah g m j d n r t;unfold Oper.looksAt;apply List.mem_append_left _;exact List.mem_filterMap.2 ⟨.tmp t,by simpa using k,rfl⟩
 | const v=>exact VR.lP c
 | global g=>cases c
 | func f=>exact .sc rfl
theorem Inv.O9 (f:Inv P J D st β0 w0 sh S a w E q) (g:cf P h J D st) (m:jV J S) {p:Nat×aA} {o:Oper} (k:D[b]? =some p) (v:J[p.1]? =some o) (t:¬S p.1) (z:∀e∈o.after.toList,Region.binds .any e->S e.on):
  Region.wanted o (yielded J a.tmps)=Region.wanted o (bH J (st b).1):=by
 unfold Region.wanted;cases r:o.guard with
 | none=>rfl
 | some l=>
  obtain ⟨j,F⟩:=l;simp only;have:yielded J a.tmps j=bH J (st b).1 j:=by
   unfold yielded bH;cases n:(J[j]?).bind (·.dst) with
   | none=>rfl
   | some d=>
    have c:=f.ah g m k v t z d (by unfold Oper.looksAt;apply List.mem_append_right _;rw [r];simp [n])
    have A:(st b).1.length=a.tmps.size:=by rw [f.len];exact g.length (wJ (aa k))
    simp;rcases zX d a.tmps.size with i|s;rw [zG,yJ,zA O,yF i] at c;rw [zA O,yF i];simp at c;generalize (st b).1[d]=x at c;generalize a.tmps[d]=y at c;cases c <;> first|rfl|(rename_i C;cases x <;> rfl)
    rw [yI O,yS s]
  rw [this]
theorem kg (a:Act) (b:Option Tmp) (v:aq) (t:Nat) (h:b≠some t):(a.put b v).tmps.getD t undef=a.tmps.getD t undef:=by
 cases b with
 | none=>rfl
 | some d=>have c:d≠t:=λe=>h (Zr e);simp [Act.put,Array.getElem?_setIfInBounds_ne c]
theorem DS (a:Act) (b:Option Tmp) (v:aq):(a.put b v).tmps.size=a.tmps.size:=by cases b <;> simp [Act.put]
theorem put_defers (a:Act) (b:Option Tmp) (v:aq):(a.put b v).defers=a.defers:=by cases b <;> rfl
theorem Inv.later (m:Inv P J D st β0 w0 sh S a w E q) (g:cf P h J D st) {p:Nat×aA} {o:Oper} (j:D[b]? =some p) (n:J[p.1]? =some o) {r:au} (y:∀A B,E A=some B->r A=some B) (L:VR r u v) (H:(st (b+1)).1=bZ (st b).1 o.dst u):
  (a.put o.dst v).tmps.size=(st 0).1.length/\
  (∀(i:Nat) (c:Nat×aA) (f:Oper) (t:Nat),D[i]? =some c->J[c.1]? =some f->f.dst=some t->(c.1=p.1\/S c.1)->VR r ((st D.length).1.getD t undef) ((a.put o.dst v).tmps.getD t undef))/\
  (∀(t:Nat),(∀(i:Nat) (c:Nat×aA) (f:Oper),D[i]? =some c->J[c.1]? =some f->f.dst=some t->¬(c.1=p.1\/S c.1))->VR r ((st 0).1.getD t undef) ((a.put o.dst v).tmps.getD t undef)):=by
 have R:=aa j;refine ⟨(DS _ _ _).trans m.len,λi c f t d k l s=>?_,λt z=>?_⟩;by_cases x:c.1=p.1;have:=g.same d j x;subst this;rw [j] at d;cases d;rw [n] at k;cases k;rw [<-g.final j n l (yK _) O,H,l];have N:(st i).1.length=a.tmps.size:=by rw [m.len];exact g.length O
 simp only [bZ,Act.put];rcases zX t a.tmps.size with C|M;rw [zG,yJ,zF O,Array.getElem?_setIfInBounds_self_of_lt C];exact L;rw [zG,yJ,yI W,yS W];exact VR.undef;have K:=s.resolve_left x;rw [kg _ _ _ _ λe=>x (by have:=g.once d k l j n e;subst this;rw [j] at d;cases d;rfl)]
 exact (m.Yj i c f t d k l K).mono y;have F:=λe=>z b p o j n e (.inl rfl);rw [kg _ _ _ _ F];exact (m.Gs t λi c f d k l s=>z i c f d k l (.inr s)).mono y
theorem Inv.float (l:Inv P J D st β0 w0 sh S a w E q) (g:cf P h J D st) {p:Nat×aA} {o:Oper} (t:D[b]? =some p) (A:J[p.1]? =some o) (L:cls P o≠3) {n:au} {z:World} (N:∀C B,E C=some B->n C=some B) (hv:VR n u v) (X:(st (b+1)).1=bZ (st b).1 o.dst u)
  (b1:Rel n (st q).2 z) (M:Ext β0 (st 0).2 w0 n (st q).2 z) (R:∀(c:Nat) (d:Nat×aA) (j:Oper),c<q->c≠b->D[c]? =some d->J[d.1]? =some j->cls P j=2->¬S d.1->Region.wanted j (bH J (st c).1)->n (st c).2.length=none):
  Inv P J D st β0 w0 sh (λk=>k=p.1\/S k) (a.put o.dst v) z n q:=by
 obtain ⟨l1,l2,l3⟩:=l.later g t A N hv X;have H:∀{c:Nat} {d:Nat×aA},D[c]? =some d->¬(d.1=p.1\/S d.1)->c≠b/\¬S d.1:=λf i=>⟨λe=>i (.inl (by subst e;rw [t] at f;cases f;rfl)),λx=>i (.inr x)⟩;refine ⟨l.le,λc d j f i m=>?_,l.stop,b1,M,l1,l2,l3,λc d j s f i m y r=>?_,λc d j v1 s f i m y r K=>l.rd c d j v1 s f i m (H f y).2 r K,l.mono,(put_defers _ _ _).trans l.sh⟩;rw [<-l.M7 c d j f i m];constructor;rintro (e|x);have:=g.same f t e;subst this;rw [t] at f;cases f;rw [A] at i;cases i;exact absurd m L;exact x;exact .inr;obtain ⟨n1,F⟩:=H f y;exact ⟨R c d j s n1 f i m F r,(l.DX c d j s f i m F r).2⟩
end
end
section
variable {P:aB} {J:Array Oper} {D:List (Nat×aA)} {st:Nat->aQ×AH} {h:Callee}
theorem dk {a:Operand->aq} {o:Oper} (b:cls P o≠3) (H:AH):kH P h a o H=fH P a o H:=by unfold kH;split;rename_i f d e c;exact absurd (by simp [cls,c]) b;rfl
theorem qA {o:Oper} (h:cls P o≠3):cls P o=0\/cls P o=1\/cls P o=2:=by
 unfold cls at h ⊢;split <;> try simp_all
 split <;> simp_all;split <;> simp_all
theorem cf.hJ [s:Small P] (g:cf P h J D st) {m:Nat}:∀(k:Nat),m+k<=D.length->(∀(c:Nat) (p:Nat×aA) (o:Oper),m<=c->c<m+k->D[c]? =some p->J[p.1]? =some o->cls P o≠3)->∃ext,(st (m+k)).2=(st m).2++ext:=by
 intro k;induction k with
 | zero=>intro _ _;exact ⟨[],Z⟩
 | succ k q=>intro t f;obtain ⟨ext,d⟩:=q O λc p o n i=>f c p o n O;have e:=zA (show m+k<D.length by omega);obtain ⟨o,l⟩:=g.oper e;have j:=f (m+k) _ o O O e l;rw [show m+(k+1)=m+k+1 by omega];rcases g.rU e l with ⟨_,v,a,_,_⟩|⟨_,a,_⟩;rw [dk j] at a;rcases qA j with b|b|b;rw [(p9 b a).1];exact ⟨ext,d⟩;rw [(fA b a).1];exact ⟨ext,d⟩;obtain ⟨mk,r,sz,_,i,_⟩:=fB b a;rw [i,d];exact ⟨_,xA _ _ _⟩;rw [a];exact ⟨ext,d⟩
theorem cf.next (g:cf P h J D st):∀(k m:Nat),m+k=D.length->∃q,m<=q/\q<=D.length/\(q<D.length->∃(p:Nat×aA) (o:Oper),D[q]? =some p/\J[p.1]? =some o/\cls P o=3)/\∀(a:Nat) (p:Nat×aA) (o:Oper),m<=a->a<q->D[a]? =some p->J[p.1]? =some o->cls P o≠3:=by
 intro k;induction k with
 | zero=>intro m s;exact ⟨m,zE _,O,λy=>O,λa p o i b=>O⟩
 | succ k t=>intro m s;have c:=zA (show m<D.length by omega);obtain ⟨o,l⟩:=g.oper c;by_cases j:cls P o=3;exact ⟨m,zE _,O,λ_=>⟨_,o,c,l,j⟩,λa p o i b=>O⟩;obtain ⟨q,i,b,n,r⟩:=t (m+1) O;refine ⟨q,O,b,n,λa x w d v e f=>?_⟩;rcases Nat.eq_or_lt_of_le d with rfl|d;rw [c] at e;cases e;rw [l] at f;cases f;exact j;exact r a x w d v e f
section
variable {β0 E:au} {w0 w:World} {sh:List Deferred} {S:Nat->Prop} {a:Act} {q:Nat}
theorem Inv.before (j:Inv P J D st β0 w0 sh S a w E q) (g:cf P h J D st) (s:jV J S) {p:Nat×aA} {o:Oper} (l:D[b]? =some p) (k:J[p.1]? =some o) (F:¬S p.1) (z:∀e∈o.after.toList,Region.binds .any e->S e.on) (v:cls P o≠0):b<=q/\(cls P o≠3->b<q):=by
 have y:=aa l;have C:¬q<b:=by intro x;obtain ⟨n,m,f,d,i⟩:=j.stop O;have t:=(g.mZ x f l d k).act i v;have A:=rZ s k z t;have:=(j.M7 q n m f d i).1 A;omega
 refine ⟨O,λr=>?_⟩;rcases xV b q with c|c|c;exact c;subst c;obtain ⟨n,m,f,d,i⟩:=j.stop y;rw [l] at f;cases f;rw [k] at d;cases d;exact absurd i r;exact absurd c C
theorem Inv.act [hP:Small P] (l:Inv P J D st β0 w0 sh S a w E q) (g:cf P h J D st) (hS:jV J S) {p:Nat×aA} {o:Oper} (C:D[q]? =some p) (ho:J[p.1]? =some o) (hn:¬S p.1) (hc:cls P o=3)
  {L:au} {w':World} {v v':aq} (hv:VR L v v') (c5:(st (q+1)).1=bZ (st q).1 o.dst v) (b6:Rel L (st (q+1)).2 w') (A:Ext E (st q).2 w L (st (q+1)).2 w')
  (c6:∀(m:Nat) (p:Nat×aA) (o:Oper) (v:aq),m<q->D[m]? =some p->J[p.1]? =some o->cls P o=1->¬S p.1->Region.wanted o (bH J (st m).1)->fH P (ev (st m).1) o (st m).2=some (v,(st m).2)->fH P (ev (st m).1) o (st (q+1)).2=some (v,(st (q+1)).2)):
  ∃k,Inv P J D st β0 w0 sh (λc3=>c3=p.1\/S c3) (a.put o.dst v') w' L k:=by
 have c8:=aa C;obtain ⟨k,k1,k2,k3,K⟩:=g.next (D.length-(q+1)) (q+1) O;obtain ⟨ext,z⟩:=g.hJ (k-(q+1)) O (λi p o b c=>K i p o b O);rw [show q+1+(k-(q+1))=k by omega] at z;obtain ⟨l1,l2,l3⟩:=l.later g C ho A.mono hv c5;have ne:∀{f:Nat} {j:Nat×aA},D[f]? =some j->¬(j.1=p.1\/S j.1)->f≠q/\¬S j.1:=λb c=>⟨λe=>c (.inl (by subst e;rw [C] at b;cases b;rfl)),λr=>c (.inr r)⟩;have N:∀m,q+1<=m->m<=k->∃s n,(st m).2=(st (q+1)).2++s/\(st k).2=(st m).2++n:=by intro m b c;obtain ⟨s,d⟩:=g.hJ (m-(q+1)) O (λi p o b c=>K i p o b O);obtain ⟨n,x⟩:=g.hJ (m:=m) (k-m) O (λi p o b c=>K i p o O O);rw [show q+1+(m-(q+1))=m by omega] at d;rw [show m+(k-m)=k by omega] at x;exact ⟨s,n,d,x⟩
 refine ⟨k,k2,λf j t b c d=>?_,k3,by rw [z];exact b6.more ext,by rw [z];exact (l.ext.trans A).more b6 ext,l1,l2,l3,λf j t b1 b c d x y=>?_,λf j t v1 b1 b c d x y h6=>?_,λm i b c=>?_,(put_defers _ _ _).trans l.sh⟩;constructor;rintro (e|r);have:=g.same b C e;omega;have:=(l.M7 f j t b c d).1 r;omega;intro b1;rcases xV f q with r|r|r;exact .inr ((l.M7 f j t b c d).2 r);subst r;rw [C] at b;cases b;exact .inl rfl;exact absurd d (K f j t O b1 b c);obtain ⟨n1,n2⟩:=ne b x;rcases zX f q with b2|c4;obtain ⟨R,X⟩:=l.DX f j t b2 b c d n2 y;have hid:(st f).2.length<(st q).2.length:=by rcases g.rU b c with ⟨_,v1,F,_,_⟩|⟨H,_⟩;rw [dk O] at F;obtain ⟨mk,cs,sz,_,n,_⟩:=fB d F;have:=l.mono (f+1) q O (zE _);rw [n] at this;simp at this;omega;rw [y] at H;cases H
 obtain ⟨r3,r4⟩:=A.fix _ hid R;refine ⟨r3,?_⟩;rw [z,zB (xG hid A.len),r4,X];obtain ⟨s,n,R,X⟩:=N f O O;obtain ⟨e3,e4,r3,r4⟩:=N (f+1) O O;refine ⟨?_,?_⟩;cases hb:L (st f).2.length with
 | none=>rfl
 | some B=>have:=b6.lt _ B hb;rw [R] at this;simp at this;omega
 rw [r4];rcases g.rU b c with ⟨_,v1,F,_,_⟩|⟨H,_⟩;rw [dk O] at F;obtain ⟨mk,cs,sz,_,e5,_⟩:=fB d F;rw [zB (by rw [e5];simp)];rw [y] at H;cases H;obtain ⟨n1,n2⟩:=ne b x;rcases zX f q with b2|c4;have:=c6 f j t v1 b2 b c d n2 y h6;have:=(fA d this).2 ext;rwa [<-z] at this;obtain ⟨s,n,R,X⟩:=N f O O;rw [X];exact (fA d h6).2 n;have c7:=λm M=>yN (l.mono m q M (zE _)) A.len;rcases zX q m with M|M;obtain ⟨s,d⟩:=g.hJ (m:=m) (i-m) O (λm2 p o b c=>K m2 p o O O);rw [show m+(i-m)=i by omega] at d;rw [d];simp;rcases zX q i with c2|c2;obtain ⟨s,_,d,_⟩:=N i O c;have:=c7 m M;rw [d];simp;omega;exact l.mono m i b c2
theorem Inv.step [hP:Small P] (b:Inv P J D st β0 w0 sh S a w E q) (g:cf P h J D st) (d3:db P h) (v:jV J S) {m:Nat} {p:Nat×aA} {o:Oper} (d:D[m]? =some p) (c:J[p.1]? =some o) (k:¬S p.1) (X:∀d1∈o.after.toList,Region.binds .any d1->S d1.on)
  {e6:Act->World->Prop} {Q:Exit->Act->World->Prop} (hK:∀(a':Act) (L:World) (M:au) (q':Nat),Inv P J D st β0 w0 sh (λf6=>f6=p.1\/S f6) a' L M q'->e6 a' L):wpOp P J Q p.1 e6 a w:=by
 have i6:=b.O9 g v d c k X;have c8:=b.KO g v d c k X;have j6:=aa d;have d9:∀{M:au} {H':AH} {L:World},Ext E (st q).2 w M H' L->∀j (K:Nat×aA) (F:Oper),j<q->j≠m->D[j]? =some K->J[K.1]? =some F->cls P F=2->¬S K.1->Region.wanted F (bH J (st j).1)->M (st j).2.length=none:=by intro M H' L he j K F x _ f e n R r;obtain ⟨r1,r2⟩:=b.DX j K F x f e n R r;refine (he.fix _ ?_ r1).1;rcases g.rU f e with ⟨_,v1,s,_,_⟩|⟨y,_⟩;rw [dk O] at s;obtain ⟨mk,cs,sz,_,N,_⟩:=fB n s;have:=b.mono (j+1) q O (zE _);rw [N] at this;simp at this;omega;rw [r] at y;cases y
 unfold wpOp;rw [c];simp only;rw [i6];rcases g.rU d c with ⟨y,i9,s,c2,f2⟩|⟨y,d4,c2⟩;rw [zO y];refine .inl ?_;by_cases i:cls P o=3;have d7:m=q:=by have f:=(b.before g v d c k X O).1;have e:¬m<q:=λc4=>k ((b.M7 m p o d c i).2 c4);omega
 subst d7;refine nA d3 s b.rel c8 λv' L M q1 q2 z=>?_;obtain ⟨q',d2⟩:=b.act g v d c k i q1 c2 q2 z λl p2 H v2 x f e n R r h6=>by
  have h8:=g.mZ x f d e c;have g9:=λhb=>R (rZ v c X hb);have g7:=(h8.NY n i).resolve_left g9;simp at f2;have C:=f2 _ g7;have f7:∀t∈H.looksAt J,(st (m+1)).1.getD t undef=(st l).1.getD t undef:=by
   intro t ht;have:=g.aM (m:=l) (m+1-l) O λm' p' o' k1 k2 k3 k4 k5=>by rcases Nat.eq_or_lt_of_le k1 with rfl|k1;rw [f] at k3;cases k3;rw [e] at k4;cases k4;exact (g.yr f e).2.1 t k5 ht;exact ((g.mZ k1 f k3 e k4).inn t k5 ht).2 n
   rwa [show l+(m+1-l)=m+1 by omega] at this
  have d6:(st (m+1)).1.length=(st l).1.length:=(g.length O).trans (g.length O).symm;have i5:Region.wanted H (bH J (st (m+1)).1):=by
   rw [<-r];unfold Region.wanted;cases hg:H.guard with
   | none=>rfl
   | some gd=>
    obtain ⟨i7,j9⟩:=gd;simp only;congr 1;unfold bH;cases hd:(J[i7]?).bind (·.dst) with
    | none=>rfl
    | some c3=>
     have hv:=f7 c3 (by unfold Oper.looksAt;apply List.mem_append_right _;rw [hg];simp [hd])
     simp;rcases zX c3 (st l).1.length with hl|hl;have d5:c3<(st (m+1)).1.length:=by rw [d6];exact hl
     simp only [zG,zA hl,zA d5,Option.getD_some] at hv ⊢;rw [hv];have d5:(st (m+1)).1.length<=c3:=by rw [d6];exact hl
     rw [yI hl,yI d5]
  have g4:fH P (ev (st (m+1)).1) H (st (m+1)).2=fH P (ev (st l).1) H (st (m+1)).2:=Bm H (λj5 hx=>by
   cases j5 with
   | tmp t=>apply f7 t;unfold Oper.looksAt;apply List.mem_append_left _;exact List.mem_filterMap.2 ⟨.tmp t,by simpa using hx,rfl⟩
   | _=>rfl) _
  unfold vE at C;rw [e] at C;simp only [i5,Bool.not_true,Bool.false_or] at C;rw [g4] at C;split at C;rename_i v3 H3 c3 e1 N;simp only [zP,decide_eq_true_eq] at C;obtain ⟨g3,i4⟩:=C;have f8:=(fA n e1).1;subst f8;have c6:=BV i4;have hf:=g.final f e N (show l<m+1 by omega) O;have g6:=g.final f e N (yK l) O;rcases g.rU f e with ⟨_,v4,d8,h9,_⟩|⟨f5,_⟩;rw [dk O,h6] at d8;simp at d8;obtain ⟨rfl,_⟩:=d8;rw [hf,<-g6,h9,N] at c6;simp only [bZ,zG] at c6;rw [zF (by rw [<-d6];exact g3)] at c6;simp at c6;rw [e1,c6];rw [r] at f5;cases f5;cases C
 exact hK _ _ _ _ d2;rw [dk i] at s;rcases qA i with A|A|A;have c5:=(p9 A s).2 (st q).2;rw [<-dk i] at c5;refine nA d3 c5 b.rel c8 λv' L M q1 q2 z=>?_;exact hK _ _ _ _ (b.float g d c i z.mono q1 c2 q2 (b.ext.trans z) (d9 z));have x:=(b.before g v d c k X O).2 i;have i3:=(fA A s).1;rw [i3] at s;have c5:=b.rd m p o i9 x d c A k y s;rw [<-dk i] at c5;refine nA d3 c5 b.rel c8 λv' L M q1 q2 z=>?_;exact hK _ _ _ _ (b.float g d c i z.mono q1 c2 q2 (b.ext.trans z) (d9 z));have x:=(b.before g v d c k X O).2 i;obtain ⟨mk,cs,sz,e1,N,_,e4⟩:=fB A s;obtain ⟨j8,i2,f9⟩:=e4 E a.eval c8;obtain ⟨c9,el,v',b1,b2,b3,b4,b6,b5⟩:=f9 w;obtain ⟨r1,r2⟩:=b.DX m p o x d c A k y;have h7:(st q).2[(st m).2.length]? =some (.row cs sz (some 0)):=by rw [r2,N];simp
 have hid:=b.mono 0 m (zZ _) O;have i1:=b.rel.FE r1 h7 c9 el b2 b3 b4 b6;have g5:=b.ext.FE r1 hid (.cells c9 el (0,0)) c9.size sz;unfold Oper.wp;rw [i2];simp only [Sem.run_bind,b1,Result.andThen_ok,Sem.run_pure];refine hK _ _ _ _ (b.float g d c i (au.gb r1 _) (by rw [e1];exact b5 _ _ (au.aC _ _ _)) c2 i1 g5 ?_);intro j K F g8 j7 f e n R r;obtain ⟨k1,k2⟩:=b.DX j K F g8 f e n R r;unfold au.put;rw [zN];exact k1;intro d1;have f1:∀c7 (pi:Nat×aA) (oi:Oper),D[c7]? =some pi->J[pi.1]? =some oi->cls P oi=2->Region.wanted oi (bH J (st c7).1)->(st (c7+1)).2.length=(st c7).2.length+1:=by intro c7 pi oi j1 j2 j3 j4;rcases g.rU j1 j2 with ⟨_,v1,f3,_,_⟩|⟨f4,_⟩;rw [dk O] at f3;obtain ⟨_,_,_,_,e5,_⟩:=fB j3 f3;rw [e5];simp;rw [j4] at f4;cases f4
 have g1:=f1 m p o d c A y;have g2:=f1 j K F f e n r;rcases zX m j with hh|hh;have:=b.mono (m+1) j O O;omega;have:=b.mono (j+1) m O O;omega;rw [zN (by rw [y];simp)];by_cases i:cls P o=3;have d7:m=q:=by have f:=(b.before g v d c k X O).1;have e:¬m<q:=λc4=>k ((b.M7 m p o d c i).2 c4);omega
 subst d7;obtain ⟨q',d2⟩:=b.act g v d c k i VR.undef c2 (by rw [d4];exact b.rel) (by rw [d4];exact Ext.refl _ _ _) λl p2 H v2 x f e n R r h6=>by rw [d4];exact b.rd l p2 H v2 x f e n R r h6
 exact hK _ _ _ _ d2;exact hK _ _ _ _ (b.float g d c i (λ_ _ c4=>c4) VR.undef c2 b.rel b.ext (d9 (Ext.refl _ _ _)))
end
end
section
variable {P:aB} {J:Array Oper} {D:List (Nat×aA)} {st:Nat->aQ×AH} {h:Callee}
def qI (a:Array Bool) (i:Nat):Prop:=a.getD i false=true
theorem Inv.all {C n:au} {A w:World} {s:List Deferred} {S:Nat->Prop} {k:Act} (d:Inv P J D st C A s S k w n a) (g:cf P h J D st) (v:∀i,i<J.size->S i):Rel n (st D.length).2 w/\Ext C (st 0).2 A n (st D.length).2 w/\Tm n (st D.length).1 k/\k.defers=s:=by
 have E:a=D.length:=by
  rcases Nat.eq_or_lt_of_le d.le with b|b;exact b;obtain ⟨p,o,e,c,f⟩:=d.stop b;have:=(d.M7 a p o e c f).1 (v _ (by rcases zX p.1 J.size with b|b;exact b;rw [yS b] at c;cases c))
  omega
 subst E;refine ⟨d.rel,d.ext,⟨by rw [g.length (zE _),<-d.len];simp,λt x y F H=>?_⟩,d.sh⟩;have z:VR n ((st D.length).1.getD t undef) (k.tmps.getD t undef):=by
  by_cases r:∃(j:Nat) (l:Nat×aA) (q:Oper),D[j]? =some l/\J[l.1]? =some q/\q.dst=some t;obtain ⟨j,l,q,e,c,f⟩:=r;exact d.Yj j l q t e c f (v _ (by rcases zX l.1 J.size with b|b;exact b;rw [yS b] at c;cases c))
  have:=g.aM (m:=0) D.length O λj p o _ _ e c f=>r ⟨j,p,o,e,c,f⟩;rw [yM] at this;rw [this];exact d.Gs t λj p o e c f=>absurd ⟨j,p,o,e,c,f⟩ r
 have K:k.tmps[t]? =some y:=by simpa using H
 rw [zG,yJ,F,K] at z;exact z
theorem Nl [hP:Small P] (g:cf P h J D st) (c9:db P h) {b2:au} {w0:World} {F:List Deferred} {Q:Exit->Act->World->Prop}
  (hQ:∀(c:au) (a:Act) (w:World),Rel c (st D.length).2 w->Ext b2 (st 0).2 w0 c (st D.length).2 w->Tm c (st D.length).1 a->a.defers=F->Q .normal a w):
  ∀(t:Nat) (b:Array Bool) (a:Act) (w:World) (c:au) (q:Nat),b.size=J.size->jV J (qI b)->Inv P J D st b2 w0 F (qI b) a w c q->b.toList.count false<=t->wpAny P .any J Q t b a w:=by
 have b6:∀b (a:Act) (w:World) (c:au) (q:Nat),Inv P J D st b2 w0 F (qI b) a w c q->(∀i,i<J.size->qI b i)->Q .normal a w:=by intro b a w c q r E;have ⟨v,x,C,H⟩:=r.all g E;exact hQ c a w v x C H
 have d4:∀b,b.size=J.size->Region.ready .any J b=[]->∀i,i<J.size->qI b i:=by
  intro b A X;have d3:∀(n m:Nat),m<n->∀p,D[m]? =some p->qI b p.1:=by
   intro n;induction n with
   | zero=>intro m hm;omega
   | succ n ih=>
    intro m hm p o;have ⟨b1,f⟩:=g.oper o;have d:p.1<J.size:=by rcases zX p.1 J.size with j|j;exact j;rw [yS j] at f;cases f
    refine Classical.byContradiction λy=>?_;have c5:p.1∈Region.ready .any J b:=by
     unfold Region.ready;refine List.mem_filter.2 ⟨wH.2 d,?_⟩;have v:b.getD p.1 true=false:=by unfold qI at y;rw [yJ,yF O] at y ⊢;simpa using y
     rw [v,f];simp only [Bool.not_false,Bool.true_and,zH,Option.getD_some,Array.all_eq_true'];intro e s;by_cases l:Region.binds .any e;have c3:e∈b1.after.toList:=by simpa using s
     have ⟨k1,k2⟩:=(g.yr o f).2.2 e c3;have ⟨m2,p2,z,L⟩:=g.Kt e.on k1;have ⟨o2,d1⟩:=g.oper z;have c8:=ES f c3 l;have d6:m2<m:=by rcases xV m2 m with j|j|j;exact j;subst j;rw [o] at z;cases z;exact absurd L.symm k2;have:=(g.mZ j o z f d1).not;rw [L,c8] at this;cases this
     have:=ih m2 O p2 z;rw [L] at this;unfold qI at this;rw [this];simp;simp [l]
    rw [X] at c5;cases c5
  intro i d;obtain ⟨m,p,o,rfl⟩:=g.Kt i d;exact d3 (m+1) m O p o
 intro t;induction t with
 | zero=>
  intro b a w c q A K r hc;have E:∀i,i<J.size->qI b i:=by
   intro i d;unfold qI;rw [yJ,yF O];have h0:false∉b.toList:=List.count_eq_zero.1 O;cases l:b[i] with
   | true=>rfl
   | false=>exact absurd (by rw [<-l];simp) h0
  refine ⟨?_,b6 b a w c q r E⟩;unfold Region.ready;rw [List.filter_eq_nil_iff];intro i d;have:=E i (wH.1 d);unfold qI at this;rw [yJ,yF (Zo (wH.1 d))] at this ⊢;simp at this;simp [this]
 | succ t ih=>
  intro b a w c q A K r hc;refine ⟨λX=>b6 b a w c q r (d4 b A X),λi d=>?_⟩;unfold Region.ready at d;have ⟨v,x⟩:=List.mem_filter.1 d;have c4:=wH.1 v;obtain ⟨m,p,o,rfl⟩:=g.Kt i c4;have ⟨b1,f⟩:=g.oper o;rw [f] at x;simp only [zP,xF,zH,Option.getD_some,Array.all_eq_true'] at x;have ⟨C,H⟩:=x;have M:b[p.1]? =some false:=by rw [yJ,yF O] at C;rw [yF O];simpa using C
  have y:¬qI b p.1:=by unfold qI;rw [yJ,M];simp
  have c6:∀e∈b1.after.toList,Region.binds .any e->qI b e.on:=by intro e s l;have:=H e (Zs s);simpa [l,qI] using this
  have c2:qI (b.setIfInBounds p.1 true)=λk=>k=p.1\/qI b k:=by funext k;unfold qI;apply propext;rw [yJ,yJ,Array.getElem?_setIfInBounds];by_cases R:p.1=k;subst R;simp [A,c4];have:¬k=p.1:=λe=>R e.symm;simp [R,this]
  refine r.step g c9 K o f y c6 λa' w' d5 q' c7=>?_;refine ih _ a' w' d5 q' (Zs A) ?_ (by rw [c2];exact c7) ?_;rw [c2];intro d2 oj N hs e s l;rcases hs with rfl|hs;rw [f] at N;cases N;exact .inr (c6 e s l);exact .inr (K d2 oj N hs e s l);rw [Array.toList_setIfInBounds,List.count_set W];have:b.toList[p.1]'W=false:=by rw [yF O] at M;simpa using M
  rw [this];simpa using hc
theorem HY [hP:Small P] (hm:P.follows .mixedOrders) (b1:db P h) (b6:rK P J D) {s r:aQ×AH} (x:eH P h J D s=some r) {f:au} {a:Act} {w:World} (H:Rel f s.2 w) (L:Tm f s.1 a) {Q:Exit->Act->World->Prop} {id:Nat}
  (hQ:∀(E:au) (v:Act) (C:World),Rel E r.2 C->Ext f s.2 w E r.2 C->Tm E r.1 v->v.defers=a.defers->Q .normal v C):(Code.region id J true).wp P Q a w:=by
 have ⟨st,X,b,g⟩:=cf.of b6 x;subst X b;apply wp_region_any hm;have K:Rel f (st 0).2 {w with drawn:=w.drawn+1}:=H.drew _;have b2:Ext f (st 0).2 w f (st 0).2 {w with drawn:=w.drawn+1}:=Ext.drew _;have ⟨q,k1,k2,k3,n⟩:=g.next D.length 0 O;have ⟨ext,y⟩:=g.hJ q O (λe p o b d=>n e p o b O);rw [yM] at y;have A:∀i,¬qI (Array.replicate J.size false) i:=by intro i;unfold qI;rw [yJ,Array.getElem?_replicate];split <;> simp
 have part:∀m,m<=q->∃j k,(st m).2=(st 0).2++j/\(st q).2=(st m).2++k:=by intro m d;have ⟨j,c⟩:=g.hJ m O (λe p o b d=>n e p o b O);have ⟨k,F⟩:=g.hJ (m:=m) (q-m) O (λe p o b d=>n e p o O O);rw [yM] at c;rw [show m+(q-m)=q by omega] at F;exact ⟨j,k,c,F⟩
 refine Nl g b1 hQ J.size _ a _ f q Z (λc2 o _ l=>absurd l (A c2)) ?_ ?_;refine ⟨k2,λm p o b d c=>⟨λx=>absurd x (A _),λz=>absurd c (n m p o (zZ _) z b d)⟩,k3,by rw [y];exact K.more ext,by rw [y];exact b2.more K ext,?_,λm p o t _ _ _ l=>absurd l (A _),λt _=>Tm.get L t,λm p o z b d c _ hw=>?_,λm p o c3 z b d c _ _ hv=>?_,λm e b d=>?_,rfl⟩;have:=L.1;simp at this;exact this.symm;have ⟨j,k,N,R⟩:=part m O;have ⟨e3,e4,r3,r4⟩:=part (m+1) O;refine ⟨?_,?_⟩;cases hb:f (st m).2.length with
 | none=>rfl
 | some B=>have:=H.lt _ B hb;rw [N] at this;simp at this;omega
 rw [r4];rcases g.rU b d with ⟨_,v1,l,_,_⟩|⟨M,_⟩;rw [dk O] at l;have ⟨mk,cs,sz,_,e5,_⟩:=fB c l;rw [zB (by rw [e5];simp)];rw [hw] at M;cases M;have ⟨j,k,N,R⟩:=part m O;rw [R];exact (fA c hv).2 k;have ⟨j,c⟩:=g.hJ (m:=m) (e-m) O (λm2 p o b d=>n m2 p o (zZ _) O);rw [show m+(e-m)=e by omega] at c;rw [c];simp;simp
abbrev cR:=Nat->Nat->List (Nat×aA)
def nB (n:Nat):List (Nat×aA):=(List.range n).map λi=>(i,[])
def pn (a:aQ->AH->Option (Exit×aQ×AH)):Nat->aQ->AH->Option (Exit×aQ×AH)
 | 0,_,_=>none
 | n+1,c,H=>match a c H with
  | some (.normal,d,b)=>pn a n d b
  | r=>r
def di (P:aB) (Pl:cR) (h:Callee) (L K:Nat):Code->aQ->AH->Option (Exit×aQ×AH)
 | .skip,d,H=>some (.normal,d,H)
 | .region e J j,d,H=>(eH P h J (if j=true then Pl K e else nB J.size) (d,H)).map λs=>(.normal,s.1,s.2)
 | .seq a b,d,H=>match di P Pl h L K a d H with
  | some (.normal,g,f)=>di P Pl h L K b g f
  | r=>r
 | .cond c a b,d,H=>match ev d c with
  | .bool t=>if t=true then di P Pl h L K a d H else di P Pl h L K b d H
  | _=>none
 | .block e c,d,H=>match di P Pl h L K c d H with
  | some (.exit i,g,f)=>if i=e then some (.normal,g,f) else some (.exit i,g,f)
  | r=>r
 | .loop c,d,H=>pn (di P Pl h L K c) L d H
 | .exit e,d,H=>some (.exit e,d,H)
 | .ret,d,H=>some (.ret,d,H)
 | _,_,_=>none
def dX (P:aB) (Pl:cR) (K:Nat):Code->Bool
 | .region e J d=>if d=true then rK P J (Pl K e) else J.toList.all kP
 | .seq a b=>dX P Pl K a&&dX P Pl K b
 | .cond c a b=>pI c&&dX P Pl K a&&dX P Pl K b
 | .block _ c=>dX P Pl K c
 | .loop c=>dX P Pl K c
 | _=>true
def Fin (g:au) (H:AH) (w:World) (f:List Deferred) (ex:Exit) (h:aQ) (b:AH):Exit->Act->World->Prop:=λe c d=>e=ex/\c.defers=f/\∃a,Rel a b d/\Ext g H w a b d/\Tm a h c
section
variable {Pl:cR} {L K:Nat}
theorem FC [hP:Small P] (hm:P.follows .mixedOrders) (b6:db P h):∀(c:Code),dX P Pl K c->∀(l:aQ) (H:AH) (ex:Exit) (o:aQ) (k:AH),di P Pl h L K c l H=some (ex,o,k)->
  ∀(g:au) (a:Act) (w:World),Rel g H w->Tm g l a->c.wp P (Fin g H w a.defers ex o k) a w:=by
 intro c;induction c with
 | skip=>intro _ l H ex o k b g a w j i;cases b;exact wp_skip ⟨rfl,rfl,g,j,Ext.refl _ _ _,i⟩
 | region id J c5=>
  intro f l H ex o k b g a w j i;simp only [di] at b;simp only [dX] at f;have ⟨d9,z,R⟩:=map_some b;cases R;cases c5 with
  | true=>simp at z f;exact HY hm b6 f z j i λb2 a' w' p q r q4=>⟨rfl,q4,b2,p,q,r⟩
  | false=>simp only [xD,if_false] at z f;simp only [zQ] at f;exact wp_region (DW b6 (λd4 ho=>f d4 (Zs ho)) _ _ _ g a w z j i λb2 a' w' p q r q4=>⟨rfl,q4,b2,p,q,r⟩)
 | seq d6 d7 M b1=>
  intro f l H ex o k b g a w j i;simp only [dX,zP] at f;simp only [di] at b;apply wp_seq;split at b;rename_i y v z;refine wp_mono (M f.1 l H .normal y v z g a w j i) λe a1 d x=>?_;obtain ⟨rfl,t,s,p,q,r⟩:=x;refine wp_mono (b1 f.2 y v ex o k b s a1 d p r) λe2 a2 N c7=>?_;obtain ⟨rfl,c6,E,r1,r2,r3⟩:=c7;exact ⟨rfl,c6.trans t,E,r1,q.trans r2,r3⟩;rename_i A;refine wp_mono (M f.1 l H ex o k b g a w j i) λe a1 d x=>?_;obtain ⟨rfl,t,s,p,q,r⟩:=x;cases e with
  | normal=>exact absurd b (A _ _)
  | _=>exact ⟨rfl,t,s,p,q,r⟩
 | cond c d6 d7 M b1=>intro f l H ex o k b g a w j i;simp only [dX,zP] at f;simp only [di] at b;split at b;rename_i d5 hc;have hv:=EM i f.1.1;rw [hc] at hv;apply wp_cond hv.bool;cases d5;simp at b ⊢;exact b1 f.2 l H ex o k b g a w j i;simp at b ⊢;exact M f.1.2 l H ex o k b g a w j i;cases b
 | block id c D=>
  intro f l H ex o k b g a w j i;simp only [dX] at f;simp only [di] at b;apply wp_block;split at b;rename_i d2 y v z;refine wp_mono (D f l H _ y v z g a w j i) λe a1 d x=>?_;obtain ⟨rfl,t,s,p,q,r⟩:=x;simp only [Exit.inBlock];split at b;rename_i hi;cases b;rw [zO hi];exact ⟨rfl,t,s,p,q,r⟩;rename_i hi;cases b;rw [zN hi];exact ⟨rfl,t,s,p,q,r⟩;rename_i A;refine wp_mono (D f l H ex o k b g a w j i) λe a1 d x=>?_;obtain ⟨rfl,t,s,p,q,r⟩:=x;cases e with
  | exit d2=>exact absurd b (A _ _ _)
  | _=>exact ⟨rfl,t,s,p,q,r⟩
 | loop c D=>
  intro f l H ex o k b g a w j i;simp only [dX] at f;simp only [di] at b;let X:Nat->Act->World->Prop:=λn a1 d=>∃y v s,pn (di P Pl h L K c) n y v=some (ex,o,k)/\Rel s v d/\Ext g H w s v d/\Tm s y a1/\a1.defers=a.defers
  have c2:∀a1 d,(∃n,X n a1 d)->∃n,X n a1 d/\∀m,X m a1 d->n<=m:=by
   intro a1 d ⟨n,A⟩;induction n using Nat.strongRecOn with
   | _ n d3=>
    by_cases hx:∃m,m<n/\X m a1 d;have ⟨m,c8,c9⟩:=hx;exact d3 m c8 c9;exact ⟨n,A,λm hm=>by rcases zX m n with b|b;exact absurd ⟨m,b,hm⟩ hx;exact b⟩
  let F:Act->World->Nat:=λa1 d=>by
   classical
   exact if b:∃n,X n a1 d then (c2 a1 d b).choose else 0
  have c3:∀a1 d (b:∃n,X n a1 d),X (F a1 d) a1 d/\∀m,X m a1 d->F a1 d<=m:=by intro a1 d b;have:=(c2 a1 d b).choose_spec;simp only [F,dif_pos b];exact this
  refine wp_loop (λa1 d=>∃n,X n a1 d) F ⟨L,l,H,g,b,j,Ext.refl _ _ _,i,rfl⟩ λa1 d hI=>?_;have ⟨⟨y,v,s,C,k2,k3,k4,k5⟩,d8⟩:=c3 a1 d hI;generalize A:F a1 d=n at*;cases n with
  | zero=>cases C
  | succ n=>
   simp only [pn] at C;split at C;rename_i c4 H2 R;refine wp_mono (D f y v .normal c4 H2 R s a1 d k2 k4) λe a2 N x=>?_;obtain ⟨rfl,t,E,p,q,r⟩:=x;have hX:X n a2 N:=⟨c4,H2,E,C,p,k3.trans q,r,t.trans k5⟩;refine ⟨⟨n,hX⟩,?_⟩;have:=(c3 a2 N ⟨n,hX⟩).2 n hX;omega;rename_i d1;refine wp_mono (D f y v ex o k C s a1 d k2 k4) λe a2 N x=>?_;obtain ⟨rfl,t,E,p,q,r⟩:=x;cases e with
   | normal=>exact absurd C (d1 _ _)
   | _=>exact ⟨rfl,t.trans k5,E,p,k3.trans q,r⟩
 | exit id=>intro _ l H ex o k b g a w j i;cases b;exact wp_exit ⟨rfl,rfl,g,j,Ext.refl _ _ _,i⟩
 | ret=>intro _ l H ex o k b g a w j i;cases b;exact wp_ret ⟨rfl,rfl,g,j,Ext.refl _ _ _,i⟩
 | _=>intro _ l H ex o k b;cases b
end
end
section
variable {P:aB} {Pl:cR} {L:Nat}
def fG (P:aB) (b:aQ) (H:AH):ResultVar->fR
 | .tmp t=>some (b.getD t undef)
 | .cell a t=>cV P t (b.getD a undef) H
def wu (P:aB) (e:List ResultVar) (d:aQ) (H:AH):fR:=
 match e with
 | []=>some (.tuple #[])
 | [r]=>fG P d H r
 | [r,s]=>match fG P d H r,fG P d H s with
  | some a,some b=>some (.tuple #[a,b])
  | _,_=>none
 | [r,s,t]=>match fG P d H r,fG P d H s,fG P d H t with
  | some a,some b,some c=>some (.tuple #[a,b,c])
  | _,_,_=>none
 | _=>none
def KG (b:Array aq):ResultVar->Sem aq
 | .tmp t=>pure (b.getD t undef)
 | .cell a t=>do loadVar t (<-asAddr (b.getD a undef))
theorem fU {f:au} {H:AH} {w:World} {a:Act} {r:ResultVar} (h:fG P p H r=some u) (j:Rel f H w) (c:Tm f p a):∃b,(KG a.tmps r).run P w= .ok b w/\VR f u b:=by
 cases r with
 | tmp t=>cases h;exact ⟨_,rfl,Tm.get c t⟩
 | cell d t=>
  simp only [fG] at h;have ⟨b,k,l⟩:=qE h j (Tm.get c d);refine ⟨b,?_,l⟩;rw [<-k];have:∃A,a.tmps.getD d undef= .pointer (some A):=by have g:=Tm.get c d;unfold cV at h;split at h;rename_i m n e;rw [e] at g;exact g.lJ;cases h
  have ⟨A,i⟩:=this;simp only [KG,Instr.loadAt,i,asAddr,Instr.sureAddr]
theorem vD (b:Func) (c:Array aq):results b c=(do
  let a <-b.results.mapM (KG c)
  pure (if h:a.size=1 then a[0] else .tuple a)):=by
 unfold results;congr 1
theorem Fw {q:au} {H:AH} {w:World} {a:Act} {g:Func} (h:wu P g.results.toList p H=some u) (b:Rel q H w) (c:Tm q p a):∃f,(results g a.tmps).run P w= .ok f w/\VR q u f:=by rw [vD];generalize F:g.results=A at h ⊢;have ⟨l⟩:=A;simp only at h;unfold wu at h;split at h;cases h;exact ⟨.tuple #[],Z,VR.undef⟩;rename_i r;have ⟨f,d,e⟩:=fU h b c;exact ⟨f,by simp [d],e⟩;rename_i r s;split at h;rename_i x y i j;cases h;have ⟨n,d,e⟩:=fU i b c;have ⟨o,k,m⟩:=fU j b c;exact ⟨.tuple #[n,o],by simp [d,k],VR.rL (cd.cons e (cd.cons m .nil))⟩;cases h;rename_i r s t;split at h;rename_i x y z i j v;cases h;have ⟨n,d,e⟩:=fU i b c;have ⟨o,k,m⟩:=fU j b c;have ⟨E,C,D⟩:=fU v b c;exact ⟨.tuple #[n,o,E],by simp [d,k,C],VR.rL (cd.cons e (cd.cons m (cd.cons D .nil)))⟩;cases h;cases h
abbrev qK:=Nat->Option (aQ->AH->Option (aq×AH))
def qG (P:aB) (Pl:cR) (f:Callee) (L K:Nat) (b:Func) (c:Code) (e:aQ) (H:AH):Option (aq×AH):=
 match di P Pl f L K c (e++List.replicate (b.ntmps-e.length) undef) H with
 | some (.normal,d,a)=>(wu P b.results.toList d a).map λv=>(v,a)
 | some (.ret,d,a)=>(wu P b.results.toList d a).map λv=>(v,a)
 | _=>none
def fJ (P:aB) (Pl:cR) (d:qK) (dq:Nat->Bool) (L:Nat):Nat->Callee
 | 0=>λ_ _ _=>none
 | n+1=>λK a H=>
  match d K with
  | some f=>f a H
  | none=>if dq K=true then
    match P.funcs[K]? with
    | some b=>match b.body with
     | some c=>qG P Pl (fJ P Pl d dq L n) L K b c a H
     | none=>none
    | none=>none
   else none
theorem u0 [hP:Small P] (hm:P.follows .mixedOrders) {o:qK} {dq:Nat->Bool}
  (c4:∀K f,o K=some f->db P (λX b H=>if X=K then f b H else none))
  (c3:∀K a c,dq K->P.funcs[K]? =some a->a.body=some c->dX P Pl K c):∀n,db P (fJ P Pl o dq L n):=by
 intro n;induction n with
 | zero=>intro K b H r d h;cases h
 | succ n ih=>
  intro K b H r d h b1 m w g D s;simp only [fJ] at h;cases q:o K with
  | some f=>rw [q] at h;exact c4 K f q K b H r d (Zs h) b1 m w g D s
  | none=>
   rw [q] at h;simp only at h;split at h;rename_i c2;split at h;rename_i a C;split at h;rename_i c z;have b2:=c3 K a c c2 C z;apply calls_of_wp C z;have ht:Tm m (b++List.replicate (a.ntmps-b.length) undef) {tmps:=g.toArray++Array.replicate (a.ntmps-g.toArray.size) undef,defers:=[]}:=by
    have:cd m (List.replicate (a.ntmps-b.length) undef) (List.replicate (a.ntmps-b.length) undef):=by refine ⟨rfl,λc6 c7 c8 E F=>?_⟩;rw [E] at F;cases F;have:=zI E;rw [List.mem_replicate] at this;rw [this.2];exact VR.undef
    have e:a.ntmps-g.toArray.size=a.ntmps-b.length:=by simp [s.1]
    rw [e];simpa [Tm] using s.append this
   have y:∀(ex:Exit) (j:aQ),(ex= .normal\/ex= .ret)->di P Pl (fJ P Pl o dq L n) L K c (b++List.replicate (a.ntmps-b.length) undef) H=some (ex,j,d)->wu P a.results.toList j d=some r->
     c.wp P (bodyPost P a λe x=>∃v i,e= .returned v/\VR i r v/\Rel i d x/\Ext m H w i d x) {tmps:=g.toArray++Array.replicate (a.ntmps-g.toArray.size) undef,defers:=[]} w:=by
    intro ex j b6 k l;refine wp_mono (FC hm ih c b2 _ H ex j d k m _ w D ht) λe c5 x hf=>?_;obtain ⟨rfl,A,i,t,J,q3⟩:=hf;have ⟨v,M,N⟩:=Fw l t q3;rcases b6 with rfl|rfl;exact ⟨A,v,M,v,i,rfl,N,t,J⟩;exact ⟨A,v,M,v,i,rfl,N,t,J⟩
   unfold qG at h;split at h;rename_i j R k;have ⟨v0,l,p⟩:=map_some h;cases p;exact y _ _ (.inl rfl) k l;rename_i j R k;have ⟨v0,l,p⟩:=map_some h;cases p;exact y _ _ (.inr rfl) k l;cases h;cases h;cases h;cases h
end
end V
namespace T
open Go V
inductive TV where
 | u
 | v (x:aq)
 | sl (o:Bool) (es:List (List TV))
 | p (r:Bool) (id off:Nat)
 | q (r:Bool) (id az i sz off:Nat)
 | pe (cs:List TV) (off:Nat)
 | m (r:Bool) (id az off n sz:Nat)
 | mp (id:Nat)
 | ag (cs:List TV)
 | tu (vs:List TV)
inductive TO where
 | row (cs:List TV) (sz:Nat)
 | aY (az sz:Nat) (es:List (List TV))
 | mp (es:Array MapEntry) (cl:Nat)
 | dead
abbrev aH:=Bool->Nat->Nat->dj
def TO.az:TO->dj
 | .row _ _=>some 0
 | .aY k _ _=>some k
 | .mp _ _=>some 0
 | .dead=>none
def ob (l s:List TO) (r:Bool):List TO:=bif r then s else l
def Mu (X:Nat->Prop) (c:aH) (l s:List TO) (b:Nat):Prop:=X b\/∃r a o k,(ob l s r)[a]? =some o/\o.az=some k/\c r a k=some b
def vS:aq->Bool
 | .slice _ _ _=>true
 | _=>false
def ng:TV->Bool
 | .v _=>true
 | .sl o _=> !o
 | _=>false
def pM:List TV->Bool
 | []=>true
 | x::l=>ng x&&pM l
def kz:TV->Bool
 | .v _=>true
 | .sl o _=> !o
 | .p r _ _=>r
 | .q r _ _ _ _ _=>r
 | .m r _ _ _ _ _=>r
 | .mp _=>true
 | .pe _ _=>true
 | _=>false
def n4:List TV->Bool
 | []=>true
 | x::l=>kz x&&n4 l
def cI:TV->Bool
 | .u=>false
 | .ag _=>false
 | .tu _=>false
 | .p r _ _=>r
 | .q r _ _ _ _ _=>r
 | .m r _ _ _ _ _=>r
 | _=>true
def cK:List TV->Bool
 | []=>true
 | x::l=>cI x&&cK l
inductive TR (ι:aH) (M:Nat->Prop) (H:AH):TV->aq->Prop
 | u {x:aq}:TR ι M H .u x
 | v {x:aq} (h:ak x) (hn:vS x=false):TR ι M H (.v x) x
 | sn {o:Bool}:TR ι M H (.sl o []) (.slice none 0 0)
 | s0 {o:Bool} {id off:Nat}:TR ι M H (.sl o []) (.slice (some ⟨id,off,none⟩) 0 0)
 | se {id off c:Nat}:TR ι M H (.sl false []) (.slice (some ⟨id,off,none⟩) 0 c)
 | sl {o:Bool} {es:List (List TV)} {dI off sz:Nat} {C:aQ} {lo:dj} (ho:H[dI]? =some (.row C sz lo)) (hm:¬M dI) (hl:off+es.length*sz<=C.length) (hs:∀e∈es,e.length=sz/\pM e) (hne:o->es≠[])
   (h:∀(i j:Nat) (e:List TV) (x:TV) (c:aq),es[i]? =some e->e[j]? =some x->C[off+i*sz+j]? =some c->TR ι M H x c):TR ι M H (.sl o es) (.slice (some ⟨dI,off,none⟩) es.length 1)
 | p {r:Bool} {id off dI:Nat} (h:ι r id 0=some dI):TR ι M H (.p r id off) (.pointer (some ⟨dI,off,none⟩))
 | q {r:Bool} {id az i sz off dI:Nat} (h:ι r id az=some dI):TR ι M H (.q r id az i sz off) (.pointer (some ⟨dI,i*sz+off,none⟩))
 | m {r:Bool} {id az off n sz dI:Nat} (h:ι r id az=some dI):TR ι M H (.m r id az off n sz) (.slice (some ⟨dI,off*sz,none⟩) n 1)
 | pe {cs:List TV} {off dI base sz:Nat} {C:aQ} {lo:dj} (ho:H[dI]? =some (.row C sz lo)) (hm:¬M dI) (hl:base+cs.length<=C.length) (hb:pM cs)
   (h:∀(j:Nat) (x:TV) (c:aq),cs[j]? =some x->C[base+j]? =some c->TR ι M H x c):TR ι M H (.pe cs off) (.pointer (some ⟨dI,base+off,none⟩))
 | mp {id dI:Nat} (h:ι true id 0=some dI):TR ι M H (.mp id) (.map (some dI))
 | ag {cs:List TV} {xs:Array aq} (hs:cs.length=xs.size) (h:∀(j:Nat) (x:TV) (c:aq),cs[j]? =some x->xs[j]? =some c->TR ι M H x c):TR ι M H (.ag cs) (.agg xs)
 | tu {cs:List TV} {xs:Array aq} (hs:cs.length=xs.size) (h:∀(j:Nat) (x:TV) (c:aq),cs[j]? =some x->xs[j]? =some c->TR ι M H x c):TR ι M H (.tu cs) (.tuple xs)
def gT (d:aH) (M:Nat->Prop) (H:AH) (a:List TV) (b:aQ):Prop:=a.length=b.length/\∀(j:Nat) (x:TV) (c:aq),a[j]? =some x->b[j]? =some c->TR d M H x c
def JS (d:aH) (M:Nat->Prop) (H:AH) (a:List (List TV)) (sz:Nat) (C:aQ) (b:Nat):Prop:=
 (∀e∈a,e.length=sz/\n4 e)/\b+a.length*sz<=C.length/\∀(i j:Nat) (e:List TV) (x:TV) (c:aq),a[i]? =some e->e[j]? =some x->C[b+i*sz+j]? =some c->TR d M H x c
section
variable {D E:aH} {M J:Nat->Prop} {H h:AH}
structure Le (ι:aH) (M:Nat->Prop) (H:AH) (ι':aH) (M':Nat->Prop) (H':AH):Prop where
 qv:∀(r:Bool) (id k dI:Nat),ι r id k=some dI->ι' r id k=some dI
 aM:∀(dI:Nat) (C:aQ) (sz:Nat) (lo:dj),H[dI]? =some (.row C sz lo)->¬M dI->¬M' dI/\∃lo',H'[dI]? =some (.row C sz lo')
theorem Le.refl (D:aH) (M:Nat->Prop) (H:AH):Le D M H D M H:=⟨λ_ _ _ _ h=>h,λ_ _ _ _ h a=>⟨a,_,h⟩⟩
theorem Le.trans {g:aH} {c:Nat->Prop} {b:AH} (d:Le D M H E J h) (k:Le E J h g c b):Le D M H g c b:=
 ⟨λr f n a e=>k.qv r f n a (d.qv r f n a e),λa C sz m e l=>by obtain ⟨i,o,j⟩:=d.aM a C sz m e l;exact k.aM a C sz o j i⟩
theorem TR.mono (c:Le D M H E J h) {x:TV} {v:aq} (a:TR D M H x v):TR E J h x v:=by
 induction a with
 | u=>exact .u
 | v a o=>exact .v a o
 | sn=>exact .sn
 | s0=>exact .s0
 | se=>exact .se
 | sl g f d n e s b=>obtain ⟨j,r,l⟩:=c.aM _ _ _ _ g f;exact .sl l j d n e b
 | p a=>exact .p (c.qv _ _ _ _ a)
 | q a=>exact .q (c.qv _ _ _ _ a)
 | m a=>exact .m (c.qv _ _ _ _ a)
 | pe g f d e n b=>obtain ⟨j,r,l⟩:=c.aM _ _ _ _ g f;exact .pe l j d e b
 | mp a=>exact .mp (c.qv _ _ _ _ a)
 | ag i a b=>exact .ag i b
 | tu i a b=>exact .tu i b
theorem gT.mono (f:Le D M H E J h) {b:List TV} {d:aQ} (a:gT D M H b d):gT E J h b d:=⟨a.1,λj x c g e=>(a.2 j x c g e).mono f⟩
theorem JS.mono (m:Le D M H E J h) {b:List (List TV)} {sz:Nat} {C:aQ} {d:Nat} (a:JS D M H b sz C d):JS E J h b sz C d:=
 ⟨a.1,a.2.1,λi j e x c f g l=>(a.2.2 i j e x c f g l).mono m⟩
end
def iJ:TV->Nat->Option TV
 | .ag a,j=>a[j]?
 | x,0=>some x
 | _,_=>none
def eI:TV->Nat->Nat->Option TV
 | .tu a,i,j=>(a[i]?).bind λx=>iJ x j
 | x,0,j=>iJ x j
 | _,_,_=>none
def jv:aq->Nat->fR
 | .agg a,j=>a[j]?
 | x,0=>some x
 | _,_=>none
def mo:aq->Nat->Nat->fR
 | .tuple a,i,j=>(a[i]?).bind λx=>jv x j
 | x,0,j=>jv x j
 | _,_,_=>none
inductive Loc where
 | t (n i j:Nat)
 | c (r:Bool) (id j:Nat)
 | o (r:Bool) (id:Nat)
def Fr (H:AH) (a:Addr) (n:Nat):Prop:=a.off=0/\∃C sz b,H[a.block]? =some (.row C sz (some b))/\C.length=n*sz/\b<=C.length
def Own (d:Nat->Option Loc) (H:AH) (x:TV) (v:aq) (c:Nat->Nat->Loc):Prop:=∀(i j:Nat) (b:List (List TV)) (a:Addr) (n:Nat),eI x i j=some (.sl true b)->mo v i j=some (.slice (some a) n 1)->d a.block=some (c i j)/\Fr H a n
def a1l (f:Nat->Option Loc) (H:AH) (e:List TV) (d:aQ) (c:Nat->Loc):Prop:=∀(j:Nat) (b:List (List TV)) (a:Addr) (n:Nat),e[j]? =some (.sl true b)->d[j]? =some (.slice (some a) n 1)->f a.block=some (c j)/\Fr H a n
def OR (c:aH) (M:Nat->Prop) (f:Nat->Option Loc) (H:AH) (w:Bool) (r:Bool) (b:Nat):TO->Prop
 | .row g sz=>cK g=true/\∃a C,c r b 0=some a/\H[a]? =some (.row C sz (some 0))/\gT c M H g C/\f a=(bif w then some (.o r b) else none)/\(w=true->a1l f H g C (.c r b))
 | .aY k sz d=>∃a C,c r b k=some a/\H[a]? =some (.row C sz (some 0))/\C.length=d.length*sz/\JS c M H d sz C 0/\f a=(bif w then some (.o r b) else none)/\∀h,k<h->c r b h=none
 | .mp d cl=>∃a,c r b 0=some a/\H[a]? =some (.mp d cl)/\(∀e∈d,ak e.key/\ak e.val)/\f a=(bif w then some (.o r b) else none)
 | .dead=>True
abbrev TF:=Nat->TV
def wr (a:Nat) (r:Bool) (b:Nat):Bool:=bif r then Nat.ble a b else true
structure St (X:Nat->Prop) (ι:aH) (ω:Nat->Option Loc) (fl:Nat) (H:AH) (τ:TF) (l s:List TO) (V:aQ):Prop where
 tm:∀t,TR ι (Mu X ι l s) H (τ t) (V.getD t undef)
 ow:∀t,Own ω H (τ t) (V.getD t undef) (.t t)
 ob:∀r id o,(ob l s r)[id]? =some o->OR ι (Mu X ι l s) ω H (wr fl r id) r id o
 lt:∀dI loc,ω dI=some loc->dI<H.length
 fC:∀r id k dI,ι r id k=some dI->id<(T.ob l s r).length/\dI<H.length
 mM:fl<=s.length
 xl:∀v,X v->v<H.length
 xo:∀v,X v->ω v=none
structure Xt (X:Nat->Prop) (fl:Nat) (ι:aH) (ω:Nat->Option Loc) (H:AH) (l s:List TO) (ι':aH) (ω':Nat->Option Loc) (H':AH) (l' s':List TO):Prop where
 qv:∀r id k dI,ι r id k=some dI->ι' r id k=some dI
 len:H.length<=H'.length
 same:∀dI,dI<H.length->ω dI=none->H'[dI]? =H[dI]? /\ω' dI=none
 aM:∀dI C sz lo,H[dI]? =some (.row C sz lo)->¬Mu X ι l s dI->∃lo',H'[dI]? =some (.row C sz lo')
 mu:∀dI,Mu X ι' l' s' dI->Mu X ι l s dI\/H.length<=dI
 BD:∀id,id<fl->s'[id]? =s[id]?
section
variable {X:Nat->Prop} {fl:Nat} {D E J:aH} {h ω' ω'':Nat->Option Loc} {H H' H'':AH} {l s l' s' l'' s'':List TO}
theorem Xt.refl:Xt X fl D h H l s D h H l s:=⟨λ_ _ _ _ a=>a,zE _,λ_ _ a=>⟨rfl,a⟩,λ_ _ _ _ a _=>⟨_,a⟩,λ_ a=>.inl a,λ_ _=>rfl⟩
theorem Xt.le (a:Xt X fl D h H l s E ω' H' l' s'):Le D (Mu X D l s) H E (Mu X E l' s') H':=
 ⟨a.qv,λe C sz g d c=>⟨λf=>by rcases a.mu e f with b|b;exact c b;have:=aa d;omega,a.aM e C sz g d c⟩⟩
theorem Xt.trans (b:Xt X fl D h H l s E ω' H' l' s') (k:Xt X fl E ω' H' l' s' J ω'' H'' l'' s''):Xt X fl D h H l s J ω'' H'' l'' s'':={
 qv:=λr d n a e=>k.qv r d n a (b.qv r d n a e)
 len:=yN b.len k.len
 same:=λa f j=>by obtain ⟨c,g⟩:=b.same a f j;obtain ⟨o,p⟩:=k.same a (xG f b.len) g;exact ⟨o.trans c,p⟩
 aM:=λa C sz q m i=>by obtain ⟨c,t,g⟩:=b.le.aM a C sz q m i;exact k.aM a C sz t g c
 mu:=λa f=>by rcases k.mu a f with c|c;exact b.mu a c;exact .inr (yN b.len c)
 BD:=λd hid=>(k.BD d hid).trans (b.BD d hid)}
end
end T
namespace T
open Go V
variable {a b c d e f g:Nat} {u v w:Value} {i j k:Int} {t:TypeId} {p:List Value} {q:Bool} {n:IntKind} {x y z:TV} {r s:List TO} {o:List TV}
abbrev cD:=List (List TV)
abbrev ao:=List TV
abbrev ae:=List TO
abbrev ek:=Option TV
abbrev dM:=TV->List TO->List TO->Prop
abbrev jy:=TV->List TO->Prop
abbrev xk:=List TO->List TO->Bool
def c1:aq->TV
 | .slice none 0 0=>.sl true []
 | x=>.v x
def iX:aq->TV
 | .agg a=>.ag (a.toList.map c1)
 | x=>c1 x
def dY:TV->TV
 | .sl _ a=>.sl false a
 | x=>x
def jB:TV->TV
 | .sl o []=>.sl o []
 | .sl _ a=>.sl false a
 | x=>x
def dA:TV->TV
 | .ag a=>.ag (a.map dY)
 | x=>dY x
def bw:TV->TV
 | .tu a=>.tu (a.map dA)
 | x=>dA x
def ce:TV->ao
 | .ag a=>a
 | x=>[x]
def aW (x:TV):Bool:=cK (ce x)
def bO:ao->Bool
 | []=>true
 | x::l=>aW x&&bO l
def Ho:TV->Bool
 | .tu a=>bO a
 | x=>aW x
def nS:ao->Option (aQ)
 | []=>some []
 | .v x::l=>(nS l).map (x:: ·)
 | _=>none
def iI:TV->fR
 | .v x=>some x
 | .ag a=>(nS a).map λb=>.agg b.toArray
 | _=>none
def eQ:ao->Nat->ao->ao
 | a,_,[]=>a
 | a,b,x::c=>eQ (a.set b x) (b+1) c
def part (g:Bool) (n:Nat) (a:ao) (b:Nat):ek:=bif g then (if b+n<=a.length then some (.ag ((a.drop b).take n)) else none) else a[b]?
def res (P:aB) (t:aP):Option (Bool×Nat):=match P.underlying t,P.info? t with
 | some d,some i=>some (mL d,i.size)
 | _,_=>none
def zc (P:aB) (t:aP):Option (ao):=match P.info? t with
 | some i=>match i.zero with
  | some z=>if z.cells.toList.all ak=true/\z.cells.size=i.size/\i.size<1000000 then some (z.cells.toList.map c1) else none
  | none=>none
 | none=>none
def BG (P:aB) (t:aP):Option aP:=match P.underlying t with
 | some (.slice a)=>some a
 | _=>none
def mi (P:aB) (t:aP):dj:=(P.info? t).map (·.size)
def tG (P:aB) (s:aP) (f:Nat):Option (Nat×Bool×Nat):=match P.underlying s with
 | some (.struct a)=>match a[f]? with
  | some fd=>(res P fd.type).map λp=>(fd.offset,p)
  | none=>none
 | _=>none
def Wk (P:aB) (t:aP):Option (List (Nat×Nat)):=match P.underlying t with
 | some (.struct b)=>(places P b).map (·.toList)
 | some (.array n a)=>(P.info? a).map λe=>(List.range n).map λi=>(i*e.size,e.size)
 | _=>none
def cS (a e:Nat):cD->Bool
 | []=>true
 | c::l=>Nat.beq c.length e&&(bif Nat.beq a 0 then pM c else n4 c)&&cS a e l
def Pu:TV->Bool
 | .sl _ (_::_)=>false
 | .m _ _ _ _ _ _=>false
 | .u=>false
 | _=>true
def pT (sz:Nat) (a:ao):Bool:=bif Nat.ble sz 999999 then true else match gy sz with
 | some (_,o,N)=>Nat.beq a.length N&&match a[o+1]? with
  | some x=>Pu x
  | none=>true
 | none=>true
@[simp] theorem a1d {sz:Nat} (h:sz<1000000):pT sz o:=by unfold pT;rw [zY O];rfl
def put (l s:ae) (r:Bool) (a:Nat) (o:TO):ae×ae:=bif r then (l,s.set a o) else (l.set a o,s)
def add (l s:ae) (r:Bool) (o:TO):ae×ae:=bif r then (l,s++[o]) else (l++[o],s)
def fp (g:Bool) (n:Nat) (l s:ae):TV->ek
 | .p r c a=>match (ob l s r)[c]? with
  | some (.row b _)=>(part g n b a).map bw
  | _=>none
 | .q r c f i sz a=>match (ob l s r)[c]? with
  | some (.aY k z d)=>if k=f/\z=sz then (d[i]?).bind λe=>part g n e a else none
  | _=>none
 | .pe b a=>part g n b a
 | _=>none
def gX (g:Bool) (n d:Nat) (l s:ae):TV->Option (TV×ae×ae)
 | .p r a c=>match (ob l s r)[a]? with
  | some (.row b sz)=>if wr d r a=true then (part g n b c).map λx=>(x,put l s r a (.row (eQ b c ((ce x).map dY)) sz)) else none
  | _=>none
 | _=>none
def cF (n f:Nat) (x:TV) (l s:ae):TV->Option (ae×ae)
 | .p r a b=>match (ob l s r)[a]? with
  | some (.row c sz)=>if wr f r a=true/\(ce x).length=n/\b+n<=c.length/\aW x/\AK sz b n=true then some (put l s r a (.row (eQ c b (ce x)) sz)) else none
  | _=>none
 | .q r a g i sz b=>match (ob l s r)[a]? with
  | some (.aY k z d)=>if k=g/\z=sz/\wr f r a/\z<1000000 then match d[i]? with
    | some e=>if (ce x).length=n/\b+n<=e.length/\n4 ((ce x).map dY)=true then some (put l s r a (.aY k z (d.set i (eQ e b ((ce x).map dY))))) else none
    | none=>none
   else none
  | _=>none
 | _=>none
def ew (l s:ae):TV->Option (TV×ae×ae)
 | .sl o a=>some (.sl o a,l,s)
 | .m r b d c n sz=>match (ob l s r)[b]? with
  | some (.aY k z a)=>if k=d/\z=sz/\c=0/\n=a.length/\r=false/\a≠[]/\cS 0 sz a=true then some (.sl true a,put l s r b .dead) else none
  | _=>none
 | _=>none
def Nx (o:Nat):TV->ek
 | .p r b a=>some (.p r b (a+o))
 | .q r b d i sz a=>some (.q r b d i sz (a+o))
 | .pe c a=>some (.pe c (a+o))
 | _=>none
def uW (e:Nat) (x:TV):TV->ek
 | .v (.int _ m)=>match x with
  | .sl _ a=>if 0<=m then (a[m.toNat]?).bind λc=>if c.length=e then some (.pe c 0) else none else none
  | .m r b f d n sz=>if 0<=m/\m<n/\sz=e then some (.q r b f (d+m.toNat) sz 0) else none
  | _=>none
 | _=>none
def As (d e:Nat) (x:TV):TV->ek
 | .v (.int _ m)=>if 0<=m/\m<d then match x with
  | .p r c a=>some (.p r c (a+m.toNat*e))
  | .pe b a=>some (.pe b (a+m.toNat*e))
  | _=>none
  else none
 | _=>none
def NA (o:Nat) (g:Bool) (n:Nat):TV->ek
 | .ag a=>(part g n a o).map bw
 | _=>none
def Eh:TV->ek
 | .tu _=>none
 | x=>some x
def text (i:Nat):TV->ek
 | .tu a=>(a[i]?).bind Eh
 | _=>none
def Ao:TV->ek
 | .p r b a=>some (.p r b a)
 | .q r b d i sz a=>some (.q r b d i sz a)
 | .pe c a=>some (.pe c a)
 | _=>none
def pE (d:Nat):ek->dj
 | none=>some d
 | some (.v (.int _ i))=>if 0<=i then some i.toNat else none
 | _=>none
def ER (e:Nat):cD->Bool
 | []=>true
 | c::l=>Nat.beq c.length e&&ER e l
def BB (e:Nat) (h g:ek) (l s:ae):TV->ek
 | .sl o c=>match pE 0 h,pE c.length g with
  | some a,some b=>if a<=b/\b<=c.length/\(a=0\/b=a\/ER e c) then some (.sl (o&&c.isEmpty) ((c.take b).drop a)) else none
  | _,_=>none
 | .m r d f i n sz=>match pE 0 h,pE n g with
  | some a,some b=>if a<=b/\b<=n then
    if a=0 then some (.m r d f i b sz) else if b=a then some (.sl false []) else match (ob l s r)[d]? with
     | some (.aY k z _)=>if k=f/\z=sz/\e=sz then some (.m r d f (i+a) (b-a) sz) else none
     | _=>none
   else none
  | _,_=>none
 | _=>none
def VD (c e:Nat) (h g:ek) (l s:ae):TV->ek
 | .p r d i=>match pE 0 h,pE c g with
  | some a,some b=>if a<=b/\b<=c then if b=a then some (.sl false []) else match (ob l s r)[d]? with
    | some (.row f sz)=>if e=sz/\i=0/\c*sz<=f.length then some (.m r d 0 a (b-a) sz) else none
    | _=>none
   else none
  | _,_=>none
 | _=>none
def aK (P:aB) (t:aP) (f d:ek) (i:ek) (l s:ae) (x:TV):ek:=
 match i with
 | some (.v (.int _ 0))=>match f,d,x,P.underlying t with
  | none,some (.v (.int _ 0)),.sl _ _,some (.slice c)=>(P.info? c).map λ_=>.sl true []
  | none,some (.v (.int _ 0)),.m _ _ _ _ _ _,some (.slice c)=>(P.info? c).map λ_=>.sl true []
  | _,_,_,_=>none
 | some _=>none
 | none=>match x with
  | .v (.string b)=>match f.map iI,d.map iI with
   | none,none=>(pJ P t (.string b) none none none []).map iX
   | some (some a),none=>(pJ P t (.string b) (some a) none none []).map iX
   | none,some (some g)=>(pJ P t (.string b) none (some g) none []).map iX
   | some (some a),some (some g)=>(pJ P t (.string b) (some a) (some g) none []).map iX
   | _,_=>none
  | _=>match P.underlying t with
   | some (.slice c)=>(mi P c).bind λe=>BB e f d l s x
   | some (.array h c)=>(mi P c).bind λe=>VD h e f d l s x
   | _=>none
def aO (l s:ae):TV->Option (cD)
 | .sl _ a=>some a
 | .m r g f d n sz=>if n=0 then some [] else match (ob l s r)[g]? with
  | some (.aY k z a)=>if k=f/\z=sz/\d+n<=a.length then some ((a.drop d).take n) else none
  | some (.row e z)=>if z=sz/\sz=1/\f=0/\d+n<=e.length then some (((e.drop d).take n).map λc=>[c]) else none
  | _=>none
 | .v (.string b)=>some (b.data.toList.map λc=>[.v (.int .u8 c.toNat)])
 | _=>none
def OC (l s:ae):TV->dj
 | .sl _ a=>some a.length
 | .m _ _ _ _ n _=>some n
 | .v (.string b)=>some b.size
 | .mp c=>match (ob l s true)[c]? with
  | some (.mp a _)=>some a.size
  | _=>none
 | _=>none
def cO:cD->Option (List UInt8)
 | []=>some []
 | [.v (.int .u8 n)]::l=>(cO l).map (UInt8.ofNat n.toNat:: ·)
 | _=>none
def fits (n b:Nat):Bool:=decide (n*b<=140737488355328/\n<=4611686018427387904)
def df (an e:Nat) (es:cD) (l s:ae):TV×ae×ae:=
 match an with
 | 0=>(.sl true es,l,s)
 | 1=>(.m false l.length 0 0 es.length e,l++[.aY 0 e es],s)
 | _=>(.m true s.length 0 0 es.length e,l,s++[.aY 0 e es])
def cq (k:Bool) (e b d h:Nat) (x y:TV) (l s:ae):Option (TV×ae×ae):=
 match aO l s y with
 | none=>none
 | some c=>match x with
  | .sl true a=>if (a=[]\/(k=false/\d=0))/\cS d e c/\cS d e a/\fits (a.length+c.length) b/\0<e then
    if a++c=[] then some (.sl true [],l,s) else some (df d e (a++c) l s)
   else none
  | .m r f g i n sz=>match (ob l s r)[f]? with
   | some (.aY v z a)=>if v=g/\z=sz/\sz=e/\i=0/\n<=a.length/\k/\wr h r f/\cS 1 e c/\0<e/\fits (n+c.length) b=true then
     some (.m r f (g+1) 0 (n+c.length) sz,put l s r f (.aY (g+1) z (a.take n++c))) else none
   | _=>none
  | _=>none
def FP:TV->Bool
 | .v _=>true
 | _=>false
def lE (e f:Nat) (x y:TV) (l s:ae):Option (TV×ae×ae):=
 match aO l s y with
 | none=>none
 | some a=>if cS 1 e a=true/\0<e/\FP y=false then match x with
  | .m r c g d n sz=>if min a.length n=0 then some (.v (.int .i64 0),l,s) else match (ob l s r)[c]? with
   | some (.aY v z b)=>if v=g/\z=sz/\sz=e/\d+n<=b.length/\wr f r c=true then
     some (.v (.int .i64 (min a.length n:Nat)),put l s r c (.aY v z (b.take d++(a.take (min a.length n)++b.drop (d+min a.length n))))) else none
   | _=>none
  | _=>none
  else none
def mj (n:Nat) (c:ao):cD:=List.replicate n c
def mW (a e b:Nat) (z:ao) (n:TV) (l s:ae):Option (TV×ae×ae):=
 match n with
 | .v (.int _ n)=>if 0<=n/\n<=1099511627776/\(b:Int)*n<=1099511627776/\(a=0->0<n)/\(bif Nat.beq a 0 then pM z else n4 z)=true/\z.length=e then some (df a e (mj n.toNat z) l s) else none
 | _=>none
def iM (pl:List (Nat×Nat)):ao->List (Nat×TV)->Option (ao)
 | a,[]=>some a
 | a,(i,x)::ps=>match pl[i]? with
  | some (b,n)=>if (ce x).length=n/\b+n<=a.length/\aW x=true then iM pl (eQ a b ((ce x).map jB)) ps else none
  | none=>none
def jb (e:Nat):cD->List (Nat×TV)->Option (cD)
 | a,[]=>some a
 | a,(i,x)::ps=>if (ce x).length=e/\i<a.length then jb e (a.set i ((ce x).map dY)) ps else none
def sG (a:TypeDesc) (z:fR) (b:Bool) (x ix:TV) (l s:ae):ek:=
 match x,ix with
 | .mp d,.v k=>match (ob l s true)[d]? with
  | some (.mp c _)=>if keyed a k=true then
    match Instr.findNow a k c.toList 0 with
    | some (some (_,v))=>some (if b=true then .tu [c1 v,.v (.bool true)] else c1 v)
    | some none=>match z with
     | some z=>if ak z=true then some (if b=true then .tu [c1 z,.v (.bool false)] else c1 z) else none
     | none=>none
    | none=>none
   else none
  | _=>none
 | _,_=>none
def Ai (c:TypeDesc) (d:Nat) (x k v:TV) (l s:ae):Option (ae×ae):=
 match x,k,v with
 | .mp b,.v k,.v v=>match (ob l s true)[b]? with
  | some (.mp a cl)=>if keyed c k=true/\ak v/\wr d true b=true then
    match Instr.findNow c k a.toList 0 with
    | some (some (i,_))=>if Instr.sameBits 10000 (((a[i]?).map (·.key)).getD k) k=true then some (put l s true b (.mp (a.modify i λe=>{e with key:=k,val:=v}) cl)) else none
    | some none=>some (put l s true b (.mp (a.push {key:=k,val:=v,born:=cl}) (cl+1)))
    | none=>none
   else none
  | _=>none
 | _,_,_=>none
def cm (P:aB) (c:BinOp) (t:aP) (x y:TV):ek:=
 match iI x,iI y with
 | some a,some b=>if (bq a&&bq b)=true then (da P c t a b).map iX else none
 | some (.pointer none),none=>match y,HP c,P.underlying t with
  | .p _ _ _,some b,some (.pointer _)=>some (.v (.bool !b))
  | .q _ _ _ _ _ _,some b,some (.pointer _)=>some (.v (.bool !b))
  | .pe _ _,some b,some (.pointer _)=>some (.v (.bool !b))
  | _,_,_=>none
 | none,some (.pointer none)=>match x,HP c,P.underlying t with
  | .p _ _ _,some b,some (.pointer _)=>some (.v (.bool !b))
  | .q _ _ _ _ _ _,some b,some (.pointer _)=>some (.v (.bool !b))
  | .pe _ _,some b,some (.pointer _)=>some (.v (.bool !b))
  | _,_,_=>none
 | _,_=>none
def Gm (P:aB) (b:UnOp) (x:TV):ek:=(iI x).bind λa=>(FU P b a).map iX
def mw (P:aB) (t:aP) (x i:TV):ek:=(iI x).bind λa=>(iI i).bind λb=>(ls P t a b).map iX
def bJ (P:aB) (s d:aP) (x:TV) (l g:ae):ek:=
 match x with
 | .sl _ f=>match P.underlying s,P.underlying d with
  | some (.slice e),some .string=>match P.underlying e with
   | some (.int .u8)=>(cO f).map λbs=>.v (.string ⟨bs.toArray⟩)
   | _=>none
  | _,_=>none
 | .m _ _ _ _ _ _=>match P.underlying s,P.underlying d with
  | some (.slice e),some .string=>match P.underlying e with
   | some (.int .u8)=>(aO l g x).bind λf=>(cO f).map λbs=>.v (.string ⟨bs.toArray⟩)
   | _=>none
  | _,_=>none
 | .v (.string b)=>match P.underlying s,P.underlying d with
  | some .string,some .string=>some (.v (.string b))
  | some .string,some (.slice e)=>match P.underlying e with
   | some (.int .u8)=>if b.size<=4611686018427387904 then some (.sl false (b.data.toList.map λc=>[.v (.int .u8 c.toNat)])) else none
   | _=>none
  | _,_=>none
 | _=>(iI x).bind λa=>if (bq a&& !vS a)=true then (gI P s d a []).map λp=>iX p.1 else none
def CH:ao->Option (aQ)
 | []=>some []
 | x::l=>(iI x).bind λa=>(CH l).map (a:: ·)
def CZ (P:aB) (b:Builtin) (e:Array aP) (f:aP) (d:Array Bool) (c:ao):ek:=
 (CH c).bind λa=>if (a.all bq&&a.all λx=> !vS x)=true then match b with
  | .append=>none
  | .copy=>none
  | .len=>none
  | _=>(qH P b e f d a []).map λp=>iX p.1
  else none
structure An where
 an:Nat->Nat->Nat->Nat
 rw:Nat->Bool
 aM:Nat->Bool
 lv:Nat->Nat->aA
 tp:Nat->Option (ao->ae->Nat->Option (TV×ae))
def real (K:Nat):Nat:=K%1000
abbrev Tc:=Nat->ao->ae->Nat->Option (TV×ae)
def aR (a:TF):Operand->TV
 | .tmp t=>a t
 | .const v=>iX v
 | .global _=>.u
 | .func f=>.v (.func (.func f) #[] #[])
def aG (a:TF) (d:Nat) (x:TV):TF:=λt=>bif Nat.beq t d then x else a t
def dU (a:TF) (d:dj) (x:TV):TF:=match d with
 | some d=>aG a d x
 | none=>a
def dO (a:TF):Operand->TF
 | .tmp t=>aG a t (bw (a t))
 | _=>a
def lF (a:TF):List Operand->TF
 | []=>a
 | x::l=>lF (dO a x) l
def jQ (a:TF):aA->List Operand->ao
 | _,[]=>[]
 | seen,.tmp n::l=>(bif seen.contains n then bw (a n) else a n)::jQ a (n::seen) l
 | seen,x::l=>aR a x::jQ a seen l
def ct (i:Nat):TV->TV
 | .tu a=>.tu (a.set i ((a[i]?).elim .u dA))
 | x=>x
def ym (a:TF) (i:Nat):Operand->TF
 | .tmp t=>aG a t (ct i (a t))
 | _=>a
def IG (P:aB):TV->dj
 | .v (.func (.func K) a b)=>if (a.isEmpty&&b.isEmpty&&eG P K&&Nat.blt K 1000)=true then some K else none
 | _=>none
abbrev TS:=TV×TF×ae×ae
def pS (b:Bool) (x:TV):TV:=bif b then x else bw x
def eP (P:aB) (t:aP) (x:TV) (l s:ae):ek:=match P.underlying t,x with
 | some (.slice _),.sl _ a=>some (.v (.int .i64 (a.length:Nat)))
 | some (.slice _),.m _ _ _ _ n _=>some (.v (.int .i64 (n:Nat)))
 | some .string,.v (.string c)=>some (.v (.int .i64 (c.size:Nat)))
 | some (.map _ _),.mp b=>match (ob l s true)[b]? with
  | some (.mp a _)=>some (.v (.int .i64 (a.size:Nat)))
  | _=>none
 | _,_=>none
def FM (P:aB) (t:aP) (b:Bool) (x i:TV) (l s:ae):ek:=match P.underlying t with
 | some (.map k e)=>match P.underlying k with
  | some a=>sG a ((P.info? e).bind (·.zero)) b x i l s
  | none=>none
 | _=>none
def Oy (a:TF) (x:Operand) (l s:ae):Option TS:=match x with
 | .tmp t=>(ew l s (a t)).map λq=>(q.1,dO (aG a t q.1) (.tmp t),q.2)
 | _=>none
def dD (P:aB) (A:An) (H:Tc) (m r:Nat) (o:Oper) (h:TF) (l s:ae):Option TS:=
 match o.op with
 | .move x=>bif Nat.beq m 1 then some (aR h x,dO h x,l,s) else bif Nat.beq m 2 then Oy h x l s else some (bw (aR h x),h,l,s)
 | .assign x=>bif Nat.beq m 1 then some (aR h x,dO h x,l,s) else bif Nat.beq m 2 then Oy h x l s else some (bw (aR h x),h,l,s)
 | .pick c a b=>match aR h c with
  | .v (.bool t)=>some (bw (bif t then aR h a else aR h b),h,l,s)
  | _=>none
 | .alloc e=>match zc P e with
  | some z=>bif Nat.beq m 2 then some (.p true s.length 0,h,l,s++[.row z (bc P e)]) else some (.p false l.length 0,h,l++[.row z (bc P e)],s)
  | none=>none
 | .box e x=>match m with
  | 0=>if (aW (aR h x)&&pT (bc P e) (ce (aR h x)))=true then some (.p false l.length 0,h,l++[.row ((ce (aR h x)).map dY) (bc P e)],s) else none
  | 1=>if (aW (aR h x)&&pT (bc P e) (ce (aR h x)))=true then some (.p false l.length 0,dO h x,l++[.row (ce (aR h x)) (bc P e)],s) else none
  | 2=>if (aW (aR h x)&&pT (bc P e) (ce (aR h x)))=true then some (.p true s.length 0,h,l,s++[.row ((ce (aR h x)).map jB) (bc P e)]) else none
  | _=>none
 | .build t ps=>match zc P t,Wk P t with
  | some z,some pl=>(iM pl z (ps.toList.map λp=>(p.1,aR h p.2))).map λJ=>(.ag J,h,l,s)
  | _,_=>none
 | .buildSlice t n ps=>match BG P t with
  | some q=>match zc P q with
   | some z=>if n*z.length<=16777216/\0<z.length/\bO (ps.toList.map λp=>aR h p.2)=true then match jb z.length (mj n z) (ps.toList.map λp=>(p.1,aR h p.2)) with
     | some D=>if cS m z.length D=true then (bif Nat.beq n 0 then some (.sl true [],h,l,s) else some ((df m z.length D l s).1,h,(df m z.length D l s).2)) else none
     | none=>none
    else none
   | none=>none
  | none=>none
 | .load t a=>match res P t with
  | some (g,n)=>bif Nat.beq m 1 then (gX g n r l s (aR h a)).map λp=>(p.1,h,p.2) else (fp g n l s (aR h a)).map λx=>(x,h,l,s)
  | none=>none
 | .store t a x=>match mi P t with
  | some n=>match m with
   | 0=>(cF n r (bw (aR h x)) l s (aR h a)).map λp=>(.tu [],h,p)
   | 1=>(cF n r (aR h x) l s (aR h a)).map λp=>(.tu [],dO h x,p)
   | _=>match x with
    | .tmp t=>match ew l s (h t) with
     | some (y,R,s')=>(cF n r y R s' (aR (aG h t y) a)).map λp=>(.tu [],dO (aG h t y) x,p)
     | none=>none
    | _=>none
  | none=>none
 | .nilCheck x=>(Ao (aR h x)).map λv=>(v,h,l,s)
 | .binOp E t x y _=>(cm P E t (aR h x) (aR h y)).map λv=>(v,h,l,s)
 | .unOp E _ x=>(Gm P E (aR h x)).map λv=>(v,h,l,s)
 | .convert a d x=>(bJ P a d (aR h x) l s).map λv=>(v,h,l,s)
 | .makeMap _ none=>some (.mp s.length,h,l,s++[.mp #[] 0])
 | .makeSlice t n c=>match BG P t with
  | some q=>match zc P q,P.info? q with
   | some z,some e=>match aR h n,aR h c with
    | .v (.int _ i),.v (.int _ j)=>if i=j then (mW m e.size e.bytes z (aR h n) l s).map λp=>(p.1,h,p.2) else none
    | _,_=>none
   | _,_=>none
  | none=>none
 | .slice t x lo M mx=>(aK P t (lo.map (aR h)) (M.map (aR h)) (mx.map (aR h)) l s (aR h x)).map λv=>(v,h,l,s)
 | .fieldAddr t x f=>match tG P t f with
  | some (o,_,n)=>if n≠0 then (Nx o (aR h x)).map λv=>(v,h,l,s) else none
  | none=>none
 | .field t x f=>match tG P t f with
  | some (o,g,n)=>(NA o g n (aR h x)).map λv=>(v,h,l,s)
  | none=>none
 | .indexAddr t x i=>match P.underlying t with
  | some (.slice q)=>(mi P q).bind λe=>(uW e (aR h x) (aR h i)).map λv=>(v,h,l,s)
  | some (.array X q)=>(mi P q).bind λe=>(As X e (aR h x) (aR h i)).map λv=>(v,h,l,s)
  | _=>none
 | .index t x i=>(mw P t (aR h x) (aR h i)).map λv=>(v,h,l,s)
 | .lookup t x i ok=>(FM P t ok (aR h x) (aR h i) l s).map λv=>(v,h,l,s)
 | .mapUpdate t b1 i x=>match P.underlying t with
  | some (.map k _)=>match P.underlying k with
   | some N=>(Ai N r (aR h b1) (aR h i) (aR h x) l s).map λp=>(.tu [],h,p)
   | none=>none
  | _=>none
 | .extract x i=>bif Nat.beq m 1 then (text i (aR h x)).map λv=>(v,ym h i x,l,s) else (text i (aR h x)).map λv=>(dA v,h,l,s)
 | .call {callee:=.value f,args, ..}=>match IG P (aR h f) with
  | some K=>let C:=K+1000*m
   let F:=bif A.aM C then jQ h [] args.toList else args.toList.map λx=>dA (aR h x)
   if bO F=true then (H C F s r).map λp=>(p.1,bif A.aM C then lF h args.toList else h,l,p.2) else none
  | none=>none
 | .call {callee:=.builtin b,args,argTypes}=>match b,args.toList,argTypes.toList with
  | .append,[x,y],[w,t1]=>match BG P w,P.underlying t1 with
   | some q,some L=>match P.info? q,vT L with
    | some e,true=>if (e.zero.map (·.cells.size))=some e.size/\e.size<1000000 then (cq (qu w) e.size e.bytes m r (aR h x) (aR h y) l s).map λp=>(p.1,dO h x,p.2) else none
    | _,_=>none
   | _,_=>none
  | .copy,[x,y],[w,_]=>match BG P w with
   | some q=>(mi P q).bind λe=>(lE e r (aR h x) (aR h y) l s).map λp=>(p.1,h,p.2)
   | none=>none
  | .len,[x],[t]=>(eP P t (aR h x) l s).map λv=>(v,h,l,s)
  | _,_,_=>(CZ P b argTypes o.type (args.map λ| .const _=>true|_=>false) (args.toList.map (aR h))).map λv=>(v,h,l,s)
 | _=>none
def Nv (a:Bool):TV->Option Bool
 | .v (.bool b)=>some (b==a)
 | .tu []=>some false
 | _=>none
def jr (a:Array Oper) (c:TF) (o:Oper):Option Bool:=match o.guard with
 | none=>some true
 | some (j,b)=>match (a[j]?).bind (·.dst) with
  | some d=>Nv b (c d)
  | none=>none
def Vy (w:Option Bool) (r:Bool):Bool:=match w with
 | some false=>true
 | some true=>r
 | none=>false
def nV:TV->TV->Bool
 | .v a,.v b=>kx a b
 | .p r i o,.p e c d=>r==e&&Nat.beq i c&&Nat.beq o d
 | .q r i v n z o,.q e c g f h d=>r==e&&Nat.beq i c&&Nat.beq v g&&Nat.beq n f&&Nat.beq z h&&Nat.beq o d
 | .m r i v n z o,.m e c g f h d=>r==e&&Nat.beq i c&&Nat.beq v g&&Nat.beq n f&&Nat.beq z h&&Nat.beq o d
 | _,_=>false
def Gz:ao->ao->Bool
 | [],[]=>true
 | x::l,y::k=>nV x y&&Gz l k
 | _,_=>false
def uZ:TV->TV->Bool
 | .ag a,.ag b=>Gz a b
 | x,y=>nV x y
def rf:TV->Bool
 | .v (.bool _)=>true
 | .v (.int _ _)=>true
 | .v (.string _)=>true
 | .v (.pointer _)=>true
 | .v (.map _)=>true
 | .sl _ _=>true
 | .p _ _ _=>true
 | .q _ _ _ _ _ _=>true
 | .m _ _ _ _ _ _=>true
 | .pe _ _=>true
 | .mp _=>true
 | _=>false
def Ag:ao->Bool
 | []=>true
 | x::l=>rf x&&Ag l
def Ah:TV->Bool
 | .ag a=>Ag a
 | x=>rf x
def isRow:Option TO->Bool
 | some (.row _ _)=>true
 | _=>false
def EC (k:Nat):Option TO->Bool
 | some (.aY v _ _)=>Nat.beq v k
 | _=>false
def mE (A:An) (a:Nat) (b:TF) (o:Oper):Bool:=match o.op with
 | .call {callee:=.value f, ..}=>(match aR b f with
  | .v (.func (.func K) _ _)=> !A.rw (K+1000*a)
  | _=>false)
 | _=>false
def qf (o:Oper):Bool:=match o.op with
 | .call {callee:=.value _, ..}=>true
 | .call {callee:=.builtin .append, ..}=>true
 | .convert _ _ _=>true
 | .mapUpdate _ _ _ _=>true
 | _=>false
def FW (y:ek) (r:Bool) (c:Nat):Bool:=match y with
 | some (.p b a _)=> !(b==r&&Nat.beq a c)
 | some (.q b a _ _ _ _)=> !(b==r&&Nat.beq a c)
 | _=>false
def tq (d c:Bool) (y:ek) (a:TV) (l s:ae):Bool:=match a with
 | .p false b _=>(d||FW y false b)&&isRow l[b]?
 | .pe _ _=>true
 | .p true b _=>(c||FW y true b)&&isRow s[b]?
 | .q true b k _ _ _=>(c||FW y true b)&&EC k s[b]?
 | _=>false
def Ny (b:Nat) (c:TF) (e:Oper):ek:=match e.op with
 | .store _ a _=>bif Nat.ble b 1 then some (aR c a) else none
 | _=>none
def uV (A:An) (c:Nat) (b:TF) (l s:ae) (o:Oper) (e:Oper):Bool:=
 match o.op with
 | .load _ a=>tq (qf e) (mE A c b e) (Ny c b e) (aR b a) l s
 | _=>false
def IC (o:ek) (v:TV):Bool:=match o with
 | some w=>uZ w v
 | none=>false
def Y0 (P:aB) (o:Oper) (b:Operand->TV) (l s:ae):ek:=match o.op with
 | .load t a=>match res P t with
  | some (g,n)=>fp g n l s (b a)
  | none=>none
 | .lookup t x i h=>FM P t h (b x) (b i) l s
 | .slice t x e c f=>aK P t (e.map b) (c.map b) (f.map b) l s (b x)
 | .convert a d x=>bJ P a d (b x) l s
 | .call {callee:=.builtin .len,args,argTypes}=>match args.toList,argTypes.toList with
  | [x],[t]=>eP P t (b x) l s
  | _,_=>none
 | _=>none
def sB (P:aB) (A:An) (b:Array Oper) (k:Nat) (g:aA) (e:Oper) (c:Nat) (i:TF) (f h:ae) (a:TF) (l s:ae) (j:Nat):Bool:=
 match b[j]? with
 | some o=>Vy (jr b a o) (match o.dst with
  | some d=>(g.contains j&&uV A c i f h o e&&Ah (a d))||IC (Y0 P o (aR a) l s) (a d)
  | none=>false)
 | none=>false
def indep (a:Array Oper) (b:dj) (j:Nat):Bool:=match b with
 | none=>true
 | some d=>match a[j]? with
  | some o=> !((o.looksAt a).contains d)&&o.dst != some d
  | none=>false
def oM (a:Array Oper) (o:Oper):Bool:=match o.op,o.dst with
 | .load _ _,some d=> !(o.looksAt a).contains d
 | _,_=>false
structure RS where
 τ:TF
 l:ae
 s:ae
 pd:aA
def He (P:aB) (p:Nat×aA) (a:aA) (o:Oper):aA:=bif cls P o==3 then p.2.filter a.contains else a
def Jx (P:aB) (b:Array Oper) (p:Nat×aA) (a:aA) (o:Oper):aA:=bif oM b o then p.1::He P p a o else He P p a o
def Wj (P:aB) (a:Array Oper) (p:Nat×aA) (b:aA) (o:Oper):Bool:=(He P p b o).all (indep a o.dst)&&(cls P o==3||p.2.isEmpty)
def jE (P:aB) (A:An) (f:Tc) (K c b:Nat) (a:Array Oper) (p:Nat×aA) (x:RS):Option RS:=
 match a[p.1]? with
 | none=>none
 | some o=>if Wj P a p x.pd o=true then match jr a x.τ o with
  | none=>none
  | some false=>some ⟨dU x.τ o.dst (.tu []),x.l,x.s,Jx P a p x.pd o⟩
  | some true=>match dD P A f (A.an K c p.1) b o x.τ x.l x.s with
   | none=>none
   | some (v,e,l1,d)=>if (p.2.all λj=>sB P A a b x.pd o (A.an K c p.1) x.τ x.l x.s (dU e o.dst v) l1 d j)=true then some ⟨dU e o.dst v,l1,d,Jx P a p x.pd o⟩ else none
  else none
def dS (P:aB) (A:An) (a:Tc) (K c b:Nat) (d:Array Oper):List (Nat×aA)->RS->Option RS
 | [],x=>some x
 | p::ps,x=>(jE P A a K c b d p x).bind (dS P A a K c b d ps)
def ej:aA->ao->TF
 | t::a,x::b=>λi=>bif Nat.beq i t then x else ej a b i
 | _,_=>λ_=>.u
def rb (b:Nat):TV->Bool
 | .p false a _=>Nat.blt a b
 | .q false a _ _ _ _=>Nat.blt a b
 | .m false a _ _ _ _=>Nat.blt a b
 | .ag c=>cK c
 | .tu _=>false
 | _=>true
def Jv (a:Nat):ao->Bool
 | []=>true
 | x::l=>rb a x&&Jv a l
abbrev TE:=Exit×TF×ae×ae
def jF (c:ao->ae->ae->Option TE) (a:aA) (b:Nat):Nat->ao->ae->ae->Option TE
 | 0,_,_,_=>none
 | n+1,g,l,s=>match c g l s with
  | some (.normal,d,e,f)=>if Jv b (a.map d)=true then jF c a b n (a.map d) (e.take b) f else none
  | r=>r
def CW:TV->Option Bool
 | .v (.bool b)=>some b
 | _=>none
def bN (P:aB) (A:An) (Pl:cR) (e:Tc) (L K f:Nat):Nat->Code->TF->ae->ae->Option TE
 | _,.skip,d,l,s=>some (.normal,d,l,s)
 | _,.region g m n,d,l,s=>(dS P A e K g f m (if n=true then Pl (real K) g else nB m.size) ⟨d,l,s,[]⟩).map λx=>(.normal,x.τ,x.l,x.s)
 | p,.seq a b,d,l,s=>match bN P A Pl e L K f (2*p) a d l s with
  | some (.normal,k,h,j)=>bN P A Pl e L K f (2*p+1) b k h j
  | r=>r
 | p,.cond c a b,d,l,s=>match CW (aR d c) with
  | some t=>bif t then bN P A Pl e L K f (2*p) a d l s else bN P A Pl e L K f (2*p+1) b d l s
  | none=>none
 | p,.block g c,d,l,s=>match bN P A Pl e L K f (2*p) c d l s with
  | some (.exit i,k,h,j)=>bif Nat.beq i g then some (.normal,k,h,j) else some (.exit i,k,h,j)
  | r=>r
 | p,.loop c,d,l,s=>jF (λo l s=>bN P A Pl e L K f (2*p) c (ej (A.lv K p) o) l s) (A.lv K p) l.length L ((A.lv K p).map d) l s
 | _,.exit g,d,l,s=>some (.exit g,d,l,s)
 | _,.ret,d,l,s=>some (.ret,d,l,s)
 | _,_,_,_,_=>none
def eK (P:aB) (c:Nat) (b:TF) (l s:ae):ResultVar->Option (TV×TF×ae×ae)
 | .tmp t=>some (b t,dO b (.tmp t),l,s)
 | .cell a t=>match res P t with
  | some (g,n)=>(gX g n c l s (b a)).map λp=>(p.1,b,p.2)
  | none=>none
def uU (P:aB) (b:Nat) (c:List ResultVar) (a:TF) (l s:ae):Option (TV×ae):=
 match c with
 | []=>some (.tu [],s)
 | [r]=>(eK P b a l s r).map λp=>(p.1,p.2.2.2)
 | [r,q]=>match eK P b a l s r with
  | some (x,a,l,s)=>(eK P b a l s q).map λp=>(.tu [x,p.1],p.2.2.2)
  | none=>none
 | [r,q,t]=>match eK P b a l s r with
  | some (x,a,l,s)=>match eK P b a l s q with
   | some (y,a,l,s)=>(eK P b a l s t).map λp=>(.tu [x,y,p.1],p.2.2.2)
   | none=>none
  | none=>none
 | _=>none
def jG (d:Nat) (s:ae):TV->ek
 | .v x=>some (.v x)
 | .sl o c=>some (.sl o c)
 | .pe f b=>some (.pe f b)
 | .p true a b=>bif Nat.blt a d then some (.p true a b) else none
 | .q true a v i sz b=>bif Nat.blt a d then some (.q true a v i sz b) else none
 | .mp a=>bif Nat.blt a d then some (.mp a) else none
 | .m true a e b n sz=>bif Nat.blt a d then some (.m true a e b n sz) else match s[a]? with
  | some (.aY k z c)=>if k=e/\z=sz/\b=0/\n=c.length/\cS 0 sz c=true then some (.sl false c) else none
  | _=>none
 | _=>none
def nU (a:Nat) (s:ae):ao->Option (ao)
 | []=>some []
 | x::l=>(jG a s x).bind λy=>(nU a s l).map (y:: ·)
def kC (a:Nat) (s:ae):TV->ek
 | .ag b=>(nU a s b).map .ag
 | x=>jG a s x
def my (a:Nat) (s:ae):ao->Option (ao)
 | []=>some []
 | x::l=>(kC a s x).bind λy=>(my a s l).map (y:: ·)
def jH (a:Nat) (s:ae):TV->ek
 | .tu b=>(my a s b).map .tu
 | x=>kC a s x
def aI (a:ao):TF:=λt=>a.getD t .u
def jt (rw a:Bool) (b:ae):Option (TV×ae)->Option (TV×ae)
 | some (r,s)=>bif rw then (if Ho r=true then some (pS a r,s) else none) else (jH b.length s r).map λr=>(pS a r,b)
 | none=>none
def kD (P:aB) (A:An) (Pl:cR) (g:Tc) (L K:Nat) (e:Func) (c:Code) (f:ao) (s:ae) (a:Nat):Option (TV×ae):=
 match bN P A Pl g L K a 1 c (aI f) [] s with
 | some (.normal,d,l,b)=>uU P a e.results.toList d l b
 | some (.ret,d,l,b)=>uU P a e.results.toList d l b
 | _=>none
def gZ (P:aB) (A:An) (Pl:cR) (dq:Nat->Bool) (L:Nat):Nat->Tc
 | 0=>λ_ _ _ _=>none
 | n+1=>λK a s d=>
  if dq K=true then
   match P.funcs[real K]? with
   | some b=>match b.body with
    | some c=>if a.length<=b.ntmps then jt (A.rw K) (A.aM K) s (kD P A Pl (gZ P A Pl dq L n) L K b c a s (bif A.rw K then d else s.length)) else none
    | none=>none
   | none=>none
  else match A.tp K with
   | some f=>f a s d
   | none=>none
section
variable {ι:aH} {M:Nat->Prop} {H:AH} {h:Nat->Option Loc} {P:aB}
def NO (x:TV) (v:aq):Prop:=∀(i j:Nat) (b:cD) (a:Addr) (n:Nat),eI x i j=some (.sl true b)->mo v i j=some (.slice (some a) n 1)->False
theorem NO.own (c:NO x u) (f:Nat->Nat->Loc):Own h H x u f:=λi j b a n d e=>(c i j b a n d e).elim
theorem NO.of (h:∀i j b,eI x i j≠some (.sl true b)):NO x u:=λi j b a n c _=>h i j b c
theorem NO.one {x:TV} {v:aq} (c:∀a,x≠ .ag a) (d:∀a,x≠ .tu a) (h:∀b,x≠ .sl true b):NO x v:=by refine .of λi j b e=>?_;unfold eI at e;split at e;exact d _ rfl;unfold iJ at e;split at e;exact c _ rfl;cases e;exact h _ rfl;cases e;cases e
theorem zo (h:ak u):(c1 u= .sl true []/\u= .slice none 0 0)\/(c1 u= .v u/\vS u=false):=by
 unfold c1;split;exact .inl ⟨rfl,rfl⟩
 ·rename_i b;refine .inr ⟨rfl,?_⟩;cases u with
  | slice a n c=>
   exfalso;unfold ak at h;split at h;all_goals first|(rename_i e;cases e;done)|skip
   all_goals first|(exact b (by assumption))|(cases h;done)
  | _=>rfl
theorem TR.c1 (h:ak u):TR ι M H (T.c1 u) u:=by rcases zo h with ⟨e,rfl⟩|⟨e,a⟩;rw [e];exact .sn;rw [e];exact .v h a
theorem gT.JM (h:p.all ak):gT ι M H (p.map T.c1) p:=by refine ⟨Z,λj x c b a=>?_⟩;rw [zK,a] at b;cases b;rw [zQ] at h;exact .c1 (h c (zI a))
theorem TR.iX (h:bq u):TR ι M H (T.iX u) u:=by unfold T.iX;split;rename_i e;have:=gT.JM (ι:=ι) (M:=M) (H:=H) h;exact .ag Z λj y c d a=>this.2 j y c d (Zs a);rename_i b;refine .c1 ?_;unfold bq at h;split at h;exact absurd rfl (b _);exact h
theorem NO.c1 (h:ak u):NO (T.c1 u) u:=by rcases zo h with ⟨e,rfl⟩|⟨e,f⟩;rw [e];intro i j c a n d b;unfold mo at b;split at b;rename_i e;cases e;unfold jv at b;split at b;rename_i e;cases e;cases b;cases b;cases b;rw [e];exact .one (λ_ e=>by cases e) (λ_ e=>by cases e) (λ_ e=>by cases e)
theorem NO.iX (h:bq u):NO (T.iX u) u:=by
 unfold T.iX;split;rename_i f;intro i j g a n b c;have d:i=0:=by
  cases i with
  | zero=>rfl
  | succ i=>simp [eI] at b
 subst d;have b:=b;have c:=c;simp only [bq,zQ] at h;have:=h _ (Zs (xL c));simp [ak] at this;rename_i e;refine .c1 ?_;unfold bq at h;split at h;exact absurd rfl (e _);exact h
theorem zu (x:TV) (j:Nat):iJ (dA x) j=(iJ x j).map dY:=by
 cases x with
 | ag a=>simp [dA,iJ]
 | _=>cases j <;> simp [dA,iJ,dY]
theorem ru (x:TV) (i j:Nat):eI (bw x) i j=(eI x i j).map dY:=by
 cases x with
 | tu a=>
  simp only [bw,eI,zK];cases a[i]? with
  | none=>rfl
  | some y=>simp [zu]
 | ag b=>cases i <;> simp [bw,dA,eI,iJ]
 | _=>cases i <;> cases j <;> simp [bw,dA,dY,eI,iJ]
theorem l9 (x:TV) (a:cD):dY x≠ .sl true a:=by cases x <;> simp [dY]
theorem NO.bw (x:TV) (v:aq):NO (T.bw x) v:=by
 refine .of λi j b h=>?_;rw [ru] at h;cases a:eI x i j with
 | none=>rw [a] at h;cases h
 | some y=>rw [a] at h;exact l9 y b (Zs h)
theorem NO.dA (x:TV) (v:aq) (b:∀a,x≠ .tu a):NO (T.dA x) v:=by
 have:T.dA x=T.bw x:=by
  cases x with
  | tu a=>exact absurd rfl (b a)
  | _=>rfl
 rw [this];exact .bw x v
theorem TR.dY {v:aq} (h:TR ι M H x v):TR ι M H (T.dY x) v:=by
 cases h with
 | u=>exact .u
 | v h j=>exact .v h j
 | sn=>exact .sn
 | s0=>exact .s0
 | se=>exact .se
 | sl a b c d g i=>exact .sl a b c d (λe=>by cases e) i
 | p h=>exact .p h
 | q h=>exact .q h
 | m h=>exact .m h
 | pe a b c d g=>exact .pe a b c d g
 | mp h=>exact .mp h
 | ag f h=>exact .ag f h
 | tu f h=>exact .tu f h
theorem gT.Be {ys:aQ} (h:gT ι M H o ys):gT ι M H (o.map T.dY) ys:=by
 refine ⟨by simpa using h.1,λj x c a d=>?_⟩;rw [zK] at a;cases b:o[j]? with
 | none=>rw [b] at a;cases a
 | some y=>rw [b] at a;cases a;exact (h.2 j y c b d).dY
theorem TR.dA {v:aq} (h:TR ι M H x v):TR ι M H (T.dA x) v:=by
 cases h with
 | @ag s r i h=>have:=gT.Be (ys:=r.toList) ⟨by simpa using i,λj x c k g=>h j x c k (Zs g)⟩;exact .ag (Zs this.1) λj x c k g=>this.2 j x c k (Zs g)
 | u=>exact .u
 | v h o=>exact .v h o
 | sn=>exact .sn
 | s0=>exact .s0
 | se=>exact .se
 | sl a b d f l n=>exact .sl a b d f (λe=>by cases e) n
 | p h=>exact .p h
 | q h=>exact .q h
 | m h=>exact .m h
 | pe a b d f l=>exact .pe a b d f l
 | mp h=>exact .mp h
 | tu i h=>exact .tu i h
theorem TR.bw (h:TR ι M H x u):TR ι M H (T.bw x) u:=by
 cases x with
 | tu f=>
  cases h with
  | @tu _ g e h=>
   refine .tu (Zs e) λj x c a d=>?_;rw [zK] at a;cases b:f[j]? with
   | none=>rw [b] at a;cases a
   | some y=>rw [b] at a;cases a;exact (h j y c b d).dA
 | _=>exact h.dA
theorem gT.nS:∀{d:ao} {ys e:aQ},gT ι M H d ys->T.nS d=some e->ys=e:=by
 intro d;induction d with
 | nil=>intro ys e h b;cases b;exact zL h.1.symm
 | cons x d m=>
  intro ys e h b;cases x with
  | v x=>
   simp only [T.nS] at b;obtain ⟨n,g,i⟩:=map_some b;subst i;cases ys with
   | nil=>simp [gT] at h
   | cons y ys=>have f:=h.2 0 (.v x) y rfl rfl;cases f;rw [m (ys:=ys) ⟨by simpa using h.1,λj a c k l=>h.2 (j+1) a c (Zs k) (Zs l)⟩ g]
  | _=>cases b
theorem TR.iI {v:aq} (h:TR ι M H x v) (a:T.iI x=some u):v=u:=by
 cases x with
 | v x=>cases a;cases h;rfl
 | ag i=>
  simp only [T.iI] at a;obtain ⟨k,b,d⟩:=map_some a;subst d;cases h with
  | @ag _ g f h=>have:=gT.nS (ys:=g.toList) ⟨by simpa using f,λj x c a e=>h j x c a (Zs e)⟩ b;rw [<-this]
 | _=>cases a
theorem cP (h:cK o) (b:o[a]? =some x):cI x:=by
 induction o generalizing a with
 | nil=>cases b
 | cons y o c=>
  simp only [cK,zP] at h;cases a with
  | zero=>cases b;exact h.1
  | succ a=>exact c h.2 (Zs b)
theorem kh (h:∀x∈o,cI x):cK o:=by
 induction o with
 | nil=>rfl
 | cons y o b=>simp only [cK,zP];exact ⟨h y Z,b λx a=>h x (by simp [a])⟩
theorem fk (h:n4 o) (b:o[a]? =some x):kz x:=by
 induction o generalizing a with
 | nil=>cases b
 | cons y o c=>
  simp only [n4,zP] at h;cases a with
  | zero=>cases b;exact h.1
  | succ a=>exact c h.2 (Zs b)
theorem Ep (h:∀x∈o,kz x):n4 o:=by
 induction o with
 | nil=>rfl
 | cons y o b=>simp only [n4,zP];exact ⟨h y Z,b λx a=>h x (by simp [a])⟩
theorem jj (h:pM o) (b:o[a]? =some x):ng x:=by
 induction o generalizing a with
 | nil=>cases b
 | cons y o c=>
  simp only [pM,zP] at h;cases a with
  | zero=>cases b;exact h.1
  | succ a=>exact c h.2 (Zs b)
theorem DU (h:ng x):kz x:=by cases x <;> simp_all [ng,kz]
theorem iR (h:kz x):cI x:=by cases x <;> simp_all [kz,cI]
theorem rG (h:pM o):n4 o:=Ep λx b=>by obtain ⟨j,a,rfl⟩:=yA b;exact DU (jj h (zA a))
theorem th:cI (dY x)=cI x:=by cases x <;> rfl
theorem tf (h:cK o):cK (o.map dY):=kh λx b=>by obtain ⟨y,c,rfl⟩:=wB.1 b;obtain ⟨j,a,rfl⟩:=yA c;rw [th];exact cP h (zA a)
theorem TR.Ad {v:aq} (h:TR ι M H x v) (a:cI x):one v:=by
 cases h with
 | v h _=>exact eS h
 | u=>cases a
 | ag _ _=>cases a
 | tu _ _=>cases a
 | _=>rfl
theorem TR.ce (h:TR ι M H x v) (a:cK (T.ce x)):gT ι M H (T.ce x) v.cells.toList/\v.cells.toList.all one:=by
 have o:∀d (f:aQ),cK d->gT ι M H d f->f.all one:=by intro d f b e;rw [zQ];intro y n;obtain ⟨j,l,rfl⟩:=yA n;have p:=e.1▸l;exact (e.2 j d[j] f[j] (zA _) (zA _)).Ad (cP b (zA _))
 cases x with
 | ag i=>
  cases h with
  | @ag _ d m h=>have b:gT ι M H i d.toList:=⟨by simpa using m,λj x c a g=>h j x c a (Zs g)⟩;exact ⟨b,o _ _ a b⟩
 | u=>simp [T.ce,cK,cI] at a
 | tu q=>simp [T.ce,cK,cI] at a
 | _=>
  have b:=h.Ad (by simpa [T.ce,cK] using a);have e:v.cells= #[v]:=by cases v <;> first|rfl|(simp [one] at b)
  have k:gT ι M H [_] [v]:=⟨rfl,λj x c a g=>by
   cases j with
   | zero=>cases a;cases g;exact h
   | succ j=>cases a⟩
  rw [e];exact ⟨k,by simpa using b⟩
theorem gT.part {C:aQ} (g:o.length<=C.length/\∀(j:Nat) (x:TV) (c:aq),o[j]? =some x->C[j]? =some c->TR ι M H x c) (h:T.part q a o b=some x):
  ∃v,(bif q then (if b+a<=C.length then some (Value.agg ((C.drop b).take a).toArray) else none) else C[b]?)=some v/\TR ι M H x v/\
   (q=true->x= .ag ((o.drop b).take a)/\b+a<=o.length/\v= .agg ((C.drop b).take a).toArray)/\(q=false->o[b]? =some x/\C[b]? =some v):=by
 unfold T.part at h;cases q with
 | true=>
  simp only [cond_true] at h ⊢;split at h;rename_i i;cases h;refine ⟨.agg ((C.drop b).take a).toArray,zO O,.ag W λj x c e d=>?_,λ_=>⟨rfl,i,rfl⟩,λh=>by cases h⟩;have d:((C.drop b).take a)[j]? =some c:=by simpa using d
  rw [zU] at e d;split at e;rename_i k;rw [zO k] at d;rw [yP] at e d;exact g.2 _ x c e d;cases e;cases h
 | false=>simp only [cond_false] at h ⊢;have i:=aa h;have f:b<C.length:=O;exact ⟨C[b],zA f,g.2 b x _ h (zA f),λh=>(by cases h),λ_=>⟨h,zA f⟩⟩
theorem gT.le (h:gT ι M H o p):o.length<=p.length/\∀(j:Nat) (x:TV) (c:aq),o[j]? =some x->p[j]? =some c->TR ι M H x c:=⟨Nat.le_of_eq h.1,h.2⟩
theorem TR.nj (h:TR ι M H x w) (b:x≠ .u):nj w:=by
 cases h with
 | u=>exact absurd rfl b
 | v a _=>cases w <;> first|rfl|(simp [ak] at a)
 | _=>rfl
theorem Hf (g:∀(j:Nat) (x:TV) (c:aq),o[j]? =some x->p[j]? =some c->TR ι M H x c) (n:∀x∈o,x≠ .u) (h:T.part q a o b=some x):(bif q then ((p.drop b).take a).all V.nj else (p[b]?).all V.nj)=true:=by
 have f:=λj c d l=>(g j _ c (zA d) l).nj (n _ (zV d));unfold T.part at h;cases q with
 | true=>simp only [cond_true] at h ⊢;split at h;rename_i t;rw [zQ];intro c i;obtain ⟨k,m,rfl⟩:=yA i;have e:=zA m;rw [zU] at e;split at e;rename_i s;rw [yP] at e;exact f _ _ O e;cases e;cases h
 | false=>
  simp at h ⊢;cases r:p[b]? with
  | none=>rfl
  | some c=>exact f _ _ (aa h) r
theorem DR (h:res P t=some (q,a)) {sz:Nat} {m:dj} (l:H[b]? =some (.row p sz m)) (e:(bif q then ((p.drop c).take a).all nj else (p[c]?).all nj)=true):
  cV P t (.pointer (some ⟨b,c,none⟩)) H=bif q then (if c+a<=p.length then some (Value.agg ((p.drop c).take a).toArray) else none) else p[c]? :=by
 unfold res at h;split at h;rename_i d i j k;cases h;simp only [cV,l,j,k];cases f:mL d with
 | true=>rw [f] at e;simp only [cond_true] at e;simp [e]
 | false=>
  rw [f] at e;simp at e;cases g:p[c]? with
  | none=>simp
  | some n=>rw [g] at e;simp at e;simp [e]
 cases h
theorem ji (h:res P t=some (q,a)) {sz:Nat} {g:dj} (f:H[b]? =some (.row p sz g)) (e:(bif q then u.cells.toList.all V.nj else V.nj u)=true)
  (d:(bif q then (if c+a<=p.length then some (Value.agg ((p.drop c).take a).toArray) else none) else p[c]?)=some u):cV P t (.pointer (some ⟨b,c,none⟩)) H=some u:=by
 rw [DR h f,d];cases q with
 | true=>simp only [cond_true] at d e ⊢;split at d;cases d;simpa [Value.cells] using e;cases d
 | false=>simp at d e ⊢;rw [d];exact e
theorem Vv (d:∀(j:Nat) (x:TV) (c:aq),o[j]? =some x->p[j]? =some c->TR ι M H x c) (f:∀x∈o,x≠ .u) (h:T.part q a o b=some x) (g:q->x= .ag ((o.drop b).take a)/\b+a<=o.length/\u= .agg ((p.drop b).take a).toArray) (i:q=false->o[b]? =some x/\p[b]? =some u):(bif q then u.cells.toList.all V.nj else V.nj u)=true:=by
 have k:=Hf d f h;cases q with
 | true=>obtain ⟨_,_,rfl⟩:=g rfl;simpa [Value.cells] using k
 | false=>have ⟨_,e⟩:=i rfl;rw [e] at k;exact k
theorem El (h:cI x):x≠ .u:=by rintro rfl;cases h
theorem Ei (h:cK o):∀x∈o,x≠ .u:=λx b=>by obtain ⟨j,a,rfl⟩:=yA b;exact El (cP h (zA a))
theorem Jz (h:n4 o):∀x∈o,x≠ .u:=λx b=>by obtain ⟨j,a,rfl⟩:=yA b;exact El (iR (fk h (zA a)))
theorem Ba {k:Nat} (h:b+c<=k):((p.drop (a+b)).take c)=((((p.drop a).take k).drop b).take c):=by rw [List.drop_take,List.drop_drop,List.take_take];congr 1;omega
theorem Ar {g:Bool} (hr:res P t=some (g,a)) (b6:∀D w c3,(ob r s D)[w]? =some c3->OR ι M h H (wr b D w) D w c3) (d:fp g a r s x=some y) (o:TR ι M H x u):
  ∃v,cV P t u H=some v/\TR ι M H y v/\NO y v:=by
 have c2:∀l (n:Nat) (y:TV) (v:aq),n4 l->T.part g a l n=some y->NO y v:=by
  intro l n y v hn m;unfold T.part at m;cases g with
  | true=>
   simp only [cond_true] at m;split at m;cases m;refine .of λi j N e=>?_;cases i with
   | succ i=>cases e
   | zero=>have e:((l.drop n).take a)[j]? =some (.sl true N):=e;rw [zU] at e;split at e;rw [yP] at e;exact absurd (fk hn e) (by simp [kz]);cases e
   cases m
  | false=>simp at m;have:=fk hn m;refine .one (λl e=>?_) (λl e=>?_) (λN e=>?_) <;> (subst e;simp [kz] at this)
 unfold fp at d;split at d;rename_i D w n;split at d;rename_i l sz J;have ⟨h0,c4,C,R,X,E,_⟩:=b6 D w _ J;cases o with
 | p F=>rw [R] at F;cases F;have ⟨z,h4,h5⟩:=map_some d;subst h5;have ⟨v,k,K,A,L⟩:=gT.part E.le h4;exact ⟨v,ji hr X (Vv E.2 (Ei h0) h4 A L) k,K.bw,.bw _ _⟩
 cases d;rename_i D w c8 i sz n;split at d;rename_i c7 z N J;split at d;rename_i hk;obtain ⟨rfl,rfl⟩:=hk;have ⟨c4,C,R,X,hl,E,_⟩:=b6 D w _ J;cases o with
 | q F=>
  rw [R] at F;cases F;have ⟨e,he,m⟩:=zT.1 d;have b2:=E.1 e (zI he);have c5:=aa he;have c6:i*z+z<=C.length:=by have:(i+1)*z<=N.length*z:=zW _ c5;rw [xN] at this;omega
  have f:e.length<=((C.drop (i*z)).take z).length/\∀(j:Nat) (x:TV) (c:aq),e[j]? =some x->((C.drop (i*z)).take z)[j]? =some c->TR ι M H x c:=by refine ⟨W,λj x c o f=>?_⟩;rw [zU] at f;split at f;rw [yP] at f;apply E.2.2 i j e x c he o;rw [yM];exact f;cases f
  have ⟨v,k,K,A,L⟩:=gT.part f m;refine ⟨v,?_,K,c2 e n y v b2.2 m⟩;apply ji hr X (Vv f.2 (Jz b2.2) m A L);cases g with
  | true=>simp only [cond_true] at k ⊢;have ⟨_,q5,q6⟩:=A rfl;rw [zO O,Ba (k:=z) O,q6]
  | false=>simp at k ⊢;rw [zU] at k;split at k;rw [yP] at k;exact k;cases k
 cases d;cases d;rename_i l n;cases o with
 | @pe _ _ c4 b1 sz C lo J hm hl hb hh=>
  have f:l.length<=(C.drop b1).length/\∀(j:Nat) (x:TV) (c:aq),l[j]? =some x->(C.drop b1)[j]? =some c->TR ι M H x c:=by refine ⟨W,λj x c o f=>?_⟩;rw [yP] at f;exact hh j x c o f
  have ⟨v,k,K,A,L⟩:=gT.part f d;refine ⟨v,?_,K,c2 l n y v (rG hb) d⟩;apply ji hr J (Vv f.2 (Jz (rG hb)) d A L);cases g with
  | true=>simp only [cond_true] at k ⊢;have ⟨_,q5,q6⟩:=A rfl;rw [zO O,q6,List.drop_drop]
  | false=>simp only [cond_false] at k ⊢;rw [yP] at k;exact k
 cases d
end
section
variable {X:Nat->Prop} {D E:aH} {M J:Nat->Prop} {H h:AH} {ω ω':Nat->Option Loc} {P:aB} {fl:Nat} {τ τ':TF} {l s l' s':ae} {V:aQ}
theorem cj (τ:TF) (d:Nat) (x:TV):aG τ d x d=x:=by simp [aG]
theorem Ht (h:a≠b):Nat.beq a b=false:=by
 cases c:Nat.beq a b with
 | false=>rfl
 | true=>exact absurd (zS c) h
theorem sw (τ:TF) (x:TV) (h:b≠a):aG τ a x b=τ b:=by simp only [aG,Ht h,cond_false]
theorem aL (τ:TF) (d t:Nat) (x:TV):(t=d/\aG τ d x t=x)\/(t≠d/\aG τ d x t=τ t):=by by_cases h:t=d;subst h;exact .inl ⟨rfl,cj _ _ _⟩;exact .inr ⟨h,sw _ _ h⟩
theorem iu {V:aQ} (h:a<V.length) (v:aq):(V.set a v).getD a undef=v:=by simp [zG,h]
theorem dR {V:aQ} (h:a≠b):(V.set a u).getD b undef=V.getD b undef:=by simp only [zG,zD h]
theorem jP (l s:ae) (r:Bool) (a:Nat) (o:TO) (c:Bool) (b:Nat):(ob (put l s r a o).1 (put l s r a o).2 c)[b]? =if c=r/\b=a then ((ob l s r)[a]?).map λ_=>o else (ob l s c)[b]? :=by
 cases r <;> cases c <;> simp only [ob,put,cond_true,cond_false,xD,Bool.true_eq_false,false_and,if_false,true_and];all_goals
  by_cases h:b=a;subst h;rw [zO rfl];rw [yT];simp;split;rename_i h;rw [zA h];rfl;rename_i h;rw [yI O];rfl;rw [zN h,zD (λe=>h e.symm)]
theorem gw (l s:ae) (r:Bool) (b:Nat) (o:TO) (a:Bool):(ob (put l s r b o).1 (put l s r b o).2 a).length=(ob l s a).length:=by cases r <;> cases a <;> simp [ob,put]
theorem Ef (l s:ae) (r:Bool) (o:TO) (a:Bool) (b:Nat):(ob (add l s r o).1 (add l s r o).2 a)[b]? =if a=r/\b=(ob l s r).length then some o else (ob l s a)[b]? :=by
 cases r <;> cases a <;> simp only [ob,add,cond_true,cond_false,xD,Bool.true_eq_false,false_and,if_false,true_and];all_goals
  rw [List.getElem?_append];split;rename_i h;rw [zN O];rename_i h;split;rename_i c;subst c;simp;rename_i c;rw [yI W,yI O]
theorem oz (l s:ae) (r:Bool) (o:TO) (a:Bool):(ob (add l s r o).1 (add l s r o).2 a).length=if a=r then (ob l s a).length+1 else (ob l s a).length:=by cases r <;> cases a <;> simp [ob,add]
theorem yw (c:wr fl q a) (o:TO) (h:b<fl):(put l s q a o).2[b]? =s[b]? :=by
 cases q with
 | false=>rfl
 | true=>have:=yR c;show (s.set a o)[b]? =s[b]?;rw [zD O]
theorem Ii (b:fl<=s.length) (r:Bool) (o:TO) (h:a<fl):(add l s r o).2[a]? =s[a]? :=by
 cases r with
 | false=>rfl
 | true=>show (s++[o])[a]? =s[a]?;rw [zB O]
theorem TR.leaf {v:aq} (h:TR D M H x v) (c:∀b,x≠ .ag b) (d:∀b,x≠ .tu b) (f:x≠ .u):(∀a,v≠ .agg a)/\∀a,v≠ .tuple a:=by
 cases h with
 | v h g=>constructor <;> (rintro a rfl;simp [ak] at h)
 | u=>exact absurd rfl f
 | ag=>exact absurd rfl (c _)
 | tu=>exact absurd rfl (d _)
 | _=>constructor <;> (rintro a e;cases e)
theorem Gg (h:∀c,u≠ .agg c) (b:jv u a=some v):a=0/\v=u:=by unfold jv at b;split at b;exact absurd rfl (h _);cases b;exact ⟨rfl,rfl⟩;cases b
theorem Ng (h:∀c,x≠ .ag c) (b:iJ x a=some y):a=0/\y=x:=by unfold iJ at b;split at b;exact absurd rfl (h _);cases b;exact ⟨rfl,rfl⟩;cases b
theorem TR.iJ {v:aq} (h:TR D M H x v) (i:T.iJ x a=some y) (g:jv v a=some w):TR D M H y w:=by
 by_cases b:∃c,x= .ag c;obtain ⟨c,rfl⟩:=b;cases h with
 | @ag _ d k h=>exact h a y w i g
 have b:=λc e=>b ⟨c,e⟩;obtain ⟨rfl,rfl⟩:=Ng b i;by_cases f:y= .u;subst f;exact .u;have:∀d,v≠ .agg d:=by
  cases h with
  | v h j=>rintro d rfl;simp [ak] at h
  | u=>exact absurd rfl f
  | ag=>exact absurd rfl (b _)
  | _=>rintro d e;cases e
 rw [(Gg this g).2];exact h
theorem TR.at {v:aq} (h:TR D M H x v) (c:eI x a b=some y) (d:mo v a b=some w):TR D M H y w:=by
 by_cases f:∃g,x= .tu g;obtain ⟨g,rfl⟩:=f;cases h with
 | @tu _ i s h=>simp only [eI,zT] at c;simp only [mo,zT] at d;obtain ⟨k,m,c⟩:=c;obtain ⟨l,n,d⟩:=d;exact (h a k l m n).iJ c d
 have f:=λg e=>f ⟨g,e⟩;by_cases j:x= .u;subst j;cases a with
 | succ a=>cases c
 | zero=>cases b with
  | zero=>cases c;exact .u
  | succ b=>cases c
 have o:a=0/\T.iJ x b=some y:=by unfold eI at c;split at c;exact absurd rfl (f _);exact ⟨rfl,c⟩;cases c
 obtain ⟨rfl,q⟩:=o;have p:∀i,v≠ .tuple i:=by
  cases h with
  | v h r=>rintro i rfl;simp [ak] at h
  | u=>exact absurd rfl j
  | tu=>exact absurd rfl (f _)
  | _=>rintro i e;cases e
 have d:jv v b=some w:=by unfold mo at d;split at d;exact absurd rfl (p _);exact d;cases d
 exact h.iJ q d
theorem TR.oh {c:cD} {b:Addr} (h:TR D M H (.sl true c) (.slice (some b) a 1)):¬M b.block/\∃C sz f,H[b.block]? =some (.row C sz f):=by
 cases h with
 | sl e d _ _ _ _=>exact ⟨d,_,_,_,e⟩
theorem OR.dI {r:Bool} {o:TO} (h:OR D M ω H q r a o) (f:o.az=some b):∃c,D r a b=some c/\ω c=bif q then some (.o r a) else none:=by
 cases o with
 | row i sz=>cases f;have ⟨_,c,C,d,_,_,e,_⟩:=h;exact ⟨c,d,e⟩
 | aY j sz g=>cases f;have ⟨c,C,d,_,_,_,e,_⟩:=h;exact ⟨c,d,e⟩
 | mp g cl=>cases f;have ⟨c,d,_,_,e⟩:=h;exact ⟨c,d,e⟩
 | dead=>cases f
theorem St.ne (h:St X D ω fl H τ l s V) {i:Bool} {o j:TO} (w:(T.ob l s q)[a]? =some o) (x:(T.ob l s i)[b]? =some j) (r:o.az=some c) (t:j.az=some d) (n:D q a c=some e) (p:D i b d=some f) (z:wr fl q a) (v:¬(i=q/\b=a)):f≠e:=by
 rintro rfl;obtain ⟨A,a1,a2⟩:=(h.ob q a o w).dI r;obtain ⟨C,k,g⟩:=(h.ob i b j x).dI t;rw [n] at a1;cases a1;rw [p] at k;cases k;rw [a2,z] at g;cases m:wr fl i b with
 | true=>rw [m] at g;simp at g;exact v ⟨g.1.symm,g.2.symm⟩
 | false=>rw [m] at g;cases g
theorem Mu.of {o:TO} (f:(ob l s q)[a]? =some o) (e:o.az=some b) (d:D q a b=some c):Mu X D l s c:=.inr ⟨q,a,o,b,f,e,d⟩
theorem Mu.put {r:Bool} {g k:Nat} {o i:TO} (f:(T.ob l s r)[g]? =some o) (q:o.az=some k) (t:i.az=some k):Mu X D (T.put l s r g i).1 (T.put l s r g i).2=Mu X D l s:=by funext w;apply propext;apply or_congr Iff.rfl;constructor;rintro ⟨j,h,p,m,a,b,c⟩;rw [jP] at a;split at a;rename_i e;obtain ⟨rfl,rfl⟩:=e;rw [f] at a;cases a;rw [t] at b;cases b;exact ⟨_,_,o,k,f,q,c⟩;exact ⟨j,h,p,m,a,b,c⟩;rintro ⟨j,h,p,m,a,b,c⟩;by_cases e:j=r/\h=g;obtain ⟨rfl,rfl⟩:=e;rw [f] at a;cases a;rw [q] at b;cases b;exact ⟨_,_,i,k,by rw [jP,zO ⟨rfl,rfl⟩,f];rfl,t,c⟩;exact ⟨j,h,p,m,by rw [jP,zN e];exact a,b,c⟩
theorem St.Az (h:St X D ω fl H τ l s V) (c:a<V.length) (f:TR D (Mu X D l s) H x u) (d:Own ω H x u (.t a)):St X D ω fl H (aG τ a x) l s (V.set a u):={
 tm:=λt=>by rcases aL τ a t x with ⟨rfl,e⟩|⟨b,e⟩;rw [e,iu c];exact f;rw [e,dR (λe=>b e.symm)];exact h.tm t
 ow:=λt=>by rcases aL τ a t x with ⟨rfl,e⟩|⟨b,e⟩;rw [e,iu c];exact d;rw [e,dR (λe=>b e.symm)];exact h.ow t
 ob:=h.ob
 lt:=h.lt
 fC:=h.fC
 mM:=h.mM
 xl:=h.xl
 xo:=h.xo}
theorem St.put (h:St X D ω fl H τ l s V) {d:dj} {x:TV} {v:aq} (a:∀k,d=some k->k<V.length) (c:TR D (Mu X D l s) H x v) (b:NO x v):St X D ω fl H (dU τ d x) l s (bZ V d v):=by
 cases d with
 | none=>exact h
 | some d=>exact h.Az (a d rfl) c (b.own _)
theorem St.HJ (h:St X D ω fl H τ l s V) (t:Nat):St X D ω fl H (aG τ t (bw (τ t))) l s V:={
 tm:=λa=>by rcases aL τ t a (bw (τ t)) with ⟨rfl,e⟩|⟨b,e⟩;rw [e];exact (h.tm _).bw;rw [e];exact h.tm a
 ow:=λa=>by rcases aL τ t a (bw (τ t)) with ⟨rfl,e⟩|⟨b,e⟩;rw [e];exact (NO.bw _ _).own _;rw [e];exact h.ow a
 ob:=h.ob
 lt:=h.lt
 fC:=h.fC
 mM:=h.mM
 xl:=h.xl
 xo:=h.xo}
theorem Le.write (d:M a) (c:AO):Le D M H D M (H.set a c):=
 ⟨λ_ _ _ _ h=>h,λv C sz f e b=>⟨b,f,by rw [zD];exact e;rintro rfl;exact b d⟩⟩
theorem Fr.aM {b:Addr} (c:Fr H b a) (g:h[b.block]? =H[b.block]?):Fr h b a:=by obtain ⟨d,C,sz,i,e,f⟩:=c;exact ⟨d,C,sz,i,g.trans e,f⟩
theorem OR.other {r:Bool} {o:TO} (t:OR D M ω H q r a o) (m:Le D M H E J h) (w:∀k b,o.az=some k->D r a k=some b->h[b]? =H[b]? /\ω' b=ω b) (N:∀k sz g,o= .aY k sz g->∀f,k<f->D r a f=none->E r a f=none)
  (K:q->∀(c:Addr) (j:Nat),ω c.block=some (.c r a j)->¬M c.block->ω' c.block=some (.c r a j)/\h[c.block]? =H[c.block]?):OR E J ω' h q r a o:=by
 cases o with
 | row cs sz=>obtain ⟨F,b,C,d,i,e,l,v⟩:=t;obtain ⟨p,s⟩:=w 0 b rfl d;refine ⟨F,b,C,m.qv _ _ _ _ d,p.trans i,e.mono m,s.trans l,λy j g c n z A=>?_⟩;obtain ⟨P,R⟩:=v y j g c n z A;have:=(e.2 j _ _ z A).oh.1;obtain ⟨X,q4⟩:=K y c j P this;exact ⟨X,R.aM q4⟩
 | aY k sz g=>obtain ⟨b,C,d,i,L,e,l,v⟩:=t;obtain ⟨p,s⟩:=w k b rfl d;exact ⟨b,C,m.qv _ _ _ _ d,p.trans i,L,e.mono m,s.trans l,λf x=>N _ _ _ rfl f x (v f x)⟩
 | mp g cl=>obtain ⟨b,d,i,e,l⟩:=t;obtain ⟨p,s⟩:=w 0 b rfl d;exact ⟨b,m.qv _ _ _ _ d,p.trans i,e,s.trans l⟩
 | dead=>trivial
theorem St.write (h:St X D ω fl H τ l s V) {o o':TO} (y:(T.ob l s q)[a]? =some o) (r:wr fl q a) (x:o.az=some b) (c4:o'.az=some b) (E:D q a b=some c) (w:AO) (f:Loc->Loc)
  (b6:∀t,TR D (Mu X D l s) H (τ' t) (V.getD t undef))
  (c7:∀t i j C p n,eI (τ' t) i j=some (.sl true C)->mo (V.getD t undef) i j=some (.slice (some p) n 1)->(ω p.block).map f=some (.t t i j)/\Fr H p n)
  (c3:∀q a,f (.o q a)= .o q a) (c2:∀m g j,¬(m=q/\g=a)->f (.c m g j)= .c m g j)
  (c6:OR D (Mu X D l s) (λv=>(ω v).map f) (H.set c w) true q a o'):
  St X D (λv=>(ω v).map f) fl (H.set c w) τ' (T.put l s q a o').1 (T.put l s q a o').2 V/\Xt X fl D ω H l s D (λv=>(ω v).map f) (H.set c w) (T.put l s q a o').1 (T.put l s q a o').2:=by
 have F:Mu X D (T.put l s q a o').1 (T.put l s q a o').2=Mu X D l s:=Mu.put y x c4;have A:Mu X D l s c:=Mu.of y x E;have P:Le D (Mu X D l s) H D (Mu X D l s) (H.set c w):=Le.write A w;have c8:ω c=some (.o q a):=by obtain ⟨v1,a1,a2⟩:=(h.ob q a o y).dI x;rw [E] at a1;cases a1;rw [a2,r];rfl
 have z:∀v,v≠c->(H.set c w)[v]? =H[v]? :=λv d=>zD (λe=>d e.symm);refine ⟨⟨λt=>by rw [F];exact (b6 t).mono P,λt i j C p n k L=>?_,λm g o1 k=>?_,λv d2 d=>?_,λm g k' v d=>?_,?_,λv d=>by rw [xI];exact h.xl v d,λv d=>by simp [h.xo v d]⟩,⟨λ_ _ _ _ h=>h,Z,λv _ d=>?_,λv d1 sz lo d hn=>⟨lo,?_⟩,λv d=>.inl (by rw [F] at d;exact d),λg hid=>yw r o' hid⟩⟩;obtain ⟨q1,q2⟩:=c7 t i j C p n k L;refine ⟨q1,q2.aM (z _ ?_)⟩;rintro e;have:=((b6 t).at k L).oh.1;rw [e] at this;exact this A;rw [jP] at k;rw [F];split at k;rename_i e;obtain ⟨rfl,rfl⟩:=e;rw [y] at k;cases k;rw [r];exact c6;rename_i e;refine (h.ob m g o1 k).other P (λk' v N M=>?_) (λ_ _ _ _ _ _ x=>x) (λ_ p j hc R=>⟨?_,z _ ?_⟩);have c5:=h.ne y k x N E M r e;refine ⟨z _ c5,?_⟩;obtain ⟨v2,J,b2⟩:=(h.ob m g o1 k).dI N;rw [M] at J;cases J;show (ω v).map f=ω v;rw [b2];cases wr fl m g <;> simp [c3];show (ω p.block).map f=_;rw [hc];simp [c2 m g j e];rintro e;rw [e] at R;exact R A;rw [xI];cases r:ω v with
 | none=>simp only [r] at d;cases d
 | some c9=>exact h.lt v c9 r
 rw [gw,xI];exact h.fC m g k' v d;have:=h.mM;have e:=gw l s q a o' true;simp only [T.ob,cond_true] at e;omega;refine ⟨z _ ?_,by simp [d]⟩;rintro rfl;rw [c8] at d;cases d;rw [z _ ?_];exact d;rintro rfl;exact hn A
theorem hL:∀(b c:ao) (a j:Nat),a+b.length<=c.length->(eQ c a b)[j]? =if a<=j/\j<a+b.length then b[j-a]? else c[j]? :=by
 intro b;induction b with
 | nil=>intro c a j _;rw [zN Z];rfl
 | cons x b f=>intro c a j h;simp at h;rw [eQ,f _ _ _ W,yT];simp;by_cases e:j=a;subst e;rw [zN O,zO rfl,zO O,zO O,wY];rfl;by_cases d:a+1<=j/\j<a+1+b.length;rw [zO d,zO O,show j-a=(j-(a+1))+1 by omega,xU];rw [zN d,zN O,zN O]
theorem dW:∀(b c:aQ) (a j:Nat),a+b.length<=c.length->(cr c a b)[j]? =if a<=j/\j<a+b.length then b[j-a]? else c[j]? :=by
 intro b;induction b with
 | nil=>intro c a j _;rw [zN Z];rfl
 | cons x b f=>intro c a j h;simp at h;rw [cr,f _ _ _ W,yT];simp;by_cases e:j=a;subst e;rw [zN O,zO rfl,zO O,zO O,wY];rfl;by_cases d:a+1<=j/\j<a+1+b.length;rw [zO d,zO O,show j-a=(j-(a+1))+1 by omega,xU];rw [zN d,zN O,zN O]
@[simp] theorem fY:∀(b a:ao) (c:Nat),(eQ a c b).length=a.length:=by
 intro b;induction b with
 | nil=>intro a c;rfl
 | cons x b d=>intro a c;simp [eQ,d]
theorem gT.eQ {f:ao} {g:aQ} (h:gT D M H o p) (k:gT D M H f g) (i:a+f.length<=o.length):gT D M H (T.eQ o a f) (cr p a g):=by refine ⟨by simp [h.1],λj x c d b=>?_⟩;rw [hL _ _ _ _ i] at d;rw [dW _ _ _ _ (by have:=h.1;have:=k.1;omega),<-k.1] at b;split at d;rename_i e;rw [zO e] at b;exact k.2 _ x c d b;rename_i e;rw [zN e] at b;exact h.2 _ x c d b
theorem td {b:ao} (h:cK o) (k:cK b) (d:a+b.length<=o.length):cK (T.eQ o a b):=by refine kh λx f=>?_;obtain ⟨j,c,rfl⟩:=yA f;have e:=zA c;rw [hL _ _ _ _ d] at e;split at e;exact cP k e;exact cP h e
theorem Hs {b:ao} (h:n4 o) (k:n4 b) (d:a+b.length<=o.length):n4 (T.eQ o a b):=by refine Ep λx f=>?_;obtain ⟨j,c,rfl⟩:=yA f;have e:=zA c;rw [hL _ _ _ _ d] at e;split at e;exact fk k e;exact fk h e
theorem rB (H:AH) (a:Nat) (o:AO) (b:H[a]? =some o):H.set a o=H:=je H a o b
theorem rq (h:aW x) (j:Nat):eI x 0 j=(ce x)[j]? :=by
 cases x with
 | ag a=>rfl
 | u=>simp [aW,ce,cK,cI] at h
 | tu b=>simp [aW,ce,cK,cI] at h
 | _=>cases j <;> simp [eI,iJ,ce]
theorem jW (c:TR D M H x v) (h:aW x) (j:Nat):mo v 0 j=v.cells.toList[j]? :=by
 cases x with
 | ag l=>
  cases c with
  | ag _ _=>simp [mo,jv,Value.cells]
 | u=>simp [aW,ce,cK,cI] at h
 | tu n=>simp [aW,ce,cK,cI] at h
 | _=>
  have b:=c.Ad (by simpa [aW,ce,cK] using h);have e:v.cells= #[v]:=by cases v <;> first|rfl|(simp [one] at b)
  have f:∀a,v≠ .agg a:=by rintro a rfl;cases b
  have g:∀a,v≠ .tuple a:=by rintro a rfl;cases b
  rw [e];have i:mo v 0 j=jv v j:=by unfold mo;split;exact absurd rfl (g _);rfl;rename_i m d;exact absurd rfl d
  rw [i];unfold jv;split;exact absurd rfl (f _);rfl;rename_i k;cases j with
  | zero=>exact absurd rfl k
  | succ j=>simp
def toCell (c:dj) (r:Bool) (a b:Nat):Loc->Loc
 | .t n i j=>if c=some n then .c r a (b+j) else .t n i j
 | x=>x
theorem o7 (h:mi P t=some a) {sz:Nat} (m:H[b]? =some (.row p sz (some d))) (e:u.cells.size=a) (f:c+a<=p.length) (g:u.cells.toList.all one) (j:d<=c) (k:AK sz c a):
  fF P t (.pointer (some ⟨b,c,none⟩)) u H=some (H.set b (.row (cr p c u.cells.toList) sz (some d))):=by
 unfold mi at h;obtain ⟨i,l,rfl⟩:=map_some h;simp only [fF,m,l];rw [zO ⟨e,f,g,j,k⟩]
theorem St.vd (h:St X D ω fl H τ l s V) {n:Nat} {r:Bool} {off:Nat} {sz:Nat} (F:(T.ob l s r)[a]? =some (.row o sz)) (J:wr fl r a) {x':aq} (hn:(ce x).length=n) (hl:off+n<=o.length) (z:aW x) (L:TR D (Mu X D l s) H x x') (q:dj)
  (b2:∀j c b k,eI x 0 j=some (.sl true c)->mo x' 0 j=some (.slice (some b) k 1)->∃m,q=some m/\ω b.block=some (.t m 0 j)/\Fr H b k)
  (P:∀t,(q≠some t/\τ' t=τ t)\/(∃y,τ' t=T.bw y/\TR D (Mu X D l s) H y (V.getD t undef))):
  ∃f C ω',D r a 0=some f/\H[f]? =some (.row C sz (some 0))/\o.length=C.length/\x'.cells.size=n/\x'.cells.toList.all one/\
   St X D ω' fl (H.set f (.row (cr C off x'.cells.toList) sz (some 0))) τ' (T.put l s r a (.row (eQ o off (ce x)) sz)).1 (T.put l s r a (.row (eQ o off (ce x)) sz)).2 V/\Xt X fl D ω H l s D ω' (H.set f (.row (cr C off x'.cells.toList) sz (some 0))) (T.put l s r a (.row (eQ o off (ce x)) sz)).1 (T.put l s r a (.row (eQ o off (ce x)) sz)).2:=by
 have c4:∀t,TR D (Mu X D l s) H (τ' t) (V.getD t undef):=by intro t;rcases P t with ⟨_,e⟩|⟨y,e,M⟩;rw [e];exact h.tm t;rw [e];exact M.bw
 have b6:∀(r:Bool) (a off:Nat) t i j c b k,eI (τ' t) i j=some (.sl true c)->mo (V.getD t undef) i j=some (.slice (some b) k 1)->(ω b.block).map (toCell q r a off)=some (.t t i j)/\Fr H b k:=by
  intro r a off t i j c b k d v;rcases P t with ⟨b1,e⟩|⟨y,e,M⟩;rw [e] at d;obtain ⟨q1,q2⟩:=h.ow t i j c b k d v;rw [q1];exact ⟨by simp [toCell,b1],q2⟩;rw [e,ru] at d;cases N:eI y i j with
  | none=>rw [N] at d;cases d
  | some c6=>rw [N] at d;exact absurd (yD d) (l9 c6 c)
 obtain ⟨h0,f,C,d,v,w,h4,h5⟩:=h.ob r a _ F;obtain ⟨c1,c2⟩:=L.ce (by simpa [aW] using z);have c3:x'.cells.size=n:=by have:=c1.1;simp at this;omega
 refine ⟨f,C,λc5=>(ω c5).map (toCell q r a off),d,v,w.1,c3,c2,?_⟩;apply h.write F J rfl rfl d _ (toCell q r a off) c4 (b6 r a off) (λ_ _=>rfl) (λr' c7 j he=>rfl);have K:Mu X D l s f:=Mu.of F rfl d;refine ⟨td h0 (by simpa [aW] using z) O,f,cr C off x'.cells.toList,d,zF (aa v),(w.eQ c1 O).mono (Le.write K _),?_,λ_ j c b k p g=>?_⟩;show (ω f).map _=_;rw [h4,J];rfl;rw [hL _ _ _ _ O] at p;rw [dW _ _ _ _ (by have:=w.1;have:=c1.1;omega),<-c1.1] at g;have R:∀{y:TV} {c:cD} {b:Addr} {k:Nat},TR D (Mu X D l s) H (.sl true c) (.slice (some b) k 1)->(H.set f (.row (cr C off x'.cells.toList) sz (some 0)))[b.block]? =H[b.block]? :=by intro y c b k hh;refine zD ?_;rintro rfl;exact hh.oh.1 K
 split at p;rename_i E;rw [zO E] at g;obtain ⟨m,e1,A,e3⟩:=b2 (j-off) c b k (by rw [rq z];exact p) (by rw [jW L z];exact g);refine ⟨?_,e3.aM (R (y:=.u) (c1.2 _ _ _ p g))⟩;show (ω b.block).map _=_;rw [A];simp only [zH,toCell,e1,if_true,xP,Loc.c.injEq,true_and];omega;rename_i E;rw [zN E] at g;obtain ⟨A,e3⟩:=h5 J j c b k p g;refine ⟨?_,e3.aM (R (y:=.u) (w.2 _ _ _ p g))⟩;show (ω b.block).map _=_;rw [A];rfl
theorem St.store (E:St X D ω fl H τ l s V) {t:aP} {b1:Nat} (ht:mi P t=some b1) {c9 x:TV} {a' K:aq} {p:ae×ae} (a:cF b1 fl x l s c9=some p) (ha:TR D (Mu X D l s) H c9 a') (hx:TR D (Mu X D l s) H x K) (C:dj)
  (e1:∀j g c k,eI x 0 j=some (.sl true g)->mo K 0 j=some (.slice (some c) k 1)->∃d2,C=some d2/\ω c.block=some (.t d2 0 j)/\Fr H c k)
  (c7:∀t,(C≠some t/\τ' t=τ t)\/(∃y,τ' t=T.bw y/\TR D (Mu X D l s) H y (V.getD t undef))):
  ∃h ω',fF P t a' K H=some h/\St X D ω' fl h τ' p.1 p.2 V/\Xt X fl D ω H l s D ω' h p.1 p.2:=by
 have f2:∀t,TR D (Mu X D l s) H (τ' t) (V.getD t undef):=by intro t;rcases c7 t with ⟨_,e⟩|⟨y,e,hy⟩;rw [e];exact E.tm t;rw [e];exact hy.bw
 have e2:∀(r:Bool) (n f:Nat) t i j g c k,eI (τ' t) i j=some (.sl true g)->mo (V.getD t undef) i j=some (.slice (some c) k 1)->(ω c.block).map (toCell C r n f)=some (.t t i j)/\Fr H c k:=by
  intro r n f t i j g c k b w;rcases c7 t with ⟨d9,e⟩|⟨y,e,hy⟩;rw [e] at b;obtain ⟨q1,q2⟩:=E.ow t i j g c k b w;rw [q1];exact ⟨by simp [toCell,d9],q2⟩;rw [e,ru] at b;cases hz:eI y i j with
  | none=>rw [hz] at b;cases b
  | some z=>rw [hz] at b;exact absurd (yD b) (l9 z g)
 unfold cF at a;split at a;rename_i r n f;split at a;rename_i cs sz J;split at a;rename_i hc;obtain ⟨R,hn,hl,N,d3⟩:=hc;cases a;obtain ⟨b2,c8,ω',b,w,A,h4,h5,o⟩:=E.vd J R hn hl N hx C e1 c7;cases ha with
 | p F=>rw [b] at F;cases F;exact ⟨_,ω',o7 ht w h4 O h5 (zZ _) d3,o⟩
 cases a;cases a;rename_i r n f6 i sz f;split at a;rename_i k z g J;split at a;rename_i hk;obtain ⟨rfl,rfl,R,f1⟩:=hk;split at a;rename_i e M;split at a;rename_i hc;obtain ⟨hn,hl,N⟩:=hc;cases a;obtain ⟨b2,c8,b,w,d8,A,h4,h5⟩:=E.ob r n _ J;cases ha with
 | q F=>
  rw [b] at F;cases F;have hb:=hx.dA;have e6:cK (ce x):=by
   refine kh λy hy=>?_;obtain ⟨j,hj,rfl⟩:=yA hy;have:((ce x).map dY)[j]? =some (dY (ce x)[j]):=by rw [zK,zA hj];rfl
   have:=iR (fk N this);rwa [th] at this
  obtain ⟨c1,c2⟩:=hx.ce e6;have c3:=c1.Be;have d1:K.cells.size=b1:=by have:=c1.1;simp at this;omega
  have c4:=A.1 e (zI M);have d7:=aa M;have f4:i*z+z<=c8.length:=by have:(i+1)*z<=g.length*z:=zW _ d7;rw [xN] at this;omega
  refine ⟨_,λf3=>(ω f3).map (toCell C r n f),o7 ht w d1 O c2 (zZ _) (KU f1),?_⟩;apply E.write J R rfl rfl b _ (toCell C r n f) f2 (e2 r n f) (λ_ _=>rfl) (λr' f5 j M=>rfl);have hm:Mu X D l s b2:=Mu.of J rfl b;have d4:K.cells.toList.length=b1:=by simpa using d1
  refine ⟨b2,_,b,zF (aa w),by rw [iE,xI];exact d8,?_,?_,h5⟩;refine JS.mono (Le.write hm _) ⟨λL d5=>?_,W,λi' j L y b6 o m d=>?_⟩;rcases List.mem_or_eq_of_mem_set d5 with v|v;exact A.1 L v;subst v;exact ⟨by rw [fY];exact c4.1,Hs c4.2 N W⟩;rw [yM] at d;rw [dW _ _ _ _ O,d4] at d;rw [yT] at o;split at o;rename_i c5;subst c5;cases o;have c6:=aa m;rw [fY,c4.1] at c6;rw [hL _ _ _ _ W] at m;simp only [yV] at m;split at m;rename_i hj;rw [zO O] at d;rw [show i*z+j-(i*z+f)=j-f by omega] at d;exact c3.2 _ y b6 m d;rename_i hj;rw [zN O] at d;exact A.2.2 i j e y b6 M m (by rw [yM];exact d);rename_i c5;have d6:=A.1 L (zI o);have c6:=aa m;rw [d6.1] at c6;rw [zN ?_] at d;exact A.2.2 i' j L y b6 o m (by rw [yM];exact d);rintro ⟨g1,g2⟩;rcases Nat.lt_or_gt_of_ne c5 with v|v;have:(i+1)*z<=i'*z:=zW _ v;rw [xN] at this;omega;have:(i'+1)*z<=i*z:=zW _ v;rw [xN] at this;omega;show (ω b2).map _=_;rw [h4,R];rfl
 cases a;cases a;cases a;cases a;cases a
theorem F6 (h:cI x):ce x=[x]:=by cases x <;> first|rfl|(cases h)
theorem Hg (g:cK o) (h:part q a o b=some x):∃m,(ce x).length=m/\b+m<=o.length/\(∀j,j<m->(ce x)[j]? =o[b+j]?)/\aW x/\ce x=(o.drop b).take m/\(q=true->m=a)/\(q=false->m=1):=by
 unfold part at h;cases q with
 | true=>simp only [cond_true] at h;split at h;rename_i i;cases h;refine ⟨a,by simp [ce];omega,i,λj c=>by simp [ce,c],?_,rfl,λ_=>rfl,λh=>by cases h⟩;refine kh λl k=>?_;have:=wM (yG k);obtain ⟨j,c,rfl⟩:=yA this;exact cP g (zA c);cases h
 | false=>
  simp at h;have d:=cP g h;have f:=aa h;have e:(o.drop b).take 1=[x]:=by rw [yL f];simp only [List.take_succ_cons,List.take_zero];rw [zA f] at h;cases h;rfl
  rw [F6 d];refine ⟨1,rfl,f,λj c=>?_,by simp [aW,F6 d,cK,d],e.symm,(λh=>by cases h),λ_=>rfl⟩;obtain rfl:j=0:=O;simpa using h.symm
def lV (r:Bool) (e a m d:Nat):Loc->Loc
 | .c c b k=>if c=r/\b=e/\a<=k/\k<a+m then .t d 0 (k-a) else .c c b k
 | x=>x
theorem St.take (h:St X D ω fl H τ l s V) (hr:res P t=some (q,a)) {p:TV×ae×ae} (c:gX q a fl l s x=some p) (ha:TR D (Mu X D l s) H x u) (d:dj) (hd:∀k,d=some k->k<V.length):
  ∃v ω',cV P t u H=some v/\St X D ω' fl H (dU τ d p.1) p.2.1 p.2.2 (bZ V d v)/\Xt X fl D ω H l s D ω' H p.2.1 p.2.2:=by
 unfold gX at c;split at c;rename_i c5 id r;split at c;rename_i cs sz ho;split at c;rename_i L;obtain ⟨b2,M,rfl⟩:=map_some c;obtain ⟨J,b1,C,A,E,F,h4,h5⟩:=h.ob c5 id _ ho;cases ha with
 | p K=>
  rw [A] at K;cases K;obtain ⟨v,q1,R,q3,q4⟩:=gT.part F.le M;obtain ⟨m,N,m2,m3,m4,m5,m6,m7⟩:=Hg J M;have hv:=ji hr E (Vv F.2 (Ei J) M q3 q4) q1;have c6:∀j,j<m->mo v 0 j=C[r+j]? :=by
   intro j o;cases q with
   | true=>obtain ⟨_,_,rfl⟩:=q3 rfl;have:=m6 rfl;simp only [mo,jv];rw [List.getElem?_toArray,zU,zO O,yP]
   | false=>
    obtain ⟨p1,p2⟩:=q4 rfl;have:=m7 rfl;obtain rfl:j=0:=O;have A:=R.Ad (cP J p1);rw [jW R m4];have E:v.cells= #[v]:=by cases v <;> first|rfl|(simp [one] at A)
    rw [E,wZ,p2];rfl
  have c3:=rB H b1 _ E;have c4:=h.write (o':=.row (T.eQ cs r ((ce b2).map dY)) sz) ho L rfl rfl A (.row C sz (some 0)) (lV c5 id r m (d.getD 0)) h.tm
   (λt i j y g k n w=>by
    obtain ⟨u1,u2⟩:=h.ow t i j y g k n w;rw [u1];exact ⟨rfl,u2⟩) (λ_ _=>rfl) (λr' c8 j he=>by
    simp only [lV];rw [zN (λe=>he ⟨e.1,e.2.1⟩)]) (by
    rw [c3];refine ⟨td J (tf m4) W,b1,C,A,E,⟨by rw [fY];exact F.1,λj c7 c2 f hc=>?_⟩,?_,λ_ j y g k b h7=>?_⟩;rw [hL _ _ _ _ W,yV,N] at f;split at f;rename_i o;rw [zK,m3 _ O,show r+(j-r)=j by omega] at f;cases z:cs[j]? with
    | none=>rw [z] at f;cases f
    | some b6=>rw [z] at f;cases f;exact (F.2 j b6 c2 z hc).dY
    exact F.2 j c7 c2 f hc;show (ω b1).map _=_;rw [h4,L];rfl;rw [hL _ _ _ _ W,yV,N] at b;split at b;rename_i o;rw [zK] at b;cases z:(ce b2)[j-r]? with
    | none=>rw [z] at b;cases b
    | some b6=>rw [z] at b;exact absurd (yD b) (l9 b6 y)
    rename_i o;obtain ⟨w,e3⟩:=h5 L j y g k b h7;refine ⟨?_,e3⟩;show (ω g.block).map _=_;rw [w];simp only [zH,lV];rw [zN (λe=>o ⟨e.2.2.1,e.2.2.2⟩)])
  rw [c3] at c4;obtain ⟨w1,w2⟩:=c4;refine ⟨v,_,hv,?_,w2⟩;cases d with
  | none=>exact w1
  | some d=>
   refine w1.Az (hd d rfl) (R.mono w2.le) λi j y g k n w=>?_;have K:i=0:=by
    cases i with
    | zero=>rfl
    | succ i=>exfalso;cases b2 <;> simp [eI] at n;rename_i vs;simp [aW,ce,cK,cI] at m4
   subst K;rw [rq m4] at n;have o:j<m:=by rw [<-N];exact aa n
   rw [c6 j o] at w;rw [m3 j o] at n;obtain ⟨e3,e4⟩:=h5 L (r+j) y g k n w;refine ⟨?_,e4⟩;show (ω g.block).map _=_;rw [e3];simp only [zH,lV,Option.getD_some];rw [zO (by refine ⟨?_,?_,O,O⟩ <;> first|rfl|trivial)];simp
 cases c;cases c;cases c
def aH.add (D:aH) (r:Bool) (d k e:Nat):aH:=λc a b=>if c=r/\a=d/\b=k then some e else D c a b
theorem aH.add_same (D:aH) (r:Bool) (a k b:Nat):D.add r a k b r a k=some b:=zO ⟨rfl,rfl,rfl⟩
theorem St.add (h:St X D ω fl H τ l s V) (r:Bool) {o:TO} (E:o.az=some 0) (p:AO) (f:Loc->Loc)
  (c9:∀t,TR D (Mu X D l s) H (τ' t) (V.getD t undef))
  (c7:∀t i j x a n,eI (τ' t) i j=some (.sl true x)->mo (V.getD t undef) i j=some (.slice (some a) n 1)->(ω a.block).map f=some (.t t i j)/\Fr H a n)
  (c2:∀r id,f (.o r id)= .o r id) (b6:∀g d j,d<(T.ob l s g).length->f (.c g d j)= .c g d j)
  (c6:∀J:Nat->Prop,Le D (Mu X D l s) H (D.add r (T.ob l s r).length 0 H.length) J (H++[p])->OR (D.add r (T.ob l s r).length 0 H.length) J (λv=>if v=H.length then some (.o r (T.ob l s r).length) else (ω v).map f) (H++[p]) true r (T.ob l s r).length o):
  St X (D.add r (T.ob l s r).length 0 H.length) (λv=>if v=H.length then some (.o r (T.ob l s r).length) else (ω v).map f) fl (H++[p]) τ' (T.add l s r o).1 (T.add l s r o).2 V/\
   Xt X fl D ω H l s (D.add r (T.ob l s r).length 0 H.length) (λv=>if v=H.length then some (.o r (T.ob l s r).length) else (ω v).map f) (H++[p]) (T.add l s r o).1 (T.add l s r o).2:=by
 have c8:wr fl r (T.ob l s r).length:=by
  cases r with
  | false=>rfl
  | true=>simp only [wr,cond_true,T.ob];exact zY h.mM
 have R:∀g d m v,D g d m=some v->(D.add r (T.ob l s r).length 0 H.length) g d m=some v:=by intro g d m v b;unfold aH.add;rw [zN];exact b;rintro ⟨rfl,rfl,rfl⟩;exact absurd (h.fC _ _ _ _ b).1 (wF _)
 have N:∀v,Mu X (D.add r (T.ob l s r).length 0 H.length) (T.add l s r o).1 (T.add l s r o).2 v->Mu X D l s v\/H.length<=v:=by rintro v (hx|⟨r1,d1,A,k1,c,q,k⟩);exact .inl (.inl hx);rw [Ef] at c;split at c;rename_i e;obtain ⟨rfl,rfl⟩:=e;cases c;rw [E] at q;cases q;rw [aH.add_same] at k;cases k;exact .inr (zE _);rename_i e;refine .inl (.inr ⟨r1,d1,A,k1,c,q,?_⟩);unfold aH.add at k;rw [zN] at k;exact k;rintro ⟨rfl,rfl,_⟩;exact e ⟨rfl,rfl⟩
 have w:∀v,v<H.length->(H++[p])[v]? =H[v]? :=λv b=>zB b;have y:Le D (Mu X D l s) H (D.add r (T.ob l s r).length 0 H.length) (Mu X (D.add r (T.ob l s r).length 0 H.length) (T.add l s r o).1 (T.add l s r o).2) (H++[p]):=
  ⟨R,λv C sz z b F=>⟨λc5=>by rcases N v c5 with c|c;exact F c;have:=aa b;omega,z,(w v (aa b)).trans b⟩⟩
 refine ⟨⟨λt=>(c9 t).mono y,λt i j x a n c q=>?_,λg d A c=>?_,λv d5 b=>?_,λg d m v b=>?_,?_,λv b=>by have:=h.xl v b;simp;omega,λv b=>by have:=h.xl v b;show (if _ then _ else _)=_;rw [zN O,h.xo v b];rfl⟩,⟨R,Z,λv b hn=>?_,λv C sz z b F=>(y.aM v C sz z b F).2,N,λd hid=>Ii h.mM r o hid⟩⟩
 obtain ⟨q1,q2⟩:=c7 t i j x a n c q;have c4:a.block<H.length:=by obtain ⟨_,C,sz,z,k,_⟩:=q2;exact aa k
 refine ⟨?_,q2.aM (w _ c4)⟩;show (if _ then _ else _)=_;rw [zN O];exact q1;rw [Ef] at c;split at c;rename_i e;obtain ⟨rfl,rfl⟩:=e;cases c;rw [c8];exact c6 _ y;rename_i e;have hid:=aa c;refine (h.ob g d A c).other y (λm v c3 M=>?_) (λd4 sz x _ m _ E=>?_) (λ_ a j L d3=>?_);have b:=(h.fC _ _ _ _ M).2;refine ⟨w _ b,?_⟩;show (if _ then _ else _)=_;rw [zN O];obtain ⟨v2,K,b2⟩:=(h.ob g d A c).dI c3;rw [M] at K;cases K;rw [b2];cases wr fl g d <;> simp [c2];unfold aH.add;rw [zN];exact E;rintro ⟨rfl,rfl,_⟩;exact absurd hid (wF _);have:=h.lt _ _ L;refine ⟨?_,w _ this⟩;show (if _ then _ else _)=_;rw [zN O,L];simp [b6 g d j hid];simp;by_cases e:v=H.length;omega;simp only [zN e] at b;cases P:ω v with
 | none=>rw [P] at b;cases b
 | some d2=>have:=h.lt v d2 P;omega
 rw [oz];simp;unfold aH.add at b;split at b;rename_i e;obtain ⟨rfl,rfl,_⟩:=e;cases b;rw [zO rfl];omega;have:=h.fC g d m v b;split <;> omega;have:=h.mM;have e:=oz l s r o true;simp only [T.ob,cond_true] at e;split at e <;> omega;refine ⟨w v b,?_⟩;show (if _ then _ else _)=_;rw [zN O,hn];rfl
theorem St.fresh (h:St X D ω fl H τ l s V) {sz k:Nat} {f:cD} (b6:k<=p.length) (d:dj) (hd:∀n,d=some n->n<V.length) (hC:p.length=f.length*sz) (c3:f≠[])
  (b1:∀e∈f,e.length=sz/\pM e) (b:∀(i j:Nat) (e:ao) (x:TV) (c:aq),f[i]? =some e->e[j]? =some x->p[i*sz+j]? =some c->TR D (Mu X D l s) H x c):
  ∃ω',St X D ω' fl (H++[.row p sz (some k)]) (dU τ d (.sl true f)) l s (bZ V d (.slice (some ⟨H.length,0,none⟩) f.length 1))/\Xt X fl D ω H l s D ω' (H++[.row p sz (some k)]) l s:=by
 have o:∀v,v<H.length->(H++[.row p sz (some k)])[v]? =H[v]? :=λv b=>zB b;have c2:∀v,Mu X D l s v->v<H.length:=by rintro v (hx|⟨r1,c8,N,k1,_,_,w⟩);exact h.xl v hx;exact (h.fC _ _ _ _ w).2
 have y:Le D (Mu X D l s) H D (Mu X D l s) (H++[.row p sz (some k)]):=⟨λ_ _ _ _ h=>h,λv E R A b q=>⟨q,A,(o v (aa b)).trans b⟩⟩;let ω':Nat->Option Loc:=λv=>if v=H.length then some (.t (d.getD 0) 0 0) else ω v
 have r:∀v,v<H.length->ω' v=ω v:=λv b=>zN O;have F:St X D ω' fl (H++[.row p sz (some k)]) τ l s V:=by
  refine ⟨λt=>(h.tm t).mono y,λt i j f a n g m=>?_,λC z N g=>?_,λv M b=>?_,λC z L v b=>?_,h.mM,λv b=>by have:=h.xl v b;simp;omega,λv b=>(r v (h.xl v b)).trans (h.xo v b)⟩;obtain ⟨P,q2⟩:=h.ow t i j f a n g m;have:=h.lt _ _ P;exact ⟨(r _ this).trans P,q2.aM (o _ this)⟩;refine (h.ob C z N g).other y (λL v c6 b2=>?_) (λ_ _ _ _ _ _ hk=>hk) (λ_ a j J c7=>?_);have:=(h.fC _ _ _ _ b2).2;exact ⟨o _ this,r _ this⟩;have:=h.lt _ _ J;exact ⟨(r _ this).trans J,o _ this⟩;simp;by_cases e:v=H.length;omega;have:ω v=some M:=by rw [<-b];exact (zN e).symm
  have:=h.lt v M this;omega;have:=h.fC C z L v b;simp;omega
 have K:(H++[AO.row p sz (some k)])[H.length]? =some (.row p sz (some k)):=Z;have c4:TR D (Mu X D l s) (H++[.row p sz (some k)]) (.sl true f) (.slice (some ⟨H.length,0,none⟩) f.length 1):=
  .sl K (λq=>absurd (c2 _ q) (wF _)) O b1 (λ_=>c3) λi j e x c g m w=>(b i j e x c g m (by rw [yM] at w;exact w)).mono y
 refine ⟨ω',?_,⟨λ_ _ _ _ h=>h,Z,λv b hn=>⟨o v b,(r v b).trans hn⟩,λv E R A b q=>(y.aM v E R A b q).2,λv b=>.inl b,λ_ _=>rfl⟩⟩;cases d with
 | none=>exact F
 | some d=>
  refine F.Az (hd d rfl) c4 λi j c5 a n g m=>?_;cases i with
  | succ i=>cases g
  | zero=>
   cases j with
   | succ j=>cases g
   | zero=>cases g;cases m;exact ⟨zO rfl,rfl,p,sz,k,K,hC,b6⟩
theorem ch {c:cD} (h:cS a b c) (d:o∈c):o.length=b/\n4 o/\(a=0->pM o):=by
 induction c with
 | nil=>cases d
 | cons x c g=>
  simp only [cS,zP] at h;rcases yQ.1 d with rfl|d;refine ⟨zS h.1.1,?_,λf=>?_⟩;have:=h.1.2;cases e:Nat.beq a 0 with
  | true=>rw [e] at this;exact rG this
  | false=>rw [e] at this;exact this
  subst f;exact h.1.2;exact g h.2 d
structure cB (ι:aH) (M:Nat->Prop) (H:AH) (es:cD) (e:Nat) (cs:aQ):Prop where
 len:cs.length=es.length*e
 oq:cs.all one
 rel:∀(i j:Nat) (c:ao) (x:TV) (v:aq),es[i]? =some c->c[j]? =some x->cs[i*e+j]? =some v->TR ι M H x v
theorem cB.mono (l:Le D M H E J h) {d:cD} (b:cB D M H d a p):cB E J h d a p:=⟨b.len,b.oq,λi j c x v e f g=>(b.rel i j c x v e f g).mono l⟩
theorem cB.mk' {d:cD} (g:0<b) (q:cS a b d) (m:p.length=d.length*b) (h:∀(i j:Nat) (c:ao) (x:TV) (v:aq),d[i]? =some c->c[j]? =some x->p[i*b+j]? =some v->TR D M H x v):cB D M H d b p:=by
 refine ⟨m,?_,h⟩;rw [zQ];intro v r;obtain ⟨n,o,rfl⟩:=yA r;have l:n/b<d.length:=by rw [Nat.div_lt_iff_lt_mul g];omega
 have t:n%b<b:=Nat.mod_lt _ g;have e:=zA l;obtain ⟨w,s,_⟩:=ch q (zI e);have f:=zA (show n%b<d[n/b].length by omega);have k:n/b*b+n%b=n:=by rw [Nat.mul_comm];exact Nat.div_add_mod _ _
 exact (h _ _ _ _ p[n] e f (by rw [k];exact zA o)).Ad (iR (fk s f))
theorem oW {b:cD} {cs:aQ} {f:Option (aQ)} (h:cB D M H b a cs) (c:cs.all nj->f=some cs):∃cs,f=some cs/\cB D M H b a cs:=⟨cs,c (by have:=h.oq;rw [zQ] at this ⊢;intro x d;have:=this x d;cases x <;> first|rfl|(simp [one] at this)),h⟩
theorem kJ (c4:∀r J c5,(ob l s r)[J]? =some c5->OR D M ω H (wr fl r J) r J c5) {q:cD} (h:aO l s x=some q) (he:0<b) (t:cS a b q) (hy:TR D M H x u):
  wz u=some q.length/\∃E,cZ b q.length u H=some E/\cB D M H q b E:=by
 have X:q=[]->cB D M H q b []:=by rintro rfl;exact ⟨Z,rfl,λi j c K v d=>by simp at d⟩
 unfold aO at h;split at h;cases h;cases hy with
 | sn=>exact ⟨rfl,[],rfl,X rfl⟩
 | s0=>exact ⟨rfl,[],rfl,X rfl⟩
 | se=>exact ⟨rfl,[],rfl,X rfl⟩
 | @sl _ _ c7 k sz C lo P hm F c6 c9 hr=>
  refine ⟨rfl,?_⟩;by_cases w:q.length=0;exact ⟨[],by simp [cZ,w],X (zL w)⟩;have R:sz=b:=by have d:=zA (show 0<q.length by omega);have:=(ch t (zI d)).1;have:=(c6 _ (zI d)).1;omega
  subst R;refine oW (cs:=(C.drop k).take (q.length*sz)) (.mk' he t W λi j c K v d L o=>?_) λN=>by simp only [cZ];rw [zN w,P];simp only;rw [zO ⟨F,N⟩]
  rw [zU] at o;split at o;rw [yP] at o;exact hr i j c K v d L (by rw [wV];exact o);cases o
 rename_i r J d2 k n sz;cases hy with
 | @m _ _ _ _ _ _ c7 hi=>
  split at h;rename_i w;subst w;cases h;exact ⟨rfl,[],by simp [cZ],X rfl⟩;rename_i w;split at h;rename_i d1 z b1 P;split at h;rename_i hk;obtain ⟨rfl,rfl,c3⟩:=hk;cases h;have ⟨c8,C,d,L,F,o,_⟩:=c4 r J _ P;rw [hi] at d;cases d;have A:((b1.drop k).take n).length=n:=W;have R:z=b:=by have d:=zA (show 0<((b1.drop k).take n).length by omega);have e1:=(ch t (zI d)).1;have:=(o.1 _ (wM (yG (zI d)))).1;omega
  subst R;have b6:k*z+n*z<=C.length:=by have:(k+n)*z<=b1.length*z:=zW _ c3;rw [wX] at this;omega
  refine ⟨by rw [A];rfl,oW (cs:=(C.drop (k*z)).take (n*z)) (.mk' he t (by rw [A];simp;omega) λi j c K v e y f=>?_) λN=>by rw [A];simp only [cZ];rw [zN w,L];simp only;rw [zO ⟨b6,N⟩]⟩;rw [zU] at e f;split at e;rw [yP] at e;split at f;rw [yP] at f;apply o.2.2 (k+i) j c K v e y;rw [yM,wX,wV];exact f;cases f;cases e;cases h;rename_i E z P;split at h;rename_i hk;obtain ⟨rfl,rfl,rfl,c3⟩:=hk;cases h;have ⟨_,c8,C,d,L,o,_⟩:=c4 r J _ P;rw [hi] at d;cases d;have A:(((E.drop k).take n).map λc=>[c]).length=n:=W;have R:1=b:=by have d:=zA (show 0<(((E.drop k).take n).map λc=>[c]).length by omega);have e1:=(ch t (zI d)).1;simpa using e1
  subst R;have b6:k*1+n*1<=C.length:=by have:=o.1;omega
  refine ⟨by rw [A];rfl,oW (cs:=(C.drop (k*1)).take (n*1)) (.mk' he t (by rw [A];simp;omega) λi j c K v e y f=>?_) λN=>by rw [A];simp only [cZ];rw [zN w,L];simp only;rw [zO ⟨b6,N⟩]⟩;rw [zK] at e;cases g:((E.drop k).take n)[i]? with
  | none=>rw [g] at e;cases e
  | some z=>
   rw [g] at e;cases e;cases j with
   | succ j=>cases y
   | zero=>cases y;rw [zU] at g f;split at g;split at f;rw [yP] at g f;exact o.2 _ _ _ g (Zs f);cases f;cases g
  cases h;cases h
 rename_i p;cases h;cases hy;have b2:p.data.toList.length=p.size:=Z;have F:(p.data.toList.map λc=>[TV.v (.int .u8 c.toNat)]).length=p.size:=by rw [yV,b2]
 refine ⟨by rw [F];rfl,_,by rw [F];rfl,?_⟩;have c2:(p.extract 0 p.size).data.toList=p.data.toList:=Z;refine .mk' he t ?_ λi j c K v e y f=>?_;rw [F,c2,yV,b2];by_cases hb:p.data.toList=[];have:p.size=0:=by rw [<-b2,hb];rfl
 rw [this];simp;have:b=1:=by have ⟨c,g⟩:=List.exists_mem_of_ne_nil _ hb;have:=(ch t (wB.2 ⟨c,g,rfl⟩)).1;simpa using this.symm
 subst this;simp;rw [zK] at e;cases g:p.data.toList[i]? with
 | none=>rw [g] at e;cases e
 | some z=>
  rw [g] at e;cases e;have:b=1:=by have:=(ch t (wB.2 ⟨z,zI g,rfl⟩)).1;simpa using this.symm
  subst this;cases j with
  | succ j=>cases y
  | zero=>cases y;rw [c2,zK,Nat.mul_one,wZ,g] at f;cases f;exact .v rfl rfl
 cases h
theorem St.BD (h:St X D ω fl H τ l s V) {J:cD} {f:Addr} (P:τ a= .sl true J) (d:V.getD a undef= .slice (some f) b 1) {sz:Nat} (N:H[f.block]? =some (.row p sz (some c))):
  St X D ω fl (H.set f.block (.row p sz none)) (aG τ a (bw (τ a))) l s V/\Xt X fl D ω H l s D ω (H.set f.block (.row p sz none)) l s:=by
 have R:=h.tm a;rw [P,d] at R;have c2:=R.oh.1;obtain ⟨y,_⟩:=h.ow a 0 0 J f b (by rw [P];rfl) (by rw [d];rfl);have k:∀v,v≠f.block->(H.set f.block (.row p sz none))[v]? =H[v]? :=λv d=>zD (λe=>d e.symm);have o:Le D (Mu X D l s) H D (Mu X D l s) (H.set f.block (.row p sz none)):=⟨λ_ _ _ _ h=>h,λv F b1 A m w=>⟨w,by by_cases e:v=f.block;subst e;rw [N] at m;cases m;exact ⟨none,zF (aa N)⟩;exact ⟨A,(k v e).trans m⟩⟩⟩
 refine ⟨⟨λn=>?_,λn i j K q n' g L=>?_,λE z o1 g=>?_,λv c3 d=>by rw [xI];exact h.lt v c3 d,λE z k' v d=>by rw [xI];exact h.fC E z k' v d,h.mM,λv d=>by rw [xI];exact h.xl v d,h.xo⟩,
  ⟨λ_ _ _ _ h=>h,Z,λv d x=>⟨k v (by rintro rfl;rw [y] at x;cases x),x⟩,λv F b1 A m w=>(o.aM v F b1 A m w).2,λv d=>.inl d,λ_ _=>rfl⟩⟩
 rcases aL τ a n (bw (τ a)) with ⟨rfl,e⟩|⟨M,e⟩;rw [e];exact ((h.tm _).bw).mono o;rw [e];exact (h.tm n).mono o;rcases aL τ a n (bw (τ a)) with ⟨rfl,e⟩|⟨M,e⟩;rw [e] at g;exact ((NO.bw _ _) i j K q n' g L).elim;rw [e] at g;obtain ⟨C,q2⟩:=h.ow n i j K q n' g L;refine ⟨C,q2.aM (k _ ?_)⟩;intro r;rw [r,y] at C;cases C;exact M rfl;refine (h.ob E z o1 g).other o (λk' v b6 b2=>⟨k v ?_,rfl⟩) (λ_ _ _ _ _ _ hk=>hk) (λ_ q j t c4=>⟨t,k _ ?_⟩);rintro rfl;exact c2 (Mu.of g b6 b2);intro r;rw [r,y] at t;cases t
theorem St.freeze (h:St X D ω fl H τ l s V) {sz:Nat} {n:cD} (ht:τ a= .m false b c 0 d sz) (C:(T.ob l s false)[b]? =some (.aY c sz n)) (K:d=n.length) (L:n≠[]) (hz:cS 0 sz n):
  ∃ω',St X D ω' fl H (aG τ a (.sl true n)) (T.put l s false b .dead).1 (T.put l s false b .dead).2 V/\Xt X fl D ω H l s D ω' H (T.put l s false b .dead).1 (T.put l s false b .dead).2:=by
 obtain ⟨q,c3,P,R,hl,h3,r,h5⟩:=h.ob false b _ C;have r:ω q=some (.o false b):=r;have M:=h.tm a;rw [ht] at M;have b6:V.getD a undef= .slice (some ⟨q,0,none⟩) n.length 1:=by
  generalize V.getD a undef=v at M;cases M with
  | m hi=>rw [P] at hi;cases hi;rw [wT,K]
 have J:∀v,Mu X D (T.put l s false b .dead).1 (T.put l s false b .dead).2 v->Mu X D l s v/\v≠q:=by rintro v (hx|⟨r1,d2,E,k1,g,o,z⟩);exact ⟨.inl hx,by rintro rfl;rw [h.xo _ hx] at r;cases r⟩;rw [jP] at g;split at g;rw [C] at g;cases g;cases o;rename_i e;exact ⟨.inr ⟨r1,d2,E,k1,g,o,z⟩,h.ne C g rfl o P z rfl e⟩
 have F:Le D (Mu X D l s) H D (Mu X D (T.put l s false b .dead).1 (T.put l s false b .dead).2) H:=⟨λ_ _ _ _ h=>h,λv C' d5 lo k A=>⟨λc8=>A (J v c8).1,lo,k⟩⟩;let f:Loc->Loc:=λx=>match x with
  | .o c2 p=>if c2=false/\p=b then .t a 0 0 else .o c2 p
  | x=>x
 have c9:TR D (Mu X D (T.put l s false b .dead).1 (T.put l s false b .dead).2) H (.sl true n) (.slice (some ⟨q,0,none⟩) n.length 1):=
  .sl R (λA=>(J q A).2 rfl) O (λe he=>⟨(h3.1 e he).1,(ch hz he).2.2 rfl⟩) (λ_=>L) λi j e x c4 g o z=>(h3.2.2 i j e x c4 g o z).mono F
 refine ⟨λv=>(ω v).map f,⟨λw=>?_,λw i j c5 y n' g o=>?_,λt p E g=>?_,λv d7 k=>?_,λt p k' v k=>by rw [gw];exact h.fC t p k' v k,h.mM,h.xl,λv k=>by simp [h.xo v k]⟩,
  ⟨λ_ _ _ _ h=>h,zE _,λv k K=>⟨rfl,by simp [K]⟩,λv C' d5 d3 d1 A=>⟨d3,d1⟩,λv k=>.inl (J v k).1,λ_ _=>rfl⟩⟩
 rcases aL τ a w (.sl true n) with ⟨rfl,e⟩|⟨L,e⟩;rw [e,b6];exact c9;rw [e];exact (h.tm w).mono F;rcases aL τ a w (.sl true n) with ⟨rfl,e⟩|⟨L,e⟩;rw [e] at g;rw [b6] at o;cases i with
 | succ i=>cases g
 | zero=>
  cases j with
  | succ j=>cases g
  | zero=>cases g;cases o;exact ⟨by show (ω q).map f=_;rw [r];simp [f],rfl,c3,sz,0,R,hl,zZ _⟩
 rw [e] at g;obtain ⟨q1,q2⟩:=h.ow w i j c5 y n' g o;exact ⟨by show (ω y.block).map f=_;rw [q1];rfl,q2⟩;rw [jP] at g;split at g;rw [C] at g;cases g;trivial;rename_i e;refine (h.ob t p E g).other F (λk' v c7 c6=>⟨rfl,?_⟩) (λ_ _ _ _ _ _ hk=>hk) (λ_ y j hc d6=>⟨?_,rfl⟩);obtain ⟨v2,N,b2⟩:=(h.ob t p E g).dI c7;rw [c6] at N;cases N;rw [b2];cases wr fl t p with
 | false=>rfl
 | true=>simp only [cond_true,zH,f];rw [zN e]
 show (ω y.block).map f=_;rw [hc];rfl;cases hw:ω v with
 | none=>simp only [hw] at k;cases k
 | some d4=>exact h.lt v d4 hw
theorem St.bump (h:St X D ω fl H τ l s V) {sz:Nat} {es i:cD} (w:(T.ob l s q)[a]? =some (.aY b sz es)) (F:wr fl q a) (J:D q a b=some c) (P:cB D (Mu X D l s) H i sz p) (d3:∀e∈i,e.length=sz/\n4 e) (d:dj) (hd:∀n,d=some n->n<V.length):
  ∃E ω',St X E ω' fl (H.set c .dead++[.row p sz (some 0)]) (dU τ d (.m q a (b+1) 0 i.length sz)) (T.put l s q a (.aY (b+1) sz i)).1 (T.put l s q a (.aY (b+1) sz i)).2 (bZ V d (.slice (some ⟨H.length,0,none⟩) i.length 1))/\
   Xt X fl D ω H l s E ω' (H.set c .dead++[.row p sz (some 0)]) (T.put l s q a (.aY (b+1) sz i)).1 (T.put l s q a (.aY (b+1) sz i)).2:=by
 obtain ⟨f2,C0,h1,h2,hl,h3,z,h5⟩:=h.ob q a _ w;rw [J] at h1;cases h1;have b1:Mu X D l s c:=Mu.of w rfl J;rw [F] at z;have z:=z;have R:(H.set c AO.dead++[AO.row p sz (some 0)]).length=H.length+1:=Z;have A:∀v,v<H.length->v≠c->(H.set c .dead++[.row p sz (some 0)])[v]? =H[v]? :=λv f d7=>by rw [zB (Zs f),zD (λe=>d7 e.symm)]
 have d8:(H.set c AO.dead++[AO.row p sz (some 0)])[H.length]? =some (.row p sz (some 0)):=by rw [zJ Z];simp
 have d4:=aa w;have d9:=h5 (b+1) (yK b);have c6:∀x m k v,D x m k=some v->(D.add q a (b+1) H.length) x m k=some v:=by intro x m k v f;unfold aH.add;rw [zN];exact f;rintro ⟨rfl,rfl,rfl⟩;rw [d9] at f;cases f
 have c4:∀v,Mu X (D.add q a (b+1) H.length) (T.put l s q a (.aY (b+1) sz i)).1 (T.put l s q a (.aY (b+1) sz i)).2 v->(Mu X D l s v/\v<H.length/\v≠c)\/v=H.length:=by rintro v (hx|⟨r1,e6,o1,k1,g,y,r⟩);exact .inl ⟨.inl hx,h.xl v hx,by rintro rfl;rw [h.xo _ hx] at z;cases z⟩;rw [jP] at g;split at g;rename_i e;obtain ⟨rfl,rfl⟩:=e;rw [w] at g;cases g;cases y;rw [aH.add_same] at r;cases r;exact .inr rfl;rename_i e;left;unfold aH.add at r;rw [zN] at r;exact ⟨.inr ⟨r1,e6,o1,k1,g,y,r⟩,(h.fC _ _ _ _ r).2,h.ne w g rfl y J r F e⟩;rintro ⟨rfl,rfl,_⟩;exact e ⟨rfl,rfl⟩
 have K:Le D (Mu X D l s) H (D.add q a (b+1) H.length) (Mu X (D.add q a (b+1) H.length) (T.put l s q a (.aY (b+1) sz i)).1 (T.put l s q a (.aY (b+1) sz i)).2) (H.set c .dead++[.row p sz (some 0)]):=
  ⟨c6,λv C' c8 lo f L=>⟨λd6=>by rcases c4 v d6 with ⟨g,_⟩|g;exact L g;have:=aa f;omega,lo,(A v (aa f) (by rintro rfl;exact L b1)).trans f⟩⟩
 let ω':Nat->Option Loc:=λv=>if v=H.length then some (.o q a) else ω v
 have C:∀v,v<H.length->ω' v=ω v:=λv f=>zN O;have c9:St X (D.add q a (b+1) H.length) ω' fl (H.set c .dead++[.row p sz (some 0)]) τ (T.put l s q a (.aY (b+1) sz i)).1 (T.put l s q a (.aY (b+1) sz i)).2 V:=by
  refine ⟨λt=>(h.tm t).mono K,λt b2 j d2 b6 n g y=>?_,λx m o1 g=>?_,λv c7 f=>?_,λx m k v f=>?_,?_,λv f=>by have:=h.xl v f;omega,λv f=>(C v (h.xl v f)).trans (h.xo v f)⟩;obtain ⟨q1,q2⟩:=h.ow t b2 j d2 b6 n g y;have:=h.lt _ _ q1;refine ⟨(C _ this).trans q1,q2.aM (A _ this ?_)⟩;rintro e;have:=((h.tm t).at g y).oh.1;rw [e] at this;exact this b1;rw [jP] at g;split at g;rename_i e;obtain ⟨rfl,rfl⟩:=e;rw [w] at g;cases g;rw [F];refine ⟨H.length,p,aH.add_same _ _ _ _ _,d8,P.len,⟨d3,by rw [yM,P.len];exact zE _,λb2 j e f1 d1 e1 N e3=>(P.rel b2 j e f1 d1 e1 N (by rw [yM] at e3;exact e3)).mono K⟩,zO rfl,λk hk=>?_⟩;unfold aH.add;rw [zN (by rintro ⟨_,_,e⟩;omega)];exact h5 k O;rename_i e;refine (h.ob x m o1 g).other K (λk v d5 c3=>?_) (λ_ _ _ _ k _ hk=>?_) (λ_ b6 j c2 c5=>?_);have:=(h.fC _ _ _ _ c3).2;exact ⟨A v this (h.ne w g rfl d5 J c3 F e),C _ this⟩;unfold aH.add;rw [zN];exact hk;rintro ⟨rfl,rfl,_⟩;exact e ⟨rfl,rfl⟩;have:=h.lt _ _ c2;exact ⟨(C _ this).trans c2,A _ this (by intro N;rw [N] at c5;exact c5 b1)⟩;rw [R];by_cases e:v=H.length;omega;have:ω v=some c7:=by rw [<-f];exact (zN e).symm
  have:=h.lt v c7 this;omega;rw [gw,R];unfold aH.add at f;split at f;rename_i e;obtain ⟨rfl,rfl,_⟩:=e;cases f;exact ⟨d4,O⟩;have:=h.fC x m k v f;omega;have:=h.mM;have e:=gw l s q a (.aY (b+1) sz i) true;simp only [T.ob,cond_true] at e;omega
 refine ⟨_,ω',?_,⟨c6,by rw [R];omega,λv f hn=>⟨A v f (by rintro rfl;rw [z] at hn;cases hn),(C v f).trans hn⟩,λv C' c8 lo f L=>(K.aM v C' c8 lo f L).2,λv f=>?_,λm hid=>?_⟩⟩;refine c9.put hd ?_ (.one (λ_ e=>by cases e) (λ_ e=>by cases e) (λ_ e=>by cases e));have:=TR.m (M:=Mu X (D.add q a (b+1) H.length) (T.put l s q a (.aY (b+1) sz i)).1 (T.put l s q a (.aY (b+1) sz i)).2) (H:=H.set c .dead++[.row p sz (some 0)]) (off:=0) (n:=i.length) (sz:=sz) (aH.add_same D q a (b+1) H.length);rw [wT] at this;exact this;rcases c4 v f with ⟨g,_⟩|g;exact .inl g;exact .inr O;exact yw F _ (by assumption)
theorem av (h:St X D ω fl H τ l s V) {x:Operand} (a:pI x):TR D (Mu X D l s) H (aR τ x) (ev V x):=by
 cases x with
 | tmp t=>exact h.tm t
 | const v=>exact .iX a
 | global g=>cases a
 | func f=>exact .v rfl rfl
theorem rk {x:Operand} (a:pI x) (b:∀t,x≠ .tmp t):NO (aR τ x) (ev V x):=by
 cases x with
 | tmp t=>exact absurd rfl (b t)
 | const v=>exact .iX a
 | global g=>cases a
 | func f=>exact .one (λ_ e=>by cases e) (λ_ e=>by cases e) (λ_ e=>by cases e)
def L4 (t:Nat) (d:dj):Loc->Loc
 | .t n i j=>if n=t then .t (d.getD t) i j else .t n i j
 | x=>x
theorem St.move (h:St X D ω fl H τ l s V) (t:Nat) (d:dj) (J:∀k,d=some k->k<V.length):∃ω',St X D ω' fl H (dU (aG τ t (bw (τ t))) d (τ t)) l s (bZ V d (V.getD t undef))/\Xt X fl D ω H l s D ω' H l s:=by
 let ω':Nat->Option Loc:=λv=>(ω v).map (L4 t d)
 have z:St X D ω' fl H (aG τ t (bw (τ t))) l s V:=by
  refine ⟨(h.HJ t).tm,λC i j f a n b g=>?_,λr q o m=>?_,λv c2 c=>?_,h.fC,h.mM,h.xl,λv c=>by simp [ω',h.xo v c]⟩;rcases aL τ t C (bw (τ t)) with ⟨rfl,e⟩|⟨M,e⟩;rw [e] at b;exact ((NO.bw _ _) i j f a n b g).elim;rw [e] at b;obtain ⟨w,x⟩:=h.ow C i j f a n b g;refine ⟨?_,x⟩;show (ω a.block).map _=_;rw [w];simp [L4,M];refine (h.ob r q o m).other (Le.refl _ _ _) (λk v p K=>⟨rfl,?_⟩) (λ_ _ _ _ _ _ p=>p) (λ_ a j F _=>⟨?_,rfl⟩);obtain ⟨v2,y,E⟩:=(h.ob r q o m).dI p;rw [K] at y;cases y;show (ω v).map _=ω v;rw [E];cases wr fl r q <;> rfl;show (ω a.block).map _=_;rw [F];rfl;cases A:ω v with
  | none=>simp [ω',A] at c
  | some R=>exact h.lt v R A
 have N:Xt X fl D ω H l s D ω' H l s:=⟨λ_ _ _ _ h=>h,zE _,λv _ L=>⟨rfl,by simp [ω',L]⟩,λv b6 sz P m _=>⟨P,m⟩,λv c=>.inl c,λ_ _=>rfl⟩;refine ⟨ω',?_,N⟩;cases d with
 | none=>exact z
 | some d=>refine z.Az (J d rfl) (h.tm t) λi j f a n b g=>?_;obtain ⟨w,x⟩:=h.ow t i j f a n b g;refine ⟨?_,x⟩;show (ω a.block).map _=_;rw [w];simp [L4]
theorem St.PJ (h:St X D ω fl H τ l s V) (N:τ a= .tu o) (P:o[b]? =some x) (c6:∀F,x≠ .tu F) (d:dj) (hd:∀k,d=some k->k<V.length) {v:aq} {L:Array aq} (p:V.getD a undef= .tuple L) (c4:L[b]? =some v):
  ∃ω',St X D ω' fl H (dU (aG τ a (.tu (o.set b (dA x)))) d x) l s (bZ V d v)/\Xt X fl D ω H l s D ω' H l s:=by
 have c3:=h.tm a;rw [N,p] at c3;have K:o.length=L.size/\∀(j:Nat) (x:TV) (c:aq),o[j]? =some x->L[j]? =some c->TR D (Mu X D l s) H x c:=by
  cases c3 with
  | tu hs h=>exact ⟨hs,h⟩
 let f:Loc->Loc:=λy=>match y with
  | .t n q j=>if n=a/\q=b then .t (d.getD a) 0 j else .t n q j
  | y=>y
 let ω':Nat->Option Loc:=λv=>(ω v).map f
 have b6:St X D ω' fl H (aG τ a (.tu (o.set b (dA x)))) l s V:=by
  refine ⟨λw=>?_,λw q j t i n g m=>?_,λr R c7 J=>?_,λv d4 p=>?_,h.fC,h.mM,h.xl,λv p=>by simp [ω',h.xo v p]⟩;rcases aL τ a w (.tu (o.set b (dA x))) with ⟨rfl,e⟩|⟨c2,e⟩;rw [e,p];refine .tu (Zs K.1) λj y c g m=>?_;rw [yT] at g;split at g;rename_i hj;subst hj;split at g;cases g;exact (K.2 _ x c P m).dA;cases g;exact K.2 j y c g m;rw [e];exact h.tm w;rcases aL τ a w (.tu (o.set b (dA x))) with ⟨rfl,e⟩|⟨c2,e⟩;rw [e] at g;simp only [eI,yT] at g;by_cases A:b=q;subst A;rw [zO rfl] at g;split at g;simp only [zR,zu] at g;cases hz:T.iJ x j with
  | none=>rw [hz] at g;cases g
  | some d2=>rw [hz] at g;exact absurd (yD g) (l9 d2 t)
  cases g;rw [zN A] at g;obtain ⟨C,E⟩:=h.ow w q j t i n (by rw [N];exact g) m;refine ⟨?_,E⟩;show (ω i.block).map f=_;rw [C];simp only [zH,f];rw [zN (λe=>A e.2.symm)];rw [e] at g;obtain ⟨C,E⟩:=h.ow w q j t i n g m;refine ⟨?_,E⟩;show (ω i.block).map f=_;rw [C];simp only [zH,f];rw [zN (λe=>c2 e.1)];refine (h.ob r R c7 J).other (Le.refl _ _ _) (λk v M A=>⟨rfl,?_⟩) (λ_ _ _ _ _ _ M=>M) (λ_ i j hc _=>⟨?_,rfl⟩);obtain ⟨v2,b1,b2⟩:=(h.ob r R c7 J).dI M;rw [A] at b1;cases b1;show (ω v).map f=ω v;rw [b2];cases wr fl r R <;> rfl;show (ω i.block).map f=_;rw [hc];rfl;cases hw:ω v with
  | none=>simp [ω',hw] at p
  | some d1=>exact h.lt v d1 hw
 have hX:Xt X fl D ω H l s D ω' H l s:=⟨λ_ _ _ _ h=>h,zE _,λv _ hn=>⟨rfl,by simp [ω',hn]⟩,λv d3 sz lo J _=>⟨lo,J⟩,λv p=>.inl p,λ_ _=>rfl⟩;refine ⟨ω',?_,hX⟩;cases d with
 | none=>exact b6
 | some d=>
  have c5:=K.2 b x v P c4;refine b6.Az (hd d rfl) c5 λq j t i n g m=>?_;have z:q=0/\T.iJ x j=some (.sl true t):=by unfold eI at g;split at g;exact absurd rfl (c6 _);exact ⟨rfl,g⟩;cases g
  obtain ⟨rfl,z⟩:=z;have hu:x≠ .u:=by
   rintro rfl;cases j with
   | zero=>cases z
   | succ j=>cases z
  have c9:∀F,v≠ .tuple F:=by
   cases c5 with
   | v h hn=>rintro F rfl;simp [ak] at h
   | u=>exact absurd rfl hu
   | tu=>exact absurd rfl (c6 _)
   | _=>rintro F e;cases e
  have c8:jv v j=some (.slice (some i) n 1):=by unfold mo at m;split at m;exact absurd rfl (c9 _);exact m;rename_i h0;exact absurd rfl h0
  obtain ⟨C,E⟩:=h.ow a b j t i n (by rw [N];simp only [eI,P,zR];exact z) (by rw [p];simp only [mo,c4,zR];exact c8);refine ⟨?_,E⟩;show (ω i.block).map f=_;rw [C];simp [f]
theorem Gr {s:aP} {g:Bool} (j:tG P s a=some (b,g,c)) (t:c≠0) (h:Nx b x=some y) (m:TR D M H x u):∃v,eZ P s u a=some v/\TR D M H y v/\NO y v:=by
 have o:∀n r,eZ P s (.pointer (some ⟨n,r,none⟩)) a=some (.pointer (some ⟨n,r+b,none⟩)):=by intro n r;unfold tG at j;split at j;rename_i F E;split at j;rename_i fd C;have ⟨p,f,l⟩:=map_some j;unfold res at f;split at f;rename_i d i J k;cases f;cases l;simp only [eZ,E,C,k];rw [zO t];cases f;cases j;cases j
 unfold Nx at h;split at h;cases h;cases m with
 | p k=>exact ⟨_,o _ _,.p k,.one (λ_ e=>by cases e) (λ_ e=>by cases e) (λ_ e=>by cases e)⟩
 cases h;cases m with
 | q k=>exact ⟨_,o _ _,by rw [wV];exact .q k,.one (λ_ e=>by cases e) (λ_ e=>by cases e) (λ_ e=>by cases e)⟩
 cases h;cases m with
 | pe f l w z A=>exact ⟨_,o _ _,by rw [wV];exact .pe f l w z A,.one (λ_ e=>by cases e) (λ_ e=>by cases e) (λ_ e=>by cases e)⟩
 cases h
theorem Gy {s:aP} (e:tG P s a=some (b,q,c)) (h:NA b q c x=some y) (k:TR D M H x u):∃v,py P s u a=some v/\TR D M H y v/\NO y v:=by
 unfold NA at h;split at h;rename_i r;obtain ⟨z,f,rfl⟩:=map_some h;cases k with
 | @ag _ l n K=>
  have ⟨v,N,R,_⟩:=gT.part (C:=l.toList) ⟨by simp [n],λj x o k w=>K j x o k (Zs w)⟩ f;refine ⟨v,?_,R.bw,.bw _ _⟩;unfold tG at e;split at e;rename_i X L;split at e;rename_i fd E;have ⟨p,g,t⟩:=map_some e;unfold res at g;split at g;rename_i d i A J;cases g;cases t;simp only [py,L,E,apart,A,J];rw [<-N];cases F:mL d with
  | true=>
   simp only [if_true,cond_true];have m:fd.offset+i.size<=l.toList.length:=by
    unfold part at f;rw [F] at f;simp only [cond_true] at f;split at f;rename_i m;have:r.length=l.toList.length:=by simp [n]
    omega;cases f
   rw [zO m];congr 2;apply Array.ext';simp [wC]
  | false=>simp
  cases g;cases e;cases e
 cases h
theorem Hq:NO (.p q a b) u:=.one (λ_ e=>by cases e) (λ_ e=>by cases e) (λ_ e=>by cases e)
theorem Pr:NO (.q q a b c d e) u:=.one (λ_ f=>by cases f) (λ_ f=>by cases f) (λ_ f=>by cases f)
theorem Hr:NO (.m q a b c d e) u:=.one (λ_ f=>by cases f) (λ_ f=>by cases f) (λ_ f=>by cases f)
theorem Eo:NO (.pe o a) u:=.one (λ_ e=>by cases e) (λ_ e=>by cases e) (λ_ e=>by cases e)
theorem kQ:NO (.v u) v:=.one (λ_ e=>by cases e) (λ_ e=>by cases e) (λ_ e=>by cases e)
theorem Ps:NO (.mp a) u:=.one (λ_ e=>by cases e) (λ_ e=>by cases e) (λ_ e=>by cases e)
theorem kR {a:cD}:NO (.sl false a) u:=.one (λ_ e=>by cases e) (λ_ e=>by cases e) (λ_ e=>by cases e)
theorem oB:NO (.tu []) undef:=.of λi j a h=>by simp [eI] at h
theorem TR.int (h:TR D M H (.v (.int n i)) u):u= .int n i:=by cases h;rfl
theorem TR.vv (h:TR D M H (.v u) v):v=u:=by cases h;rfl
theorem jJ (h:mi P t=some a):∃i,P.info? t=some i/\i.size=a:=by unfold mi at h;exact map_some h
theorem CO {o:aP} (r:P.underlying t=some (.slice o)) (E:mi P o=some a) (h:uW a x y=some z) (s:TR D M H x u) (l:TR D M H y v):∃e,cY P t u v=some e/\TR D M H z e/\NO z e:=by
 obtain ⟨b,q,rfl⟩:=jJ E;unfold uW at h;split at h;rename_i c2 m;cases l.int;split at h;rename_i c4 p;split at h;rename_i i;have ⟨c,d,k⟩:=zT.1 h;split at k;rename_i hl;cases k;have f:=aa d;cases s with
 | sn=>simp at f
 | s0=>simp at f
 | se=>simp at f
 | @sl _ _ n g sz C lo L J b1 F b6 N=>
  have ⟨q1,X⟩:=F c (zI d);have R:sz=b.size:=O;subst R;have b2:m.toNat*b.size+b.size<=p.length*b.size:=by have:(m.toNat+1)*b.size<=p.length*b.size:=zW _ f;rwa [xN] at this
  refine ⟨.pointer (some ⟨n,g+m.toNat*b.size,none⟩),?_,?_,Eo⟩;simp only [cY,r,q];rw [zO ⟨i,O⟩];have:=TR.pe (off:=0) L J O X λj x e w A=>N m.toNat j c x e d w A;exact this
 cases k;cases h;rename_i c5 id c6 g c3 sz;split at h;rename_i d;obtain ⟨i,K,rfl⟩:=d;cases h;cases s with
 | @m _ _ _ _ _ _ n l=>refine ⟨.pointer (some ⟨n,g*b.size+m.toNat*b.size,none⟩),?_,?_,Pr⟩;simp only [cY,r,q];rw [zO ⟨i,K⟩];have:=TR.q (M:=M) (H:=H) (i:=g+m.toNat) (sz:=b.size) (off:=0) l;rw [wX] at this;exact this
 cases h;cases h;cases h
theorem CQ {e:aP} (i:P.underlying t=some (.array a e)) (A:mi P e=some b) (h:As a b x y=some z) (j:TR D M H x u) (c:TR D M H y v):∃d,cY P t u v=some d/\TR D M H z d/\NO z d:=by
 obtain ⟨n,f,rfl⟩:=jJ A;unfold As at h;split at h;rename_i k m;cases c.int;split at h;rename_i g;split at h;cases h;cases j with
 | p c=>refine ⟨_,?_,.p c,Hq⟩;simp only [cY,i,f];rw [zO g]
 rename_i J E;cases h;cases j with
 | @pe _ _ F l sz C K o q r s w=>refine ⟨.pointer (some ⟨F,l+E+m.toNat*n.size,none⟩),?_,by rw [wV];exact .pe o q r s w,Eo⟩;simp only [cY,i,f];rw [zO g]
 cases h;cases h;cases h
theorem sJ (h:text a x=some y) (d:TR D M H x u):∃e b v,x= .tu e/\e[a]? =some y/\u= .tuple b/\b[a]? =some v/\TR D M H y v/\∀i,y≠ .tu i:=by
 unfold text at h;split at h;rename_i e;have ⟨z,f,c⟩:=zT.1 h;have k:z=y/\∀i,z≠ .tu i:=by unfold Eh at c;split at c;cases c;rename_i g;cases c;exact ⟨rfl,g⟩
 obtain ⟨rfl,g⟩:=k;cases d with
 | @tu _ b l j=>have:=aa f;have d:=yF (show a<b.size by omega);exact ⟨e,b,b[a],rfl,f,rfl,d,j a z _ f d,g⟩
 cases h
theorem CJ (h:Ao x=some y) (b:TR D M H x u):Nn u=some u/\TR D M H y u/\NO y u:=by
 unfold Ao at h;split at h;cases h;cases b with|p a=>exact ⟨rfl,.p a,Hq⟩
 cases h;cases b with|q a=>exact ⟨rfl,.q a,Pr⟩
 cases h;cases b with|pe c d e f g=>exact ⟨rfl,.pe c d e f g,Eo⟩
 cases h
theorem jZ {o:ek} {c:fR} (h:pE a o=some b) (d:(o=none/\c=none)\/∃x v,o=some x/\c=some v/\TR D M H x v):rY c a=some b:=by unfold pE at h;split at h;cases h;rcases d with ⟨_,rfl⟩|⟨x,v,e,_⟩;rfl;cases e;rename_i k i;rcases d with ⟨e,_⟩|⟨x,v,e,rfl,g⟩;cases e;cases e;cases g.int;split at h;rename_i f;cases h;simp [rY,f];cases h;cases h
abbrev ug (D:aH) (M:Nat->Prop) (H:AH) (o:ek) (a:fR):Prop:=(o=none/\a=none)\/∃x v,o=some x/\a=some v/\TR D M H x v
theorem HQ {b:cD} (h:ER a b) (c:o∈b):o.length=a:=by
 induction b with
 | nil=>cases c
 | cons x b d=>simp only [ER,zP] at h;rcases yQ.1 c with rfl|c;exact zS h.1;exact d h.2 c
theorem yy {a:Option Addr}:NO (.sl q []) (.slice a 0 0):=by
 intro i j d c n e b;cases i with
 | succ i=>cases b
 | zero=>cases j with
  | succ j=>cases b
  | zero=>cases b
theorem Gp {el:aP} (A:P.underlying t=some (.slice el)) (F:mi P el=some a) {lo C:ek} {c3 k:fR} (h:BB a lo C l s x=some y) (d2:∀r L o,(ob l s r)[L]? =some o->OR D M ω H (wr fl r L) r L o)
  (hx:TR D M H x u) (hl:ug D M H lo c3) (hh:ug D M H C k):∃c5,cL P t u c3 k H=some c5/\TR D M H y c5/\NO y c5:=by
 obtain ⟨N,z,rfl⟩:=jJ F;unfold BB at h;split at h;rename_i o g;split at h;rename_i d b e f;have e:=jZ e hl;have f:=jZ f hh;split at h;rename_i p;have ⟨p,j,b1⟩:=p;cases h;cases hx with
 | sn=>
  obtain rfl:b=0:=by simpa using j
  obtain rfl:d=0:=O;exact ⟨.slice none 0 0,by simp only [cL,A,z,e];rw [show rY k 0=some 0 from f];rfl,.sn,yy⟩
 | s0=>
  obtain rfl:b=0:=by simpa using j
  obtain rfl:d=0:=O;refine ⟨_,by simp only [cL,A,z,e];rw [show rY k 0=some 0 from f];simp only [zE,and_self,if_true];rfl,.s0,yy⟩
 | se=>
  obtain rfl:b=0:=by simpa using j
  obtain rfl:d=0:=O;refine ⟨_,by simp only [cL,A,z,e];rw [show rY k 0=some 0 from f];simp only [zE,and_self,if_true];rfl,.se,kR⟩
 | @sl _ _ v i sz c7 d8 K c6 d5 b2 d1 hr=>
  have d3:(o&&g.isEmpty)=false:=by
   cases o with
   | false=>rfl
   | true=>cases g with
    | nil=>exact absurd rfl (d1 rfl)
    | cons c g=>rfl
  rw [d3];have go:cL P t (.slice (some ⟨v,i,none⟩) g.length 1) c3 k H=if d=0 then some (.slice (some ⟨v,i,none⟩) b 1) else if b=d then some (.slice (some ⟨v,i,none⟩) 0 2) else if N.size=sz/\(1:Nat)=1 then some (.slice (some ⟨v,i+d*sz,none⟩) (b-d) 1) else none:=by simp only [cL,A,z,e];rw [show rY k g.length=some b from f];simp only [K];rw [zO ⟨p,j⟩]
  rw [go];by_cases q:d=0;subst q;rw [zO rfl];refine ⟨_,rfl,?_,kR⟩;rw [wN];by_cases c8:b=0;subst c8;exact .se;have J:(g.take b).length=b:=by simp;omega
  have c9:b*sz<=g.length*sz:=zW _ j;have:=TR.sl (o:=false) (off:=i) K c6 (by rw [J];omega) (λa F=>b2 a (yG F)) (λa=>by cases a) λb6 c2 a x c n R X=>by rw [zU] at n;split at n;exact hr b6 c2 a x c n R X;cases n
  rw [J] at this;exact this;rw [zN q];by_cases w:b=d;subst w;rw [zO rfl];refine ⟨_,rfl,?_,kR⟩;rw [yZ (by rw [wG];exact Nat.min_le_left _ _)];exact .se;rw [zN w];have J:((g.take b).drop d).length=b-d:=W;have d4:N.size=sz:=by have b1:=(b1.resolve_left q).resolve_left w;have E:=zA (show 0<g.length by omega);have:=HQ b1 (zI E);have:=(b2 _ (zI E)).1;omega
  rw [zO ⟨d4,rfl⟩];refine ⟨_,rfl,?_,kR⟩;have c9:b*sz<=g.length*sz:=zW _ j;have d6:d*sz+(b-d)*sz=b*sz:=by rw [<-Nat.add_mul];congr 1;omega
  have:=TR.sl (o:=false) (off:=i+d*sz) K c6 (by rw [J];omega) (λa F=>b2 a (yG (wM F))) (λa=>by cases a) λb6 c2 a x c n R X=>by rw [yP,zU] at n;split at n;exact hr (d+b6) c2 a x c n R (by rw [wX,<-Nat.add_assoc i];exact X);cases n
  rw [J] at this;exact this
 cases h;cases h;rename_i r L d9 i c4 sz;split at h;rename_i d b e f;have e:=jZ e hl;have f:=jZ f hh;split at h;rename_i p;have ⟨p,j⟩:=p;cases hx with
 | @m _ _ _ _ _ _ v C=>split at h;rename_i q;subst q;cases h;refine ⟨.slice (some ⟨v,i*sz,none⟩) b 1,?_,.m C,Hr⟩;simp only [cL,A,z,e];rw [show rY k c4=some b from f];simp only;rw [zO ⟨p,j⟩];simp;rename_i q;split at h;rename_i w;subst w;cases h;refine ⟨.slice (some ⟨v,i*sz,none⟩) 0 2,?_,.se,kR⟩;simp only [cL,A,z,e];rw [show rY k c4=some b from f];simp only;rw [zO ⟨p,j⟩,zN q];simp;rename_i w;split at h;rename_i d7 e2 g K;split at h;rename_i hk;obtain ⟨rfl,rfl,rfl⟩:=hk;cases h;have ⟨e1,c7,E,h2,_⟩:=d2 r L _ K;rw [C] at E;cases E;refine ⟨.slice (some ⟨v,i*N.size+d*N.size,none⟩) (b-d) 1,?_,by rw [<-Nat.add_mul];exact .m C,Hr⟩;simp only [cL,A,z,e];rw [show rY k c4=some b from f];simp only [h2];rw [zO ⟨p,j⟩,zN q,zN w];simp;cases h;cases h
 cases h;cases h;cases h
end
end T
end Go.Proofs.YtglilpjokhgidaaGreatDoor
