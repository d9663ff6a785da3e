/- A part of TopRoom's proof. No condition. -/
import Derived.WalkKit
import Derived.Orders
import Derived.Lib.ItoaNum
import Derived.Laws.Cells
import Derived.Laws.IdiomCopy
import Derived.Laws.Append
import Derived.Laws.AppendOwn
import Derived.Laws.BytesString
import Derived.IntWalk
import Derived.Test.YtglilpjokhgidaaGreatDoorProg
set_option maxRecDepth 100000
set_option maxHeartbeats 4000000
set_option linter.unusedVariables false
set_option linter.unusedSimpArgs false
namespace Go.Proofs.YtglilpjokhgidaaGreatDoor
open Go.Proofs.Tryz (prog)
open Go.IntKind
theorem O {p:Prop} (h:p:=by omega):p:=h
theorem Y {p:Prop} (h:p:=by kernel_rfl):p:=h
theorem Z {p:Prop} (h:p:=by simp):p:=h
theorem W {p:Prop} (h:p:=by simp;omega):p:=h
theorem Zs {p q:Prop} (h:q) (e:q->p:=by intro h;simpa using h):p:=e h
theorem Zo {p q:Prop} (h:q) (e:q->p:=by intro h;omega):p:=e h
theorem Zr {p q:Prop} (h:q) (e:q->p:=by intro h;rw [h]):p:=e h
abbrev aq:=Value
abbrev aP:=TypeId
abbrev aU:=ByteArray
abbrev aB:=Program
abbrev aQ:=List Value
abbrev aA:=List Nat
abbrev di:=Option Nat
abbrev fQ:=Option Value
abbrev zA:=@List.getElem?_eq_getElem
abbrev zB:=@eq_false
abbrev zC:=@Nat.le_refl
abbrev zD:=@List.getElem?_append_left
abbrev zE:=@List.getElem?_set_ne
abbrev zF:=@List.getElem?_set_self
abbrev zG:=@List.getD_eq_getElem?_getD
abbrev zH:=@List.getElem?_append_right
abbrev zI:=@List.mem_of_getElem?
abbrev zJ:=@List.getElem?_map
abbrev zK:=@List.eq_nil_of_length_eq_zero
abbrev zL:=@eq_true
abbrev zM:=@Option.map_some
abbrev zN:=@Bool.and_eq_true
abbrev zO:=@if_neg
abbrev zP:=@if_pos
abbrev zQ:=@Option.bind_eq_some_iff
abbrev zR:=@Option.bind_some
abbrev zS:=@List.getElem?_take
abbrev zT:=@List.all_eq_true
abbrev zU:=@Nat.eq_of_beq_eq_true
abbrev zV:=@Nat.mul_le_mul_right
abbrev zW:=@List.getElem_mem
abbrev zX:=@Nat.ble_eq_true_of_le
abbrev zY:=@Nat.zero_le
abbrev zZ:=@Nat.lt_or_ge
abbrev yA:=@List.getElem_of_mem
abbrev yB:=@of_decide_eq_true
abbrev yC:=@List.take_of_length_le
abbrev yD:=@Option.some.inj
abbrev yE:=@Int.eq_ofNat_of_zero_le
abbrev yF:=@Nat.lt_succ_self
abbrev yG:=@List.drop_eq_getElem_cons
abbrev yH:=@congrArg
abbrev yI:=@Nat.le_trans
abbrev yJ:=@List.map_set
abbrev yK:=@Array.getElem?_eq_getElem
abbrev yL:=@List.mem_cons
abbrev yM:=@List.mem_of_mem_take
abbrev yN:=@Nat.le_of_ble_eq_true
abbrev yO:=@List.getElem?_set
abbrev yP:=@Array.getD_eq_getD_getElem?
abbrev yQ:=@List.length_map
abbrev yR:=@Option.map_eq_some_iff
abbrev yS:=@List.map_cons
abbrev yT:=@List.drop_eq_nil_of_le
abbrev yU:=@List.mem_cons_of_mem
abbrev yV:=@Int.toNat_natCast
abbrev yW:=@List.append_assoc
abbrev yX:=@List.getElem?_drop
abbrev yY:=@ByteArray.size_append
abbrev yZ:=@Nat.zero_add
abbrev xA:=@Bool.false_eq_true
abbrev xB:=@List.length_append
abbrev xC:=@List.mem_append
abbrev xD:=@List.take_add_one
abbrev xE:=@List.getElem?_eq_none
abbrev xF:=@List.ext_getElem?
abbrev xG:=@Bool.not_eq_true'
abbrev xH:=@List.length_set
abbrev xI:=@Bool.and_eq_true_iff
abbrev xJ:=@ByteArray.size_extract
abbrev xK:=@Option.some.injEq
abbrev xL:=@List.getElem?_range
abbrev xM:=@Option.isSome_iff_exists
abbrev xN:=@Nat.lt_of_lt_of_le
abbrev xO:=@List.mem_cons_self
abbrev xP:=@List.take_append_of_le_length
abbrev xQ:=@Nat.lt_trichotomy
abbrev xR:=@List.map_append
abbrev xS:=@Array.length_toList
abbrev xT:=@Nat.le_add_right
abbrev xU:=@List.set_set
abbrev xV:=@List.range_succ
abbrev xW:=@List.mem_map
abbrev xX:=@List.map_nil
abbrev xY:=@Array.getElem?_push
abbrev xZ:=@Nat.le_of_lt
abbrev wA:=@Nat.le_add_left
abbrev wB:=@List.take_append_drop
abbrev wC:=@Nat.lt_irrefl
abbrev wD:=@List.mem_of_mem_drop
abbrev wE:=@List.mem_range
abbrev wF:=@List.extract_eq_take_drop
abbrev wG:=@List.drop_zero
abbrev wH:=@List.take_length
abbrev wI:=@List.length_take
abbrev wJ:=@Int.le_refl
abbrev wK:=@Nat.lt_of_le_of_lt
abbrev wL:=@Nat.succ_mul
abbrev wM:=@List.length_replicate
abbrev wN:=@Array.mem_of_getElem?
abbrev wO:=@Array.getElem?_modify
abbrev wP:=@Array.toList_map
namespace V
open Go
variable {a b c d e f g:Nat} {u v w:Value} {i j k:Int} {t:TypeId} {p:List Value} {q:Bool} {n:IntKind}
def aj {b:Type} (P:aB):Sem b->Option b
 | .pure a=>some a
 | .program k=>aj P (k P)
 | .mark _ k=>aj P k
 | _=>none
theorem jK {c:Type} {P:aB} {s:Sem c} {v:c} (h:aj P s=some v) (w:World):s.run P w= .ok v w:=by
 induction s with
 | pure a=>simp only [aj] at h;cases h;rfl
 | program k b=>exact b P h
 | mark m k b=>exact b h
 | _=>cases h
theorem rD {c d:Type} {P:aB} (s:Sem c) (f:c->Sem d):aj P (s.bind f)=(aj P s).bind λa=>aj P (f a):=by
 induction s with
 | pure a=>rfl
 | program k b=>exact b P
 | mark m k b=>exact b
 | _=>rfl
def ak:aq->Bool
 | .bool _|.int _ _|.float _ _|.complex _ _ _|.string _|.pointer none|.slice none 0 0|.map none|.nilFunc|.nilIface=>true
 | .func (.func _) a b=>a.isEmpty&&b.isEmpty
 | _=>false
def bq:aq->Bool
 | .agg a=>a.toList.all ak
 | v=>ak v
def one:aq->Bool
 | .agg _|.tuple _|.chan _=>false
 | _=>true
structure gI where
 b:Nat
 n:Nat
 sz:Nat
abbrev au:=Nat->Option gI
inductive VR (β:au):aq->aq->Prop
 | sc {v:aq} (h:ak v):VR β v v
 | ptr {id off:Nat} {B:gI} (h:β id=some B):VR β (.pointer (some ⟨id,off,none⟩)) (.pointer (some ⟨B.b,off,none⟩))
 | sl {id off n c:Nat} {B:gI} (h:β id=some B) (hn:n<=c) (hc:off+c*B.sz<=B.n):VR β (.slice (some ⟨id,off,none⟩) n 1) (.slice (some ⟨B.b,off,none⟩) n c)
 | pJ {id off:Nat} {a:Addr}:VR β (.slice (some ⟨id,off,none⟩) 0 0) (.slice (some a) 0 0)
 | sle {id off c:Nat} {a:Addr}:VR β (.slice (some ⟨id,off,none⟩) 0 2) (.slice (some a) 0 c)
 | map {id:Nat} {B:gI} (h:β id=some B):VR β (.map (some id)) (.map (some B.b))
 | agg {xs ys:Array aq} (hs:xs.size=ys.size) (h:∀(i:Nat) (a v:aq),xs[i]? =some a->ys[i]? =some v->VR β a v):VR β (.agg xs) (.agg ys)
 | K2 {xs ys:Array aq} (hs:xs.size=ys.size) (h:∀(i:Nat) (a v:aq),xs[i]? =some a->ys[i]? =some v->VR β a v):VR β (.tuple xs) (.tuple ys)
def cd (d:au) (b c:aQ):Prop:=b.length=c.length/\∀(i:Nat) (a v:aq),b[i]? =some a->c[i]? =some v->VR d a v
section
variable {D E:au} {a v:aq}
theorem VR.ak (h:VR D a v) (b:V.ak a):v=a:=by
 cases h with
 | sc _=>rfl
 | _=>simp [V.ak] at b
theorem VR.bq (h:VR D a v) (b:V.bq a):v=a:=by
 cases h with
 | sc _=>rfl
 | agg c h=>
  rename_i d e;congr 1;refine Array.ext c.symm λi f g=>?_;refine VR.ak (h i d[i] e[i] (yK _) (yK _)) ?_;simp only [V.bq,zT] at b
  simp_all
 | _=>simp [V.bq,V.ak] at b
theorem VR.lN (b:V.bq a):VR D a a:=by
 cases a with
 | agg e=>refine .agg rfl λi x y d c=>?_;rw [d] at c;cases c;simp only [V.bq,zT] at b;exact .sc (b x (by grind))
 | _=>exact .sc b
theorem VR.ez {s:di} (h:VR D (.pointer (some ⟨b,c,s⟩)) v):s=none/\∃B,D b=some B/\v= .pointer (some ⟨B.b,c,none⟩):=by
 cases h with
 | sc h=>simp [V.ak] at h
 | ptr h=>simp_all
theorem VR.ew {A:Addr} (h:VR D (.slice (some A) b c) v):A=⟨A.block,A.off,none⟩/\
  ((b=0/\c=0/\∃a,v= .slice (some a) 0 0)\/(b=0/\c=2/\∃a k,v= .slice (some a) 0 k)\/(c=1/\∃B k,D A.block=some B/\b<=k/\A.off+k*B.sz<=B.n/\v= .slice (some ⟨B.b,A.off,none⟩) b k)):=by
 cases h with
 | sc h=>simp [V.ak] at h
 | sl h e d=>simp_all
 | pJ=>simp_all
 | sle=>simp_all
theorem VR.rM (h:VR D (.map (some b)) v):∃B,D b=some B/\v= .map (some B.b):=by
 cases h with
 | sc h=>simp [V.ak] at h
 | map h=>simp_all
theorem VR.zf {b:Array aq} (h:VR D (.agg b) v):∃c:Array aq,v= .agg c/\cd D b.toList c.toList:=by
 cases h with
 | sc h=>simp [V.ak] at h
 | agg e h=>exact ⟨_,rfl,O,λi a v d f=>h i a v (by grind) (by grind)⟩
theorem VR.G6 {b:Array aq} (h:VR D (.tuple b) v):∃c:Array aq,v= .tuple c/\cd D b.toList c.toList:=by
 cases h with
 | sc h=>simp [V.ak] at h
 | K2 e h=>exact ⟨_,rfl,O,λi a v d f=>h i a v (by grind) (by grind)⟩
theorem VR.og {b c:Array aq} (h:cd D b.toList c.toList):VR D (.agg b) (.agg c):=
 .agg (Zs h.1) λi a v d e=>h.2 i a v (by grind) (by grind)
theorem VR.rJ {b c:Array aq} (h:cd D b.toList c.toList):VR D (.tuple b) (.tuple c):=
 .K2 (Zs h.1) λi a v d e=>h.2 i a v (by grind) (by grind)
theorem VR.mono (b:∀e B,D e=some B->E e=some B) (h:VR D a v):VR E a v:=by
 induction h with
 | sc h=>exact .sc h
 | ptr h=>exact .ptr (b _ _ h)
 | sl h g f=>exact .sl (b _ _ h) g f
 | pJ=>exact .pJ
 | sle=>exact .sle
 | map h=>exact .map (b _ _ h)
 | agg c h d=>exact .agg c d
 | K2 c h d=>exact .K2 c d
theorem VR.undef:VR D undef undef:=.K2 rfl (λi a v b _=>by simp at b)
theorem VR.one (h:VR D a v):one v=one a:=by cases h <;> rfl
theorem VR.bool (h:VR D (.bool q) v):v= .bool q:=h.ak rfl
theorem VR.int (h:VR D (.int n i) v):v= .int n i:=h.ak rfl
end
section
variable {D E:au} {J h zs us:aQ}
theorem cd.mono (e:∀c B,D c=some B->E c=some B) (b:cd D J h):cd E J h:=⟨b.1,λi a v d f=>(b.2 i a v d f).mono e⟩
theorem cd.nil:cd D [] []:=⟨rfl,λi a v b _=>by simp at b⟩
theorem cd.cons (b:VR D u v) (a:cd D J h):cd D (u::J) (v::h):=by
 refine ⟨by simp [a.1],λi x y c d=>?_⟩;cases i with
 | zero=>simp_all
 | succ i=>exact a.2 i x y (by grind) (by grind)
theorem cd.ep (a:cd D (u::J) h):∃v b,h=v::b/\VR D u v/\cd D J b:=by
 cases h with
 | nil=>simp [cd] at a
 | cons v b=>exact ⟨v,b,rfl,a.2 0 u v rfl rfl,by simpa using a.1,λi x y c d=>a.2 (i+1) x y (by grind) (by grind)⟩
theorem cd.append (b:cd D J h) (k:cd D zs us):cd D (J++zs) (h++us):=by refine ⟨by simp [b.1,k.1],λi a v d e=>?_⟩;rcases zZ i J.length with c|c;rw [zD c] at d;rw [zD (b.1▸c)] at e;exact b.2 i a v d e;rw [zH c] at d;rw [zH (b.1▸c),<-b.1] at e;exact k.2 _ a v d e
theorem cd.take (d:cd D J h) (n:Nat):cd D (J.take n) (h.take n):=by refine ⟨by simp [d.1],λi a v b c=>?_⟩;rw [zS] at b c;split at b;rename_i e;rw [zP e] at c;exact d.2 i a v b c;cases b
theorem cd.drop (b:cd D J h) (n:Nat):cd D (J.drop n) (h.drop n):=by refine ⟨by simp [b.1],λi a v c d=>?_⟩;rw [yX] at c d;exact b.2 _ a v c d
theorem cd.set (d:cd D J h) (k:VR D u v) (n:Nat):cd D (J.set n u) (h.set n v):=by
 refine ⟨by simp [d.1],λi x y a c=>?_⟩;rw [yO] at a c;rw [<-d.1] at c;split at a;rename_i e;rw [zP e] at c;split at a
 simp_all
 cases a;rename_i e;rw [zO e] at c;exact d.2 i x y a c
theorem cd.bq (d:∀a∈J,V.ak a):cd D J J:=
 ⟨rfl,λi a v b c=>by rw [b] at c;cases c;exact .sc (d a (zI b))⟩
theorem cd.get (c:cd D J h) {i:Nat} {a:aq} (d:J[i]? =some a):∃v,h[i]? =some v/\VR D a v:=by
 have b:i<J.length:=by
  rcases zZ i J.length with b|b;exact b
  simp_all
 refine ⟨h[i]'(c.1▸b),zA _,c.2 i a _ d (zA _)⟩
theorem cd.one (b:cd D J h) (f:∀a∈J,one a):∀v∈h,V.one v:=by
 intro v d;obtain ⟨i,c,rfl⟩:=yA d;have e:=b.1▸c;rw [(b.2 i J[i] h[i] (zA _) (zA _)).one]
 simp_all
theorem VR.cells (a:VR D u v):cd D u.cells.toList v.cells.toList:=by
 cases a with
 | agg e k=>exact (VR.agg e k).zf.elim λh f=>by have ⟨b,c⟩:=f;cases b;exact c
 | sc a=>cases u <;> first|exact cd.cons (.sc a) .nil|(simp [V.ak] at a)
 | ptr a=>exact cd.cons (.ptr a) .nil
 | sl b c d=>exact cd.cons (.sl b c d) .nil
 | pJ=>exact cd.cons .pJ .nil
 | sle=>exact cd.cons .sle .nil
 | map a=>exact cd.cons (.map a) .nil
 | K2 b c=>exact cd.cons (.K2 b c) .nil
end
inductive AO where
 | row (cs:aQ) (sz:Nat) (lo:di)
 | mp (es:Array MapEntry) (clock:Nat)
 | dead
deriving Inhabited
abbrev AH:=List AO
def AO.own:AO->Bool
 | .row _ _ a=>a.isSome
 | .mp _ _=>true
 | .dead=>false
def AO.under:AO->AO->Prop
 | .row _ _ (some k),.row a _ none=>a.length<=k
 | _,_=>False
theorem AO.eN {o a:AO} (h:a.own):¬o.under a:=by unfold AO.under;split;cases h;exact id
theorem AO.pW {o b:AO} (h:o.under b):∃c sz k a d,o= .row c sz (some k)/\b= .row a d none/\a.length<=k:=by
 unfold AO.under at h;split at h
 grind
 exact h.elim
theorem AO.nK {sz:Nat} {c:AO} (h:(AO.row p sz (some a)).under c) (f:a<=b) (d:aQ) (g:Nat):(AO.row d g (some b)).under c:=by obtain ⟨_,_,_,_,_,e,rfl,h⟩:=AO.pW h;cases e;exact yI h f
def kU (a:Nat×Nat) (j:Nat):Prop:=¬(a.1<=j/\j<a.2)
def Fx (d:au) (H:AH) (w:World):Prop:=(∃(b:aP) (c:Nat×Nat),w.heap[0]? =some (.cells (Lib.pow10Tab.map λz=>Value.int .u64 z).toArray b c))/\∀(a:Nat) (o:AO) (B:gI),H[a]? =some o->d a=some B->o.own->B.b≠0
def JK:aq:=.chan (some 0)
def nj:aq->Bool
 | .chan _=>false
 | _=>true
theorem KA (h:one u):u≠JK:=by rintro rfl;cases h
theorem yk (h:nj u):u≠JK:=by rintro rfl;cases h
structure nq (β:au) (H:AH) (w:World):Prop where
 rows:∀(id:Nat) (cs:aQ) (sz:Nat) (ro:di) (B:gI),H[id]? =some (.row cs sz ro)->β id=some B->B.sz=sz/\(ro≠none->∀a∈cs,one a)/\cs.length<=B.n/\
  ∃(C:Array aq) (el:aP) (fr:Nat×Nat),w.heap[B.b]? =some (.cells C el fr)/\C.size=B.n/\(∀(j:Nat) (a v:aq),cs[j]? =some a->C[j]? =some v->a≠JK->VR β a v)/\(ro≠none->∀j,j<C.size->kU fr j)
 maps:∀(id:Nat) (es:Array MapEntry) (cl:Nat) (B:gI),H[id]? =some (.mp es cl)->β id=some B->w.heap[B.b]? =some (.map es cl)/\∀e∈es,ak e.key/\ak e.val
 inj:∀(id id':Nat) (o o':AO) (B B':gI),H[id]? =some o->H[id']? =some o'->β id=some B->β id'=some B'->o.own->o'≠ .dead->B.b=B'.b->id=id'\/o.under o'
 lt:∀(id:Nat) (B:gI),β id=some B->id<H.length
def dJ (w:World) (b:Nat):Option aP:=match w.heap[b]? with
 | some (.cells _ a _)=>some a
 | _=>none
def gw (sz:Nat):Option (aP×Nat×Nat):=if sz=1000339 then some (339,0,2) else if sz=1000341 then some (341,10,14) else none
def Bu (f:au) (H:AH) (w:World):Prop:=∀(d:Nat) (b:aQ) (sz:Nat) (g:di) (B:gI) (c:aP) (o N:Nat),H[d]? =some (.row b sz g)->f d=some B->gw sz=some (c,o,N)->
 dJ w B.b=some c/\B.n=N/\∀(e n:Nat) (a:gI),b[o+1]? =some (.slice (some ⟨e,0,none⟩) n 1)->n≠0->f e=some a->dJ w a.b=some 5
def s6 (sz:Nat) (a:aQ) (n:Nat) (b:aP):Prop:=∀(e:aP) (o N:Nat),gw sz=some (e,o,N)->b=e/\n=N/\∀c m,a[o+1]? =some (.slice (some ⟨c,0,none⟩) m 1)->m=0
theorem oz {sz:Nat} (h:sz<1000000):gw sz=none:=by
 unfold gw
 grind
theorem s6.small {sz:Nat} (h:sz<1000000):s6 sz p a t:=λ_ _ _ b=>by rw [oz h] at b;cases b
class Small (P:aB):Prop where
 bs:∀(i:TypeInfo) (z:aq),P.info? 339=some i->i.zero=some z->z.cells.size=2
 bp:∀(i:TypeInfo) (z:aq),P.info? 341=some i->i.zero=some z->z.cells.size=14
structure Rel (β:au) (H:AH) (w:World):Prop extends nq β H w where
 fx:Fx β H w
 bu:Bu β H w
structure Ib (β:au) (H:AH) (w:World) (β':au) (H':AH) (w':World):Prop where
 os:w'.os=w.os
 tape:w'.tape=w.tape
 output:w'.output=w.output
 mono:∀(id:Nat) (B:gI),β id=some B->β' id=some B
 fix:∀(id:Nat),id<H.length->β id=none->β' id=none/\H'[id]? =H[id]?
 len:H.length<=H'.length
 size:w.heap.size<=w'.heap.size
 frame:∀b,b<w.heap.size->(∀(id:Nat) (o:AO) (B:gI),H[id]? =some o->β id=some B->o.own->B.b≠b)->w'.heap[b]? =w.heap[b]?
 ro:∀(id:Nat) (o:AO),H[id]? =some o->o.own=false->H'[id]? =some o
 fresh:∀(id:Nat) (o:AO) (B:gI),H'[id]? =some o->β' id=some B->o.own->B.b<w.heap.size->∃(id0:Nat) (o0:AO) (B0:gI),H[id0]? =some o0/\β id0=some B0/\o0.own/\B0.b=B.b
structure Ext (β:au) (H:AH) (w:World) (β':au) (H':AH) (w':World):Prop extends Ib β H w β' H' w' where
 Ik:∀(b:Nat) (el:aP),dJ w b=some el->dJ w' b=some el
theorem Fx.pos {b:au} {H:AH} {w:World} (f:Fx b H w):0<w.heap.size:=by
 obtain ⟨⟨c,d,e⟩,_⟩:=f;rcases zZ 0 w.heap.size with a|a;exact a
 simp_all
theorem Ib.fx {k l:au} {H g:AH} {w j:World} (h:Ib k H w l g j) (f:Fx k H w):Fx l g j:=by
 have i:=f.pos;obtain ⟨⟨m,n,p⟩,q⟩:=f;refine ⟨⟨m,n,by rw [h.frame 0 i λd o B a b c=>q d o B a b c];exact p⟩,λd o B a b c e=>?_⟩;obtain ⟨s,z,r,t,v,x,y⟩:=h.fresh d o B a b c (e▸i)
 grind
theorem nq.up {p f:au} {H g:AH} {w c:World} (h:Rel p H w) (k:nq f g c/\Ib p H w f g c) (v:∀(b:Nat) (a:aP),dJ w b=some a->dJ c b=some a)
  (L:∀(l:Nat) (i:aQ) (sz:Nat) (s:di) (B:gI),g[l]? =some (.row i sz s)->f l=some B->
   (∃j d m,H[j]? =some (.row d sz m)/\p j=some B/\∀o x,i[o+1]? =some x->d[o+1]? =some x)\/
   ∀a o N,gw sz=some (a,o,N)->dJ c B.b=some a/\B.n=N/\∀(t n:Nat) (q:gI),i[o+1]? =some (.slice (some ⟨t,0,none⟩) n 1)->n≠0->f t=some q->dJ c q.b=some 5):Rel f g c/\Ext p H w f g c:=by
 refine ⟨⟨k.1,k.2.fx h.fx,?_⟩,⟨k.2,v⟩⟩;intro l i sz s B a o N D E F;rcases L l i sz s B D E with ⟨j,d,m,y,z,R⟩|b1;obtain ⟨r1,X,r2⟩:=h.bu j d sz m B a o N y z F;refine ⟨v _ _ r1,X,λt n q J h5 h6=>?_⟩;have K:=R o _ J;obtain ⟨_,_,p3,C,_,_,_,p4,P,_⟩:=h.rows j d sz m B y z;have M:o+1<C.size:=by
  rcases zZ (o+1) d.length with A|A;omega
  grind
 obtain ⟨_,⟨e,_⟩|⟨e,_⟩|⟨_,B2,_,r,_⟩⟩:=(P (o+1) _ C[o+1] K (yK M) (λe=>by cases e)).ew;omega;omega;have r:=r;have:=k.2.mono _ _ r
 grind
 grind
theorem Ext.refl (a:au) (H:AH) (w:World):Ext a H w a H w:=
 ⟨⟨rfl,rfl,rfl,λ_ _ h=>h,λ_ _ h=>⟨h,rfl⟩,zC _,zC _,λ_ _ _=>rfl,λ_ _ h _=>h,λe o B b c d _=>⟨e,o,B,b,c,d,rfl⟩⟩,λ_ _ h=>h⟩
theorem Ext.trans {A C D:au} {H n p:AH} {w y z:World} (h:Ext A H w C n y) (k:Ext C n y D p z):Ext A H w D p z:={
 os:=k.os.trans h.os
 tape:=k.tape.trans h.tape
 output:=k.output.trans h.output
 mono:=λa B c=>k.mono a B (h.mono a B c)
 fix:=λa r J=>by
  obtain ⟨e,f⟩:=h.fix a r J;obtain ⟨g,i⟩:=k.fix a (xN r h.len) e
  simp_all
 len:=yI h.len k.len
 size:=yI h.size k.size
 frame:=λb c F=>by
  refine (k.frame b (xN c h.size) ?_).trans (h.frame b c F);intro a o B d j l E;obtain ⟨v,x,m,e,f,g,i⟩:=h.fresh a o B d j l (E▸c)
  grind
 ro:=λa o d t=>k.ro a o (h.ro a o d t) t
 fresh:=λa o B d j l s=>by
  obtain ⟨v,x,m,e,f,g,i⟩:=k.fresh a o B d j l (xN s h.size);obtain ⟨L,X,K,M,N,P,R⟩:=h.fresh v x m e f g (i▸s)
  grind
 Ik:=λb q c=>k.Ik b q (h.Ik b q c)}
theorem Ext.drew {a:au} {H:AH} {w:World} (n:Nat):Ext a H w a H {w with drawn:=n}:=
 ⟨⟨rfl,rfl,rfl,λ_ _ h=>h,λ_ _ h=>⟨h,rfl⟩,zC _,zC _,λ_ _ _=>rfl,λ_ _ h _=>h,λe o B b c d _=>⟨e,o,B,b,c,d,rfl⟩⟩,λ_ _ h=>h⟩
theorem Rel.drew {a:au} {H:AH} {w:World} (h:Rel a H w) (n:Nat):Rel a H {w with drawn:=n}:=⟨⟨h.rows,h.maps,h.inj,h.lt⟩,h.fx,h.bu⟩
theorem Rel.blt {e:au} {H:AH} {w:World} (h:Rel e H w) {o:AO} {B:gI} (d:H[a]? =some o) (c:e a=some B) (m:o≠ .dead):B.b<w.heap.size:=by
 cases o with
 | dead=>simp_all
 | row f sz j=>
  obtain ⟨_,_,_,C,k,l,i,_⟩:=h.rows a f sz j B d c;rcases zZ B.b w.heap.size with b|b;exact b
  simp_all
 | mp g cl=>
  obtain ⟨i,_⟩:=h.maps a g cl B d c;rcases zZ B.b w.heap.size with b|b;exact b
  simp_all
def au.put (b:au) (a:Nat) (B:gI):au:=λk=>if k=a then some B else b k
theorem au.aC (b:au) (a:Nat) (B:gI):b.put a B a=some B:=zP rfl
theorem au.fZ {b:au} (c:b a=none) (B:gI):∀k C,b k=some C->b.put a B k=some C:=by
 intro k C h;unfold au.put;split
 simp_all
 exact h
def cr:aQ->Nat->aQ->aQ
 | a,_,[]=>a
 | a,b,x::c=>cr (a.set b x) (b+1) c
@[simp] theorem Fv (c:aQ):∀(a:aQ) (b:Nat),(cr a b c).length=a.length:=by
 induction c with
 | nil=>intro a b;rfl
 | cons x c d=>intro a b;simp [cr,d]
theorem cP (b o j:Nat):(⟨b,o,none⟩:Addr).add j=⟨b,o+j,none⟩:=by
 unfold Addr.add;split
 simp_all
 rfl
section
variable {D:au} {H:AH} {E:World} {P:aB}
theorem ab {c:Type} {l:List c} {d:c} (h:l[a]? =some d):a<l.length:=by
 rcases zZ a l.length with b|b;exact b
 simp_all
theorem Rel.load (h:Rel D H E) {e:Nat} {c:aQ} {sz:Nat} {g:di} {B:gI} (l:H[e]? =some (.row c sz g)) (k:D e=some B) {off n:Nat} (t:off+n<=c.length) (b:∀a∈(c.drop off).take n,a≠JK):
  ∃f:aQ,f.length=n/\cd D ((c.drop off).take n) f/\∀j v,f[j]? =some v->E.cell? ((⟨B.b,off,none⟩:Addr).add j)=some v:=by
 obtain ⟨_,_,r,C,o,p,q,w,x,_⟩:=h.rows e c sz g B l k;refine ⟨(C.toList.drop off).take n,W,⟨W,λi a v d m=>?_⟩,λj v b=>?_⟩;have s:=b a (zI d);rw [zS] at d m;split at d
 grind
 cases d;rw [zS] at b;split at b;rw [yX] at b;rw [cP];unfold World.cell?
 simp_all
 cases b
theorem Rel.ru (h:Rel D H E) {sz:Nat} {B:gI} (l:H[a]? =some (.row p sz (some b))) (q:D a=some B) {k:Nat} (hk:k<B.n) (f1:b<=k) {cs':aQ} (K:∀(j:Nat) (x:aq),cs'[j]? =some x->(j=k/\x=u)\/(j≠k/\p[j]? =some x)) (d2:cs'.length<=B.n) (hv:VR D u v) (h1:one u) (d8:∀n o N,gw sz=some (n,o,N)->k=o+1->∀(b2 b1:Nat) (d:gI),u= .slice (some ⟨b2,0,none⟩) b1 1->b1≠0->D b2=some d->dJ E d.b=some 5):
  (store ⟨B.b,k,none⟩ v).run P E= .ok () (E.setCell ⟨B.b,k,none⟩ v)/\Rel D (H.set a (.row cs' sz (some b))) (E.setCell ⟨B.b,k,none⟩ v)/\Ext D H E D (H.set a (.row cs' sz (some b))) (E.setCell ⟨B.b,k,none⟩ v):=by
 obtain ⟨d3,f2,hl,C,n,fr,hc,hs,f3,c9⟩:=h.rows a p sz (some b) B l q;have hid:=ab l;have A:k<C.size:=O;have c7:E.cell? ⟨B.b,k,none⟩=some C[k]:=by unfold World.cell?;simp only [hc,Option.isSome_none];simp [A]
 have d1:E.frozen? ⟨B.b,k,none⟩=false:=by unfold World.frozen?;simp only [hc];have:=c9 Z k A;unfold kU at this;simp;omega
 have d4:=hv.one.trans h1;have L:∀c,(E.setCell ⟨B.b,k,none⟩ v).heap[c]? =if c=B.b then some (.cells (C.set k v A) n fr) else E.heap[c]? :=by
  intro c;unfold World.setCell;simp only [wO];by_cases g:B.b=c
  grind
  grind
 have X:∀c,dJ (E.setCell ⟨B.b,k,none⟩ v) c=dJ E c:=by
  intro c;unfold dJ;rw [L];by_cases g:c=B.b
  simp_all
  grind
 refine ⟨?_,nq.up h ⟨⟨?_,?_,?_,?_⟩,⟨rfl,rfl,rfl,λ_ _ h=>h,?_,Z,by simp_all,?_,?_,?_⟩⟩ (λc n g=>(X c).trans g) ?_⟩;show (Sem.store .plain ⟨B.b,k,none⟩ v (.pure ())).run P E=_;cases v <;> first|(simp [one] at d4;done)|simp [Sem.run,c7,d1]
 intro w cs' c3 c2 d m r;by_cases f:a=w;subst f;rw [zF hid] at m;cases m;rw [q] at r;cases r;refine ⟨d3,λ_=>?_,d2,C.set k v A,n,fr,by simp_all,by grind,?_,by grind⟩;intro x t;obtain ⟨j,M,rfl⟩:=yA t;rcases K j _ (zA M) with ⟨_,e⟩|⟨_,e⟩
 simp_all
 grind
 intro j x f4 t hy e6;rw [Array.getElem?_set] at hy;rcases K j x t with ⟨M,e⟩|⟨M,e⟩
 simp_all
 grind
 rw [zE f] at m;obtain ⟨F,J,q3,C',d5,d6,r1,r2,r3,r4⟩:=h.rows w cs' c3 c2 d m r;by_cases c6:B.b=d.b;rcases h.inj a w _ _ B d l m q r rfl Z c6 with e|e;omega;obtain ⟨_,_,_,_,_,e1,e2,e3⟩:=AO.pW e
 grind
 grind
 intro w es cl d m r;by_cases f:a=w
 simp_all
 rw [zE f] at m;obtain ⟨F,J⟩:=h.maps w es cl d m r;refine ⟨?_,J⟩;rw [L,zO ?_];exact F;intro e;rcases h.inj a w _ _ B d l m q r rfl Z e.symm with e|e;exact f e;exact e.elim;intro i j o o' B1 B2 b6 d7 c4 c5 R d9 c8;have e1:∃y,H[i]? =some y/\y.own/\∀x,y.under x->o.under x:=by
  by_cases f:a=i;subst f;rw [zF hid] at b6;cases b6;exact ⟨_,l,rfl,λx t=>AO.nK t (zC _) _ _⟩
  simp_all
 have e2:∃z,H[j]? =some z/\z≠ .dead/\∀x:AO,x.under z->x.under o':=by
  by_cases f:a=j;subst f;exact ⟨_,l,Z,λx t=>absurd t (AO.eN rfl)⟩
  simp_all
 obtain ⟨y,F,J,q5⟩:=e1;obtain ⟨z,q3,q4,q6⟩:=e2;exact (h.inj i j y z B1 B2 F q3 c4 c5 J q4 c8).imp (λh=>h) λh=>q6 _ (q5 _ h);intro i c g;simpa using h.lt i c g
 grind
 intro c g hf;rw [L,zO];rintro rfl;exact hf a _ B l q rfl rfl;intro i o s R;rw [zE];exact s;rintro rfl;rw [l] at s;cases s;cases R;intro i o d s g R _;by_cases f:a=i;subst f;exact ⟨a,_,d,l,g,rfl,rfl⟩
 grind
 intro i ds c3 c2 d s g;by_cases f:a=i;subst f;rw [zF hid] at s;cases s;rw [q] at g;cases g;right;intro n o N hm;obtain ⟨t1,t0,t2⟩:=h.bu a p sz _ B n o N l q hm;refine ⟨(X _).trans t1,t0,λb2 b1 d h4 h5 h6=>(X _).trans ?_⟩;rcases K _ _ h4 with ⟨e,e'⟩|⟨_,e⟩
 grind
 simp_all
 grind
theorem Rel.CS (h:Rel D H E) {sz:Nat} {B:gI} (f:H[a]? =some (.row p sz (some b))) (d:D a=some B) {k:Nat} (s:k<p.length) (m:b<=k) (n:VR D u v) (g:one u) (l:∀c o N,gw sz=some (c,o,N)->k≠o+1):
  (store ⟨B.b,k,none⟩ v).run P E= .ok () (E.setCell ⟨B.b,k,none⟩ v)/\Rel D (H.set a (.row (p.set k u) sz (some b))) (E.setCell ⟨B.b,k,none⟩ v)/\Ext D H E D (H.set a (.row (p.set k u) sz (some b))) (E.setCell ⟨B.b,k,none⟩ v):=by
 obtain ⟨_,_,t,_⟩:=h.rows a p sz (some b) B f d;refine h.ru f d O m (λj x q=>?_) (by grind) n g λc o N i e=>absurd e (l c o N i);rw [yO] at q;by_cases r:k=j
 simp_all
 grind
theorem Rel.CR {sz:Nat} {B:gI} (z:D a=some B) (c:Nat) (b1:b<=c):∀(d g:aQ) (i:Nat) (H:AH) (e:aQ) (E:World),Rel D H E->H[a]? =some (.row e sz (some b))->c+i+d.length<=e.length->cd D d g->(∀m∈d,one m)->(∀l o N,gw sz=some (l,o,N)->¬(c+i<=o+1/\o+1<c+i+d.length))->
  ∃f,(storeCells ⟨B.b,c,none⟩ g i).run P E= .ok () f/\Rel D (H.set a (.row (cr e (c+i) d) sz (some b))) f/\Ext D H E D (H.set a (.row (cr e (c+i) d) sz (some b))) f/\f.heap.size=E.heap.size:=by
 intro d;induction d with
 | nil=>
  intro g i H e E h s C r n q;have:=zK r.1.symm;subst this;have t:H.set a (.row e sz (some b))=H:=by
   apply xF;intro j;by_cases hj:a=j
   grind
   simp_all
  refine ⟨E,rfl,?_,?_,rfl⟩;simp only [cr,t];exact h;simp only [cr,t];exact Ext.refl _ _ _
 | cons x d K=>intro g i H e E h s C r n q;obtain ⟨b2,g,rfl,J,F⟩:=r.ep;obtain ⟨L,M,R⟩:=h.CS (P:=P) s z (k:=c+i) (by grind) O J (n x Z) (λl o N p y=>q l o N p ⟨O,W⟩);obtain ⟨f,X,v,w,s4⟩:=K g (i+1) _ (e.set (c+i) x) _ M (by grind) (by grind) F (λm A=>n m (by simp [A])) (λl o N p y=>q l o N p ⟨O,W⟩);rw [xU] at v w;refine ⟨f,?_,v,R.trans w,s4.trans (by simp_all)⟩;simp only [storeCells,Sem.run_bind,cP,L,Result.andThen_ok];exact X
theorem jc (H:AH) (a:Nat) (o:AO) (c:H[a]? =some o):H.set a o=H:=by
 apply xF;intro j;by_cases b:a=j
 grind
 simp_all
theorem Rel.QL {sz:Nat} {B:gI} (t:D a=some B) (f:Nat) (X:b<=f):∀(d e:aQ) (i:Nat) (H:AH) (c:aQ) (E:World),Rel D H E->H[a]? =some (.row c sz (some b))->c.length=f+i->f+i+d.length<=B.n->cd D d e->(∀n∈d,one n)->(d=[]\/gw sz=none)->
  ∃g,(storeCells ⟨B.b,f,none⟩ e i).run P E= .ok () g/\Rel D (H.set a (.row (c++d) sz (some b))) g/\Ext D H E D (H.set a (.row (c++d) sz (some b))) g:=by
 intro d;induction d with
 | nil=>intro e i H c E h m y s p o l;have:=zK p.1.symm;subst this;refine ⟨E,rfl,?_,?_⟩;rw [List.append_nil,jc H a _ m];exact h;rw [List.append_nil,jc H a _ m];exact Ext.refl _ _ _
 | cons x d C=>
  intro e i H c E h m y s p o l;obtain ⟨b2,e,rfl,A,z⟩:=p.ep;have l:=l.resolve_left Z;simp at s;obtain ⟨F,J,K⟩:=h.ru (P:=P) (cs':=c++[x]) m t (k:=f+i) O O (λj b6 hz=>by
   rcases zZ j c.length with w|w
   grind
   grind) W A (o x Z) (λM b1 N R=>by simp_all)
  obtain ⟨g,L,q,r⟩:=C e (i+1) _ (c++[x]) _ J (by grind) W O z (λn v=>o n (by simp [v])) (.inr l);rw [xU] at q r;rw [yW,List.singleton_append] at q r;refine ⟨g,?_,q,K.trans r⟩;simp only [storeCells,Sem.run_bind,cP,F,Result.andThen_ok];exact L
theorem Rel.less (h:Rel D H E) {sz:Nat} {B:gI} (w:H[a]? =some (.row p sz (some b))) (hB:D a=some B) (n:Nat):
  Rel D (H.set a (.row (p.take n) sz (some b))) E/\Ext D H E D (H.set a (.row (p.take n) sz (some b))) E:=by
 have hid:=ab w;have l:∀i (o:AO),(H.set a (AO.row (p.take n) sz (some b)))[i]? =some o->∃e,H[i]? =some e/\(e=o\/(i=a/\o= .row (p.take n) sz (some b)/\e= .row p sz (some b))):=by
  intro i o c;by_cases he:a=i
  simp_all
  simp_all
 refine nq.up h ⟨⟨?_,?_,?_,?_⟩,⟨rfl,rfl,rfl,λ_ _ h=>h,?_,Z,zC _,λ_ _ _=>rfl,?_,?_⟩⟩ (λ_ _ h=>h) ?_;intro i N F C g c d;obtain ⟨e,f,rfl|⟨rfl,k,rfl⟩⟩:=l i _ c;exact h.rows i N F C g f d;cases k;obtain ⟨t,r,z,L,P,X,r1,r2,r3,r4⟩:=h.rows i p _ _ g f d;refine ⟨t,λc5 v m=>r c5 v (yM m),W,L,P,X,r1,r2,λj v c6 m hv hj=>?_,r4⟩;rw [zS] at m;split at m
 grind
 cases m;intro i R cl g c d;obtain ⟨e,f,rfl|⟨rfl,k,rfl⟩⟩:=l i _ c;exact h.maps i R cl g f d;cases k;intro i j o e J K b1 b2 b6 c2 q c3 c4;obtain ⟨x,t,r⟩:=l i _ b1;obtain ⟨y,z,A⟩:=l j _ b2;have w1:x.own:=by rcases r with rfl|⟨_,rfl,rfl⟩;exact q;rfl
 have w2:y≠ .dead:=by rcases A with rfl|⟨_,rfl,rfl⟩;exact c3;simp
 refine (h.inj i j x y J K t z b6 c2 w1 w2 c4).imp (λh=>h) λs=>?_;rcases A with rfl|⟨_,rfl,rfl⟩;rcases r with rfl|⟨_,rfl,rfl⟩;exact s;exact AO.nK s (zC _) _ _;exact absurd s (AO.eN rfl);intro i M d;simpa using h.lt i M d
 grind
 intro i o c q;rw [zE];exact c;rintro rfl;rw [w] at c;cases c;cases q;intro i o g c d q _;obtain ⟨e,f,k⟩:=l i _ c;refine ⟨i,e,g,f,d,?_,rfl⟩;rcases k with rfl|⟨_,rfl,rfl⟩;exact q;rfl;intro i ds F C g c d;left;obtain ⟨e,f,rfl|⟨rfl,k,rfl⟩⟩:=l i _ c
 grind
 cases k;refine ⟨i,p,_,f,d,λo c7 h=>?_⟩;rw [zS] at h;split at h;exact h;cases h
theorem Rel.push (h:Rel D H E) {xs:aQ} (C:Array aq) (m:aP) (q:Nat×Nat) (sz:Nat) (hl:xs.length<=C.size) (hv:∀(j:Nat) (g v:aq),xs[j]? =some g->C[j]? =some v->VR D g v) (h1:∀g∈xs,one g) (c3:∀j,j<C.size->kU q j) (J:s6 sz xs C.size m):
  Rel (D.put H.length ⟨E.heap.size,C.size,sz⟩) (H++[.row xs sz (some a)]) {E with heap:=E.heap.push (.cells C m q)}/\Ext D H E (D.put H.length ⟨E.heap.size,C.size,sz⟩) (H++[.row xs sz (some a)]) {E with heap:=E.heap.push (.cells C m q)}:=by
 have hn:D H.length=none:=by
  cases c:D H.length with
  | none=>rfl
  | some B=>exact absurd (h.lt _ _ c) (wC _)
 have F:=au.fZ hn ⟨E.heap.size,C.size,sz⟩;have n:∀i (o:AO),(H++[AO.row xs sz (some a)])[i]? =some o->i≠H.length->H[i]? =some o:=by intro i o d R;have:=ab d;simp at this;rwa [zD O] at d
 have X:∀o,(H++[AO.row xs sz (some a)])[H.length]? =some o->o= .row xs sz (some a):=by intro o d;simpa [eq_comm] using d
 have l:∀i B,i≠H.length->D.put H.length ⟨E.heap.size,C.size,sz⟩ i=some B->D i=some B:=by intro i B R c;simpa [au.put,R] using c
 have c4:∀b,b<E.heap.size->(E.heap.push (Obj.cells C m q))[b]? =E.heap[b]? :=by intro b c;rw [xY,zO O]
 refine nq.up h ⟨⟨?_,?_,?_,?_⟩,⟨rfl,rfl,rfl,F,?_,Z,Z,?_,?_,?_⟩⟩ (λb m c=>by
  unfold dJ at c ⊢
  grind) ?_
 intro i cs b1 ro B x r;by_cases k:i=H.length;subst k;cases X _ x;rw [au.aC] at r;cases r;exact ⟨rfl,λ_=>h1,hl,C,m,q,Z,rfl,λj g v A L _=>(hv j g v A L).mono F,λ_=>c3⟩;have y:=n i _ x k;have s:=l i B k r;obtain ⟨q1,q2,q3,C',b2,b6,r1,r2,r3,r4⟩:=h.rows i cs b1 ro B y s;exact ⟨q1,q2,q3,C',b2,b6,(c4 _ (h.blt y s Z)).trans r1,r2,λj g v A L w=>(r3 j g v A L w).mono F,r4⟩;intro i es cl B x r;by_cases k:i=H.length
 simp_all
 have y:=n i _ x k;have s:=l i B k r;obtain ⟨q1,q2⟩:=h.maps i es cl B y s
 grind
 intro i j o o' B M d w c t K P c2;by_cases f:i=H.length <;> by_cases p:j=H.length;omega;subst f;rw [au.aC] at c;cases c;have:=h.blt (n j _ w p) (l j _ p t) P
 simp_all
 subst p;rw [au.aC] at t;cases t;have:=h.blt (n i _ d f) (l i _ f c) (by rintro rfl;cases K)
 simp_all
 exact h.inj i j o o' B M (n i _ d f) (n j _ w p) (l i _ f c) (l j _ p t) K P c2;intro i B c;by_cases f:i=H.length;simp [f];have:=h.lt i B (l i B f c);simp;omega;intro i d c8;refine ⟨?_,?_⟩;unfold au.put;grind
 grind
 simp_all
 grind
 intro i o B d c K c7;by_cases f:i=H.length;subst f;rw [au.aC] at c;grind
 grind
 intro i ds b1 c9 M d c;by_cases k:i=H.length;subst k;cases X _ d;rw [au.aC] at c;cases c;exact .inr λe o N z=>⟨by rw [<-(J e o N z).1];simp [dJ],(J e o N z).2.1,λc6 c5 _ h4 h5 _=>absurd ((J e o N z).2.2 c6 c5 h4) h5⟩
 grind
theorem Rel.GR (h:Rel D H E):
  Rel (D.put H.length ⟨E.heap.size,0,0⟩) (H++[.mp #[] 0]) {E with heap:=E.heap.push (.map #[] 0)}/\Ext D H E (D.put H.length ⟨E.heap.size,0,0⟩) (H++[.mp #[] 0]) {E with heap:=E.heap.push (.map #[] 0)}:=by
 have X:D H.length=none:=by
  cases c:D H.length with
  | none=>rfl
  | some B=>exact absurd (h.lt _ _ c) (wC _)
 have x:=au.fZ X ⟨E.heap.size,0,0⟩;have k:∀i (o:AO),(H++[AO.mp #[] 0])[i]? =some o->i≠H.length->H[i]? =some o:=by intro i o e y;have:=ab e;simp at this;rwa [zD O] at e
 have b2:∀o,(H++[AO.mp #[] 0])[H.length]? =some o->o= .mp #[] 0:=by intro o e;simpa [eq_comm] using e
 have g:∀i B,i≠H.length->D.put H.length ⟨E.heap.size,0,0⟩ i=some B->D i=some B:=by intro i B y c;simpa [au.put,y] using c
 have R:∀b,b<E.heap.size->(E.heap.push (Obj.map #[] 0))[b]? =E.heap[b]? :=by intro b c;rw [xY,zO O]
 refine nq.up h ⟨⟨?_,?_,?_,?_⟩,⟨rfl,rfl,rfl,x,?_,Z,Z,?_,?_,?_⟩⟩ (λb el c=>by
  unfold dJ at c ⊢
  grind) ?_
 intro i J C ro B r m;by_cases f:i=H.length
 simp_all
 have s:=k i _ r f;have n:=g i B f m;obtain ⟨z,A,q3,F,K,M,r1,r2,r3,r4⟩:=h.rows i J C ro B s n;exact ⟨z,A,q3,F,K,M,(R _ (h.blt s n Z)).trans r1,r2,λj a b6 N b1 q=>(r3 j a b6 N b1 q).mono x,r4⟩;intro i L cl B r m;by_cases f:i=H.length;subst f;cases b2 _ r;rw [au.aC] at m;grind;have s:=k i _ r f;have n:=g i B f m;obtain ⟨z,A⟩:=h.maps i L cl B s n
 grind
 intro i j o o' B v e q c p t w P;by_cases d:i=H.length <;> by_cases l:j=H.length;omega;subst d;rw [au.aC] at c;cases c;have:=h.blt (k j _ q l) (g j _ l p) w
 simp_all
 subst l;rw [au.aC] at p;cases p;have:=h.blt (k i _ e d) (g i _ d c) (by rintro rfl;cases t)
 simp_all
 exact h.inj i j o o' B v (k i _ e d) (k j _ q l) (g i _ d c) (g j _ l p) t w P;intro i B c;by_cases d:i=H.length;simp [d];have:=h.lt i B (g i B d c);simp;omega;intro i e c3;refine ⟨?_,?_⟩;unfold au.put;grind
 grind
 simp_all
 grind
 intro i o B e c t c2;by_cases d:i=H.length;subst d;rw [au.aC] at c;grind
 grind
 intro i ds C c4 v e c;by_cases f:i=H.length
 simp_all
 grind
theorem Rel.D0 (h:Rel D H E) {F:Array MapEntry} {cl:Nat} {B:gI} (f:H[a]? =some (.mp F cl)) (p:D a=some B) (k:Array MapEntry) (n:Nat) (hs:∀e∈k,ak e.key/\ak e.val):
  Rel D (H.set a (.mp k n)) {E with heap:=E.heap.setIfInBounds B.b (.map k n)}/\Ext D H E D (H.set a (.mp k n)) {E with heap:=E.heap.setIfInBounds B.b (.map k n)}:=by
 have hid:=ab f;have c9:=h.blt f p Z;have y:∀b,(E.heap.setIfInBounds B.b (.map k n))[b]? =if b=B.b then some (.map k n) else E.heap[b]? :=by
  intro b;rw [Array.getElem?_setIfInBounds];by_cases d:B.b=b
  simp_all
  grind
 refine nq.up h ⟨⟨?_,?_,?_,?_⟩,⟨rfl,rfl,rfl,λ_ _ h=>h,?_,Z,Z,?_,?_,?_⟩⟩ (λb el d=>by
  unfold dJ at d ⊢;rw [y];by_cases c4:b=B.b;subst c4;rw [(h.maps a F cl B f p).1] at d;cases d
  simp_all) ?_
 intro m R K J g l q;by_cases c:a=m
 simp_all
 rw [zE c] at l;obtain ⟨v,w,C,N,b1,b6,r1,r2⟩:=h.rows m R K J g l q;refine ⟨v,w,C,N,b1,b6,?_,r2⟩;rw [y,zO ?_];exact r1;intro e;rcases h.inj a m _ _ B g f l p q rfl Z e.symm with e|e;exact c e;exact e.elim;intro m b2 P g l q;by_cases c:a=m
 simp_all
 rw [zE c] at l;obtain ⟨v,w⟩:=h.maps m b2 P g l q;refine ⟨?_,w⟩;rw [y,zO ?_];exact v;intro e;rcases h.inj a m _ _ B g f l p q rfl Z e.symm with e|e;exact c e;exact e.elim;intro i j o o' L M c6 c7 c2 c3 z c8 c5;have X:∃s,H[i]? =some s/\s.own/\∀x,s.under x->o.under x:=by
  by_cases c:a=i;subst c;exact ⟨_,f,rfl,λx A=>A.elim⟩
  simp_all
 have e2:∃t,H[j]? =some t/\t≠ .dead/\∀x:AO,x.under t->x.under o':=by
  by_cases c:a=j;subst c;exact ⟨_,f,Z,λx A=>absurd A (AO.eN rfl)⟩
  simp_all
 obtain ⟨s,v,w,q5⟩:=X;obtain ⟨t,C,q4,q6⟩:=e2;exact (h.inj i j s t L M v C c2 c3 w q4 c5).imp (λh=>h) λh=>q6 _ (q5 _ h);intro i b d;simpa using h.lt i b d
 grind
 intro b d hf;rw [y,zO];rintro rfl;exact hf a _ B f p rfl rfl;intro i o r z;rw [zE];exact r;rintro rfl;rw [f] at r;cases r;cases z;intro i o g r d z _;by_cases c:a=i;subst c;exact ⟨a,_,g,f,d,rfl,rfl⟩
 grind
 intro i ds K J g r d;by_cases c:a=i
 simp_all
 grind
theorem Rel.kill (h:Rel D H E) {sz:Nat} {B:gI} (l:H[a]? =some (.row p sz (some b))) (F:D a=some B):
  Rel D (H.set a .dead) E/\Ext D H E D (H.set a .dead) E:=by
 have hid:=ab l;have g:∀(i:Nat) (o:AO),(H.set a AO.dead)[i]? =some o->o≠ .dead->H[i]? =some o:=by
  intro i o c J;by_cases K:a=i
  simp_all
  simp_all
 refine nq.up h ⟨⟨λi r C A f c d=>h.rows i r C A f (g i _ c Z) d,λi s cl f c d=>h.maps i s cl f (g i _ c Z) d,?_,?_⟩,⟨rfl,rfl,rfl,λ_ _ h=>h,?_,Z,zC _,λ_ _ _=>rfl,?_,?_⟩⟩ (λ_ _ h=>h) ?_;intro i j o z m n t v w x e k y;exact h.inj i j o z m n (g i _ t (by rintro rfl;cases e)) (g j _ v k) w x e k y;intro i q d;simpa using h.lt i q d
 grind
 intro i o c e;rw [zE];exact c;rintro rfl;rw [l] at c;cases c;cases e;intro i o f c d e _;exact ⟨i,o,f,g i _ c (by rintro rfl;cases e),d,e,rfl⟩
 grind
theorem Rel.rename (h:Rel D H E) {sz:Nat} {B:gI} (v:H[a]? =some (.row p sz (some b))) (K:D a=some B):
  Rel (D.put H.length B) (H.set a .dead++[.row p sz (some b)]) E/\Ext D H E (D.put H.length B) (H.set a .dead++[.row p sz (some b)]) E:=by
 have hid:=ab v;have hn:D H.length=none:=by
  cases d:D H.length with
  | none=>rfl
  | some B=>exact absurd (h.lt _ _ d) (wC _)
 have N:=au.fZ hn B;have q:∀i (o:AO),(H.set a AO.dead++[AO.row p sz (some b)])[i]? =some o->i≠H.length->o≠ .dead->H[i]? =some o/\i≠a:=by
  intro i o c b2 t;have:=ab c;simp at this;rw [zD W] at c;by_cases k:a=i
  simp_all
  grind
 have z:∀o,(H.set a AO.dead++[AO.row p sz (some b)])[H.length]? =some o->o= .row p sz (some b):=by intro o c;rw [zH Z] at c;simpa [eq_comm] using c
 have m:∀i g,i≠H.length->D.put H.length B i=some g->D i=some g:=by intro i g b2 d;simpa [au.put,b2] using d
 refine nq.up h ⟨⟨?_,?_,?_,?_⟩,⟨rfl,rfl,rfl,N,?_,Z,zC _,λ_ _ _=>rfl,?_,?_⟩⟩ (λ_ _ h=>h) ?_;intro i c4 c2 b6 g c d;by_cases k:i=H.length;subst k;cases z _ c;rw [au.aC] at d;cases d;obtain ⟨r,w,R,A,F,J,X,r2,r3,r4⟩:=h.rows a p sz (some b) B v K;exact ⟨r,w,R,A,F,J,X,r2,λj C b1 L P n=>(r3 j C b1 L P n).mono N,r4⟩;obtain ⟨r,w,R,A,F,J,X,r2,r3,r4⟩:=h.rows i c4 c2 b6 g (q i _ c k Z).1 (m i _ k d);exact ⟨r,w,R,A,F,J,X,r2,λj C b1 L P n=>(r3 j C b1 L P n).mono N,r4⟩;intro i es cl g c d;by_cases k:i=H.length
 grind
 exact h.maps i es cl g (q i _ c k Z).1 (m i _ k d);intro i j o o' B1 B2 c n x y l t M;by_cases f:i=H.length <;> by_cases s:j=H.length;omega;subst f;cases z _ c;rw [au.aC] at x;cases x;obtain ⟨r,w⟩:=q j _ n s t;rcases h.inj a j _ _ _ _ v r K (m j _ s y) rfl t M with e|e;omega;exact .inr e;subst s;cases z _ n;rw [au.aC] at y;cases y;obtain ⟨r,w⟩:=q i _ c f (by rintro rfl;cases l);rcases h.inj i a _ _ _ _ r v (m i _ f x) K l Z M with e|e;omega
 grind
 exact h.inj i j o o' B1 B2 (q i _ c f (by rintro rfl;cases l)).1 (q j _ n s t).1 (m i _ f x) (m j _ s y) l t M;intro i c3 d;by_cases f:i=H.length;simp [f];have:=h.lt i c3 (m i _ f d);simp;omega;intro i c c6;refine ⟨?_,?_⟩;unfold au.put;grind
 grind
 intro i o c l;rw [zD (by grind),zE];exact c;rintro rfl;rw [v] at c;cases c;cases l;intro i o g c d l c5;by_cases f:i=H.length;subst f;rw [au.aC] at d;grind;exact ⟨i,o,g,(q i _ c f (by rintro rfl;cases l)).1,m i _ f d,l,rfl⟩;intro i ds c2 b6 g c d;left;by_cases k:i=H.length;subst k;cases z _ c;rw [au.aC] at d;grind
 grind
theorem Rel.fork (h:Rel D H E) {sz:Nat} {B:gI} (y:H[a]? =some (.row p sz (some b))) (r:D a=some B) (c5:b<=d) (hn:c<=d):
  Rel (D.put H.length B) (H.set a (.row (p.take c) sz none)++[.row p sz (some d)]) E/\Ext D H E (D.put H.length B) (H.set a (.row (p.take c) sz none)++[.row p sz (some d)]) E:=by
 have hid:=ab y;have c6:D H.length=none:=by
  cases f:D H.length with
  | none=>rfl
  | some B=>exact absurd (h.lt _ _ f) (wC _)
 have X:=au.fZ c6 B;have z:∀i (o:AO),(H.set a (AO.row (p.take c) sz none)++[AO.row p sz (some d)])[i]? =some o->i≠H.length->(i≠a/\H[i]? =some o)\/(i=a/\o= .row (p.take c) sz none):=by
  intro i o g b2;have:=ab g;simp at this;rw [zD W] at g;by_cases l:a=i
  simp_all
  grind
 have b1:∀o,(H.set a (AO.row (p.take c) sz none)++[AO.row p sz (some d)])[H.length]? =some o->o= .row p sz (some d):=by intro o g;rw [zH Z] at g;simpa [eq_comm] using g
 have m:∀i q,i≠H.length->D.put H.length B i=some q->D i=some q:=by intro i q b2 f;simpa [au.put,b2] using f
 refine nq.up h ⟨⟨?_,?_,?_,?_⟩,⟨rfl,rfl,rfl,X,?_,Z,zC _,λ_ _ _=>rfl,?_,?_⟩⟩ (λ_ _ h=>h) ?_;intro i c4 c2 b6 q g f;obtain ⟨n,C,q3,L,M,N,r1,r2,r3,r4⟩:=h.rows a p sz _ B y r;by_cases l:i=H.length;subst l;cases b1 _ g;rw [au.aC] at f;cases f;exact ⟨n,λ_=>C Z,q3,L,M,N,r1,r2,λj F v w K s=>(r3 j F v w K s).mono X,λ_=>r4 Z⟩;rcases z i _ g l with ⟨_,R⟩|⟨rfl,e⟩;obtain ⟨n,C,q3,L,M,N,r1,r2,r3,r4⟩:=h.rows i c4 c2 b6 q R (m i _ l f);exact ⟨n,C,q3,L,M,N,r1,r2,λj F v w K s=>(r3 j F v w K s).mono X,r4⟩;cases e;have f:=m i _ l f;rw [r] at f;cases f;refine ⟨n,λh=>absurd rfl h,W,L,M,N,r1,r2,λj F v w K s=>?_,λh=>absurd rfl h⟩;rw [zS] at w;split at w;exact (r3 j F v w K s).mono X;cases w;intro i es cl q g f;by_cases l:i=H.length
 grind
 rcases z i _ g l with ⟨_,R⟩|⟨_,e⟩;exact h.maps i es cl q R (m i _ l f);cases e;intro i j o o' B1 B2 g s J x t hd P;by_cases k:i=H.length <;> by_cases A:j=H.length;omega;subst k;cases b1 _ g;rw [au.aC] at J;cases J;rcases z j _ s A with ⟨C,n⟩|⟨rfl,rfl⟩;rcases h.inj a j _ _ _ _ y n r (m j _ A x) rfl hd P with e|e;omega;exact .inr (AO.nK e c5 _ _);right;show (p.take c).length<=d;simp;omega;subst A;cases b1 _ s;rw [au.aC] at x;cases x;rcases z i _ g k with ⟨C,n⟩|⟨rfl,rfl⟩;rcases h.inj i a _ _ _ _ n y (m i _ k J) r t Z P with e|e;omega;exact absurd e (AO.eN rfl);cases t;rcases z i _ g k with ⟨p2,p1⟩|⟨rfl,rfl⟩;rcases z j _ s A with ⟨C,n⟩|⟨rfl,rfl⟩;exact h.inj i j o o' B1 B2 p1 n (m i _ k J) (m j _ A x) t hd P;have x:=m j _ A x;rw [r] at x;cases x;rcases h.inj i j _ _ _ _ p1 y (m i _ k J) r t Z P with e|e;omega;exact absurd e (AO.eN rfl);cases t;intro i c3 f;by_cases k:i=H.length;simp [k];have:=h.lt i c3 (m i _ k f);simp;omega;intro i g c8;refine ⟨?_,?_⟩;unfold au.put;grind
 grind
 intro i o g t;rw [zD (by grind),zE];exact g;rintro rfl;rw [y] at g;cases g;cases t;intro i o q g f t c7;by_cases k:i=H.length;subst k;rw [au.aC] at f;cases f;exact ⟨a,_,B,y,r,rfl,rfl⟩;rcases z i _ g k with ⟨_,p1⟩|⟨_,rfl⟩
 grind
 cases t;intro i ds c2 b6 q g f;left;by_cases l:i=H.length;subst l;cases b1 _ g;rw [au.aC] at f;grind;have f:=m i _ l f;rcases z i _ g l with ⟨_,R⟩|⟨rfl,e⟩
 grind
 cases e;rw [r] at f;cases f;refine ⟨i,p,_,y,r,λo c9 h=>?_⟩;rw [zS] at h;split at h;exact h;cases h
theorem Rel.freeze (h:Rel D H E) {sz:Nat} {B:gI} (m:H[a]? =some (.row p sz (some b))) (g:D a=some B) (n:Nat):
  Rel D (H.set a (.row (p.take n) sz none)) E/\Ext D H E D (H.set a (.row (p.take n) sz none)) E:=by
 have hid:=ab m;have k:∀i (o:AO),(H.set a (AO.row (p.take n) sz none))[i]? =some o->(i≠a/\H[i]? =some o)\/(i=a/\o= .row (p.take n) sz none):=by
  intro i o c;by_cases he:a=i
  simp_all
  grind
 refine nq.up h ⟨⟨?_,?_,?_,?_⟩,⟨rfl,rfl,rfl,λ_ _ h=>h,?_,Z,zC _,λ_ _ _=>rfl,?_,?_⟩⟩ (λ_ _ h=>h) ?_;intro i L A z l c d;rcases k i _ c with ⟨_,q⟩|⟨rfl,e⟩;exact h.rows i L A z l q d;cases e;rw [g] at d;cases d;obtain ⟨v,q2,q3,J,M,P,r1,r2,r3,r4⟩:=h.rows i p sz _ B m g;refine ⟨v,λh=>absurd rfl h,W,J,M,P,r1,r2,λj b1 b2 r hv y=>?_,λh=>absurd rfl h⟩;rw [zS] at r;split at r
 grind
 cases r;intro i N cl l c d;rcases k i _ c with ⟨_,q⟩|⟨_,e⟩;exact h.maps i N cl l q d;cases e;intro i j o X C F c y w s f R x;rcases k i _ c with ⟨p2,t⟩|⟨rfl,rfl⟩;rcases k j _ y with ⟨q2,v⟩|⟨rfl,rfl⟩;exact h.inj i j o X C F t v w s f R x;rw [g] at s;cases s;rcases h.inj i j _ _ _ _ t m w g f Z x with e|e;omega;exact absurd e (AO.eN rfl);cases f;intro i K d;simpa using h.lt i K d
 grind
 intro i o c f;rw [zE];exact c;rintro rfl;rw [m] at c;cases c;cases f;intro i o l c d f _;rcases k i _ c with ⟨_,t⟩|⟨_,rfl⟩
 grind
 cases f;intro i ds A z l c d;left;rcases k i _ c with ⟨_,q⟩|⟨rfl,e⟩
 grind
 cases e;rw [g] at d;cases d;refine ⟨i,p,_,m,g,λo b6 h=>?_⟩;rw [zS] at h;split at h;exact h;cases h
end
def oK:TypeDesc->Bool
 | .struct _|.array _ _=>true
 | _=>false
section
variable {D:au} {H:AH} {E:World} {P:aB}
theorem qj {d:TypeDesc} (h:P.underlying t=some d) (E:World):(isAgg t).run P E= .ok (oK d) E:=by unfold isAgg;simp only [Sem.run_bind,run_underlying h,Result.andThen_ok];cases d <;> rfl
theorem jJ {i:TypeInfo} (h:P.info? t=some i) (E:World):(typeInfo t).run P E= .ok i E:=by simp [typeInfo,h]
theorem aV {i:TypeInfo} (h:P.info? t=some i) (E:World):(sizeOf t).run P E= .ok i.size E:=by simp [sizeOf,jJ h]
theorem dq {i:TypeInfo} (h:P.info? t=some i) (a:i.zero=some u) (E:World):(zeroValue t).run P E= .ok u E:=by simp [zeroValue,jJ h,a]
def cV (P:aB) (t:aP) (a:aq) (H:AH):fQ:=
 match a with
 | .pointer (some ⟨e,c,none⟩)=>
  match H[e]?,P.underlying t,P.info? t with
  | some (.row b _ _),some d,some i=>if oK d=true then (if c+i.size<=b.length/\((b.drop c).take i.size).all nj=true then some (.agg ((b.drop c).take i.size).toArray) else none) else (b[c]?).bind λa=>if nj a=true then some a else none
  | _,_,_=>none
 | _=>none
theorem qC (h:cV P t u H=some w) (q:Rel D H E) (a:VR D u v):∃c,(Instr.loadAt t v).run P E= .ok c E/\VR D w c:=by
 unfold cV at h;split at h;rename_i J b;obtain ⟨_,B,l,rfl⟩:=a.ez;split at h;rename_i f sz K d i p s x;simp only [Instr.loadAt,Instr.sureAddr,Sem.run_bind,Sem.run_pure,Result.andThen_ok,loadVar,qj s];split at h;rename_i m;split at h;rename_i j;have ⟨j,F⟩:=j;cases h;have ⟨k,o,r,g⟩:=q.load p l j (λu a=>yk (by simp_all));refine ⟨.agg k.toArray,?_,VR.og O⟩;have:=run_loadCells_list (P:=P) (w:=E) ⟨B.b,b,none⟩ k g;rw [o] at this;simp [m,aV x,this];cases h;rename_i m;have h:f[b]? =some w/\nj w:=by
  cases C:f[b]? with
  | none=>simp_all
  | some u=>
   rw [C] at h;simp only [zR] at h;split at h
   simp_all
   cases h
 have ⟨h,y⟩:=h;have ⟨k,o,r,g⟩:=q.load p l (off:=b) (n:=1) (by grind) (λu a=>by
  have e:(f.drop b).take 1=[w]:=by rw [yG (ab h)];have:=zA (ab h);rw [h] at this;simp at this;rw [<-this];simp
  rw [e] at a;rcases yL.1 a with rfl|a;exact yk y;cases a)
 have ⟨c,z,A⟩:=r.get (i:=0) (a:=w) (by simp [h]);refine ⟨c,?_,A⟩;have:=g 0 c z;simp only [cP,Nat.add_zero] at this
 simp_all
 cases h;cases h
def As (sz a n:Nat):Bool:=bif Nat.ble sz 999999 then true else match gw sz with
 | some (_,o,_)=> !(Nat.ble a (o+1)&&Nat.ble (o+2) (a+n))
 | none=>true
@[simp] theorem KD {sz:Nat} (h:sz<1000000):As sz a b:=by unfold As;rw [zX O];rfl
theorem iP {sz:Nat} (h:gw sz=some (t,b,a)):(sz=1000339/\a=2/\t=339/\b=0)\/(sz=1000341/\a=14/\t=341/\b=10):=by
 unfold gw at h;split at h
 simp_all
 split at h
 simp_all
 cases h
theorem tv {sz:Nat} (h:gw sz=some (t,b,a)):Nat.ble sz 999999=false:=by
 cases e:Nat.ble sz 999999 with
 | false=>rfl
 | true=>have:=yN e;rcases iP h with ⟨rfl,_⟩|⟨rfl,_⟩ <;> omega
theorem KC {sz:Nat} (h:As sz a b):∀c o N,gw sz=some (c,o,N)->¬(a<=o+1/\o+1<a+b):=by intro c o N d ⟨e,f⟩;unfold As at h;rw [tv d,d] at h;simp only [cond_false] at h;rw [zX e,zX (by omega:o+2<=a+b)] at h;cases h
def fD (P:aB) (t:aP) (a x:aq) (H:AH):Option AH:=
 match a with
 | .pointer (some ⟨d,b,none⟩)=>
  match H[d]?,P.info? t with
  | some (.row c sz (some e)),some i=>if x.cells.size=i.size/\b+i.size<=c.length/\x.cells.toList.all one/\e<=b/\As sz b i.size=true then some (H.set d (.row (cr c b x.cells.toList) sz (some e))) else none
  | _,_=>none
 | _=>none
theorem w7 {b:aq} {c:AH} (h:fD P t u w H=some c) (j:Rel D H E) (p:VR D u v) (x:VR D w b):∃a,(Instr.storeAt t v b).run P E= .ok () a/\Rel D c a/\Ext D H E D c a:=by
 unfold fD at h;split at h;rename_i y z;obtain ⟨_,B,e,rfl⟩:=p.ez;split at h;rename_i d sz M i g r;split at h;rename_i q;have ⟨l,F,J,m,n⟩:=q;have ⟨_,_,K,_⟩:=j.rows y d sz _ B g e;cases h;have f:=x.cells;have L:b.cells.size=i.size:=by have:=f.1;simp at this;omega
 have ⟨a,R,A,C,_⟩:=Rel.CR (P:=P) e z m w.cells.toList b.cells.toList 0 H d E j g W f (by grind) (λk o N s=>by simpa [l] using KC n k o N s);refine ⟨a,?_,A,C⟩;simp only [Instr.storeAt,Instr.sureAddr,Sem.run_bind,Sem.run_pure,Result.andThen_ok,storeVar,aV r]
 grind
 cases h;cases h;cases h
def rq (P:aB) (e:aP):Nat:=
 match P.underlying e with
 | some (.array _ a)=>((P.info? a).map (·.size)).getD 0
 | _=>0
def bc (P:aB) (e:aP):Nat:=bif Nat.beq e 339 then 1000339 else bif Nat.beq e 341 then 1000341 else bif Nat.ble (rq P e) 999999 then rq P e else 0
theorem mY {f:aP} (h:gw (bc P t)=some (f,b,a)):t=f:=by
 have c:=iP h;unfold bc at c;cases e:Nat.beq t 339 with
 | true=>have:=zU e;rw [e] at c;rcases c with ⟨_,_,rfl,_⟩|⟨d,_⟩;exact this;simp at d
 | false=>
  rw [e] at c;cases d:Nat.beq t 341 with
  | true=>have:=zU d;rw [d] at c;rcases c with ⟨d,_⟩|⟨_,_,rfl,_⟩;simp at d;exact this
  | false=>
   rw [d] at c;cases g:Nat.ble (rq P t) 999999 with
   | true=>
    rw [g] at c;have:=yN g
    grind
   | false=>simp_all
def Td (sz:Nat) (a:aQ):Bool:=bif Nat.ble sz 999999 then true else match gw sz with
 | some (_,o,N)=>Nat.beq a.length N&&match a[o+1]? with
  | some (.slice (some _) (_+1) _)=>false
  | _=>true
 | none=>true
theorem Ed (h:Td (bc P t) p):s6 (bc P t) p p.length t:=λc o N a=>by
 unfold Td at h;rw [tv a,a] at h;simp only [cond_false,zN] at h;refine ⟨mY a,zU h.1,λd m b=>?_⟩;rw [b] at h;cases m with
 | zero=>rfl
 | succ m=>simp at h
theorem mk_zero [a:Small P] {e:aP} {i:TypeInfo} {z:aq} (b:P.info? e=some i) (d:i.zero=some z) (h:z.cells.toList.all ak):s6 (bc P e) z.cells.toList z.cells.toList.length e:=λj o N c=>by have g:=mY c;subst g;refine ⟨rfl,?_,λk m f=>?_⟩;rcases iP c with ⟨_,rfl,rfl,_⟩|⟨_,rfl,rfl,_⟩;simpa using a.bs i z b d;simpa using a.bp i z b d;simp only [zT] at h;have:=h _ (zI f);simp [ak] at this
def Fb (a:aQ) (sz:Nat) (H:AH):aq×AH:=(.pointer (some ⟨H.length,0,none⟩),H++[.row a sz (some 0)])
def py (P:aB) (e:aP) (x:aq) (H:AH):Option (aq×AH):=if x.cells.toList.all one=true/\Td (bc P e) x.cells.toList=true then some (Fb x.cells.toList (bc P e) H) else none
theorem tC (j:Nat):kU (0,0) j:=λh=>by simp at h
theorem tP {sz:Nat} (l:u.cells.toList.all one) (n:s6 sz u.cells.toList u.cells.toList.length t) (f:Rel D H E) (g:VR D u v):
  ∃b c,(newVar t v).run P E= .ok ⟨E.heap.size,0,none⟩ b/\Rel c (Fb u.cells.toList sz H).2 b/\Ext D H E c (Fb u.cells.toList sz H).2 b/\VR c (Fb u.cells.toList sz H).1 (.pointer (some ⟨E.heap.size,0,none⟩)):=by
 have d:=g.cells;have m:=d.1;obtain ⟨h,i⟩:=f.push v.cells t (0,0) sz (by simp_all) (λj a k e o=>d.2 j a k e (by grind)) (by grind) (λj _=>tC j) (by simp_all);exact ⟨_,_,by simp [newVar,newRow],h,i,.ptr (au.aC _ _ _)⟩
theorem Fj {c:AH} (h:py P t u H=some (w,c)) (f:Rel D H E) (g:VR D u v):∃e a b,(Instr.box t v).run P E= .ok e a/\Rel b c a/\Ext D H E b c a/\VR b w e:=by unfold py at h;split at h;rename_i d;have ⟨a,b,i,j,k,l⟩:=tP (P:=P) d.1 (Ed d.2) f g;cases h;exact ⟨_,a,b,by simp [Instr.box,i],j,k,l⟩;cases h
def mQ (P:aB) (e:aP) (H:AH):Option (aq×AH):=
 match P.info? e with
 | some i=>match i.zero with
  | some z=>if z.cells.toList.all ak=true then some (Fb z.cells.toList (bc P e) H) else none
  | none=>none
 | none=>none
theorem fT (h:ak u):one u:=by cases u <;> first|rfl|(simp [ak] at h)
theorem oT (h:u.cells.toList.all ak):(∃a,u= .tuple a)\/VR D u u:=by
 cases u with
 | agg b=>exact .inr (VR.lN h)
 | tuple a=>simp_all
 | _=>right;simp [Value.cells] at h;exact .sc h
theorem wT [Small P] {e:AH} (h:mQ P t H=some (u,e)) (l:Rel D H E):∃j c d,(Instr.alloc t true (.tuple #[])).run P E= .ok j c/\Rel d e c/\Ext D H E d e c/\VR d u j:=by unfold mQ at h;split at h;rename_i i f;split at h;rename_i z g;split at h;rename_i b;rcases oT b with ⟨r,rfl⟩|m;simp [Value.cells,ak] at b;have ⟨c,d,n,o,p,q⟩:=tP (P:=P) (by simp at b ⊢;exact λa k=>fT (b a k)) (mk_zero f g b) l m;cases h;exact ⟨_,c,d,by simp [Instr.alloc,dq f g,n],o,p,q⟩;cases h;cases h;cases h
theorem cd.AG {off:Nat}:∀(l a:List (aq×Nat)) (d f:Array aq),cd D (l.map (·.1)) (a.map (·.1))->l.map (·.2)=a.map (·.2)->cd D d.toList f.toList->
  cd D (l.foldl (λc (p:aq×Nat)=>c.setIfInBounds (off+p.2) p.1) d).toList (a.foldl (λc (p:aq×Nat)=>c.setIfInBounds (off+p.2) p.1) f).toList:=by
 intro l;induction l with
 | nil=>simp_all
 | cons p l k=>
  intro a d f h b g;cases a with
  | nil=>simp at b
  | cons q a=>simp at b;obtain ⟨v,m,e,i,j⟩:=cd.ep h;simp at e;obtain ⟨rfl,rfl⟩:=e;simp;apply k a _ _ j b.2;rw [<-b.1];simp;exact g.set i _
theorem lU {m:Nat->Option (Nat×Nat)}:∀(ps b:List (Nat×aq)) (g k d:Array aq),Instr.fill m g ps=some d->ps.map (·.1)=b.map (·.1)->cd D (ps.map (·.2)) (b.map (·.2))->cd D g.toList k.toList->
  ∃n,Instr.fill m k b=some n/\cd D d.toList n.toList:=by
 intro ps;induction ps with
 | nil=>
  intro b g k d h f o l;have:b=[]:=by cases b with|nil=>rfl|cons _ _=>simp at f
  subst this;simp only [Instr.fill,xK] at h ⊢
  simp_all
 | cons p ps E=>
  intro b g k d h f o l;cases b with
  | nil=>simp at f
  | cons q b=>
   have ⟨i,v⟩:=p;have ⟨j,s⟩:=q;simp at f;obtain ⟨rfl,f⟩:=f;have ⟨K,L,e,t,w⟩:=cd.ep o;simp at e;obtain ⟨rfl,rfl⟩:=e;simp only [Instr.fill] at h ⊢;cases A:m i with
   | none=>grind
   | some F=>
    have ⟨r,J⟩:=F;simp only [A] at h ⊢;have x:=t.cells;have y:s.cells.size=v.cells.size:=by have:=x.1;simp at this;omega
    have C:k.size=g.size:=by have:=l.1;simp at this;omega
    rw [y,C];split at h;cases h;rename_i z;rw [zO z];apply E b _ _ d h f w;have H:=λ(a:Array aq) (c:Array aq)=>(Array.foldl_toList (λ(d:Array aq) (p:aq×Nat)=>d.setIfInBounds (r+p.2) p.1) (init:=a) (xs:=c.zipIdx));have:=cd.AG (off:=r) v.cells.zipIdx.toList s.cells.zipIdx.toList g k (by simp_all) (by simp_all) l
    simp_all
end
section
variable {D:au} {H:AH} {w:World} {P:aB}
def places (P:aB) (a:Array Field):Option (Array (Nat×Nat)):=aj P (a.mapM λf=>do pure (f.offset,<-sizeOf f.type))
def mP (P:aB) (t:aP) (ps:List (Nat×aq)):fQ:=
 match P.info? t with
 | some i=>match i.zero with
  | some z=>if z.cells.toList.all ak=true then
    match P.underlying t with
    | some (.struct b)=>match places P b with
     | some pl=>(Instr.fill (pl[·]?) z.cells ps).map .agg
     | none=>none
    | some (.array _ a)=>match P.info? a with
     | some e=>(Instr.fill (λi=>some (i*e.size,e.size)) z.cells ps).map .agg
     | none=>none
    | _=>none
   else none
  | none=>none
 | none=>none
theorem qg {a:Array aq} (h:a.toList.all ak):cd D a.toList a.toList:=cd.bq (by grind)
theorem wS {ps b:Array (Nat×aq)} (h:mP P t ps.toList=some u) (j:ps.toList.map (·.1)=b.toList.map (·.1)) (k:cd D (ps.toList.map (·.2)) (b.toList.map (·.2))):∃p,(Instr.build t b).run P w= .ok p w/\VR D u p:=by
 unfold mP at h;split at h;rename_i i l;split at h;rename_i z n;split at h;rename_i m;split at h;rename_i v f;split at h;rename_i pl r;cases a:Instr.fill (pl[·]?) z.cells ps.toList with
 | none=>simp_all
 | some c=>
  rw [a] at h;cases h;have ⟨d,o,g⟩:=lU ps.toList b.toList _ _ c a j k (qg m);refine ⟨.agg d,?_,VR.og g⟩;have x:=jK r w;simp only [Instr.build,Sem.run_bind,dq l n,run_underlying f,Result.andThen_ok]
  simp_all
 cases h;rename_i s f;split at h;rename_i e q;cases a:Instr.fill (λi=>some (i*e.size,e.size)) z.cells ps.toList with
 | none=>simp_all
 | some c=>rw [a] at h;cases h;have ⟨d,o,g⟩:=lU ps.toList b.toList _ _ c a j k (qg m);refine ⟨.agg d,?_,VR.og g⟩;simp [Instr.build,dq l n,run_underlying f,aV q,o]
 cases h;cases h;cases h;cases h;cases h
def eS (n:Nat):Nat:=if n=0 then 0 else 1
def fN (P:aB) (t:aP) (a:Nat) (ps:List (Nat×aq)) (H:AH):Option (aq×AH):=
 match P.underlying t with
 | some (.slice c)=>match P.info? c with
  | some i=>match i.zero with
   | some z=>if z.cells.toList.all ak=true/\a*i.size<=2^24/\z.cells.size=i.size/\i.size<1000000 then
     match Instr.fill (λj=>some (j*i.size,i.size)) ((Array.range (a*i.size)).map (z.cells[· %z.cells.size]!)) ps with
     | some b=>if b.toList.all one=true/\b.size=a*i.size then some (.slice (some ⟨H.length,0,none⟩) a (eS a),H++[.row b.toList i.size (some 0)]) else none
     | none=>none
    else none
   | none=>none
  | none=>none
 | _=>none
theorem jQ [hP:Small P] {t:aP} {c:Nat} {ps d:Array (Nat×aq)} {v:aq} {g:AH} (h:fN P t c ps.toList H=some (v,g)) (L:Rel D H w) (y:ps.toList.map (·.1)=d.toList.map (·.1)) (A:cd D (ps.toList.map (·.2)) (d.toList.map (·.2))):
  ∃s l m,(Instr.buildSlice t c d).run P w= .ok s l/\Rel m g l/\Ext D H w m g l/\VR m v s:=by
 unfold fN at h;split at h;rename_i x N;split at h;rename_i i p;split at h;rename_i z R;split at h;rename_i f;have ⟨f,hl,c3,M⟩:=f;split at h;rename_i n E;split at h;rename_i C;have ⟨b1,b2⟩:=C;cases h;have X:cd D ((Array.range (c*i.size)).map (z.cells[· %z.cells.size]!)).toList ((Array.range (c*i.size)).map (z.cells[· %z.cells.size]!)).toList:=by
  refine cd.bq λa e=>?_;simp at e;obtain ⟨j,F,rfl⟩:=e;have c2:j<c*i.size:=by simpa using F
  have K:0<z.cells.size:=by
   rcases Nat.eq_zero_or_pos z.cells.size with b|b
   grind
   exact b
  have J:=Nat.mod_lt j K;rw [getElem!_pos z.cells _ J];simp only [zT] at f;exact f _ Z
 have ⟨k,q,r⟩:=lU ps.toList d.toList _ _ n E y A X;have b6:k.size=n.size:=by have:=r.1;simp at this;omega
 obtain ⟨q1,q2⟩:=L.push k x (0,0) i.size W (λj a v e hv=>r.2 j a v e (by grind)) (by grind) (λj _=>tC j) (.small (M));refine ⟨.slice (some ⟨w.heap.size,0,none⟩) c c,_,_,?_,q1,q2,?_⟩;simp only [Instr.buildSlice,Sem.run_bind,run_underlying N,aV p,Result.andThen_ok];rw [zO O];by_cases b:c*i.size=0;have o:Instr.fill (λj=>some (j*i.size,i.size)) ((Array.range (c*i.size)).map ((#[]:Array aq)[· %(#[]:Array aq).size]!)) d.toList=some k:=by rw [<-q];congr 1;rw [b];apply Array.ext <;> simp
 simp only [b,if_true,Sem.run_bind,Sem.run_pure,Result.andThen_ok];rw [b] at o;rw [o];simp [newRow];simp only [b,if_false,Sem.run_bind,dq p R,Sem.run_pure,Result.andThen_ok];rw [q];simp [newRow];unfold eS;split;rename_i b;subst b;exact .pJ;exact .sl (au.aC _ _ _) (zC _) W;cases h;cases h;cases h;cases h;cases h;cases h
def eX (P:aB) (s:aP) (a:aq) (f:Nat):fQ:=
 match P.underlying s with
 | some (.struct b)=>match b[f]? with
  | some fd=>match P.info? fd.type,a with
   | some i,.pointer (some ⟨c,d,none⟩)=>if i.size≠0 then some (.pointer (some ⟨c,d+fd.offset,none⟩)) else none
   | _,_=>none
  | none=>none
 | _=>none
theorem pn {b:aq} (h:eX P t u a=some b) (f:VR D u v):∃c,(Instr.fieldAt t v a).run P w= .ok c w/\VR D b c:=by unfold eX at h;split at h;rename_i l k;split at h;rename_i fd g;split at h;rename_i i m n j;obtain ⟨_,B,e,rfl⟩:=f.ez;split at h;rename_i d;cases h;exact ⟨_,by simp [Instr.fieldAt,run_underlying k,g,Instr.sureAddr,fieldPlace,aV j,d,cP],.ptr e⟩;cases h;cases h;cases h;cases h
def apart (P:aB) (t:aP) (b:Array aq) (a:Nat):fQ:=
 match P.underlying t,P.info? t with
 | some d,some i=>if oK d=true then some (.agg (b.extract a (a+i.size))) else b[a]?
 | _,_=>none
theorem B4 {e b:Array aq} (h:apart P t e a=some u) (g:cd D e.toList b.toList):∃c,(part t b a).run P w= .ok c w/\VR D u c:=by
 unfold apart at h;split at h;rename_i d i j k;simp only [part,Sem.run_bind,qj j,Result.andThen_ok];split at h;rename_i f;cases h;refine ⟨.agg (b.extract a (a+i.size)),by simp [f,aV k],VR.og ?_⟩;rw [Array.toList_extract,Array.toList_extract,wF,wF];exact (g.drop _).take _;rename_i f;obtain ⟨c,l,m⟩:=g.get (Zs h)
 simp_all
 cases h
def po (P:aB) (t:aP) (x:aq) (f:Nat):fQ:=
 match P.underlying t with
 | some (.struct b)=>match b[f]?,x with
  | some fd,.agg a=>apart P fd.type a fd.offset
  | _,_=>none
 | _=>none
theorem wz {c:aq} (h:po P t u a=some c) (f:VR D u v):∃b,(Instr.field t v a).run P w= .ok b w/\VR D c b:=by unfold po at h;split at h;rename_i l e;split at h;rename_i fd k d;obtain ⟨m,rfl,g⟩:=f.zf;have ⟨b,i,j⟩:=B4 (w:=w) h g;exact ⟨b,by simp [Instr.field,run_underlying e,d,asAgg,i],j⟩;cases h;cases h
def cX (P:aB) (t:aP) (x ix:aq):fQ:=
 match ix with
 | .int _ m=>match P.underlying t,x with
  | some (.slice a),.slice (some ⟨b,c,none⟩) n 1=>match P.info? a with
   | some e=>if 0<=m/\m<n then some (.pointer (some ⟨b,c+m.toNat*e.size,none⟩)) else none
   | none=>none
  | some (.array d a),.pointer (some ⟨b,c,none⟩)=>match P.info? a with
   | some e=>if 0<=m/\m<d then some (.pointer (some ⟨b,c+m.toNat*e.size,none⟩)) else none
   | none=>none
  | _,_=>none
 | _=>none
theorem pj {ix j l:aq} (h:cX P t u ix=some l) (i:VR D u v) (q:VR D ix j):∃o,(Instr.indexAt t v j).run P w= .ok o w/\VR D l o:=by unfold cX at h;split at h;rename_i k m;cases q.int;split at h;rename_i p r s n g;obtain ⟨_,⟨_,a,_⟩|⟨_,a,_⟩|⟨_,B,c,b,x,y,rfl⟩⟩:=i.ew;cases a;cases a;split at h;rename_i e d;split at h;rename_i f;cases h;exact ⟨_,by simp [Instr.indexAt,asIntOf,run_underlying g,f,aV d,cP],.ptr b⟩;cases h;cases h;rename_i z p r s g;obtain ⟨_,B,b,rfl⟩:=i.ez;split at h;rename_i e d;split at h;rename_i f;cases h;exact ⟨_,by simp [Instr.indexAt,asIntOf,run_underlying g,Instr.sureAddr,f,aV d,cP],.ptr b⟩;cases h;cases h;cases h;cases h
def Fg (x:aq) (i:Nat):fQ:=match x with|.tuple a=>a[i]?|_=>none
theorem Ff {c:aq} (h:Fg u a=some c) (g:VR D u v):∃b,(Instr.extract v a).run P w= .ok b w/\VR D c b:=by
 unfold Fg at h;split at h;rename_i k;obtain ⟨j,rfl,i⟩:=g.G6;obtain ⟨b,d,f⟩:=i.get (Zs h);have e:j[a]? =some b:=by simpa using d
 exact ⟨b,by simp [Instr.extract,e],f⟩;cases h
def N7 (x:aq):fQ:=match x with|.pointer (some _)=>some x|_=>none
def Hz:BinOp->Option Bool
 | .eql=>some true
 | .neq=>some false
 | _=>none
theorem nE {a:BinOp} (h:Hz a=some q):(a= .eql/\q)\/(a= .neq/\q=false):=by cases a <;> simp [Hz] at h <;> simp [h]
def mO (P:aB) (a:BinOp) (t:aP) (x y:aq):fQ:=
 match Hz a,P.underlying t,x,y with
 | some b,some (.pointer _),.pointer (some _),.pointer none=>some (.bool !b)
 | some b,some (.pointer _),.pointer none,.pointer (some _)=>some (.bool !b)
 | some b,some (.slice _),.slice (some _) _ _,.slice none 0 0=>some (.bool !b)
 | some b,some (.slice _),.slice none 0 0,.slice (some _) _ _=>some (.bool !b)
 | _,_,_,_=>none
theorem VR.lH {A:Addr} (h:VR D (.pointer (some A)) u):∃a,u= .pointer (some a):=by
 obtain ⟨_,B,_,rfl⟩:=VR.ez h
 simp_all
theorem VR.fa {A:Addr} (h:VR D (.slice (some A) a b) u):∃c e,u= .slice (some c) a e:=by obtain ⟨_,⟨rfl,_,d,rfl⟩|⟨rfl,_,d,k,rfl⟩|⟨_,B,k,_,_,_,rfl⟩⟩:=h.ew <;> exact ⟨_,_,rfl⟩
theorem vV {a:aP} (b:P.underlying t=some (.pointer a)) (A:Addr) (d:Nat):(Op.equalIn (d+1) t (.pointer (some A)) (.pointer none)).run P w= .ok false w:=by simp [Op.equalIn,run_underlying b]
theorem vU {a:aP} (b:P.underlying t=some (.pointer a)) (A:Addr) (d:Nat):(Op.equalIn (d+1) t (.pointer none) (.pointer (some A))).run P w= .ok false w:=by simp [Op.equalIn,run_underlying b]
theorem AN {a:aP} (b:P.underlying t=some (.slice a)) (A:Addr) (n c:Nat) (d:Nat):(Op.equalIn (d+1) t (.slice (some A) n c) (.slice none 0 0)).run P w= .ok false w:=by simp [Op.equalIn,run_underlying b]
theorem AM {a:aP} (b:P.underlying t=some (.slice a)) (A:Addr) (n c:Nat) (d:Nat):(Op.equalIn (d+1) t (.slice none 0 0) (.slice (some A) n c)).run P w= .ok false w:=by simp [Op.equalIn,run_underlying b]
theorem wu {j:BinOp} {l m k:aq} (h:mO P j t u v=some k) (f:VR D u l) (g:VR D v m):ak k/\((binOp j t l m).run P w= .ok k w/\∀a b,(eqGuard j t a b l m).run P w= .ok () w):=by unfold mO at h;split at h;rename_i b i A d e;obtain ⟨_,rfl⟩:=f.lH;cases g.ak rfl;cases h;refine ⟨rfl,?_⟩;rcases nE d with ⟨rfl,rfl⟩|⟨rfl,rfl⟩ <;> simp [binOp,Op.equal,show Op.maxDepth=9999+1 from rfl,vV e _ 9999,eqGuard];rename_i b i A d e;obtain ⟨_,rfl⟩:=g.lH;cases f.ak rfl;cases h;refine ⟨rfl,?_⟩;rcases nE d with ⟨rfl,rfl⟩|⟨rfl,rfl⟩ <;> simp [binOp,Op.equal,show Op.maxDepth=9999+1 from rfl,vU e _ 9999,eqGuard];rename_i b i A n c d e;obtain ⟨_,_,rfl⟩:=f.fa;cases g.ak rfl;cases h;refine ⟨rfl,?_⟩;rcases nE d with ⟨rfl,rfl⟩|⟨rfl,rfl⟩ <;> simp [binOp,Op.equal,show Op.maxDepth=9999+1 from rfl,AN e _ _ _ 9999,eqGuard];rename_i b i A n c d e;obtain ⟨_,_,rfl⟩:=g.fa;cases f.ak rfl;cases h;refine ⟨rfl,?_⟩;rcases nE d with ⟨rfl,rfl⟩|⟨rfl,rfl⟩ <;> simp [binOp,Op.equal,show Op.maxDepth=9999+1 from rfl,AM e _ _ _ 9999,eqGuard];cases h
end
section
variable {D:au} {H:AH} {E:World} {P:aB}
def vY (o:fQ) (d:Nat):di:=
 match o with
 | none=>some d
 | some (.int _ i)=>if 0<=i then some i.toNat else none
 | _=>none
def wU (D:au):fQ->fQ->Prop
 | none,none=>True
 | some a,some b=>VR D a b
 | _,_=>False
theorem yx {o c:fQ} (h:vY o a=some b) (d:wU D o c):(o=none/\c=none/\b=a)\/∃k,c=some (.int k (b:Int)):=by
 unfold vY at h;split at h;cases h;cases c with
 | none=>simp_all
 | some _=>exact d.elim
 rename_i k i;cases c with
 | none=>exact d.elim
 | some v=>
  have:=VR.int d;subst this;split at h
  grind
  cases h
 cases h
theorem iL {k:IntKind} {y:Nat} (b:BoundsCode) (h:a<=y) (E:World):(Instr.sliceBound (.int k (a:Int)) y b).run P E= .ok a E:=by
 simp only [Instr.sliceBound,asIntOf,Sem.run_bind,Sem.run_pure,Result.andThen_ok]
 simp_all
theorem kM {g h e f:fQ} (i:vY g 0=some c) (j:vY e a=some d) (m:wU D g h) (l:wU D e f) (p:c<=d) (o:d<=a) (n:a<=b) (E:World):
  (Instr.sliceBounds q a b h f none).run P E= .ok (c,d,b) E:=by
 rcases yx i m with ⟨_,rfl,rfl⟩|⟨k,rfl⟩ <;> rcases yx j l with ⟨_,rfl,rfl⟩|⟨r,rfl⟩ <;> simp only [Instr.sliceBounds,Sem.run_bind,Sem.run_pure,Result.andThen_ok];rw [iL _ O];simp;rw [iL _ O];simp;rw [iL _ O];simp;rw [iL _ O];simp
def cK (P:aB) (t:aP) (x:aq) (g f:fQ) (H:AH):fQ:=
 match P.underlying t,x with
 | some (.slice d),.slice none 0 0=>match vY g 0,vY f 0,P.info? d with
  | some 0,some 0,some _=>some (.slice none 0 0)
  | _,_,_=>none
 | some (.slice d),.slice (some ⟨a,b,none⟩) n c=>match vY g 0,vY f n,P.info? d with
  | some l,some h,some e=>if l<=h/\h<=n then
    if l=0 then some (.slice (some ⟨a,b,none⟩) h c)
    else if h=l then some (.slice (some ⟨a,b,none⟩) 0 2)
    else match H[a]? with
     | some (.row _ sz _)=>if e.size=sz/\c=1 then some (.slice (some ⟨a,b+l*sz,none⟩) (h-l) 1) else none
     | _=>none
   else none
  | _,_,_=>none
 | some (.array n d),.pointer (some ⟨a,b,none⟩)=>match vY g 0,vY f n,P.info? d with
  | some l,some h,some e=>if l<=h/\h<=n then
    if h=l then some (.slice (some ⟨a,b,none⟩) 0 2)
    else match H[a]? with
     | some (.row i sz _)=>if e.size=sz/\b+n*sz<=i.length then some (.slice (some ⟨a,b+l*sz,none⟩) (h-l) 1) else none
     | _=>none
   else none
  | _,_,_=>none
 | _,_=>none
theorem CU (c:Prop) [Decidable c] (a b:Addr):(if c then some a else some b)=some (if c then a else b):=by grind
theorem w9 {lo y hi x:fQ} (h:cK P t u lo hi H=some w) (hr:Rel D H E) (p:VR D u v) (K:wU D lo y) (F:wU D hi x):
  ∃v',(Instr.sliceAt t v y x none).run P E= .ok v' E/\VR D w v':=by
 unfold cK at h;split at h;rename_i R o;cases p.ak rfl;split at h;rename_i e g i m;cases h;refine ⟨.slice none 0 0,?_,.sc rfl⟩;simp only [Instr.sliceAt,Instr.slice,Sem.run_bind,run_underlying o,Result.andThen_ok,kM g i K F (zC _) (zC _) (zC _)];simp [aV m];cases h;rename_i R M q n b6 o;split at h;rename_i l s e g i m;split at h;rename_i d;have ⟨d,J⟩:=d;have c:∀A (k:Nat),n<=k->(Instr.sliceAt t (.slice (some A) n k) y x none).run P E= .ok (.slice (some (if k=l then A else A.add (l*e.size))) (s-l) (k-l)) E:=by intro A k hk;simp only [Instr.sliceAt,Instr.slice,Sem.run_bind,run_underlying o,Result.andThen_ok,kM g i K F d J hk];simp [aV m,CU]
 split at h;rename_i X;subst X;cases h;obtain ⟨_,⟨rfl,rfl,a,rfl⟩|⟨rfl,rfl,a,k,rfl⟩|⟨rfl,B,k,b,r,f,rfl⟩⟩:=p.ew
 simp_all
 obtain rfl:s=0:=by omega
 exact ⟨_,c _ _ O,.sle⟩;refine ⟨_,c _ _ r,?_⟩;rw [Nat.zero_mul,cP,Nat.add_zero,ite_self,Nat.sub_zero,Nat.sub_zero];exact .sl b O f;rename_i X;split at h;rename_i j;subst j;cases h;obtain ⟨_,⟨rfl,rfl,a,rfl⟩|⟨rfl,rfl,a,k,rfl⟩|⟨rfl,B,k,b,r,f,rfl⟩⟩:=p.ew;omega;omega;refine ⟨_,c _ _ r,?_⟩;rw [Nat.sub_self];exact .sle;rename_i j;split at h;rename_i cs sz ro L;split at h;rename_i z;obtain ⟨C,rfl⟩:=z;cases h;obtain ⟨_,⟨rfl,h9,a,rfl⟩|⟨rfl,h9,a,k,rfl⟩|⟨_,B,k,b,r,f,rfl⟩⟩:=p.ew;omega;omega;refine ⟨_,c _ _ r,?_⟩;have ⟨N,_⟩:=hr.rows M _ _ _ B L b;rw [zO O,cP,C];refine .sl b O ?_;have f:q+k*B.sz<=B.n:=f;rw [N] at f ⊢;have:l*sz+(k-l)*sz=k*sz:=by rw [<-Nat.add_mul];congr 1;omega
 omega;cases h;cases h;cases h;cases h;rename_i n R M q o;obtain ⟨_,B,b,rfl⟩:=p.ez;split at h;rename_i l s e g i m;split at h;rename_i d;have ⟨d,J⟩:=d;have c:(Instr.sliceAt t (.pointer (some ⟨B.b,q,none⟩)) y x none).run P E= .ok (.slice (some (if n=l then ⟨B.b,q,none⟩ else (⟨B.b,q,none⟩:Addr).add (l*e.size))) (s-l) (n-l)) E:=by simp only [Instr.sliceAt,Instr.sureAddr,Sem.run_bind,Sem.run_pure,run_underlying o,Result.andThen_ok,kM g i K F d J (zC _)];simp [aV m]
 split at h;rename_i j;subst j;cases h;refine ⟨_,c,?_⟩;rw [Nat.sub_self];exact .sle;rename_i j;split at h;rename_i cs sz ro L;split at h;rename_i z;have ⟨C,c2⟩:=z;cases h;refine ⟨_,c,?_⟩;have ⟨N,_,p3,_⟩:=hr.rows M _ _ _ B L b;rw [zO O,cP,C];refine .sl b O ?_;rw [N];have:l*sz+(n-l)*sz=n*sz:=by rw [<-Nat.add_mul];congr 1;omega
 omega;cases h;cases h;cases h;cases h;cases h
def fM (P:aB) (t:aP) (x:aq) (d b e:fQ):fQ:=
 match P.underlying t,x,d,b,e with
 | some (.slice a),.slice none 0 0,none,some (.int _ 0),some (.int _ 0)=>match P.info? a with
  | some _=>some (.slice none 0 0)
  | none=>none
 | some (.slice a),.slice (some ⟨c,f,none⟩) _ _,none,some (.int _ 0),some (.int _ 0)=>match P.info? a with
  | some _=>some (.slice (some ⟨c,f,none⟩) 0 0)
  | none=>none
 | _,_,_,_,_=>none
theorem mV {f:IntKind} (E:World):(Instr.sliceBounds q a b none (some (.int n 0)) (some (.int f 0))).run P E= .ok (0,0,0) E:=by
 have d:=λn (c:BoundsCode) (y:Nat)=>iL (P:=P) (k:=n) (y:=y) c (zY _) E;have e:=λn (c:BoundsCode) (y:Nat)=>d n c y;simp at e;simp only [Instr.sliceBounds,Sem.run_bind,Sem.run_pure,Result.andThen_ok]
 simp_all
theorem tN {z d s b A f:fQ} (h:fM P t u z s A=some w) (y:VR D u v) (x:wU D z d) (g:wU D s b) (i:wU D A f):
  ∃C,(Instr.sliceAt t v d b f).run P E= .ok C E/\VR D w C:=by
 unfold fM at h;split at h;rename_i F k q p;cases y.ak rfl;have l:d=none:=by cases d with|none=>rfl|some _=>exact x.elim
 have m:b=some (.int k 0):=by cases b with|none=>exact g.elim|some w=>rw [VR.int g]
 have e3:f=some (.int q 0):=by cases f with|none=>exact i.elim|some w=>rw [VR.int i]
 subst l m e3;split at h;rename_i e o;cases h;refine ⟨.slice none 0 0,?_,.sc rfl⟩;simp only [Instr.sliceAt,Instr.slice,Sem.run_bind,run_underlying p,Result.andThen_ok,mV];simp [aV o];cases h;rename_i F H J n c k q p;have l:d=none:=by cases d with|none=>rfl|some _=>exact x.elim
 have m:b=some (.int k 0):=by cases b with|none=>exact g.elim|some w=>rw [VR.int g]
 have e3:f=some (.int q 0):=by cases f with|none=>exact i.elim|some w=>rw [VR.int i]
 subst l m e3;split at h;rename_i e o;cases h;obtain ⟨j,r,rfl⟩:∃j r,v= .slice (some j) n r:=by obtain ⟨_,⟨rfl,_,a,rfl⟩|⟨rfl,_,a,k,rfl⟩|⟨_,B,k,_,_,_,rfl⟩⟩:=y.ew <;> exact ⟨_,_,rfl⟩
 refine ⟨.slice (some j) 0 0,?_,.pJ⟩;simp only [Instr.sliceAt,Instr.slice,Sem.run_bind,run_underlying p,Result.andThen_ok,mV];simp [aV o];cases h;cases h
def iz (P:aB) (t:aP) (d a:aq) (H:AH):Option (aq×AH):=
 match P.underlying t,d,a with
 | some (.slice b),.int _ l,.int _ c=>match P.info? b with
  | some e=>match e.zero with
   | some z=>if z.cells.toList.all ak=true/\z.cells.size=e.size/\l=c/\0<=l/\l<=1099511627776/\e.bytes*l<=1099511627776/\e.size<1000000 then
     some (.slice (some ⟨H.length,0,none⟩) l.toNat 1,H++[.row (List.replicate l.toNat z.cells.toList).flatten e.size (some 0)])
    else none
   | none=>none
  | none=>none
 | _,_,_=>none
theorem rA:Array.range 0= #[]:=by simp_all
theorem oP (c:aQ):∀(n j:Nat) (a:aq),(List.replicate n c).flatten[j]? =some a->c[j%c.length]? =some a/\j<n*c.length:=by
 intro n;induction n with
 | zero=>simp_all
 | succ n e=>
  intro j a h;rw [List.replicate_succ,List.flatten_cons] at h;rcases zZ j c.length with b|b;rw [zD b] at h;rw [Nat.mod_eq_of_lt b]
  grind
  rw [zH b] at h;have ⟨d,f⟩:=e _ a h;refine ⟨?_,by grind⟩;rw [<-d,Nat.mod_eq_sub_mod b]
theorem B6 [hP:Small P] {t:aP} {w o x p v:aq} {i:AH} (h:iz P t w o H=some (v,i)) (N:Rel D H E) (M:VR D w x) (K:VR D o p):
  ∃A l m,(Instr.makeSlice t x p).run P E= .ok A l/\Rel m i l/\Ext D H E m i l/\VR m v A:=by
 unfold iz at h;split at h;rename_i F c3 c4 k' b2 X;cases M.int;cases K.int;split at h;rename_i e k;split at h;rename_i z hz;split at h;rename_i L;obtain ⟨c,s,rfl,J,b6,hb,R⟩:=L;cases h;obtain ⟨n,rfl⟩:=yE J;have b1:i64.wrap (n:Int)=n:=by exact IntWalk.i64_in _ O
 have c2:cd D (List.replicate n z.cells.toList).flatten (List.replicate n z.cells.toList).flatten:=by refine cd.bq λa b=>?_;simp at b;obtain ⟨_,⟨_,rfl⟩,b⟩:=b;simp only [zT] at c;exact c a b
 let C:Array aq:=(Array.range (n*e.size)).map (z.cells[· %z.cells.size]!)
 obtain ⟨q1,q2⟩:=N.push (xs:=(List.replicate n z.cells.toList).flatten) C F (0,0) e.size (by simp [C,s]) (λj a y b d=>by
  have ⟨f,q⟩:=oP _ _ _ _ b;have r:j%z.cells.size<z.cells.size:=by simpa using ab f
  have:y=a:=by simp only [C,Array.getElem?_map] at d;rw [Array.getElem?_range] at d;simp only [xS,s] at q;rw [zP q] at d;simp at d;rw [getElem!_pos z.cells _ r] at d;rw [<-d];simp at f;simp [r] at f;exact f
  subst this;simp only [zT] at c;exact .sc (c y (zI f))) (λa b=>by simp at b;obtain ⟨_,⟨_,rfl⟩,b⟩:=b;simp only [zT] at c;exact fT (c a b)) (λj _=>tC j) (.small (R))
 refine ⟨.slice (some ⟨E.heap.size,0,none⟩) n n,_,_,?_,q1,q2,?_⟩;simp only [Instr.makeSlice,Sem.run_bind,run_underlying X,asInt,asIntOf,Sem.run_pure,Result.andThen_ok,jJ k,b1];rw [zO W];simp only [Sem.run_bind,run_askRoom,aV k,Result.andThen_ok,yV];by_cases g:n*e.size=0;have:C= #[]:=by show (Array.range (n*e.size)).map _=_;rw [g,rA];simp
 rw [zP g,this];simp only [g];simp [newRow,rA];rw [zO g];simp only [Sem.run_bind,dq k hz,Sem.run_pure,Result.andThen_ok];simp [newRow,C];simp;exact .sl (au.aC _ _ _) (zC _) (by simp [C]);cases h;cases h;cases h;cases h
def cY (d n:Nat) (x:aq) (H:AH):Option (aQ):=
 match x with
 | .slice none _ _=>some []
 | .slice (some ⟨e,c,none⟩) _ _=>if n=0 then some [] else match H[e]? with
  | some (.row a _ _)=>if c+n*d<=a.length/\((a.drop c).take (n*d)).all nj=true then some ((a.drop c).take (n*d)) else none
  | _=>none
 | .string s=>some ((s.extract 0 n).data.toList.map λb=>.int .u8 b.toNat)
 | _=>none
def wo (x:aq):di:=
 match x with
 | .slice _ n _=>some n
 | .string s=>some s.size
 | _=>none
theorem tU (h:wo u=some a) (b:VR D u v) (E:World):(Builtin.lenOf v).run P E= .ok a E:=by
 unfold wo at h;split at h;cases h;cases b with
 | sc _=>rfl
 | sl _ _ _=>rfl
 | pJ=>rfl
 | sle=>rfl
 cases h;cases b.ak rfl;rfl;cases h
theorem jk (h:cY a b u H=some p) (r:wo u=some c) (K:b<=c) (w:Rel D H E) (e:VR D u v):∃d:aQ,(Builtin.firstCells a b v).run P E= .ok d.toArray E/\cd D p d:=by
 unfold cY at h;split at h;cases h;cases e with
 | sc _=>exact ⟨[],rfl,.nil⟩
 rename_i M y N C;cases r;split at h;rename_i j;subst j;cases h;obtain ⟨z,A,rfl⟩:=e.fa;refine ⟨[],?_,.nil⟩;simp [Builtin.firstCells,loadCells,loadCellsFrom];rename_i j;split at h;rename_i F sz ro t;split at h;rename_i i;have ⟨i,L⟩:=i;cases h;obtain ⟨_,⟨n,_⟩|⟨n,_⟩|⟨_,B,c,o,R,X,rfl⟩⟩:=e.ew;omega;omega;have ⟨d,s,x,q⟩:=w.load t o i (λk g=>yk (by simp_all));refine ⟨d,?_,x⟩;have:=run_loadCells_list (P:=P) (w:=E) ⟨B.b,y,none⟩ d q;rw [s] at this;exact this;cases h;cases h;cases h;cases e.ak rfl;refine ⟨_,?_,cd.bq (λk g=>?_)⟩;have J:∀(l:List UInt8) (m:Nat),(l.map λf=>Value.int .u8 (f.toNat:Int)).take m=(l.take m).map λf=>Value.int .u8 (f.toNat:Int):=λl m=>by simp_all
 simp only [Builtin.firstCells,Sem.run_pure];congr 1;apply Array.ext';simp;simp only [xW] at g;obtain ⟨_,_,rfl⟩:=g;rfl;cases h
def vP:TypeDesc->Bool
 | .slice _|.string=>true
 | _=>false
def qo (t:aP):Bool:=t==66||t==78||t==79||t==151
def sU (k:Bool) (a:aQ) (sz:Nat):AO:=bif k then .dead else .row a sz none
def cC (P:aB) (c i:aP) (s x:aq) (H:AH):Option (aq×AH):=
 match P.underlying c,P.underlying i,wo x with
 | some (.slice h),some g,some k=>match P.info? h,vP g with
  | some e,true=>match e.zero,cY e.size k x H with
   | some z,some a=>if z.cells.size=e.size/\a.all one/\a.length=k*e.size/\e.size<1000000 then
     match s with
     | .slice none 0 0=>if k=0 then some (s,H) else if k*e.bytes<=140737488355328/\k<=4611686018427387904 then some (.slice (some ⟨H.length,0,none⟩) k 1,H++[.row a e.size (some 0)]) else none
     | .slice (some ⟨_,_,none⟩) 0 0=>if k=0 then some (s,H) else if k*e.bytes<=140737488355328/\k<=4611686018427387904 then some (.slice (some ⟨H.length,0,none⟩) k 1,H++[.row a e.size (some 0)]) else none
     | .slice (some ⟨d,0,none⟩) n 1=>match H[d]? with
      | some (.row b sz (some f))=>if sz=e.size/\n*sz<=b.length/\f<=n*sz/\(n+k)*e.bytes<=140737488355328/\n+k<=4611686018427387904 then
        some (.slice (some ⟨H.length,0,none⟩) (n+k) 1,H.set d (sU (qo c) (b.take (n*sz)) sz)++[.row (b.take (n*sz)++a) sz (some (bif qo c then f else n*sz))]) else none
      | _=>none
     | _=>none
    else none
   | _,_=>none
  | _,_=>none
 | _,_,_=>none
theorem o8 {h r g:aP} {e:TypeInfo} {f:TypeDesc} {d:Option Addr} (o:P.underlying t=some (.slice g)) (q:P.underlying h=some f) (j:vP f) (k:P.info? g=some e)
  (m:(Builtin.lenOf u).run P E= .ok b E) (n:a+b<=c) (l:(Builtin.firstCells e.size b u).run P E= .ok p.toArray E):
  (Builtin.append_ #[t,h] r #[.slice d a c,u]).run P E=(match d with|some i=>(storeCells (i.add (a*e.size)) p).run P E|none=>.ok () E).andThen λ_ s=>.ok (.slice d (a+b) c) s:=by
 cases f <;> cases j <;> cases d <;> simp [Builtin.append_,run_underlying o,run_underlying q,aV k,m,n,l]
theorem o9 {i z d:aP} {e:TypeInfo} {f:TypeDesc} {h:Option Addr} {Nz:aQ} (w:P.underlying t=some (.slice d)) (x:P.underlying i=some f) (m:vP f) (g:P.info? d=some e) (y:e.zero=some u)
  (q:(Builtin.lenOf v).run P E= .ok b E) (s:c<a+b) (l:(a+b)*e.bytes<=140737488355328) (A:a+b<=4611686018427387904)
  (n:(Builtin.firstCells e.size a (.slice h a c)).run P E.drew= .ok Nz.toArray E.drew) (o:(Builtin.firstCells e.size b v).run P E.drew= .ok p.toArray E.drew):
  (Builtin.append_ #[t,i] z #[.slice h a c,v]).run P E= .ok (.slice (some ⟨E.heap.size,0,none⟩) (a+b) (grownCap E (a+b) c d)) (E.drew.alloc (.cells ((Nz++p).toArray++Builtin.zeroCells u.cells (grownCap E (a+b) c d-(a+b))) d)):=by
 have C:=growslice_fits (show c<a+b from s) l;have r:¬(a+b<=c):=O;have k:¬(9223372036854775807<((a:Int)+(b:Int))):=O;have j:¬(281474976710656<Builtin.nextslicecap (a+b) c*e.bytes):=O;cases f <;> cases m <;> simp [Builtin.append_,run_underlying w,run_underlying x,aV g,jJ g,dq g y,q,r,k,j,Question.forced,n,o,newRow,grownCap] <;> (congr 2;apply Array.ext';simp)
theorem kV (E:World) (C:Array aq) (a:aP):dJ (E.drew.alloc (.cells C a)) E.heap.size=some a:=by unfold dJ;rw [show (E.drew.alloc (.cells C a)).heap=E.heap.push (.cells C a) from rfl,Array.getElem?_push_size]
theorem n9 [hP:Small P] {g t1 ty:aP} {d8 e1 s' x' d9:aq} {H':AH} (h:cC P g t1 d8 e1 H=some (d9,H')) (K:Rel D H E) (hs:VR D d8 s') (hx:VR D e1 x'):
  ∃R s i,(Builtin.append_ #[g,t1] ty #[s',x']).run P E= .ok R s/\Rel i H' s/\Ext D H E i H' s/\VR i d9 R/\
   ((∃sb n c c9,s'= .slice sb n c/\R= .slice sb c9 c)\/∃c9 c,R= .slice (some ⟨E.heap.size,0,none⟩) c9 c/\∀f,P.underlying g=some (.slice f)->dJ s E.heap.size=some f):=by
 unfold cC at h;split at h;rename_i f d1 k r L hk;split at h;rename_i e F C;split at h;rename_i b1 o hz d4;split at h;rename_i hc;have ⟨f8,f5,N,d7⟩:=hc;have J:=λE:World=>tU (P:=P) hk hx E;obtain ⟨ys,hf,hv⟩:=jk d4 hk (zC _) K hx;have t:=K.drew (E.drawn+1);have c3:Ext D H E D H E.drew:=Ext.drew _;have t:=t;obtain ⟨X,c4,c7⟩:=jk d4 hk (zC _) t hx;have f6:∀a∈o,one a:=by simpa only [zT] using f5
 have b6:∀j (A:AH) (x q:aQ) (n c:Nat),A.length=H.length->Rel D A E.drew->cd D x q->(∀a∈x,one a)->x.length=n*e.size->c<n+k->
   ∃i,Rel i (A++[.row (x++o) e.size (some j)]) (E.drew.alloc (.cells ((q++X).toArray++Builtin.zeroCells b1.cells (grownCap E (n+k) c f-(n+k))) f))/\
    Ext D A E.drew i (A++[.row (x++o) e.size (some j)]) (E.drew.alloc (.cells ((q++X).toArray++Builtin.zeroCells b1.cells (grownCap E (n+k) c f-(n+k))) f))/\
    VR i (.slice (some ⟨H.length,0,none⟩) (n+k) 1) (.slice (some ⟨E.heap.size,0,none⟩) (n+k) (grownCap E (n+k) c f)):=by
  intro j A x q n c e6 hR c5 g1 d6 f2;have d2:=grownCap_ge E (n+k) c f;have f7:((q++X).toArray++Builtin.zeroCells b1.cells (grownCap E (n+k) c f-(n+k))).size=grownCap E (n+k) c f*e.size:=by simp only [Array.size_append,List.size_toArray,xB,size_zeroCells,f8,<-c5.1,<-c7.1,d6,N,<-Nat.add_mul];congr 1;omega
  obtain ⟨y,z⟩:=hR.push (xs:=x++o) ((q++X).toArray++Builtin.zeroCells b1.cells (grownCap E (n+k) c f-(n+k))) f (0,0) e.size
   (by rw [f7,xB,d6,N,<-Nat.add_mul];exact zV _ d2)
   (λc8 a u l g2=>by
    refine (c5.append c7).2 c8 a u l ?_;have hj:=ab l;rw [(c5.append c7).1] at hj
    grind)
   (λa l=>by
    rcases xC.1 l with h|h
    grind
    grind) (λc8 _=>tC c8) (.small (d7))
  refine ⟨_,y,z,?_⟩;rw [<-e6];exact .sl (au.aC _ _ _) d2 (by grind)
 split at h;cases hs.ak rfl;split at h;rename_i d;subst d;cases h;exact ⟨_,E,D,by rw [o8 r L C F (J E) (zC _) hf];rfl,K,Ext.refl _ _ _,.sc rfl,.inl ⟨_,_,_,_,rfl,rfl⟩⟩;rename_i d;split at h;rename_i hb;cases h;have ⟨i,y,z,M⟩:=b6 0 H [] [] 0 0 rfl t .nil (λa l=>by simp at l) Z O;simp at y z M;refine ⟨_,_,i,o9 r L C F hz (J E) O (by simp_all) O rfl c4,?_,?_,?_,.inr ⟨_,_,rfl,λ_ d=>by rw [r] at d;cases d;exact kV _ _ _⟩⟩
 grind
 exact c3.trans (by grind)
 grind
 cases h;obtain ⟨_,⟨_,_,a,rfl⟩|⟨_,v,_⟩|⟨v,_⟩⟩:=hs.ew;split at h;rename_i d;subst d;cases h;have:=zK (by rw [<-hv.1,N];simp);subst this;exact ⟨.slice (some a) 0 0,E,D,by rw [o8 r L C F (J E) (zC _) hf];simp [storeCells],K,Ext.refl _ _ _,.pJ,.inl ⟨_,_,_,_,rfl,rfl⟩⟩;rename_i d;split at h;rename_i hb;cases h;have ⟨i,y,z,M⟩:=b6 0 H [] [] 0 0 rfl t .nil (λa l=>by simp at l) Z O;simp at y z M;refine ⟨_,_,i,o9 (Nz:=[]) r L C F hz (J E) O (by simp_all) O (by simp [Builtin.firstCells,loadCells,loadCellsFrom]) c4,?_,?_,?_,.inr ⟨_,_,rfl,λ_ d=>by rw [r] at d;cases d;exact kV _ _ _⟩⟩
 grind
 exact c3.trans (by grind)
 grind
 cases h;cases v;cases v;rename_i m n;obtain ⟨_,⟨_,v,_⟩|⟨_,v,_⟩|⟨_,B,c,p,c1,c2,rfl⟩⟩:=hs.ew;cases v;cases v;split at h;rename_i b sz j w;split at h;rename_i hb;obtain ⟨rfl,hn,d3,f1,e2⟩:=hb;cases h;have ⟨p1,p2,p3,_⟩:=K.rows m b _ _ B w p;have c2:=c2;have p:=p;by_cases c6:n+k<=c;have ⟨r1,r2⟩:=K.less w p (n*e.size);have f4:(H.set m (.row (b.take (n*e.size)) e.size (some j)))[m]? =some (.row (b.take (n*e.size)) e.size (some j)):=zF (ab w);have f2:n*e.size+o.length<=B.n:=by rw [N,<-Nat.add_mul];rw [p1] at c2;exact yI (zV _ c6) O
 obtain ⟨s,s1,s2,s3⟩:=Rel.QL p (n*e.size) d3 o ys 0 _ (b.take (n*e.size)) E r1 f4 W O hv f6 (.inr (oz (d7)));rw [xU] at s2 s3;have d5:(H.set m (.row (b.take (n*e.size)++o) e.size (some j)))[m]? =some (.row (b.take (n*e.size)++o) e.size (some j)):=zF (ab w);have b2:Rel (D.put H.length B) (H.set m (sU (qo g) (b.take (n*e.size)) e.size)++[.row (b.take (n*e.size)++o) e.size (some (bif qo g then j else n*e.size))]) s/\Ext D (H.set m (.row (b.take (n*e.size)++o) e.size (some j))) s (D.put H.length B) (H.set m (sU (qo g) (b.take (n*e.size)) e.size)++[.row (b.take (n*e.size)++o) e.size (some (bif qo g then j else n*e.size))]) s:=by
  cases qo g with
  | true=>have:=s2.rename d5 p;rw [xU,xH] at this;exact this
  | false=>have:=s2.fork d5 p d3 (zC _);rw [xU,xH,List.take_left' W] at this;exact this
 have ⟨f9,t2⟩:=b2;refine ⟨.slice (some ⟨B.b,0,none⟩) (n+k) c,s,_,?_,f9,(r2.trans s3).trans t2,?_,.inl ⟨_,_,_,_,rfl,rfl⟩⟩;rw [o8 r L C F (J E) c6 hf];simp only [cP,yZ];rw [s1];rfl;exact .sl (au.aC _ _ _) c6 O;have b2:Rel D (H.set m (sU (qo g) (b.take (n*e.size)) e.size)) E.drew/\Ext D H E.drew D (H.set m (sU (qo g) (b.take (n*e.size)) e.size)) E.drew:=by
  cases qo g with
  | true=>exact t.kill w p
  | false=>exact t.freeze w p _
 have ⟨r1,r2⟩:=b2;have ⟨q,l1,l2,l3⟩:=t.load w p (off:=0) (n:=n*e.size) O (λa l=>KA (p2 Z a (by grind)));rw [wG] at l2;have ⟨i,y,z,M⟩:=b6 (bif qo g then j else n*e.size) (H.set m (sU (qo g) (b.take (n*e.size)) e.size)) (b.take (n*e.size)) q n c Z r1 l2 (λa l=>p2 Z a (yM l)) W O;have f3:(Builtin.firstCells e.size n (.slice (some ⟨B.b,0,none⟩) n c)).run P E.drew= .ok q.toArray E.drew:=by have:=run_loadCells_list (P:=P) (w:=E.drew) ⟨B.b,0,none⟩ q l3;rw [l1] at this;exact this
 exact ⟨_,_,i,o9 r L C F hz (J E) O f1 e2 f3 c4,y,(c3.trans r2).trans z,M,.inr ⟨_,_,rfl,λ_ d=>by rw [r] at d;cases d;exact kV _ _ _⟩⟩;cases h;cases h;cases h;cases h;cases h;cases h;cases h
theorem iA [r:Small P] {f g q:aP} {s x e i v:aq} {d:AH} (h:cC P f g s x H=some (v,d)) (n:Rel D H E) (o:VR D s e) (p:VR D x i):
  ∃c a b,(Builtin.append_ #[f,g] q #[e,i]).run P E= .ok c a/\Rel b d a/\Ext D H E b d a/\VR b v c:=by
 obtain ⟨c,a,b,j,k,l,m,_⟩:=n9 h n o p;exact ⟨c,a,b,j,k,l,m⟩
def pw (P:aB) (j:aP) (d x:aq) (H:AH):Option (aq×AH):=
 match P.underlying j,wo x,d with
 | some (.slice g),some k,.slice A n c=>match P.info? g,cY ((P.info? g).elim 0 (·.size)) (Nat.min k n) x H with
  | some e,some a=>
   if Nat.min k n=0 then some (.int .i64 0,H) else
   match A with
   | some ⟨h,b,none⟩=>match H[h]? with
    | some (.row f sz (some i))=>if b+a.length<=f.length/\a.all one/\0<e.size/\i<=b then some (.int .i64 (Nat.min k n:Nat),H.set h (.row (cr f b a) sz (some i))) else none
    | _=>none
   | _=>none
  | _,_=>none
 | _,_,_=>none
theorem B8 {t1 ty:aP} {L J:aq} {g:AH} (h:pw P t u v H=some (J,g)) (e:Rel D H E) (k:VR D u w) (C:VR D v L):
  ∃K f,(Builtin.copy_ #[t,t1] ty #[w,L]).run P E= .ok K f/\Rel D g f/\Ext D H E D g f/\VR D J K:=by
 unfold pw at h;split at h;rename_i p b6 A n c7 y r;split at h;rename_i c8 c4 l a;simp only [l,Option.elim] at a;have s:=tU (P:=P) r C E;have ⟨M,m,z⟩:=jk (P:=P) a r (Nat.min_le_left _ _) e C;have b1:∃b i,w= .slice b n i/\(b=none->A=none):=by
  cases A with
  | none=>
   cases k with
   | sc _=>simp_all
  | some A=>
   obtain ⟨b,i,rfl⟩:=k.fa
   simp_all
 split at h;rename_i c;cases h;obtain ⟨b,i,rfl,hA⟩:=b1;have hy:M=[]:=by
  apply zK;rw [<-z.1];rw [c] at a;unfold cY at a;split at a
  simp_all
  simp_all
  simp_all
  cases a
 subst hy;refine ⟨.int .i64 0,E,?_,e,Ext.refl _ _ _,.sc rfl⟩;rw [c] at m;have X:=c;cases b <;> simp [Builtin.copy_,run_underlying y,aV l,s,X,m,storeCells,goInt];rename_i c;split at h;rename_i _ F c6;split at h;rename_i j sz lo o;split at h;rename_i hc;cases h;obtain ⟨_,⟨h9,_⟩|⟨h9,_⟩|⟨_,B,q,d,c1,R,rfl⟩⟩:=k.ew
 simp_all
 simp_all
 have d:=d;have ⟨f,s1,s2,s3,_⟩:=Rel.CR (P:=P) d c6 hc.2.2.2 c4 M 0 H j E e o O z (by simp_all) (λp c5 N x=>by
  have ⟨p1,_⟩:=e.rows F j sz _ B o d;have ⟨_,p2,_⟩:=e.bu F j sz _ B p c5 N o d x;have hq:q≠0:=by have:min b6 n≠0:=c;omega
  obtain ⟨q,rfl⟩:∃c3,q=c3+1:=⟨q-1,O⟩;rw [p1,p2,wL] at R;rcases iP x with ⟨rfl,rfl,_⟩|⟨rfl,rfl,_⟩ <;> omega)
 refine ⟨_,f,?_,s2,s3,.sc rfl⟩;have b2:=m;simp [Builtin.copy_,run_underlying y,aV l,s,b2,goInt,s1];cases h;cases h;cases h;cases h;cases h
def gX:aQ->Option (List UInt8)
 | []=>some []
 | .int .u8 n::l=>(gX l).map (UInt8.ofNat n.toNat:: ·)
 | _=>none
theorem rf:∀(a:aQ) (bs:List UInt8),gX a=some bs->∃b:List Int,a=b.map (Value.int .u8)/\bs=b.map λn=>UInt8.ofNat n.toNat:=by
 intro a;induction a with
 | nil=>intro bs h;cases h;simp_all
 | cons x a i=>
  intro bs h;unfold gX at h;split at h
  simp_all
  rename_i n l e;cases e;cases c:gX a with
  | none=>simp_all
  | some d=>rw [c] at h;cases h;have ⟨b,f,g⟩:=i d c;exact ⟨n::b,by rw [f];rfl,by rw [g];rfl⟩
  cases h
def jR (P:aB) (b a:aP) (x:aq) (H:AH):fQ:=
 match P.underlying b,P.underlying a,x with
 | some (.slice e),some .string,.slice A n c=>match P.underlying e with
  | some (.int .u8)=>match cY 1 n (.slice A n c) H with
   | some d=>if A=none then some (.string ByteArray.empty) else (gX d).map λbs=>.string ⟨bs.toArray⟩
   | none=>none
  | _=>none
 | _,_,_=>none
theorem foldl_push (a:List Int):∀(r:aU),(a.foldl (λr n=>r.push (UInt8.ofNat n.toNat)) r).data.toList=r.data.toList++a.map λn=>UInt8.ofNat n.toNat:=by
 induction a with
 | nil=>grind
 | cons n a b=>simp_all
theorem wQ {f:aP} (h:jR P t f u H=some w) (F:Rel D H E) (g:VR D u v):(convert t f v).run P E= .ok w E/\ak w:=by
 unfold jR at h;split at h;rename_i e A n c r p;split at h;rename_i q;split at h;rename_i a J;obtain ⟨x,z,s⟩:=jk J rfl (zC _) F g;split at h;rename_i m;subst m;cases h;refine ⟨?_,rfl⟩;cases g with
 | sc _=>simp [convert,run_underlying r,run_underlying p,run_underlying q,Conv.bytesToString]
 rename_i m;cases o:gX a with
 | none=>simp_all
 | some bs=>
  rw [o] at h;cases h;have ⟨j,l,y⟩:=rf a bs o;have K:x=a:=by apply List.ext_getElem s.1.symm;intro i L M;refine (s.2 i a[i] x[i] (zA _) (zA _)).ak ?_;simp [l,ak]
  subst K;obtain ⟨d,rfl⟩:∃d,A=some d:=by cases A with|none=>simp_all|some d=>simp_all
  obtain ⟨b,k,rfl⟩:=g.fa;refine ⟨?_,rfl⟩;rw [run_convert_bytes_string E t f e (some b) n k r q p];have C:(loadCells b n).run P E= .ok (j.map (Value.int .u8)).toArray E:=by rw [<-l];simpa [Builtin.firstCells] using z
  rw [run_bytesToString E b n k j C];congr 2;have:=foldl_push j ByteArray.empty;rw [y];apply ByteArray.ext;apply Array.ext'
  simp_all
 cases h;cases h;cases h
theorem sQ (a:World) (C:Array aq) (b:aP):(markStringish ⟨a.heap.size,0,none⟩).run P (a.alloc (.cells C b))= .ok () {a with heap:=a.heap.push (.cells C b (C.size,C.size+1))}:=by
 have c:(a.alloc (.cells C b)).shape? a.heap.size=some (b,C.size):=by unfold World.shape? World.alloc;simp
 simp only [markStringish,Sem.run_bind,run_shape,Result.andThen_ok,c,run_freeze];congr 1;unfold World.freeze World.alloc;simp;congr 1;apply Array.ext_getElem?;intro i;simp only [wO,xY];by_cases d:a.heap.size=i
 grind
 grind
def tM (P:aB) (c a:aP) (x:aq) (H:AH):Option (aq×AH):=
 match P.underlying c,P.underlying a,x with
 | some .string,some (.slice e),.string s=>match P.underlying e with
  | some (.int .u8)=>if s.size<=4611686018427387904 then some (.slice (some ⟨H.length,0,none⟩) s.size 1,H++[.row (s.data.toList.map λb=>.int .u8 b.toNat) 1 (some 0)]) else none
  | _=>none
 | _,_,_=>none
theorem AY {l:aP} {g:AH} (h:tM P t l u H=some (w,g)) (z:Rel D H E) (F:VR D u v):
  ∃o i k,(convert t l v).run P E= .ok o i/\Rel k g i/\Ext D H E k g i/\VR k w o:=by
 unfold tM at h;split at h;rename_i e s C q;split at h;rename_i r;split at h;rename_i M;cases h;cases F.ak rfl;have A:Rel D H E.drew:=z.drew _;have x:Ext D H E D H E.drew:=Ext.drew _;have y:=grownCap_ge E s.size 0 e;have n:(s.data.map (λb=>Value.int .u8 (b.toNat:Int))++Array.replicate (grownCap E s.size 0 e-s.size) (Value.int .u8 0)).size=grownCap E s.size 0 e:=by have:s.data.size=s.size:=rfl;simp;omega
 obtain ⟨J,K⟩:=A.push (xs:=s.data.toList.map λb=>.int .u8 b.toNat) (s.data.map (λb=>Value.int .u8 (b.toNat:Int))++Array.replicate (grownCap E s.size 0 e-s.size) (.int .u8 0)) e
  (grownCap E s.size 0 e,grownCap E s.size 0 e+1) 1 Z (λj a L c f=>by
   have m:=ab c;rw [Array.getElem?_append_left (by grind)] at f;have:L=a:=by simp only [zJ,Array.getElem?_map] at c f;simp only [Array.getElem?_toList] at c;rw [c] at f;simpa using f.symm
   subst this;simp only [zJ] at c;cases p:s.data.toList[j]? with
   | none=>simp_all
   | some b=>rw [p] at c;cases c;exact .sc rfl) (λa c=>by simp at c;obtain ⟨_,_,rfl⟩:=c;rfl) (λj m=>by rw [n] at m;unfold kU;simp;omega) (.small O)
 refine ⟨.slice (some ⟨E.heap.size,0,none⟩) s.size (grownCap E s.size 0 e),_,_,?_,J,x.trans K,.sl (au.aC _ _ _) y (by grind)⟩;have N:(s.data.map (λb=>Value.int .u8 (b.toNat:Int))).size+(grownCap E s.size 0 e-s.size)=grownCap E s.size 0 e:=by have:s.data.size=s.size:=rfl;simp;omega
 have d:=sQ (P:=P) E.drew (s.data.map (λb=>Value.int .u8 (b.toNat:Int))++Array.replicate (grownCap E s.size 0 e-s.size) (.int .u8 0)) e;rw [n] at d;simp at d;unfold grownCap at d ⊢;simp [convert,run_underlying C,run_underlying q,run_underlying r,Conv.stringToBytes,Question.forced,newRow,d];cases h;cases h;cases h
def keyed:TypeDesc->aq->Bool
 | .int _,.int _ _=>true
 | .string,.string _=>true
 | _,_=>false
theorem run_checkKey {e:Bool} {n:Nat} {d:TypeDesc} (b:P.underlying t=some d) (a:keyed d u) (E:World):(Instr.checkKey e (n+1) t u).run P E= .ok () E:=by unfold keyed at a;split at a;simp [Instr.checkKey,run_underlying b];simp [Instr.checkKey,run_underlying b];cases a
theorem run_findKey {d:TypeDesc} {a:List MapEntry} {r:Option (Nat×aq)} (b:P.underlying t=some d) (h:Instr.findNow d u a 0=some r) (E:World):(Instr.findKey t u a).run P E= .ok r E:=by simp [Instr.findKey,run_underlying b,h]
theorem fY {b:Array MapEntry} {cl:Nat} (h:E.heap[a]? =some (.map b cl)):(getObj a).run P E= .ok (.map b cl) E:=by simp [getObj,Sem.run,h]
theorem o7 {b:Array MapEntry} {cl:Nat} {o:Obj} (h:E.heap[a]? =some (.map b cl)):(setObj a o).run P E= .ok () {E with heap:=E.heap.setIfInBounds a o}:=by simp [setObj,Sem.run,h]
def fO (P:aB) (t:aP) (x ix:aq) (b:Bool) (H:AH):fQ:=
 match P.underlying t,x with
 | some (.map e c),.map (some id)=>match H[id]?,P.underlying e with
  | some (.mp d _),some a=>if keyed a ix=true then
    match Instr.findNow a ix d.toList 0 with
    | some (some (_,v))=>some (if b=true then .tuple #[v,.bool true] else v)
    | some none=>match P.info? c with
     | some i=>match i.zero with
      | some z=>if ak z=true then some (if b=true then .tuple #[z,.bool false] else z) else none
      | none=>none
     | none=>none
    | none=>none
   else none
  | _,_=>none
 | _,_=>none
theorem n8 {d:TypeDesc}:∀(a:List MapEntry) (i j:Nat) (v:aq),Instr.findNow d u a i=some (some (j,v))->∃e∈a,e.val=v:=by
 intro a;induction a with
 | nil=>intro i j v h;cases h
 | cons e a b=>
  intro i j v h;unfold Instr.findNow at h;split at h
  simp_all
  grind
  cases h
theorem VR.two (h:V.ak u) (b:Bool):VR D (.tuple #[u,.bool b]) (.tuple #[u,.bool b]):=
 VR.rJ (cd.cons (.sc h) (cd.cons (.sc rfl) .nil))
theorem tS {ix o:aq} (h:fO P t u ix q H=some o) (C:Rel D H E) (F:VR D u v) (f:VR D ix w):∃p,(Instr.lookup t v w q).run P E= .ok p E/\VR D o p:=by
 unfold fO at h;split at h;rename_i R L K l;obtain ⟨B,s,rfl⟩:=F.rM;split at h;rename_i r cl N A c;have ⟨g,x⟩:=C.maps K r cl B A s;split at h;rename_i b;have:w=ix:=by unfold keyed at b;split at b;exact f.ak rfl;exact f.ak rfl;cases b
 subst this;have d:=λe=>run_checkKey (e:=e) (n:=9999) c b E;split at h;rename_i j X a;cases h;obtain ⟨e,M,rfl⟩:=n8 _ _ _ _ a;have m:=(x e (by grind)).2;refine ⟨if q=true then .tuple #[e.val,.bool true] else e.val,?_,?_⟩;simp [Instr.lookup,run_underlying l,fY g,d,run_findKey c a];split;exact VR.two m _;exact .sc m;rename_i a;split at h;rename_i i y;split at h;rename_i z J;split at h;rename_i k;cases h;refine ⟨if q=true then .tuple #[z,.bool false] else z,?_,?_⟩;simp [Instr.lookup,run_underlying l,fY g,d,run_findKey c a,dq y J];split;exact VR.two k _;exact .sc k;cases h;cases h;cases h;cases h;cases h;cases h;cases h
def iw (P:aB) (t:aP) (x k v:aq) (H:AH):Option AH:=
 match P.underlying t,x with
 | some (.map c _),.map (some id)=>match H[id]?,P.underlying c with
  | some (.mp a cl),some b=>if keyed b k=true/\ak v=true then
    match Instr.findNow b k a.toList 0 with
    | some (some (i,_))=>if Instr.sameBits 10000 (((a[i]?).map (·.key)).getD k) k=true then some (H.set id (.mp (a.modify i λe=>{e with key:=k,val:=v}) cl)) else none
    | some none=>some (H.set id (.mp (a.push {key:=k,val:=v,born:=cl}) (cl+1)))
    | none=>none
   else none
  | _,_=>none
 | _,_=>none
theorem gy {d:TypeDesc} (h:keyed d u):ak u:=by unfold keyed at h;split at h;rfl;rfl;cases h
theorem tL {A y z:aq} {d:AH} (h:iw P t u v w H=some d) (m:Rel D H E) (L:VR D u A) (F:VR D v y) (K:VR D w z):∃r,(Instr.mapUpdate t A y z).run P E= .ok () r/\Rel D d r/\Ext D H E D d r:=by
 unfold iw at h;split at h;rename_i b2 N M x;obtain ⟨B,g,rfl⟩:=L.rM;split at h;rename_i f cl kd l k;have ⟨c,R⟩:=m.maps M f cl B l g;split at h;rename_i C;have ⟨b,o⟩:=C;cases F.ak (gy b);cases K.ak o;have s:=λe=>run_checkKey (e:=e) (n:=9999) k b E;split at h;rename_i i v0 j;split at h;rename_i J;cases h;have ⟨p,q⟩:=m.D0 l g (f.modify i λe=>{e with key:=v,val:=w}) cl (λe a=>by
  obtain ⟨b1,X,rfl⟩:=Array.getElem_of_mem a;rw [Array.getElem_modify];split;exact ⟨gy b,o⟩
  simp_all)
 refine ⟨_,?_,p,q⟩;simp [Instr.mapUpdate,run_underlying x,fY c,s,run_findKey k j,Instr.keyThatStays,J,o7 c];cases h;rename_i j;cases h;have ⟨p,q⟩:=m.D0 l g (f.push {key:=v,val:=w,born:=cl}) (cl+1) (λe a=>by
  rcases Array.mem_push.1 a with a|rfl
  grind
  exact ⟨gy b,o⟩)
 refine ⟨_,?_,p,q⟩;simp [Instr.mapUpdate,run_underlying x,fY c,s,run_findKey k j,o7 c];cases h;cases h;cases h;cases h
def dt (o:fQ):fQ:=match o with|some v=>if bq v=true then some v else none|none=>none
theorem gh {s:Sem aq} (h:dt (aj P s)=some u) (E:World):s.run P E= .ok u E/\VR D u u:=by unfold dt at h;split at h;rename_i c a;split at h;rename_i b;cases h;exact ⟨jK a E,VR.lN b⟩;cases h;cases h
def ox:aq->Bool
 | .nilIface=>false
 | _=>true
def cZ (P:aB) (a:BinOp) (t:aP) (x y:aq):fQ:=
 if (bq x&&bq y&&ox x)=true then dt (aj P (do eqGuard a t (.tmp 0) (.tmp 0) x y;binOp a t x y)) else mO P a t x y
theorem tH {c:BinOp} (h:ox u) (a b:Operand):eqGuard c t a b u v=eqGuard c t (.tmp 0) (.tmp 0) u v:=by cases u <;> first|(cases h;done)|rfl|(cases v <;> rfl)
theorem Fk {e:BinOp} {f c:aq} (h:cZ P e t u v=some c) (k:VR D u w) (l:VR D v f) (a b:Operand) (E:World):(do eqGuard e t a b w f;binOp e t w f:Sem aq).run P E= .ok c E/\VR D c c:=by unfold cZ at h;split at h;rename_i j;simp at j;have ⟨⟨d,g⟩,i⟩:=j;cases k.bq d;cases l.bq g;rw [tH i];exact gh h E;have ⟨d,g,i⟩:=wu (w:=E) h k l;exact ⟨by simp_all,.sc d⟩
def FB (P:aB) (a:UnOp) (x:aq):fQ:=if bq x=true then dt (aj P (Op.unary a x)) else none
def gH (P:aB) (s d:aP) (x:aq) (H:AH):Option (aq×AH):=
 match x with
 | .slice _ _ _=>(jR P s d x H).map λv=>(v,H)
 | .string _=>match P.underlying d,P.underlying s with
  | some .string,some .string=>some (x,H)
  | _,_=>tM P s d x H
 | _=>if bq x=true then (dt (aj P (convert s d x))).map λv=>(v,H) else none
def lh (P:aB) (t:aP) (x ix:aq):fQ:=if (bq x&&bq ix)=true then dt (aj P (Instr.index t x ix)) else none
def pG (P:aB) (t:aP) (x:aq) (b a c:fQ) (H:AH):fQ:=
 match c with
 | none=>match x with
  | .string _=>if (b.all bq&&a.all bq)=true then dt (aj P (Instr.sliceAt t x b a none)) else none
  | _=>cK P t x b a H
 | some _=>fM P t x b a c
def qF (P:aB) (b:Builtin) (a:Array aP) (i:aP) (g:Array Bool) (c:aQ) (H:AH):Option (aq×AH):=
 match b,c with
 | .append,[s,x]=>match a.toList with
  | [e,f]=>cC P e f s x H
  | _=>none
 | .copy,[d,x]=>match a.toList with
  | [e,f]=>pw P e d x H
  | _=>none
 | .len,[x]=>match a.toList,x with
  | [t],.slice _ n _=>match P.underlying t with
   | some (.slice _)=>some (.int .i64 (n:Nat),H)
   | _=>none
  | [t],.string s=>match P.underlying t with
   | some .string=>some (.int .i64 (s.size:Nat),H)
   | _=>none
  | [t],.map (some id)=>match P.underlying t,H[id]? with
   | some (.map _ _),some (.mp h _)=>some (.int .i64 (h.size:Nat),H)
   | _,_=>none
  | _,_=>none
 | _,_=>if c.all bq=true then match aj P (builtin b a i g c.toArray) with
   | some (.value v)=>if bq v=true then some (v,H) else none
   | _=>none
  else none
def fF (P:aB) (g:Operand->aq) (o:Oper) (H:AH):Option (aq×AH):=
 match o.op with
 | .move x=>some (g x,H)
 | .assign x=>some (g x,H)
 | .pick c a b=>match g c with|.bool t=>some (if t then g a else g b,H)|_=>none
 | .alloc e=>mQ P e H
 | .box e x=>py P e (g x) H
 | .build t ps=>(mP P t (ps.map λ(i,x)=>(i,g x)).toList).map λv=>(v,H)
 | .buildSlice t n ps=>fN P t n (ps.map λ(i,x)=>(i,g x)).toList H
 | .load t a=>(cV P t (g a) H).map λv=>(v,H)
 | .store t a x=>(fD P t (g a) (g x) H).map λh=>(undef,h)
 | .nilCheck x=>(N7 (g x)).map λv=>(v,H)
 | .binOp j t x y _=>(cZ P j t (g x) (g y)).map λv=>(v,H)
 | .unOp j _ x=>(FB P j (g x)).map λv=>(v,H)
 | .convert s d x=>gH P s d (g x) H
 | .makeMap _ none=>some (.map (some H.length),H++[.mp #[] 0])
 | .makeSlice t l c=>iz P t (g l) (g c) H
 | .slice t x q p r=>(pG P t (g x) (q.map g) (p.map g) (r.map g) H).map λv=>(v,H)
 | .fieldAddr s x f=>(eX P s (g x) f).map λv=>(v,H)
 | .field t x f=>(po P t (g x) f).map λv=>(v,H)
 | .indexAddr t x i=>(cX P t (g x) (g i)).map λv=>(v,H)
 | .index t x i=>(lh P t (g x) (g i)).map λv=>(v,H)
 | .lookup t x i w=>(fO P t (g x) (g i) w H).map λv=>(v,H)
 | .mapUpdate t m k x=>(iw P t (g m) (g k) (g x) H).map λh=>(undef,h)
 | .extract x i=>(Fg (g x) i).map λv=>(v,H)
 | .call {callee:=.builtin b,args,argTypes}=>qF P b argTypes o.type (args.map λ| .const _=>true|_=>false) (args.map g).toList H
 | _=>none
def Vb (D:au) (H:AH) (E:World) (v:aq) (c:AH) (r:Result Next):Prop:=
 ∃n a b,r= .ok n a/\((∃d,n= .value d/\VR b v d)\/(n= .skip/\v=undef))/\Rel b c a/\Ext D H E b c a
theorem bM {s:Sem aq} (h:s.run P E= .ok v E) (a:Rel D H E) (b:VR D u v):Vb D H E u H ((do pure (.value (<-s)):Sem Next).run P E):=
 ⟨.value v,E,D,by simp_all,.inl ⟨v,rfl,b⟩,a,Ext.refl _ _ _⟩
theorem ir {s:Sem aq} {c:AH} {a:World} {b:au} (h:s.run P E= .ok v a) (e:Rel b c a) (d:Ext D H E b c a) (f:VR b u v):Vb D H E u c ((do pure (.value (<-s)):Sem Next).run P E):=
 ⟨.value v,a,b,by simp_all,.inl ⟨v,rfl,f⟩,e,d⟩
theorem tI {s:Sem Unit} {b:AH} {a:World} (h:s.run P E= .ok () a) (d:Rel D b a) (c:Ext D H E D b a):Vb D H E undef b ((do s;pure .skip:Sem Next).run P E):=
 ⟨.skip,a,D,by simp_all,.inr ⟨rfl,rfl⟩,d,c⟩
theorem map_some {b d:Type} {o:Option b} {f:b->d} {c:d} (h:o.map f=some c):∃a,o=some a/\f a=c:=by simp_all
theorem cd.of_map {l:List Operand} {b c:Operand->aq} (h:∀x∈l,VR D (b x) (c x)):cd D (l.map b) (l.map c):=by
 refine ⟨Z,λi a v d e=>?_⟩
 grind
theorem cd.parts {ps:Array (Nat×Operand)} {a b:Operand->aq} (h:∀x∈ps.toList.map (·.2),VR D (a x) (b x)):
  ((ps.map λ(i,x)=>(i,a x)).toList.map (·.1))=((ps.map λ(i,x)=>(i,b x)).toList.map (·.1))/\cd D ((ps.map λ(i,x)=>(i,a x)).toList.map (·.2)) ((ps.map λ(i,x)=>(i,b x)).toList.map (·.2)):=by
 constructor
 simp_all
 have:=cd.of_map h;simpa [Function.comp_def] using this
theorem B9 {d:aP} {b:AH} (h:gH P t d u H=some (w,b)) (a:Rel D H E) (g:VR D u v):∃m k l,(convert t d v).run P E= .ok m k/\Rel l b k/\Ext D H E l b k/\VR l w m:=by unfold gH at h;split at h;have ⟨o,c,e⟩:=map_some h;cases e;have ⟨i,j⟩:=wQ c a g;exact ⟨w,E,D,i,a,Ext.refl _ _ _,.sc j⟩;rename_i p;cases g.ak rfl;split at h;rename_i n f;cases h;exact ⟨_,E,D,by simp [convert,run_underlying n,run_underlying f],a,Ext.refl _ _ _,.sc rfl⟩;exact AY h a (.sc rfl);split at h;rename_i f;cases g.bq f;have ⟨o,c,e⟩:=map_some h;cases e;obtain ⟨i,j⟩:=gh c E;exact ⟨w,E,D,i,a,Ext.refl _ _ _,j⟩;cases h
theorem wU.of {x:Option Operand} {a b:Operand->aq} (h:∀y∈x.toArray,VR D (a y) (b y)):wU D (x.map a) (x.map b):=by
 cases x with
 | none=>trivial
 | some y=>exact h y Z
theorem wU.bq {x a:fQ} (h:wU D x a) (b:x.all V.bq):a=x:=by cases x <;> cases a <;> first|rfl|exact h.elim|(simp at b;exact yH some (VR.bq h b))
theorem I5 [hP:Small P] {b:Builtin} {e:Array aP} {M:aP} {J:Array Bool} {k args':aQ} {v:aq} {F:AH} (h:qF P b e M J k H=some (v,F)) (d:Rel D H E) (j:cd D k args'):Vb D H E v F ((builtin b e M J args'.toArray).run P E):=by
 unfold qF at h;split at h;rename_i s x;obtain ⟨s',l1,rfl,n,o⟩:=j.ep;obtain ⟨C,L,rfl,c,f⟩:=o.ep;have:=zK f.1.symm;subst this;split at h;rename_i y z a;obtain ⟨v',w',c5,p,q,r,w⟩:=iA h d n c;have:e= #[y,z]:=by apply Array.ext';simpa using a
 subst this;exact ir p q r w;cases h;rename_i s x;obtain ⟨s',l1,rfl,n,o⟩:=j.ep;obtain ⟨C,L,rfl,c,f⟩:=o.ep;have:=zK f.1.symm;subst this;split at h;rename_i y z a;obtain ⟨v',w',p,q,r,w⟩:=B8 h d n c;have:e= #[y,z]:=by apply Array.ext';simpa using a
 subst this;exact ir p q r w;cases h;rename_i x;obtain ⟨C,L,rfl,c,f⟩:=j.ep;have:=zK f.1.symm;subst this;split at h;rename_i t A b1 b2 a;have:e= #[t]:=by apply Array.ext';simpa using a
 subst this;split at h;rename_i el g;cases h;have:∃l m,C= .slice l b1 m:=by
  cases A with
  | none=>cases c with|sc _=>simp_all
  | some A=>have ⟨l,m,b6⟩:=c.fa;simp_all
 obtain ⟨l,m,rfl⟩:=this;exact bM (by simp [Builtin.len_,run_underlying g,goInt]) d (.sc rfl);cases h;rename_i t s a;have:e= #[t]:=by apply Array.ext';simpa using a
 subst this;split at h;rename_i g;cases h;cases c.ak rfl;exact bM (by simp [Builtin.len_,run_underlying g,goInt]) d (.sc rfl);cases h;rename_i t id a;have:e= #[t]:=by apply Array.ext';simpa using a
 subst this;split at h;rename_i c4 c2 N cl g ho;cases h;obtain ⟨B,R,rfl⟩:=c.rM;have ⟨X,_⟩:=d.maps id N cl B ho R;exact bM (by simp [Builtin.len_,run_underlying g,goInt,fY X]) d (.sc rfl);cases h;cases h;split at h;rename_i K;have:args'=k:=by apply List.ext_getElem j.1.symm;intro i hi c3;refine (j.2 i k[i] args'[i] (zA _) (zA _)).bq ?_;simp at K;exact K _ (zW _)
 subst this;split at h;rename_i v0 hp;split at h;rename_i hv;cases h;exact ⟨.value v,E,D,jK hp E,.inl ⟨v,rfl,VR.lN hv⟩,d,Ext.refl _ _ _⟩;cases h;cases h;cases h
theorem I3 [hP:Small P] {o:Oper} {R p:Operand->aq} {v:aq} {L:AH} (h:fF P R o H=some (v,L)) (g:Rel D H E) (e:∀x∈o.op.operands,VR D (R x) (p x)):Vb D H E v L ((execOp p o).run P E):=by
 have ⟨c6,op,c9,pos,c4,guard⟩:=o;unfold fF at h;simp only at e;split at h;all_goals first|(cases h;done)|skip
 all_goals rename_i M
 all_goals simp only at M
 all_goals subst M
 all_goals simp only [Op.operands] at e
 all_goals simp only [execOp]
 cases h;exact ⟨_,E,D,rfl,.inl ⟨_,rfl,e _ Z⟩,g,Ext.refl _ _ _⟩;cases h;exact ⟨_,E,D,rfl,.inl ⟨_,rfl,e _ Z⟩,g,Ext.refl _ _ _⟩;rename_i c x y;split at h;rename_i t hc;cases h;have a:=e c Z;rw [hc] at a;have f:=a.bool;refine ⟨.value (if t then p x else p y),E,D,by simp [f,asBool],.inl ⟨_,rfl,?_⟩,g,Ext.refl _ _ _⟩;cases t
 simp_all
 simp_all
 cases h;have ⟨k,q,w,b,d,j,m⟩:=wT h g;exact ir b d j m;have ⟨k,q,w,b,d,j,m⟩:=Fj h g (e _ Z);exact ir b d j m;rename_i t ps;have ⟨l,a,f⟩:=map_some h;cases f;obtain ⟨J,K⟩:=cd.parts (λx i=>e x (by simpa using i));obtain ⟨k,b,d⟩:=wS a J K;exact bM b g d;rename_i t c7 ps;obtain ⟨J,K⟩:=cd.parts (λx i=>e x (by simpa using i));have ⟨k,q,w,b,d,j,m⟩:=jQ h g J K;exact ir b d j m;have ⟨l,a,f⟩:=map_some h;cases f;have ⟨k,b,d⟩:=qC a g (e _ Z);exact bM b g d;have ⟨X,a,f⟩:=map_some h;cases f;have ⟨q,b,d,j⟩:=w7 a g (e _ Z) (e _ Z);exact tI b d j;rename_i x;have ⟨l,a,f⟩:=map_some h;cases f;have i:=e x Z;unfold N7 at a;split at a;rename_i c3 hA;cases a;have s:=i;rw [hA] at s;have ⟨A',b2⟩:=s.lH;refine ⟨.value (p x),E,D,by simp [b2],.inl ⟨_,rfl,i⟩,g,Ext.refl _ _ _⟩;cases a;have ⟨l,a,f⟩:=map_some h;cases f;obtain ⟨b,d⟩:=Fk a (e _ Z) (e _ Z) _ _ E;exact bM b g d;have ⟨l,a,f⟩:=map_some h;cases f;unfold FB at a;split at a;rename_i n;rw [(e _ Z).bq n];obtain ⟨b,d⟩:=gh a E;exact bM b g d;cases a;have ⟨k,q,w,b,d,j,m⟩:=B9 h g (e _ Z);exact ir b d j m;cases h;have ⟨b,d⟩:=g.GR;exact ir (by simp [Instr.makeMap]) b d (.map (au.aC _ _ _));have ⟨k,q,w,b,d,j,m⟩:=B6 h g (e _ Z) (e _ Z);exact ir b d j m;rename_i t x lo hi N;have ⟨l,a,f⟩:=map_some h;cases f;have i:=e x Z;have C:=wU.of (λy r=>e y (by simp only [Array.mem_append];exact .inl (.inl (.inr r))));have A:=wU.of (λy r=>e y (by simp only [Array.mem_append];exact .inl (.inr r)));unfold pG at a;split at a;rename_i hm;have b6:N=none:=by cases N with|none=>rfl|some _=>cases hm
 subst b6;split at a;rename_i c8 n;split at a;rename_i F;simp at F;rw [n] at i;have s:=i.ak rfl;obtain ⟨b,d⟩:=gh a E;refine bM ?_ g d;rw [n] at b;rw [s,C.bq F.1,A.bq F.2];exact b;cases a;have ⟨k,b,d⟩:=w9 a g i C A;exact bM b g d;have c2:=wU.of (λy r=>e y (by simp only [Array.mem_append];exact .inr r));obtain ⟨k,b,d⟩:=tN a i C A c2;exact bM b g d;have ⟨l,a,f⟩:=map_some h;cases f;obtain ⟨k,b,d⟩:=pn a (e _ Z);exact bM b g d;have ⟨l,a,f⟩:=map_some h;cases f;obtain ⟨k,b,d⟩:=wz a (e _ Z);exact bM b g d;obtain ⟨l,a,f⟩:=map_some h;cases f;obtain ⟨k,b,d⟩:=pj a (e _ Z) (e _ Z);exact bM b g d;obtain ⟨l,a,f⟩:=map_some h;cases f;unfold lh at a;split at a;rename_i n;simp at n;rw [(e _ Z).bq n.1,(e _ Z).bq n.2];obtain ⟨b,d⟩:=gh a E;exact bM b g d;cases a;obtain ⟨l,a,f⟩:=map_some h;cases f;obtain ⟨k,b,d⟩:=tS a g (e _ Z) (e _ Z);exact bM b g d;obtain ⟨X,a,f⟩:=map_some h;cases f;obtain ⟨q,b,d,j⟩:=tL a g (e _ Z) (e _ Z) (e _ Z);exact tI b d j;obtain ⟨l,a,f⟩:=map_some h;cases f;obtain ⟨k,b,d⟩:=Ff a (e _ Z);exact bM b g d;rename_i c5 z ts;simp;have:=I5 (args':=(z.map p).toList) h g (by simpa using cd.of_map (λx i=>e x (by simp [Call.operands,Array.mem_toList_iff.1 i])));have b1:(z.map p).toList.toArray=z.map p:=Array.toArray_toList;rw [b1] at this;exact this
end
def ev (a:aQ):Operand->aq
 | .tmp t=>a.getD t undef
 | .const v=>v
 | .global g=>.pointer (some ⟨g,0,none⟩)
 | .func f=>.func (.func f) #[] #[]
def pF:Operand->Bool
 | .tmp _=>true
 | .const v=>bq v
 | .global _=>false
 | .func _=>true
def kN (o:Oper):Bool:=o.op.operands.toList.all pF
abbrev Callee:=Nat->aQ->AH->Option (aq×AH)
def eD (P:aB) (K:Nat):Bool:=
 match P.funcs[K]? with
 | some a=> !(a.name== "runtime.NumGoroutine")&&a.body.isSome
 | none=>false
def kF (P:aB) (d:Callee) (c:Operand->aq) (o:Oper) (H:AH):Option (aq×AH):=
 match o.op with
 | .call {callee:=.value f,args, ..}=>match c f with
  | .func (.func K) a b=>if (a.isEmpty&&b.isEmpty&&eD P K)=true then d K (args.map c).toList H else none
  | _=>none
 | _=>fF P c o H
def da (P:aB) (h:Callee):Prop:=
 ∀(K:Nat) (d:aQ) (H:AH) (r:aq) (a:AH),h K d H=some (r,a)->eD P K->∀(b:au) (w:World) (f:aQ),Rel b H w->cd b d f->
  Calls P K f.toArray w λe g=>∃v c,e= .returned v/\VR c r v/\Rel c a g/\Ext b H w c a g
section
variable {D:au} {H:AH} {E:World} {P:aB}
abbrev Tm (D:au) (b:aQ) (a:Act):Prop:=cd D b a.tmps.toList
theorem Tm.get {a:Act} (h:Tm D p a) (t:Nat):VR D (p.getD t undef) (a.tmps.getD t undef):=by
 rw [zG,yP];cases b:p[t]? with
 | some v=>
  obtain ⟨e,c,d⟩:=cd.get h b
  simp_all
 | none=>
  have:a.tmps[t]? =none:=by rw [List.getElem?_eq_none_iff] at b;rw [Array.getElem?_eq_none_iff];have:=h.1;simp at this;omega
  rw [this];exact VR.undef
theorem Ev {a:Act} (h:Tm D p a) {x:Operand} (b:pF x):VR D (ev p x) (a.eval x):=by
 cases x with
 | tmp t=>exact h.get t
 | const v=>exact VR.lN b
 | global g=>cases b
 | func f=>exact .sc rfl
theorem Hx {a:Act} (h:Tm D p a) {o:Oper} (b:kN o):∀x∈o.op.operands,VR D (ev p x) (a.eval x):=by intro x c;simp only [kN,zT] at b;exact Ev h (b x (by grind))
def bZ (a:aQ) (b:Option Tmp) (v:aq):aQ:=
 match b with
 | some d=>a.set d v
 | none=>a
theorem Tm.put {e:aQ} {a:Act} (h:Tm D e a) (b:Option Tmp) {v c:aq} (f:VR D v c):Tm D (bZ e b v) (a.put b c):=by
 cases b with
 | none=>exact h
 | some d=>simpa [bZ,Act.put,Tm] using cd.set h f d
theorem ny [hP:Small P] {w:Callee} (X:da P w) {o:Oper} {n:Operand->aq} {a:Act} {v:aq} {g:AH} {next:Act->World->Prop} {Q:Exit->Act->World->Prop} (h:kF P w n o H=some (v,g)) (L:Rel D H E) (l:∀x∈o.op.operands,VR D (n x) (a.eval x))
  (k:∀m b d,VR d v m->Rel d g b->Ext D H E d g b->next (a.put o.dst m) b):o.wp P a E next Q:=by
 have c8:fF P n o H=some (v,g)->o.wp P a E next Q:=by intro h;have ⟨c7,b,d,q,j,z,A⟩:=I3 h L l;unfold Oper.wp;rw [q];rcases j with ⟨m,rfl,j⟩|⟨rfl,rfl⟩;exact k m b d j z A;exact k undef b d VR.undef z A
 unfold kF at h;split at h;rename_i f i ts s;split at h;rename_i K t y hf;split at h;rename_i F;simp at F;have ⟨⟨C,r⟩,c⟩:=F;rw [s] at l;have J:=l f (by simp [Op.operands,Call.operands]);rw [hf] at J;have c4:ak (Value.func (.func K) t y):=by simp [ak,C,r]
 have b6:=J.ak c4;have b1:t= #[]:=by simpa using C
 have b2:y= #[]:=by simpa using r
 subst b1 b2;have R:cd D (i.map n).toList (i.map a.eval).toList:=by simpa using cd.of_map (λx hx=>l x (by simp [Op.operands,Call.operands,Array.mem_toList_iff.1 hx]))
 have:=X K _ H v g h c D E _ L R;have e:(i.map a.eval).toList.toArray=i.map a.eval:=Array.toArray_toList;rw [e] at this;unfold eD at c;split at c;rename_i p c2;simp at c;have ⟨q,j⟩:=c;have M:¬p.name= "runtime.NumGoroutine":=by simpa using q
 have N:¬p.body=none:=by cases r:p.body <;> simp_all
 have c3:(execOp a.eval o).run P E= .ok (.enter K (i.map a.eval)) E:=by have ⟨c6,op,c9,pos,c5,guard⟩:=o;simp only at s;subst s;simp [execOp,resolve,b6,Deferred.ofValue,invoke,callFunc,c2,M,N]
 unfold Oper.wp;rw [c3];refine this.mono λe b he=>?_
 grind
 cases c;cases h;cases h
 grind
end
def kp:aq->aq->Bool
 | .bool a,.bool b=>a==b
 | .int k a,.int e b=>decide (k=e)&&a==b
 | .string a,.string b=>decide (a.data.toList=b.data.toList)
 | .pointer a,.pointer b=>decide (a=b)
 | .slice a n c,.slice b m d=>decide (a=b)&&n==m&&c==d
 | .map a,.map b=>a==b
 | .float k a,.float e b=>decide (k=e)&&a==b
 | .complex k a c,.complex e b d=>decide (k=e)&&a==b&&c==d
 | _,_=>false
def FV:aq->aq->Bool
 | .agg c,.agg d=>c.size==d.size&&(c.toList.zip d.toList).all λp=>kp p.1 p.2
 | a,b=>kp a b
theorem xa (h:kp u v):u=v:=by
 unfold kp at h;split at h
 grind
 simp_all
 simp at h;congr 1;apply ByteArray.ext;omega
 grind
 simp_all
 grind
 simp_all
 simp_all
 cases h
theorem JJ:∀(b a:aQ),b.length=a.length->(b.zip a).all (λp=>kp p.1 p.2)=true->b=a:=by
 intro b;induction b with
 | nil=>grind
 | cons x b c=>
  intro a h k;cases a with
  | nil=>cases h
  | cons y a=>simp only [List.zip_cons_cons,List.all_cons,zN] at k;rw [xa k.1,c a (Zs h) k.2]
theorem BF (h:FV u v):u=v:=by unfold FV at h;split at h;rename_i a b;simp only [zN,beq_iff_eq] at h;congr 1;apply Array.ext';exact JJ _ _ (Zs h.1) h.2;exact xa h
section
variable {D:au} {H:AH} {E:World} {P:aB} {J:Array Oper} {h:Callee}
def bH (J:Array Oper) (a:aQ) (j:Nat):Option Bool:=
 match ((J[j]?).bind (·.dst)).bind (a[·]?) with
 | some (.bool b)=>some b
 | _=>none
def vy (P:aB) (J:Array Oper) (a:aQ) (H:AH) (j:Nat):Bool:=
 match J[j]? with
 | some o=> !(Region.wanted o (bH J a))||(match fF P (ev a) o H,o.dst with|some (v,_),some d=>decide (d<a.length)&&FV v (a.getD d undef)|_,_=>false)
 | none=>false
def oc (P:aB) (h:Callee) (J:Array Oper) (p:Nat×aA) (s:aQ×AH):Option (aQ×AH):=
 match J[p.1]? with
 | none=>none
 | some o=>
  if Region.wanted o (bH J s.1)=true then
   match kF P h (ev s.1) o s.2 with
   | some (v,a)=>if p.2.all (vy P J (bZ s.1 o.dst v) a)=true then some (bZ s.1 o.dst v,a) else none
   | none=>none
  else some (bZ s.1 o.dst undef,s.2)
def eE (P:aB) (h:Callee) (J:Array Oper):List (Nat×aA)->aQ×AH->Option (aQ×AH)
 | [],s=>some s
 | p::ps,s=>(oc P h J p s).bind (eE P h J ps)
theorem VR.EY (h:VR D u (.bool q)):u= .bool q:=by cases h;rfl
theorem zo {a:Act} (h:Tm D p a) (j:Nat):yielded J a.tmps j=bH J p j:=by
 unfold yielded bH;cases m:(J[j]?).bind (·.dst) with
 | none=>rfl
 | some d=>
  simp;cases f:p[d]? with
  | none=>
   have:a.tmps[d]? =none:=by rw [List.getElem?_eq_none_iff] at f;rw [Array.getElem?_eq_none_iff];have:=h.1;simp at this;omega
   rw [this]
  | some v=>
   have ⟨l,g,c⟩:=cd.get h f;have i:a.tmps[d]? =some l:=by simpa using g
   rw [i];split;rename_i b e;cases e;cases c.EY;rfl;rename_i k;split;rename_i b e;cases e;exact absurd (yH some c.bool) (k b);rfl
theorem ug {a:Act} (h:Tm D p a) (o:Oper):Region.wanted o (yielded J a.tmps)=Region.wanted o (bH J p):=by have:yielded J a.tmps=bH J p:=funext λj=>zo h j;rw [this]
theorem DG [hP:Small P] (F:da P h) (H:∀o∈J,kN o) {Q:Exit->Act->World->Prop}:∀(l:aA) (s c:aQ×AH) (D:au) (a:Act) (E:World),eE P h J (l.map λi=>(i,[])) s=some c->Rel D s.2 E->Tm D s.1 a->
  (∀(g:au) (m:Act) (f:World),Rel g c.2 f->Ext D s.2 E g c.2 f->Tm g c.1 m->m.defers=a.defers->Q .normal m f)->wpOps P J Q l a E:=by
 intro l;induction l with
 | nil=>intro s c D a E e j d k;simp only [xX,eE,xK] at e;subst e;exact k D a E j (Ext.refl _ _ _) d rfl
 | cons i l A=>
  intro s c D a E e j d k;simp only [yS,eE,zQ] at e;have ⟨s1,b,y⟩:=e;unfold oc at b;simp only at b;simp only [wpOps];cases z:J[i]? with
  | none=>simp_all
  | some o=>rw [z] at b;simp only at b ⊢;rw [ug d];have K:=H o (wN z);split at b;rename_i p;rw [zP p];refine .inl ?_;split at b;rename_i b1 X L;simp at b;subst b;refine ny F L j (Hx d K) λR f g M N C=>?_;refine A _ c g (a.put o.dst R) f y N (Tm.put (cd.mono C.mono d) o.dst M) λx n w q r t v=>?_;refine k x n w q (C.trans r) t (v.trans ?_);cases o.dst <;> rfl;cases b;rename_i p;rw [zO p];simp at b;subst b;refine A _ c D _ E y j (d.put o.dst VR.undef) λx n w q r t v=>?_;refine k x n w q r t (v.trans ?_);cases o.dst <;> rfl
end
section
variable {D:au} {H:AH} {E:World} {P:aB}
def cls (P:aB) (o:Oper):Nat:=
 match o.op with
 | .move _|.assign _|.pick ..|.build ..|.nilCheck _|.binOp ..|.unOp ..|.fieldAddr ..|.field ..|.indexAddr ..|.index ..|.extract .. =>0
 | .load ..|.lookup ..|.slice .. =>1
 | .convert _ d _=>match P.underlying d with|some (.slice _)=>3|_=>1
 | .alloc _|.box ..|.buildSlice ..|.makeSlice .. =>2
 | .call {callee:=.builtin b, ..}=>match b with|.append|.copy=>3|_=>1
 | _=>3
theorem p7 {i:Operand->aq} {o:Oper} {g:AH} (e:cls P o=0) (h:fF P i o H=some (u,g)):g=H/\∀G,fF P i o G=some (u,G):=by
 have ⟨p,l,t,pos,n,guard⟩:=o;cases l <;> (try (simp [cls] at e;done));all_goals simp only [fF] at h ⊢
 simp_all
 simp_all
 case pick c a b=>
  split at h
  simp_all
  cases h
 case convert s d x=>simp only [cls] at e;grind
 case call c=>
  have ⟨callee,args,q⟩:=c;cases callee with
  | value f=>simp_all
  | invoke r m=>simp_all
  | builtin b=>cases b <;> simp [cls] at e
 all_goals
  have ⟨v,j,k⟩:=map_some h;cases k;exact ⟨rfl,λG=>by rw [j];rfl⟩
theorem fK {o:AO} (h:H[a]? =some o) (ext:AH):(H++ext)[a]? =some o:=by grind
theorem qD (h:cV P t u H=some v) (ext:AH):cV P t u (H++ext)=some v:=by
 unfold cV at h ⊢;split at h;split at h
 grind
 cases h;cases h
theorem we {d c:fQ} (h:cK P t u d c H=some v) (ext:AH):cK P t u d c (H++ext)=some v:=by
 unfold cK at h ⊢;split at h;exact h;split at h;split at h;rename_i b;rw [zP b];split at h
 simp_all
 rename_i e;rw [zO e];split at h
 simp_all
 rename_i a;rw [zO a];split at h
 grind
 cases h;cases h;cases h;split at h;split at h;rename_i b;rw [zP b];split at h
 simp_all
 rename_i a;rw [zO a];split at h
 grind
 cases h;cases h;cases h;cases h
theorem wx (h:cY a b u H=some p) (ext:AH):cY a b u (H++ext)=some p:=by
 unfold cY at h ⊢;split at h;exact h;split at h
 simp_all
 rename_i c;rw [zO c];split at h
 grind
 cases h;exact h;cases h
theorem tT {ix:aq} (h:fO P t u ix q H=some v) (ext:AH):fO P t u ix q (H++ext)=some v:=by
 unfold fO at h ⊢;split at h;split at h
 grind
 cases h;cases h
theorem wR {d:aP} (h:jR P t d u H=some v) (ext:AH):jR P t d u (H++ext)=some v:=by unfold jR at h ⊢;split at h;split at h;split at h;rename_i a;simp only [wx a ext];exact h;cases h;cases h;cases h
theorem fw {n:Operand->aq} {o:Oper} {l:AH} (j:cls P o=1) (h:fF P n o H=some (u,l)):l=H/\∀ext,fF P n o (H++ext)=some (u,H++ext):=by
 have ⟨v,p,F,pos,q,guard⟩:=o;cases p <;> (try (simp [cls] at j;done));all_goals simp only [fF] at h ⊢
 case load t a=>have ⟨k,e,g⟩:=map_some h;cases g;exact ⟨rfl,λext=>by rw [qD e ext];rfl⟩
 case convert s d x=>
  simp only [cls] at j;unfold gH at h ⊢;split at h;have ⟨k,e,g⟩:=map_some h;cases g;exact ⟨rfl,λext=>by rw [wR e ext];rfl⟩;split at h
  simp_all
  unfold tM at h;split at h
  simp_all
  cases h;split at h;have ⟨k,e,g⟩:=map_some h
  simp_all
  cases h
 case slice t x A w C=>have ⟨k,e,g⟩:=map_some h;cases g;refine ⟨rfl,λext=>?_⟩;unfold pG at e ⊢;split at e;rename_i y;split at e;rw [e];rfl;rw [we e ext];rfl;rw [e];rfl
 case lookup t x i D=>have ⟨k,e,g⟩:=map_some h;cases g;exact ⟨rfl,λext=>by rw [tT e ext];rfl⟩
 case call c=>
  have ⟨callee,args,E⟩:=c;cases callee with
  | value f=>simp_all
  | invoke r m=>simp_all
  | builtin b=>
   simp only [cls] at j;simp at h ⊢;unfold qF at h ⊢;split at h;simp at j;simp at j;split at h;split at h
   simp_all
   cases h;split at h
   simp_all
   cases h;split at h
   grind
   cases h;cases h;split at h;rename_i z;split at h;split at h
   simp_all
   cases h;cases h;cases h
def zk (D:au) (s:Sem aq) (P:aB) (mk:Nat->aq) (b:aQ) (sz:Nat):Prop:=
 ∀E:World,∃(C:Array aq) (c:aP) (e:aq),s.run P E= .ok e {E with heap:=E.heap.push (.cells C c (0,0))}/\b.length<=C.size/\(∀(j:Nat) (a v:aq),b[j]? =some a->C[j]? =some v->VR D a v)/\(∀a∈b,one a)/\s6 sz b C.size c/\
  ∀(f:au) (d:Nat),f d=some ⟨E.heap.size,C.size,sz⟩->VR f (mk d) e
theorem tQ (sz:Nat) (h:u.cells.toList.all one) (k:s6 sz u.cells.toList u.cells.toList.length t) (f:VR D u v):zk D (do pure (.pointer (some (<-newVar t v)))) P (λc=>.pointer (some ⟨c,0,none⟩)) u.cells.toList sz:=by intro E;have b:=f.cells;have i:=b.1;exact ⟨v.cells,t,.pointer (some ⟨E.heap.size,0,none⟩),by simp [newVar,newRow],by simp_all,λj a g d l=>b.2 j a g d (by grind),by grind,(by simp_all),λm c e=>.ptr e⟩
theorem F9 [R:Small P] {t:aP} {b:Nat} {ps e:Array (Nat×aq)} {v:aq} {l:AH} (h:fN P t b ps.toList H=some (v,l)) (s:ps.toList.map (·.1)=e.toList.map (·.1)) (w:cd D (ps.toList.map (·.2)) (e.toList.map (·.2))):
  ∃d sz,v= .slice (some ⟨H.length,0,none⟩) b (eS b)/\l=H++[.row d sz (some 0)]/\(∀G:AH,fN P t b ps.toList G=some (.slice (some ⟨G.length,0,none⟩) b (eS b),G++[.row d sz (some 0)]))/\
   zk D (Instr.buildSlice t b e) P (λo=>.slice (some ⟨o,0,none⟩) b (eS b)) d sz:=by
 have c:=h;unfold fN at h;split at h;rename_i r L;split at h;rename_i i n;split at h;rename_i z M;split at h;rename_i g;have ⟨g,hl,c2,K⟩:=g;split at h;rename_i d A;split at h;rename_i y;have ⟨X,b1⟩:=y;cases h;have N:cd D ((Array.range (b*i.size)).map (z.cells[· %z.cells.size]!)).toList ((Array.range (b*i.size)).map (z.cells[· %z.cells.size]!)).toList:=by
  refine cd.bq λa f=>?_;simp at f;obtain ⟨j,C,rfl⟩:=f;have b6:j<b*i.size:=by simpa using C
  have J:0<z.cells.size:=by
   rcases Nat.eq_zero_or_pos z.cells.size with c|c
   grind
   exact c
  have F:=Nat.mod_lt j J;rw [getElem!_pos z.cells _ F];simp only [zT] at g;exact g _ Z
 have ⟨k,p,q⟩:=lU ps.toList e.toList _ _ d A s w N;have b2:k.size=d.size:=by have:=q.1;simp at this;omega
 refine ⟨d.toList,i.size,rfl,rfl,λG=>?_,λE=>⟨k,r,.slice (some ⟨E.heap.size,0,none⟩) b b,?_,W,λj a v f hv=>q.2 j a v f (by grind),by grind,(.small (K)),λc3 o x=>?_⟩⟩;unfold fN
 simp_all
 simp only [Instr.buildSlice,Sem.run_bind,run_underlying L,aV n,Result.andThen_ok];rw [zO O];by_cases c:b*i.size=0;have m:Instr.fill (λj=>some (j*i.size,i.size)) ((Array.range (b*i.size)).map ((#[]:Array aq)[· %(#[]:Array aq).size]!)) e.toList=some k:=by rw [<-p];congr 1;rw [c];apply Array.ext <;> simp
 simp only [c,if_true,Sem.run_bind,Sem.run_pure,Result.andThen_ok];rw [c] at m;rw [m];simp [newRow];simp only [c,if_false,Sem.run_bind,dq n M,Sem.run_pure,Result.andThen_ok];rw [p];simp [newRow];unfold eS;split;rename_i c;subst c;exact .pJ;exact .sl x (zC _) W;cases h;cases h;cases h;cases h;cases h;cases h
theorem B7 [hP:Small P] {t:aP} {l i x o v:aq} {m:AH} (h:iz P t l i H=some (v,m)) (L:VR D l x) (J:VR D i o):
  ∃n j sz,v= .slice (some ⟨H.length,0,none⟩) n 1/\m=H++[.row j sz (some 0)]/\(∀G:AH,iz P t l i G=some (.slice (some ⟨G.length,0,none⟩) n 1,G++[.row j sz (some 0)]))/\
   zk D (Instr.makeSlice t x o) P (λw=>.slice (some ⟨w,0,none⟩) n 1) j sz:=by
 unfold iz at h;split at h;rename_i A c3 c4 k' b2 N;cases L.int;cases J.int;split at h;rename_i e k;split at h;rename_i z X;split at h;rename_i K;obtain ⟨c,s,rfl,F,b6,q,M⟩:=K;cases h;obtain ⟨n,rfl⟩:=yE F;have R:i64.wrap (n:Int)=n:=by exact IntWalk.i64_in _ O
 have c2:cd D (List.replicate n z.cells.toList).flatten (List.replicate n z.cells.toList).flatten:=by refine cd.bq λa b=>?_;simp at b;obtain ⟨_,⟨_,rfl⟩,b⟩:=b;simp only [zT] at c;exact c a b
 let C:Array aq:=(Array.range (n*e.size)).map (z.cells[· %z.cells.size]!)
 refine ⟨n,(List.replicate n z.cells.toList).flatten,e.size,rfl,rfl,λG=>?_,λE=>⟨C,A,.slice (some ⟨E.heap.size,0,none⟩) n n,?_,by simp [C,s],(λb1 a y b d=>by
  have ⟨f,p⟩:=oP _ _ _ _ b;have r:b1%z.cells.size<z.cells.size:=by simpa using ab f
  have:y=a:=by simp only [C,Array.getElem?_map] at d;rw [Array.getElem?_range] at d;simp only [xS,s] at p;rw [zP p] at d;simp at d;rw [getElem!_pos z.cells _ r] at d;rw [<-d];simp at f;simp [r] at f;exact f
  subst this;simp only [zT] at c;exact .sc (c y (zI f))),(λa b=>by simp at b;obtain ⟨_,⟨_,rfl⟩,b⟩:=b;simp only [zT] at c;exact fT (c a b)),(.small (M)),λc5 w q=>?_⟩⟩
 unfold iz
 simp_all
 simp only [Instr.makeSlice,Sem.run_bind,run_underlying N,asInt,asIntOf,Sem.run_pure,Result.andThen_ok,jJ k,R];rw [zO W];simp only [Sem.run_bind,run_askRoom,aV k,Result.andThen_ok,yV];by_cases g:n*e.size=0;have:C= #[]:=by show (Array.range (n*e.size)).map _=_;rw [g,rA];simp
 rw [zP g,this];simp only [g];simp [newRow,rA];rw [zO g];simp only [Sem.run_bind,dq k X,Sem.run_pure,Result.andThen_ok];simp [newRow,C];exact .sl q (zC _) (by simp [C]);cases h;cases h;cases h;cases h
theorem wg {ps:List (Nat×aq)} {c:AH} (h:fN P t a ps H=some (u,c)):
  ∃b sz,u= .slice (some ⟨H.length,0,none⟩) a (eS a)/\c=H++[.row b sz (some 0)]/\(∀G:AH,fN P t a ps G=some (.slice (some ⟨G.length,0,none⟩) a (eS a),G++[.row b sz (some 0)])):=by
 unfold fN at h;split at h;rename_i d k;split at h;rename_i i g;split at h;rename_i z l;split at h;rename_i j;split at h;rename_i b f;split at h;rename_i e;cases h;refine ⟨_,_,rfl,rfl,λG=>?_⟩;unfold fN
 grind
 cases h;cases h;cases h;cases h;cases h;cases h
theorem tR {a:AH} (h:iz P t u v H=some (w,a)):
  ∃n b sz,w= .slice (some ⟨H.length,0,none⟩) n 1/\a=H++[.row b sz (some 0)]/\(∀G:AH,iz P t u v G=some (.slice (some ⟨G.length,0,none⟩) n 1,G++[.row b sz (some 0)])):=by
 unfold iz at h;split at h;rename_i d k l m c i;split at h;rename_i e g;split at h;rename_i z j;split at h;rename_i f;cases h;refine ⟨_,_,_,rfl,rfl,λG=>?_⟩;unfold iz
 grind
 cases h;cases h;cases h;cases h
theorem VP {b:aQ} {sz:Nat} (h:H++[AO.row p sz (some 0)]=H++[AO.row b a (some 0)]):p=b/\sz=a:=by simp_all
theorem fy {k:Operand->aq} {o:Oper} {r:AH} (q:cls P o=2) (h:fF P k o H=some (u,r)):
  ∃mk f sz,u=mk H.length/\r=H++[.row f sz (some 0)]/\(∀G:AH,fF P k o G=some (mk G.length,G++[.row f sz (some 0)]))/\
   ∀[Small P] (D:au) (j:Operand->aq),(∀x∈o.op.operands,VR D (k x) (j x))->∃s:Sem aq,execOp j o=(do pure (.value (<-s)))/\zk D s P mk f sz:=by
 have ⟨c3,K,c8,pos,b6,guard⟩:=o;cases K <;> (try (simp [cls] at q;done));all_goals simp only [fF] at h ⊢
 case alloc e=>unfold mQ at h ⊢;split at h;rename_i c5 t;split at h;rename_i b2 v;split at h;rename_i d;cases h;refine ⟨λg=>.pointer (some ⟨g,0,none⟩),b2.cells.toList,bc P e,rfl,rfl,λG=>by simp only [d,if_true];rfl,λD j _=>⟨_,rfl,?_⟩⟩;rcases oT d with ⟨xs,rfl⟩|J;simp [Value.cells,ak] at d;have:=tQ (P:=P) (bc P e) (by simp at d ⊢;exact λa z=>fT (d a z)) (mk_zero t v d) J;intro E;obtain ⟨C,y,v',N,R⟩:=this E;exact ⟨C,y,v',by simpa [Instr.alloc,dq t v] using N,R⟩;cases h;cases h;cases h
 case box e x=>unfold py at h ⊢;split at h;rename_i d;cases h;refine ⟨λg=>.pointer (some ⟨g,0,none⟩),(k x).cells.toList,bc P e,rfl,rfl,λG=>by rw [zP d];rfl,λD j i=>⟨_,rfl,?_⟩⟩;exact tQ (bc P e) d.1 (Ed d.2) (i x (by simp [Op.operands]));cases h
 case buildSlice b1 n ps=>
  have ⟨f,sz,d,m,p⟩:=wg h;refine ⟨λg=>.slice (some ⟨g,0,none⟩) n (eS n),f,sz,d,m,p,λD j i=>⟨_,rfl,?_⟩⟩;obtain ⟨L,M⟩:=cd.parts (λx F=>i x (by simpa [Op.operands] using F));have ⟨w,X,_,e,_,A⟩:=F9 h L M
  simp_all
 case makeSlice b1 l c=>
  have ⟨n,f,sz,d,m,p⟩:=tR h;refine ⟨λg=>.slice (some ⟨g,0,none⟩) n 1,f,sz,d,m,p,λD j i=>⟨_,rfl,?_⟩⟩;have ⟨n',w,X,e0,e,_,A⟩:=B7 h (i l (by simp [Op.operands])) (i c (by simp [Op.operands]))
  simp_all
 case convert s c2 x=>simp only [cls] at q;grind
 case call c=>
  have ⟨callee,args,ts⟩:=c;cases callee with
  | value c4=>simp_all
  | invoke c7 c6=>simp_all
  | builtin b=>cases b <;> simp [cls] at q
end
def KS (a:aA) (o:Oper):Nat:=o.after.toList.foldl (λs e=>if Region.binds .any e=true then s||| 2^e.on||| a.getD e.on 0 else s) 0
def eK:List Oper->aA->aA
 | [],a=>a
 | o::b,a=>eK b (a++[KS a o])
theorem AJ (a:aA):∀(l:List Edge) (s i:Nat),(l.foldl (λs e=>if Region.binds .any e=true then s||| 2^e.on||| a.getD e.on 0 else s) s).testBit i=true->
  s.testBit i=true\/∃e∈l,Region.binds .any e/\(i=e.on\/(a.getD e.on 0).testBit i):=by
 intro l;induction l with
 | nil=>simp_all
 | cons e l b=>
  intro s i h;rw [List.foldl_cons] at h;rcases b _ i h with h|⟨c,d,f⟩;split at h;rename_i g;simp at h;rcases h with (h|h)|h;exact .inl h
  grind
  simp_all
  exact .inl h
  grind
theorem AI (b:aA):∀(l:List Edge) (s i:Nat),(s.testBit i=true\/∃e∈l,Region.binds .any e/\i=e.on)->(l.foldl (λs e=>if Region.binds .any e=true then s||| 2^e.on||| b.getD e.on 0 else s) s).testBit i=true:=by
 intro l;induction l with
 | nil=>intro s i h;rcases h with h|⟨e,h,_⟩;exact h;cases h
 | cons e l c=>
  intro s i h;rw [List.foldl_cons];apply c _ i;rcases h with h|⟨d,a,f,rfl⟩;left;split;simp [h];exact h;rcases yL.1 a with rfl|a
  simp_all
  grind
theorem oA (S:Nat->Prop) (d:List Oper) (x:∀(j:Nat) (o:Oper),d[j]? =some o->S j->∀e∈o.after.toList,Region.binds .any e->S e.on):
  ∀(c:List Oper) (a:aA),(∀(j:Nat) (o:Oper),c[j]? =some o->d[a.length+j]? =some o)->
   (∀(j m:Nat) (o:Oper),a[j]? =some m->d[j]? =some o->(∀i,m.testBit i->(∀e∈o.after.toList,Region.binds .any e->S e.on)->S i)/\(∀e∈o.after.toList,Region.binds .any e->m.testBit e.on))->
   ∀(j m:Nat) (o:Oper),(eK c a)[j]? =some m->d[j]? =some o->(∀i,m.testBit i->(∀e∈o.after.toList,Region.binds .any e->S e.on)->S i)/\(∀e∈o.after.toList,Region.binds .any e->m.testBit e.on):=by
 intro c;induction c with
 | nil=>intro a _ h j m o b f;exact h j m o b f
 | cons o c v=>
  intro a g y;rw [eK];refine v _ (λj p b=>?_) (λj m p b n=>?_);have:=g (j+1) p (by grind)
  grind
  rcases zZ j a.length with A|r
  grind
  rw [zH r] at b;have:=ab b;simp at this;have t:j=a.length:=O;subst t;have f:=g 0 o rfl;rw [Nat.add_zero] at f;rw [f] at n;cases n;simp at b;subst b;refine ⟨λi s z=>?_,λe l k=>AI a _ 0 _ (.inr ⟨e,l,k,rfl⟩)⟩;rcases AJ a _ 0 i s with q|⟨e,l,k,rfl|w⟩;simp at q
  grind
  grind
def yz (M:aA) (i j:Nat):Bool:=(M.getD j 0).testBit i
section
variable {D:au} {H:AH} {E:World} {P:aB} {J:Array Oper}
def mF (P:aB) (J:Array Oper) (M:aA) (p q:Nat×aA):Bool:=
 match J[p.1]?,J[q.1]? with
 | some a,some b=>
  p.1 != q.1&& !yz M q.1 p.1&&
  (match a.dst with|some d=>b.dst != some d&&(!(b.looksAt J).contains d||yz M p.1 q.1)|none=>true)&&
  (match b.dst with|some d=> !(a.looksAt J).contains d||(yz M p.1 q.1&&cls P a != 1)|none=>true)&&
  (cls P a != 3||cls P b==0||yz M p.1 q.1)&&
  (cls P a != 1||cls P b != 3||yz M p.1 q.1||q.2.contains p.1)
 | _,_=>false
def nD (P:aB) (J:Array Oper) (M:aA):List (Nat×aA)->Bool
 | []=>true
 | p::ps=>ps.all (mF P J M p)&&nD P J M ps
def rH (J:Array Oper) (p:Nat×aA):Bool:=
 match J[p.1]? with
 | some a=>kN a&&(match a.dst with|some d=> !(a.looksAt J).contains d|none=>true)&&a.after.toList.all λe=>decide (e.on<J.size)&&e.on != p.1
 | none=>false
def rI (P:aB) (J:Array Oper) (a:List (Nat×aA)):Bool:=
 a.length==J.size&&((List.range J.size).all λi=>a.any λp=>p.1==i)&&a.all (rH J)&&nD P J (eK J.toList []) a
theorem sW {M:aA}:∀(l:List (Nat×aA)),nD P J M l->∀(m a:Nat) (p b:Nat×aA),m<a->l[m]? =some p->l[a]? =some b->mF P J M p b:=by
 intro l;induction l with
 | nil=>simp_all
 | cons x l f=>
  intro h m a p b e c d;simp only [nD,zN,zT] at h
  grind
theorem p6 {c:Callee}:∀(a:List (Nat×aA)) (s b:aQ×AH),eE P c J a s=some b->∃st:Nat->aQ×AH,st 0=s/\st a.length=b/\∀m p,a[m]? =some p->oc P c J p (st m)=some (st (m+1)):=by
 intro a;induction a with
 | nil=>intro s b h;cases h;exact ⟨λ_=>s,rfl,rfl,λm p h=>by simp at h⟩
 | cons x a e=>
  intro s b h;simp only [eE,zQ] at h;have ⟨f,j,d⟩:=h;have ⟨st,g,i,e3⟩:=e f b d;refine ⟨λm=>match m with|0=>s|m+1=>st m,rfl,O,λm p k=>?_⟩
  grind
theorem B5 {d e:Operand->aq} (o:Oper) (h:∀x∈o.op.operands,d x=e x) (H:AH):fF P d o H=fF P e o H:=by
 have ⟨q,l,y,pos,m,guard⟩:=o;have f:∀ps:Array (Nat×Operand),(∀x∈ps.map (·.2),d x=e x)->
   (ps.map λ(i,x)=>(i,d x))=(ps.map λ(i,x)=>(i,e x)):=λps v=>
  Array.map_congr_left λp s=>by grind
 cases l <;> simp only [Op.operands] at h <;> simp only [fF]
 case build t ps=>rw [f ps λx a=>h x (Zs a)]
 case buildSlice t n ps=>rw [f ps λx a=>h x (Zs a)]
 case call c=>
  have ⟨callee,args,w⟩:=c;cases callee with
  | builtin b=>
   have:args.map d=args.map e:=Array.map_congr_left λx a=>h x (by simp [Call.operands,a])
   grind
  | _=>rfl
 case slice t x j g k=>cases j <;> cases g <;> cases k <;> simp_all
 case makeMap t r=>grind
 all_goals (first|rfl|(simp_all;done))
theorem Rel.Fi (h:Rel D H E) {sz:Nat} (hn:D a=none) (ho:H[a]? =some (.row p sz (some 0))) (C:Array aq) (g:aP) (R:p.length<=C.size) (hv:∀(j:Nat) (f v:aq),p[j]? =some f->C[j]? =some v->VR D f v) (h1:∀f∈p,one f) (b1:s6 sz p C.size g):
  Rel (D.put a ⟨E.heap.size,C.size,sz⟩) H {E with heap:=E.heap.push (.cells C g (0,0))}:=by
 have hm:=au.fZ hn ⟨E.heap.size,C.size,sz⟩;have k:∀i B,i≠a->D.put a ⟨E.heap.size,C.size,sz⟩ i=some B->D i=some B:=by intro i B d2 c;simpa [au.put,d2] using c
 have N:∀b,b<E.heap.size->(E.heap.push (Obj.cells C g (0,0)))[b]? =E.heap[b]? :=by intro b c;rw [xY,zO O]
 have d3:∀b l,dJ E b=some l->dJ {E with heap:=E.heap.push (.cells C g (0,0))} b=some l:=by
  intro b l c;unfold dJ at c ⊢;have X:b<E.heap.size:=by
   rcases zZ b E.heap.size with s|s;exact s
   simp_all
  show (match (E.heap.push (Obj.cells C g (0,0)))[b]? with|some (.cells _ g _)=>some g|_=>none)=_;rw [N b X];exact c
 refine ⟨⟨?_,?_,?_,?_⟩,?_,?_⟩;intro i c6 F ro B n q;by_cases z:i=a;subst z;rw [ho] at n;cases n;rw [au.aC] at q;cases q;exact ⟨rfl,λ_=>h1,R,C,g,(0,0),Z,rfl,λj f v M b6 _=>(hv j f v M b6).mono hm,λ_ j _=>tC j⟩;have x:=k i B z q;obtain ⟨q1,q2,q3,r,l,c8,r1,r2,r3,r4⟩:=h.rows i c6 F ro B n x;exact ⟨q1,q2,q3,r,l,c8,(N _ (h.blt n x Z)).trans r1,r2,λj f v M b6 A=>(r3 j f v M b6 A).mono hm,r4⟩;intro i es cl B n q;by_cases z:i=a
 simp_all
 have x:=k i B z q;obtain ⟨q1,q2⟩:=h.maps i es cl B n x
 grind
 intro i j o o' B B' P A c y b2 hd d1;by_cases d:i=a <;> by_cases K:j=a;omega;subst d;rw [au.aC] at c;cases c;have:=h.blt A (k j _ K y) hd
 simp_all
 subst K;rw [au.aC] at y;cases y;have:=h.blt P (k i _ d c) (by rintro rfl;cases b2)
 simp_all
 exact h.inj i j o o' B B' P A (k i _ d c) (k j _ K y) b2 hd d1;intro i B c;by_cases d:i=a
 grind
 exact h.lt i B (k i B d c);have R:=h.fx.pos;obtain ⟨⟨c7,c9,h0⟩,k1⟩:=h.fx;refine ⟨⟨c7,c9,(N 0 R).trans h0⟩,λi o B P c b2 e=>?_⟩;by_cases d:i=a;subst d;rw [au.aC] at c;grind
 grind
 intro i J F c3 B l o c5 t m w;by_cases d:i=a;subst d;rw [ho] at t;cases t;rw [au.aC] at m;cases m;refine ⟨by rw [<-(b1 _ _ _ w).1];simp [dJ],(b1 _ _ _ w).2.1,λc4 c2 _ L h6 _=>absurd ((b1 _ _ _ w).2.2 c4 c2 L) h6⟩;have m:=k i B d m;obtain ⟨r1,r0,r2⟩:=h.bu i J F c3 B l o c5 t m w;refine ⟨d3 _ _ r1,r0,λc4 c2 B' L h6 h7=>?_⟩;obtain ⟨_,_,p3,r,_,_,_,p4,p5,_⟩:=h.rows i J F c3 B t m;have X:o+1<r.size:=by
  rcases zZ (o+1) J.length with s|s;omega
  simp_all
 obtain ⟨_,⟨e,_⟩|⟨e,_⟩|⟨_,B2,_,h8,_⟩⟩:=(p5 (o+1) _ r[o+1] L (yK X) (λe=>by cases e)).ew;omega;omega
 simp_all
theorem Ext.Fi {j:au} {d:AH} {g:World} (h:Ext j d g D H E) (r:D a=none) (hid:d.length<=a) (ob:Obj) (n sz:Nat):
  Ext j d g (D.put a ⟨E.heap.size,n,sz⟩) H {E with heap:=E.heap.push ob}:={
 os:=h.os
 tape:=h.tape
 output:=h.output
 mono:=λi B c=>au.fZ r _ i B (h.mono i B c)
 fix:=λi e l=>by
  obtain ⟨t,m⟩:=h.fix i e l;refine ⟨?_,m⟩;unfold au.put
  grind
 len:=h.len
 size:=yI h.size Z
 frame:=λb c p=>by show (E.heap.push ob)[b]? =_;rw [xY,zO (Zo h.size)];exact h.frame b c p
 ro:=h.ro
 fresh:=λi o B e c s q=>by
  by_cases f:i=a;subst f;rw [au.aC] at c;cases c;have:=h.size
  grind
  exact h.fresh i o B e (by simpa [au.put,f] using c) s q
 Ik:=λb k c=>by
  have c:=h.Ik b k c;unfold dJ at c ⊢
  grind}
theorem Rel.more (h:Rel D H E) (ext:AH):Rel D (H++ext) E:=by
 have c:∀(i:Nat) (o:AO) (B:gI),(H++ext)[i]? =some o->D i=some B->H[i]? =some o:=by intro i o B b a;rwa [zD (h.lt i B a)] at b
 refine ⟨⟨λi g sz d B b a=>h.rows i g sz d B (c i _ B b a) a,λi m cl B b a=>h.maps i m cl B (c i _ B b a) a,?_,λi B a=>?_⟩,⟨h.fx.1,λi o B b a=>h.fx.2 i o B (c i _ B b a) a⟩,λi k sz d B l o N b a=>h.bu i k sz d B l o N (c i _ B b a) a⟩;intro i j o s B e b q a f r n p;exact h.inj i j o s B e (c i _ B b a) (c j _ e q f) a f r n p;have:=h.lt i B a;simp;omega
theorem Ext.more {f:au} {c:AH} {e:World} (h:Ext f c e D H E) (k:Rel D H E) (ext:AH):Ext f c e D (H++ext) E:={
 os:=h.os
 tape:=h.tape
 output:=h.output
 mono:=h.mono
 fix:=λi a g=>by
  obtain ⟨l,m⟩:=h.fix i a g
  grind
 len:=yI h.len Z
 size:=h.size
 frame:=h.frame
 ro:=λi o a b=>fK (h.ro i o a b) ext
 fresh:=λi o B a d b j=>by rw [zD (k.lt i B d)] at a;exact h.fresh i o B a d b j
 Ik:=h.Ik}
end
structure Inv (P:aB) (ops:Array Oper) (plan:List (Nat×aA)) (st:Nat->aQ×AH) (β0:au) (w0:World) (s9:List Deferred) (S:Nat->Prop) (a:Act) (w:World) (β:au) (q:Nat):Prop where
 le:q<=plan.length
 LO:∀(m:Nat) (p:Nat×aA) (o:Oper),plan[m]? =some p->ops[p.1]? =some o->cls P o=3->(S p.1↔m<q)
 stop:q<plan.length->∃(p:Nat×aA) (o:Oper),plan[q]? =some p/\ops[p.1]? =some o/\cls P o=3
 rel:Rel β (st q).2 w
 ext:Ext β0 (st 0).2 w0 β (st q).2 w
 len:a.tmps.size=(st 0).1.length
 Y7:∀(m:Nat) (p:Nat×aA) (o:Oper) (t:Nat),plan[m]? =some p->ops[p.1]? =some o->o.dst=some t->S p.1->VR β ((st plan.length).1.getD t undef) (a.tmps.getD t undef)
 Gd:∀(t:Nat),(∀(m:Nat) (p:Nat×aA) (o:Oper),plan[m]? =some p->ops[p.1]? =some o->o.dst=some t->¬S p.1)->VR β ((st 0).1.getD t undef) (a.tmps.getD t undef)
 DH:∀(m:Nat) (p:Nat×aA) (o:Oper),m<q->plan[m]? =some p->ops[p.1]? =some o->cls P o=2->¬S p.1->Region.wanted o (bH ops (st m).1)->β (st m).2.length=none/\(st q).2[(st m).2.length]? =(st (m+1)).2[(st m).2.length]?
 rd:∀(m:Nat) (p:Nat×aA) (o:Oper) (v:aq),m<q->plan[m]? =some p->ops[p.1]? =some o->cls P o=1->¬S p.1->Region.wanted o (bH ops (st m).1)->fF P (ev (st m).1) o (st m).2=some (v,(st m).2)->fF P (ev (st m).1) o (st q).2=some (v,(st q).2)
 mono:∀(m m':Nat),m<=m'->m'<=q->(st m).2.length<=(st m').2.length
 s9:a.defers=s9
section
variable {P:aB} {J:Array Oper} {D:List (Nat×aA)} {st:Nat->aQ×AH} {h:Callee}
structure cf (P:aB) (call:Callee) (ops:Array Oper) (plan:List (Nat×aA)) (st:Nat->aQ×AH):Prop where
 len:plan.length=ops.size
 Kg:∀(i:Nat),i<ops.size->∃(m:Nat) (p:Nat×aA),plan[m]? =some p/\p.1=i
 self:∀(m:Nat) (p:Nat×aA),plan[m]? =some p->rH ops p
 pair:∀(m m':Nat) (p p':Nat×aA),m<m'->plan[m]? =some p->plan[m']? =some p'->mF P ops (eK ops.toList []) p p'
 step:∀(m:Nat) (p:Nat×aA),plan[m]? =some p->oc P call ops p (st m)=some (st (m+1))
theorem cf.of {s b:aQ×AH} (c:rI P J D) (o:eE P h J D s=some b):∃st:Nat->aQ×AH,st 0=s/\st D.length=b/\cf P h J D st:=by obtain ⟨st,d,e,f⟩:=p6 D s b o;simp only [rI,zN,beq_iff_eq,zT,List.any_eq_true,wE] at c;obtain ⟨⟨⟨q,r⟩,t⟩,v⟩:=c;refine ⟨st,d,e,q,λi j=>?_,λm p a=>t p (zI a),λm w p x k a n=>sW D v m w p x k a n,f⟩;obtain ⟨p,a,g⟩:=r i j;obtain ⟨m,l,rfl⟩:=yA a;exact ⟨m,_,zA l,g⟩
theorem getD_set_ne (h:a≠b):(p.set a u).getD b undef=p.getD b undef:=by simp_all
theorem cU (b:aQ) (a:Option Tmp) (v:aq):(bZ b a v).length=b.length:=by cases a <;> simp [bZ]
theorem wm {b:Option Tmp} (h:b≠some a):(bZ p b u).getD a undef=p.getD a undef:=by
 cases b with
 | none=>rfl
 | some d=>exact getD_set_ne (λe=>h (Zr e))
namespace cf
variable (E:cf P h J D st)
include E
theorem oper {p:Nat×aA} (b:D[a]? =some p):∃o,J[p.1]? =some o:=by
 have:=E.self a p b;unfold rH at this;split at this
 simp_all
 cases this
theorem rS {p:Nat×aA} {o:Oper} (d:D[a]? =some p) (c:J[p.1]? =some o):
  (Region.wanted o (bH J (st a).1)=true/\∃v,kF P h (ev (st a).1) o (st a).2=some (v,(st (a+1)).2)/\(st (a+1)).1=bZ (st a).1 o.dst v/\p.2.all (vy P J (st (a+1)).1 (st (a+1)).2))\/
  (Region.wanted o (bH J (st a).1)=false/\(st (a+1)).2=(st a).2/\(st (a+1)).1=bZ (st a).1 o.dst undef):=by
 have b:=E.step a p d;unfold oc at b;rw [c] at b;simp only at b;split at b;rename_i g;split at b;rename_i v e f;split at b
 grind
 cases b;cases b
 grind
theorem put {m:Nat} {p:Nat×aA} {o:Oper} (b:D[m]? =some p) (a:J[p.1]? =some o):∃v,(st (m+1)).1=bZ (st m).1 o.dst v:=by
 rcases E.rS b a with ⟨_,v,_,h,_⟩|⟨_,_,h⟩
 grind
 grind
theorem length (e:a<=D.length):(st a).1.length=(st 0).1.length:=by
 induction a with
 | zero=>rfl
 | succ a f=>have b:=zA (show a<D.length by omega);have ⟨o,c⟩:=E.oper b;have ⟨v,d⟩:=E.put b c;rw [d,cU];omega
theorem aM {m:Nat}:∀(k:Nat),m+k<=D.length->(∀(c:Nat) (p:Nat×aA) (o:Oper),m<=c->c<m+k->D[c]? =some p->J[p.1]? =some o->o.dst≠some a)->(st (m+k)).1.getD a undef=(st m).1.getD a undef:=by
 intro k;induction k with
 | zero=>grind
 | succ k g=>
  intro f h;have b:=zA (show m+k<D.length by omega);have ⟨o,d⟩:=E.oper b;have ⟨v,e⟩:=E.put b d;rw [show m+(k+1)=m+k+1 by omega,e,wm (h (m+k) _ o O O b d)]
  grind
theorem once {p d:Nat×aA} {o g:Oper} (e:D[a]? =some p) (k:J[p.1]? =some o) (i:o.dst=some c) (f:D[b]? =some d) (l:J[d.1]? =some g) (j:g.dst=some c):a=b:=by
 rcases xQ a b with h|h|h;have:=E.pair a b p d h e f;unfold mF at this
 simp_all
 exact h;have:=E.pair b a d p h f e;unfold mF at this
 simp_all
theorem final {p:Nat×aA} {o:Oper} (i:D[a]? =some p) (h:J[p.1]? =some o) (g:o.dst=some b) (q:a<c) (r:c<=D.length):(st c).1.getD b undef=(st D.length).1.getD b undef:=by
 have s:∀n,a<n->n<=D.length->(st n).1.getD b undef=(st (a+1)).1.getD b undef:=by
  intro n j k;have:=E.aM (m:=a+1) (n-(a+1)) O λt w v l m d e f=>by have:=E.once i h g d e f;omega
  rwa [show a+1+(n-(a+1))=n by omega] at this
 grind
end cf
end
section
variable {P:aB} {J:Array Oper} {D:List (Nat×aA)} {st:Nat->aQ×AH} {h:Callee}
theorem rL:∀(a:List Oper) (b:aA),(eK a b).length=b.length+a.length:=by
 intro a;induction a with
 | nil=>intro b;simp [eK]
 | cons o a c=>intro b;rw [eK,c];simp;omega
def jT (J:Array Oper) (S:Nat->Prop):Prop:=∀(j:Nat) (o:Oper),J[j]? =some o->S j->∀e∈o.after.toList,Region.binds .any e->S e.on
theorem ym {o:Oper} (c:J[a]? =some o):∃m,(eK J.toList [])[a]? =some m/\∀i,yz (eK J.toList []) i a=m.testBit i:=by
 have b:a<(eK J.toList []).length:=by rw [rL];have:a<J.toList.length:=ab (Zs c);simpa using this
 exact ⟨_,zA b,λi=>by simp [yz,zG,zA b]⟩
theorem rW {S:Nat->Prop} (f:jT J S) {o:Oper} (g:J[a]? =some o) (i:∀e∈o.after.toList,Region.binds .any e->S e.on) (h:yz (eK J.toList []) b a):S b:=by have ⟨m,c,d⟩:=ym g;rw [d] at h;exact (oA S J.toList (λa o j=>f a o (by grind)) J.toList [] (λa o h=>by grind) (λa m o h=>by simp at h) a m o c (by grind)).1 b h i
theorem Ey {o:Oper} (g:J[a]? =some o) {e:Edge} (f:e∈o.after.toList) (d:Region.binds .any e):yz (eK J.toList []) e.on a:=by have ⟨m,b,c⟩:=ym g;rw [c];exact (oA (λ_=>True) J.toList (λ_ _ _ _ _ _ _=>trivial) J.toList [] (λa o h=>by grind) (λa m o h=>by simp at h) a m o b (by grind)).2 e f d
structure Nb (P:aB) (ops:Array Oper) (p p':Nat×aA) (a b:Oper):Prop where
 ne:p.1≠p'.1
 not:yz (eK ops.toList []) p'.1 p.1=false
 out:∀d,a.dst=some d->d∈b.looksAt ops->yz (eK ops.toList []) p.1 p'.1
 inn:∀d,b.dst=some d->d∈a.looksAt ops->yz (eK ops.toList []) p.1 p'.1/\cls P a≠1
 act:cls P a=3->cls P b≠0->yz (eK ops.toList []) p.1 p'.1
 NH:cls P a=1->cls P b=3->yz (eK ops.toList []) p.1 p'.1\/p.1∈p'.2
theorem cf.mW (g:cf P h J D st) {p e:Nat×aA} {k l:Oper} (w:a<b) (x:D[a]? =some p) (y:D[b]? =some e) (s:J[p.1]? =some k) (t:J[e.1]? =some l):Nb P J p e k l:=by
 have c:=g.pair a b p e w x y;unfold mF at c;rw [s,t] at c;simp only [zN,bne_iff_ne,ne_eq,xG,Bool.or_eq_true,beq_iff_eq] at c;obtain ⟨⟨⟨⟨⟨n,o⟩,f⟩,i⟩,q⟩,r⟩:=c;refine ⟨n,o,λd j v=>?_,λd j v=>?_,λc1 m=>?_,λc1 m=>?_⟩;rw [j] at f;simp only [zN,Bool.or_eq_true,xG] at f;rcases f.2 with c|c
 simp_all
 exact c;rw [j] at i;simp only [zN,Bool.or_eq_true,xG,bne_iff_ne,ne_eq] at i;rcases i with c|c
 simp_all
 exact c;rcases q with (c|c)|c;omega;omega;exact c;rcases r with ((c|c)|c)|c;omega;omega;exact .inl c
 simp_all
theorem cf.same (g:cf P h J D st) {p k:Nat×aA} (d:D[a]? =some p) (e:D[b]? =some k) (j:p.1=k.1):a=b:=by obtain ⟨l,f⟩:=g.oper d;obtain ⟨m,i⟩:=g.oper e;rcases xQ a b with c|c|c;exact absurd j (g.mW c d e f i).ne;exact c;exact absurd j.symm (g.mW c e d i f).ne
theorem cf.ye (g:cf P h J D st) {p:Nat×aA} {b:Oper} (f:D[a]? =some p) (i:J[p.1]? =some b):kN b/\(∀d,b.dst=some d->d∉b.looksAt J)/\∀e∈b.after.toList,e.on<J.size/\e.on≠p.1:=by
 have c:=g.self a p f;unfold rH at c
 grind
section
variable {β0 E:au} {w0 w:World} {s9:List Deferred} {S:Nat->Prop} {a:Act} {q:Nat}
theorem Inv.ah (C:Inv P J D st β0 w0 s9 S a w E q) (g:cf P h J D st) (F:jT J S) {p:Nat×aA} {o:Oper} (v:D[b]? =some p) (s:J[p.1]? =some o) (R:¬S p.1) (X:∀e∈o.after.toList,Region.binds .any e->S e.on):
  ∀t∈o.looksAt J,VR E ((st b).1.getD t undef) (a.tmps.getD t undef):=by
 intro t K;have b2:=ab v;have L:(∀c (p:Nat×aA) (o:Oper),c<b->D[c]? =some p->J[p.1]? =some o->o.dst≠some t)->(st b).1.getD t undef=(st 0).1.getD t undef:=by intro j;have:=g.aM (m:=0) b O λc p o _ d=>j c p o O;rwa [yZ] at this
 by_cases M:∃(c:Nat) (r:Nat×aA) (n:Oper),D[c]? =some r/\J[r.1]? =some n/\n.dst=some t;obtain ⟨c,r,n,k,f,m⟩:=M;rcases xQ c b with j|j|j;have H:=(g.mW j k v f s).out t m K;have A:=rW F s X H;rw [g.final k f m j O];exact C.Y7 c r n t k f m A;subst j;rw [v] at k;cases k;rw [s] at f;cases f;exact absurd K ((g.ye v s).2.1 t m);have H:=((g.mW j v k s f).inn t m K).1;have A:=λA=>R (rW F f (F r.1 n f A) H);rw [L λx z y b1 i d l=>by have:=g.once k f m i d l;omega]
 refine C.Gd t λx z y i d l=>?_;have:=g.once k f m i d l
 simp_all
 have N:=λc r n i d l=>M ⟨c,r,n,i,d,l⟩;rw [L λx z y _ i d=>N x z y i d];exact C.Gd t λx z y i d l=>absurd l (N x z y i d)
theorem Inv.Kz (k:Inv P J D st β0 w0 s9 S a w E q) (g:cf P h J D st) (l:jT J S) {p:Nat×aA} {o:Oper} (j:D[b]? =some p) (d:J[p.1]? =some o) (m:¬S p.1) (n:∀e∈o.after.toList,Region.binds .any e->S e.on):
  ∀x∈o.op.operands,VR E (ev (st b).1 x) (a.eval x):=by
 intro x r;have i:=(g.ye j d).1;simp only [kN,zT] at i;have c:=i x (by grind);cases x with
 | tmp t=>
  apply k.ah g l j d m n t;unfold Oper.looksAt
  grind
 | const v=>exact VR.lN c
 | global g=>cases c
 | func f=>exact .sc rfl
theorem Inv.NV (f:Inv P J D st β0 w0 s9 S a w E q) (g:cf P h J D st) (m:jT J S) {p:Nat×aA} {o:Oper} (k:D[b]? =some p) (r:J[p.1]? =some o) (n:¬S p.1) (s:∀e∈o.after.toList,Region.binds .any e->S e.on):
  Region.wanted o (yielded J a.tmps)=Region.wanted o (bH J (st b).1):=by
 unfold Region.wanted;cases v:o.guard with
 | none=>rfl
 | some l=>
  obtain ⟨j,F⟩:=l;simp only;have:yielded J a.tmps j=bH J (st b).1 j:=by
   unfold yielded bH;cases t:(J[j]?).bind (·.dst) with
   | none=>rfl
   | some d=>
    have c:=f.ah g m k r n s d (by
     unfold Oper.looksAt
     simp_all)
    have A:(st b).1.length=a.tmps.size:=by rw [f.len];exact g.length (xZ (ab k))
    simp;rcases zZ d a.tmps.size with i|z;rw [zG,yP,zA O,yK i] at c;rw [zA O,yK i];simp at c;generalize (st b).1[d]=x at c;generalize a.tmps[d]=y at c;cases c <;> first|rfl|(rename_i C;cases x <;> rfl)
    simp_all
  rw [this]
theorem jZ (a:Act) (b:Option Tmp) (v:aq) (t:Nat) (h:b≠some t):(a.put b v).tmps.getD t undef=a.tmps.getD t undef:=by
 cases b with
 | none=>rfl
 | some d=>have c:d≠t:=λe=>h (Zr e);simp [Act.put,Array.getElem?_setIfInBounds_ne c]
theorem DC (a:Act) (b:Option Tmp) (v:aq):(a.put b v).tmps.size=a.tmps.size:=by cases b <;> simp [Act.put]
theorem put_defers (a:Act) (b:Option Tmp) (v:aq):(a.put b v).defers=a.defers:=by cases b <;> rfl
theorem Inv.later (m:Inv P J D st β0 w0 s9 S a w E q) (g:cf P h J D st) {p:Nat×aA} {o:Oper} (l:D[b]? =some p) (n:J[p.1]? =some o) {r:au} (y:∀A B,E A=some B->r A=some B) (R:VR r u v) (F:(st (b+1)).1=bZ (st b).1 o.dst u):
  (a.put o.dst v).tmps.size=(st 0).1.length/\
  (∀(f:Nat) (c:Nat×aA) (d:Oper) (t:Nat),D[f]? =some c->J[c.1]? =some d->d.dst=some t->(c.1=p.1\/S c.1)->VR r ((st D.length).1.getD t undef) ((a.put o.dst v).tmps.getD t undef))/\
  (∀(t:Nat),(∀(f:Nat) (c:Nat×aA) (d:Oper),D[f]? =some c->J[c.1]? =some d->d.dst=some t->¬(c.1=p.1\/S c.1))->VR r ((st 0).1.getD t undef) ((a.put o.dst v).tmps.getD t undef)):=by
 have N:=ab l;refine ⟨(DC _ _ _).trans m.len,λf c d t i j k s=>?_,λt z=>?_⟩;by_cases x:c.1=p.1;have:=g.same i l x;subst this;rw [l] at i;cases i;rw [n] at j;cases j;rw [<-g.final l n k (yF _) O,F,k];have L:(st f).1.length=a.tmps.size:=by rw [m.len];exact g.length O
 simp only [bZ,Act.put];rcases zZ t a.tmps.size with M|K
 simp_all
 rw [zG,yP,xE W,Array.getElem?_eq_none W];exact VR.undef;have H:=s.resolve_left x;rw [jZ _ _ _ _ λe=>x (by
  have:=g.once i j k l n e
  simp_all)]
 exact (m.Y7 f c d t i j k H).mono y;have C:=λe=>z b p o l n e (.inl rfl);rw [jZ _ _ _ _ C];exact (m.Gd t λf c d i j k s=>z f c d i j k (.inr s)).mono y
theorem Inv.float (l:Inv P J D st β0 w0 s9 S a w E q) (g:cf P h J D st) {p:Nat×aA} {o:Oper} (M:D[b]? =some p) (L:J[p.1]? =some o) (hc:cls P o≠3) {n:au} {y:World} (K:∀z B,E z=some B->n z=some B) (hv:VR n u v) (R:(st (b+1)).1=bZ (st b).1 o.dst u)
  (X:Rel n (st q).2 y) (H:Ext β0 (st 0).2 w0 n (st q).2 y) (N:∀(c:Nat) (d:Nat×aA) (f:Oper),c<q->c≠b->D[c]? =some d->J[d.1]? =some f->cls P f=2->¬S d.1->Region.wanted f (bH J (st c).1)->n (st c).2.length=none):
  Inv P J D st β0 w0 s9 (λk=>k=p.1\/S k) (a.put o.dst v) y n q:=by
 obtain ⟨l1,l2,l3⟩:=l.later g M L K hv R;have C:∀{c:Nat} {d:Nat×aA},D[c]? =some d->¬(d.1=p.1\/S d.1)->c≠b/\¬S d.1:=λi j=>⟨λe=>j (.inl (by grind)),λt=>j (.inr t)⟩;refine ⟨l.le,λc d f i j m=>?_,l.stop,X,H,l1,l2,l3,λc d f s i j m x r=>?_,λc d f v1 s i j m x r F=>l.rd c d f v1 s i j m (C i x).2 r F,l.mono,(put_defers _ _ _).trans l.s9⟩;rw [<-l.LO c d f i j m];constructor;rintro (e|t)
 grind
 exact t;exact .inr;obtain ⟨n1,A⟩:=C i x;exact ⟨N c d f s n1 i j m A r,(l.DH c d f s i j m A r).2⟩
end
end
section
variable {P:aB} {J:Array Oper} {D:List (Nat×aA)} {st:Nat->aQ×AH} {h:Callee}
theorem dj {a:Operand->aq} {o:Oper} (b:cls P o≠3) (H:AH):kF P h a o H=fF P a o H:=by unfold kF;split;rename_i f d e c;exact absurd (by simp [cls,c]) b;rfl
theorem qy {o:Oper} (h:cls P o≠3):cls P o=0\/cls P o=1\/cls P o=2:=by
 unfold cls at h ⊢;split <;> try simp_all
 grind
 grind
theorem cf.gZ [r:Small P] (g:cf P h J D st) {m:Nat}:∀(k:Nat),m+k<=D.length->(∀(c:Nat) (p:Nat×aA) (o:Oper),m<=c->c<m+k->D[c]? =some p->J[p.1]? =some o->cls P o≠3)->∃ext,(st (m+k)).2=(st m).2++ext:=by
 intro k;induction k with
 | zero=>simp_all
 | succ k n=>
  intro t e;obtain ⟨ext,s⟩:=n O λc p o j l=>e c p o j O;have d:=zA (show m+k<D.length by omega);obtain ⟨o,i⟩:=g.oper d;have f:=e (m+k) _ o O O d i;rw [show m+(k+1)=m+k+1 by omega];rcases g.rS d i with ⟨_,v,b,_,_⟩|⟨_,b,_⟩;rw [dj f] at b;rcases qy f with a|a|a;rw [(p7 a b).1];simp_all;rw [(fw a b).1];simp_all;obtain ⟨mk,q,sz,_,l,_⟩:=fy a b
  simp_all
  simp_all
theorem cf.next (g:cf P h J D st):∀(k m:Nat),m+k=D.length->∃q,m<=q/\q<=D.length/\(q<D.length->∃(p:Nat×aA) (o:Oper),D[q]? =some p/\J[p.1]? =some o/\cls P o=3)/\∀(a:Nat) (p:Nat×aA) (o:Oper),m<=a->a<q->D[a]? =some p->J[p.1]? =some o->cls P o≠3:=by
 intro k;induction k with
 | zero=>intro m f;exact ⟨m,zC _,O,λl=>O,λa p o d b=>O⟩
 | succ k j=>
  intro m f;have i:=zA (show m<D.length by omega);obtain ⟨o,s⟩:=g.oper i;by_cases r:cls P o=3
  grind
  obtain ⟨q,d,b,e,n⟩:=j (m+1) O;refine ⟨q,O,b,e,λa y x c t v w=>?_⟩;rcases Nat.eq_or_lt_of_le c with rfl|c
  grind
  grind
section
variable {β0 E:au} {w0 w:World} {s9:List Deferred} {S:Nat->Prop} {a:Act} {q:Nat}
theorem Inv.before (d:Inv P J D st β0 w0 s9 S a w E q) (g:cf P h J D st) (r:jT J S) {p:Nat×aA} {o:Oper} (l:D[b]? =some p) (k:J[p.1]? =some o) (C:¬S p.1) (y:∀e∈o.after.toList,Region.binds .any e->S e.on) (t:cls P o≠0):b<=q/\(cls P o≠3->b<q):=by
 have x:=ab l;have F:¬q<b:=by intro v;obtain ⟨n,m,j,i,f⟩:=d.stop O;have s:=(g.mW v j l i k).act f t;have z:=rW r k y s;have:=(d.LO q n m j i f).1 z;omega
 refine ⟨O,λA=>?_⟩;rcases xQ b q with c|c|c;exact c;subst c;obtain ⟨n,m,j,i,f⟩:=d.stop x
 simp_all
 omega
theorem Inv.act [hP:Small P] (k:Inv P J D st β0 w0 s9 S a w E q) (g:cf P h J D st) (hS:jT J S) {p:Nat×aA} {o:Oper} (M:D[q]? =some p) (ho:J[p.1]? =some o) (hn:¬S p.1) (hc:cls P o=3)
  {y:au} {w':World} {v v':aq} (hv:VR y v v') (c4:(st (q+1)).1=bZ (st q).1 o.dst v) (N:Rel y (st (q+1)).2 w') (z:Ext E (st q).2 w y (st (q+1)).2 w')
  (c5:∀(m:Nat) (p:Nat×aA) (o:Oper) (v:aq),m<q->D[m]? =some p->J[p.1]? =some o->cls P o=1->¬S p.1->Region.wanted o (bH J (st m).1)->fF P (ev (st m).1) o (st m).2=some (v,(st m).2)->fF P (ev (st m).1) o (st (q+1)).2=some (v,(st (q+1)).2)):
  ∃j,Inv P J D st β0 w0 s9 (λc2=>c2=p.1\/S c2) (a.put o.dst v') w' y j:=by
 have c6:=ab M;obtain ⟨j,k1,k2,k3,A⟩:=g.next (D.length-(q+1)) (q+1) O;obtain ⟨ext,H⟩:=g.gZ (j-(q+1)) O (λf p o b c=>A f p o b O);rw [show q+1+(j-(q+1))=j by omega] at H;obtain ⟨l1,l2,l3⟩:=k.later g M ho z.mono hv c4;have ne:∀{d:Nat} {i:Nat×aA},D[d]? =some i->¬(i.1=p.1\/S i.1)->d≠q/\¬S i.1:=λb c=>⟨λb1=>c (.inl (by grind)),λr=>c (.inr r)⟩;have C:∀m,q+1<=m->m<=j->∃l n,(st m).2=(st (q+1)).2++l/\(st j).2=(st m).2++n:=by intro m b c;obtain ⟨l,e⟩:=g.gZ (m-(q+1)) O (λf p o b c=>A f p o b O);obtain ⟨n,s⟩:=g.gZ (m:=m) (j-m) O (λf p o b c=>A f p o O O);rw [show q+1+(m-(q+1))=m by omega] at e;rw [show m+(j-m)=j by omega] at s;exact ⟨l,n,e,s⟩
 refine ⟨j,k2,λd i t b c e=>?_,k3,by rw [H];exact N.more ext,by rw [H];exact (k.ext.trans z).more N ext,l1,l2,l3,λd i t b2 b c e s F=>?_,λd i t v1 b2 b c e s F h6=>?_,λm f b c=>?_,(put_defers _ _ _).trans k.s9⟩;constructor;rintro (b1|r);have:=g.same b M b1;omega;have:=(k.LO d i t b c e).1 r;omega;intro b2;rcases xQ d q with r|r|r;exact .inr ((k.LO d i t b c e).2 r)
 grind
 grind
 obtain ⟨n1,R⟩:=ne b s;rcases zZ d q with K|c3;obtain ⟨X,r2⟩:=k.DH d i t K b c e R F;have hid:(st d).2.length<(st q).2.length:=by
  rcases g.rS b c with ⟨_,v1,x,_,_⟩|⟨hw,_⟩;rw [dj O] at x;obtain ⟨mk,cs,sz,_,n,_⟩:=fy e x
  grind
  grind
 obtain ⟨r3,r4⟩:=z.fix _ hid X
 grind
 obtain ⟨l,n,X,r2⟩:=C d O O;obtain ⟨e3,e4,r3,r4⟩:=C (d+1) O O;refine ⟨?_,?_⟩;cases hb:y (st d).2.length with
 | none=>rfl
 | some B=>
  have:=N.lt _ B hb
  grind
 rw [r4];rcases g.rS b c with ⟨_,v1,x,_,_⟩|⟨hw,_⟩;rw [dj O] at x;obtain ⟨mk,cs,sz,_,e5,_⟩:=fy e x
 grind
 grind
 obtain ⟨n1,R⟩:=ne b s;rcases zZ d q with K|c3;have:=c5 d i t v1 K b c e R F h6;have:=(fw e this).2 ext
 grind
 obtain ⟨l,n,X,r2⟩:=C d O O;rw [r2];exact (fw e h6).2 n;have c7:=λm L=>yI (k.mono m q L (zC _)) z.len;rcases zZ q m with L|L;obtain ⟨l,e⟩:=g.gZ (m:=m) (f-m) O (λm2 p o b c=>A m2 p o O O);rw [show m+(f-m)=f by omega] at e
 grind
 rcases zZ q f with b6|b6;obtain ⟨l,_,e,_⟩:=C f O c
 grind
 exact k.mono m f b b6
theorem Inv.step [hP:Small P] (b:Inv P J D st β0 w0 s9 S a w E q) (g:cf P h J D st) (c9:da P h) (s:jT J S) {m:Nat} {p:Nat×aA} {o:Oper} (d:D[m]? =some p) (c:J[p.1]? =some o) (k:¬S p.1) (N:∀c8∈o.after.toList,Region.binds .any c8->S c8.on)
  {d5:Act->World->Prop} {Q:Exit->Act->World->Prop} (hK:∀(a':Act) (K:World) (L:au) (q':Nat),Inv P J D st β0 w0 s9 (λe6=>e6=p.1\/S e6) a' K L q'->d5 a' K):wpOp P J Q p.1 d5 a w:=by
 have h9:=b.NV g s d c k N;have c5:=b.Kz g s d c k N;have i6:=ab d;have d4:∀{L:au} {H':AH} {K:World},Ext E (st q).2 w L H' K->∀j (H:Nat×aA) (C:Oper),j<q->j≠m->D[j]? =some H->J[H.1]? =some C->cls P C=2->¬S H.1->Region.wanted C (bH J (st j).1)->L (st j).2.length=none:=by
  intro L H' K he j H C v _ f e n M z;obtain ⟨r1,r2⟩:=b.DH j H C v f e n M z;refine (he.fix _ ?_ r1).1;rcases g.rS f e with ⟨_,v1,r,_,_⟩|⟨hw,_⟩;rw [dj O] at r;obtain ⟨mk,cs,sz,_,X,_⟩:=fy n r
  grind
  simp_all
 unfold wpOp;rw [c];simp only;rw [h9];rcases g.rS d c with ⟨hw,i2,r,R,d7⟩|⟨hw,d1,R⟩;rw [zP hw];refine .inl ?_;by_cases i:cls P o=3;have d2:m=q:=by have f:=(b.before g s d c k N O).1;have e:¬m<q:=λc2=>k ((b.LO m p o d c i).2 c2);omega
 subst d2;refine ny c9 r b.rel c5 λv' K L q1 q2 x=>?_;obtain ⟨q',f3⟩:=b.act g s d c k i q1 R q2 x λl p2 F v2 v f e n M z h6=>by
  have g5:=g.mW v f d e c;have g3:=λhb=>M (rW s c N hb);have f8:=(g5.NH n i).resolve_left g3;simp at d7;have A:=d7 _ f8;have f1:∀t∈F.looksAt J,(st (m+1)).1.getD t undef=(st l).1.getD t undef:=by
   intro t ht;have:=g.aM (m:=l) (m+1-l) O λm' p' o' k1 k2 k3 k4 k5=>by rcases Nat.eq_or_lt_of_le k1 with rfl|k1;rw [f] at k3;cases k3;rw [e] at k4;cases k4;exact (g.ye f e).2.1 t k5 ht;exact ((g.mW k1 f k3 e k4).inn t k5 ht).2 n
   rwa [show l+(m+1-l)=m+1 by omega] at this
  have i5:(st (m+1)).1.length=(st l).1.length:=(g.length O).trans (g.length O).symm;have h8:Region.wanted F (bH J (st (m+1)).1):=by
   rw [<-z];unfold Region.wanted;cases hg:F.guard with
   | none=>rfl
   | some gd=>
    obtain ⟨i1,j7⟩:=gd;simp only;congr 1;unfold bH;cases hd:(J[i1]?).bind (·.dst) with
    | none=>rfl
    | some c7=>
     have hv:=f1 c7 (by
      unfold Oper.looksAt
      simp_all)
     simp;rcases zZ c7 (st l).1.length with hl|hl
     simp_all
     simp_all
  have f5:fF P (ev (st (m+1)).1) F (st (m+1)).2=fF P (ev (st l).1) F (st (m+1)).2:=B5 F (λi3 hx=>by
   cases i3 with
   | tmp t=>apply f1 t;unfold Oper.looksAt;apply List.mem_append_left _;exact List.mem_filterMap.2 ⟨.tmp t,by grind,rfl⟩
   | _=>rfl) _
  unfold vy at A;rw [e] at A;simp only [h8,Bool.not_true,Bool.false_or] at A;rw [f5] at A;split at A;rename_i v3 H3 c7 e1 X;simp only [zN,decide_eq_true_eq] at A;obtain ⟨i4,h7⟩:=A;have f2:=(fw n e1).1;subst f2;have d9:=BF h7;have hf:=g.final f e X (show l<m+1 by omega) O;have f7:=g.final f e X (yF l) O;rcases g.rS f e with ⟨_,v4,d3,g6,_⟩|⟨j5,_⟩;rw [dj O,h6] at d3;simp at d3;obtain ⟨rfl,_⟩:=d3;rw [hf,<-f7,g6,X] at d9;simp only [bZ,zG] at d9
  grind
  simp_all
  cases A
 grind
 rw [dj i] at r;rcases qy i with y|y|y;have c3:=(p7 y r).2 (st q).2;rw [<-dj i] at c3;refine ny c9 c3 b.rel c5 λv' K L q1 q2 x=>?_;exact hK _ _ _ _ (b.float g d c i x.mono q1 R q2 (b.ext.trans x) (d4 x));have v:=(b.before g s d c k N O).2 i;have g9:=(fw y r).1;rw [g9] at r;have c3:=b.rd m p o i2 v d c y k hw r;rw [<-dj i] at c3;refine ny c9 c3 b.rel c5 λv' K L q1 q2 x=>?_;exact hK _ _ _ _ (b.float g d c i x.mono q1 R q2 (b.ext.trans x) (d4 x));have v:=(b.before g s d c k N O).2 i;obtain ⟨mk,cs,sz,e1,X,_,e4⟩:=fy y r;obtain ⟨j6,g8,f4⟩:=e4 E a.eval c5;obtain ⟨c6,el,v',b1,b2,b3,b4,b6,b5⟩:=f4 w;obtain ⟨r1,r2⟩:=b.DH m p o v d c y k hw;have g4:(st q).2[(st m).2.length]? =some (.row cs sz (some 0)):=by rw [r2,X];simp
 have hid:=b.mono 0 m (zY _) O;have g7:=b.rel.Fi r1 g4 c6 el b2 b3 b4 b6;have f6:=b.ext.Fi r1 hid (.cells c6 el (0,0)) c6.size sz;unfold Oper.wp;rw [g8];simp only [Sem.run_bind,b1,Result.andThen_ok,Sem.run_pure];refine hK _ _ _ _ (b.float g d c i (au.fZ r1 _) (by rw [e1];exact b5 _ _ (au.aC _ _ _)) R g7 f6 ?_);intro j H C f9 i7 f e n M z;obtain ⟨k1,k2⟩:=b.DH j H C f9 f e n M z;unfold au.put;rw [zO];exact k1;intro c8;have d6:∀c4 (pi:Nat×aA) (oi:Oper),D[c4]? =some pi->J[pi.1]? =some oi->cls P oi=2->Region.wanted oi (bH J (st c4).1)->(st (c4+1)).2.length=(st c4).2.length+1:=by
  intro c4 pi oi j1 j2 j3 j4;rcases g.rS j1 j2 with ⟨_,v1,d8,_,_⟩|⟨i9,_⟩;rw [dj O] at d8;obtain ⟨_,_,_,_,e5,_⟩:=fy j3 d8
  grind
  grind
 have g1:=d6 m p o d c y hw;have g2:=d6 j H C f e n z;rcases zZ m j with hh|hh;have:=b.mono (m+1) j O O;omega;have:=b.mono (j+1) m O O;omega;rw [zO (by grind)];by_cases i:cls P o=3;have d2:m=q:=by have f:=(b.before g s d c k N O).1;have e:¬m<q:=λc2=>k ((b.LO m p o d c i).2 c2);omega
 subst d2;obtain ⟨q',f3⟩:=b.act g s d c k i VR.undef R (by rw [d1];exact b.rel) (by rw [d1];exact Ext.refl _ _ _) λl p2 F v2 v f e n M z h6=>by rw [d1];exact b.rd l p2 F v2 v f e n M z h6
 grind
 exact hK _ _ _ _ (b.float g d c i (λ_ _ c2=>c2) VR.undef R b.rel b.ext (d4 (Ext.refl _ _ _)))
end
end
section
variable {P:aB} {J:Array Oper} {D:List (Nat×aA)} {st:Nat->aQ×AH} {h:Callee}
def qG (a:Array Bool) (i:Nat):Prop:=a.getD i false=true
theorem Inv.all {A l:au} {z w:World} {s:List Deferred} {S:Nat->Prop} {n:Act} (c:Inv P J D st A z s S n w l a) (g:cf P h J D st) (v:∀i,i<J.size->S i):Rel l (st D.length).2 w/\Ext A (st 0).2 z l (st D.length).2 w/\Tm l (st D.length).1 n/\n.defers=s:=by
 have C:a=D.length:=by
  rcases Nat.eq_or_lt_of_le c.le with b|b;exact b;obtain ⟨p,o,d,e,f⟩:=c.stop b;have:=(c.LO a p o d e f).1 (v _ (by
   rcases zZ p.1 J.size with b|b;exact b
   simp_all))
  omega
 subst C;refine ⟨c.rel,c.ext,⟨by rw [g.length (zC _),<-c.len];simp,λt x y F H=>?_⟩,c.s9⟩;have E:VR l ((st D.length).1.getD t undef) (n.tmps.getD t undef):=by
  by_cases r:∃(j:Nat) (k:Nat×aA) (q:Oper),D[j]? =some k/\J[k.1]? =some q/\q.dst=some t;obtain ⟨j,k,q,d,e,f⟩:=r;exact c.Y7 j k q t d e f (v _ (by
   rcases zZ k.1 J.size with b|b;exact b
   simp_all))
  have:=g.aM (m:=0) D.length O λj p o _ _ d e f=>r ⟨j,p,o,d,e,f⟩;rw [yZ] at this;rw [this];exact c.Gd t λj p o d e f=>absurd ⟨j,p,o,d,e,f⟩ r
 simp_all
theorem N6 [hP:Small P] (g:cf P h J D st) (c3:da P h) {b1:au} {X:World} {E:List Deferred} {Q:Exit->Act->World->Prop}
  (hQ:∀(c:au) (a:Act) (w:World),Rel c (st D.length).2 w->Ext b1 (st 0).2 X c (st D.length).2 w->Tm c (st D.length).1 a->a.defers=E->Q .normal a w):
  ∀(t:Nat) (b:Array Bool) (a:Act) (w:World) (c:au) (q:Nat),b.size=J.size->jT J (qG b)->Inv P J D st b1 X E (qG b) a w c q->b.toList.count false<=t->wpAny P .any J Q t b a w:=by
 have b2:∀b (a:Act) (w:World) (c:au) (q:Nat),Inv P J D st b1 X E (qG b) a w c q->(∀i,i<J.size->qG b i)->Q .normal a w:=by intro b a w c q s A;have ⟨v,x,z,F⟩:=s.all g A;exact hQ c a w v x z F
 have d2:∀b,b.size=J.size->Region.ready .any J b=[]->∀i,i<J.size->qG b i:=by
  intro b M hr;have d1:∀(n m:Nat),m<n->∀p,D[m]? =some p->qG b p.1:=by
   intro n;induction n with
   | zero=>omega
   | succ n N=>
    intro m hm p f;have ⟨o,r⟩:=g.oper f;have d:p.1<J.size:=by
     rcases zZ p.1 J.size with j|j;exact j
     simp_all
    refine Classical.byContradiction λy=>?_;have d6:p.1∈Region.ready .any J b:=by
     unfold Region.ready;refine List.mem_filter.2 ⟨wE.2 d,?_⟩;have v:b.getD p.1 true=false:=by unfold qG at y;rw [yP,yK O] at y ⊢;simpa using y
     rw [v,r];simp only [Bool.not_false,Bool.true_and,zM,Option.getD_some,Array.all_eq_true'];intro e C;by_cases l:Region.binds .any e;have b6:e∈o.after.toList:=by simpa using C
     have ⟨k1,k2⟩:=(g.ye f r).2.2 e b6;have ⟨R,p2,K,c4⟩:=g.Kg e.on k1;have ⟨o2,c7⟩:=g.oper K;have d5:=Ey r b6 l;have d7:R<m:=by
      rcases xQ R m with j|j|j;exact j
      simp_all
      have:=(g.mW j f K r c7).not
      simp_all
     have:=N R O p2 K;rw [c4] at this;unfold qG at this
     grind
     simp [l]
    simp_all
  intro i d;obtain ⟨m,p,f,rfl⟩:=g.Kg i d;exact d1 (m+1) m O p f
 intro t;induction t with
 | zero=>
  intro b a w c q M H s hc;have A:∀i,i<J.size->qG b i:=by
   intro i d;unfold qG;rw [yP,yK O];have h0:false∉b.toList:=List.count_eq_zero.1 O;cases l:b[i] with
   | true=>rfl
   | false=>grind
  refine ⟨?_,b2 b a w c q s A⟩;unfold Region.ready;rw [List.filter_eq_nil_iff];intro i d;have:=A i (wE.1 d);unfold qG at this
  simp_all
 | succ t N=>
  intro b a w c q M H s hc;refine ⟨λhr=>b2 b a w c q s (d2 b M hr),λi d=>?_⟩;unfold Region.ready at d;have ⟨v,x⟩:=List.mem_filter.1 d;have c6:=wE.1 v;obtain ⟨m,p,f,rfl⟩:=g.Kg i c6;have ⟨o,r⟩:=g.oper f;rw [r] at x;simp only [zN,xG,zM,Option.getD_some,Array.all_eq_true'] at x;have ⟨z,F⟩:=x;have c5:b[p.1]? =some false:=by rw [yP,yK O] at z;rw [yK O];simpa using z
  have y:¬qG b p.1:=by unfold qG;rw [yP,c5];simp
  have c8:∀e∈o.after.toList,Region.binds .any e->qG b e.on:=by intro e C l;have:=F e (by grind);simpa [l,qG] using this
  have c2:qG (b.setIfInBounds p.1 true)=λk=>k=p.1\/qG b k:=by
   funext k;unfold qG;apply propext;rw [yP,yP,Array.getElem?_setIfInBounds];by_cases hk:p.1=k
   simp_all
   grind
  refine s.step g c3 H f r y c8 λa' w' d3 q' d4=>?_;refine N _ a' w' d3 q' (by grind) ?_ (by simp_all) ?_;rw [c2];intro c9 oj hj L e C l;rcases L with rfl|L
  simp_all
  exact .inr (H c9 oj hj L e C l)
  grind
theorem HJ [hP:Small P] (hm:P.follows .mixedOrders) (b1:da P h) (b6:rI P J D) {s r:aQ×AH} (x:eE P h J D s=some r) {e:au} {a:Act} {w:World} (H:Rel e s.2 w) (L:Tm e s.1 a) {Q:Exit->Act->World->Prop} {id:Nat}
  (R:∀(E:au) (v:Act) (C:World),Rel E r.2 C->Ext e s.2 w E r.2 C->Tm E r.1 v->v.defers=a.defers->Q .normal v C):(Code.region id J true).wp P Q a w:=by
 have ⟨st,N,b,g⟩:=cf.of b6 x;subst N b;apply wp_region_any hm;have K:Rel e (st 0).2 {w with drawn:=w.drawn+1}:=H.drew _;have b2:Ext e (st 0).2 w e (st 0).2 {w with drawn:=w.drawn+1}:=Ext.drew _;have ⟨q,k1,k2,k3,n⟩:=g.next D.length 0 O;have ⟨ext,y⟩:=g.gZ q O (λf p o b c=>n f p o b O);rw [yZ] at y;have A:∀i,¬qG (Array.replicate J.size false) i:=by intro i;unfold qG;rw [yP,Array.getElem?_replicate];split <;> simp
 have part:∀m,m<=q->∃j k,(st m).2=(st 0).2++j/\(st q).2=(st m).2++k:=by intro m c;have ⟨j,d⟩:=g.gZ m O (λf p o b c=>n f p o b O);have ⟨k,F⟩:=g.gZ (m:=m) (q-m) O (λf p o b c=>n f p o O O);rw [yZ] at d;rw [show m+(q-m)=q by omega] at F;exact ⟨j,k,d,F⟩
 refine N6 g b1 R J.size _ a _ e q Z (λc2 o _ l=>absurd l (A c2)) ?_ ?_;refine ⟨k2,λm p o b c d=>⟨λx=>absurd x (A _),λz=>absurd d (n m p o (zY _) z b c)⟩,k3,by rw [y];exact K.more ext,by rw [y];exact b2.more K ext,?_,λm p o t _ _ _ l=>absurd l (A _),λt _=>Tm.get L t,λm p o z b c d _ hw=>?_,λm p o c4 z b c d _ _ hv=>?_,λm f b c=>?_,rfl⟩;have:=L.1;simp_all;have ⟨j,k,r1,M⟩:=part m O;have ⟨e3,e4,r3,r4⟩:=part (m+1) O;refine ⟨?_,?_⟩;cases X:e (st m).2.length with
 | none=>rfl
 | some B=>
  have:=H.lt _ B X
  grind
 rw [r4];rcases g.rS b c with ⟨_,v1,l,_,_⟩|⟨c3,_⟩;rw [dj O] at l;have ⟨mk,cs,sz,_,e5,_⟩:=fy d l
 grind
 simp_all
 have ⟨j,k,r1,M⟩:=part m O;rw [M];exact (fw d hv).2 k;have ⟨j,d⟩:=g.gZ (m:=m) (f-m) O (λm2 p o b c=>n m2 p o (zY _) O)
 simp_all
 simp
abbrev cQ:=Nat->Nat->List (Nat×aA)
def nz (n:Nat):List (Nat×aA):=(List.range n).map λi=>(i,[])
def pg (a:aQ->AH->Option (Exit×aQ×AH)):Nat->aQ->AH->Option (Exit×aQ×AH)
 | 0,_,_=>none
 | n+1,c,H=>match a c H with
  | some (.normal,d,b)=>pg a n d b
  | r=>r
def dh (P:aB) (Pl:cQ) (h:Callee) (L K:Nat):Code->aQ->AH->Option (Exit×aQ×AH)
 | .skip,d,H=>some (.normal,d,H)
 | .region e J j,d,H=>(eE P h J (if j=true then Pl K e else nz J.size) (d,H)).map λs=>(.normal,s.1,s.2)
 | .seq a b,d,H=>match dh P Pl h L K a d H with
  | some (.normal,g,f)=>dh P Pl h L K b g f
  | r=>r
 | .cond c a b,d,H=>match ev d c with
  | .bool t=>if t=true then dh P Pl h L K a d H else dh P Pl h L K b d H
  | _=>none
 | .block e c,d,H=>match dh P Pl h L K c d H with
  | some (.exit i,g,f)=>if i=e then some (.normal,g,f) else some (.exit i,g,f)
  | r=>r
 | .loop c,d,H=>pg (dh P Pl h L K c) L d H
 | .exit e,d,H=>some (.exit e,d,H)
 | .ret,d,H=>some (.ret,d,H)
 | _,_,_=>none
def dW (P:aB) (Pl:cQ) (K:Nat):Code->Bool
 | .region e J d=>if d=true then rI P J (Pl K e) else J.toList.all kN
 | .seq a b=>dW P Pl K a&&dW P Pl K b
 | .cond c a b=>pF c&&dW P Pl K a&&dW P Pl K b
 | .block _ c=>dW P Pl K c
 | .loop c=>dW P Pl K c
 | _=>true
def Fin (g:au) (H:AH) (w:World) (f:List Deferred) (ex:Exit) (h:aQ) (b:AH):Exit->Act->World->Prop:=λe c d=>e=ex/\c.defers=f/\∃a,Rel a b d/\Ext g H w a b d/\Tm a h c
section
variable {Pl:cQ} {L K:Nat}
theorem Fh [hP:Small P] (hm:P.follows .mixedOrders) (b6:da P h):∀(c:Code),dW P Pl K c->∀(q:aQ) (H:AH) (ex:Exit) (r:aQ) (k:AH),dh P Pl h L K c q H=some (ex,r,k)->
  ∀(g:au) (a:Act) (w:World),Rel g H w->Tm g q a->c.wp P (Fin g H w a.defers ex r k) a w:=by
 intro c;induction c with
 | skip=>intro _ q H ex r k b g a w j i;cases b;exact wp_skip ⟨rfl,rfl,g,j,Ext.refl _ _ _,i⟩
 | region id J c6=>
  intro f q H ex r k b g a w j i;simp only [dh] at b;simp only [dW] at f;have ⟨e1,z,M⟩:=map_some b;cases M;cases c6 with
  | true=>simp at z f;exact HJ hm b6 f z j i λb2 a' w' l o p q4=>⟨rfl,q4,b2,l,o,p⟩
  | false=>simp only [xA,if_false] at z f;simp only [zT] at f;exact wp_region (DG b6 (λd1 ho=>f d1 (by grind)) _ _ _ g a w z j i λb2 a' w' l o p q4=>⟨rfl,q4,b2,l,o,p⟩)
 | seq d3 d4 b1 c4=>
  intro f q H ex r k b g a w j i;simp only [dW,zN] at f;simp only [dh] at b;apply wp_seq;split at b;rename_i y v z;refine wp_mono (b1 f.1 q H .normal y v z g a w j i) λe a1 d x=>?_;obtain ⟨rfl,t,s,l,o,p⟩:=x;refine wp_mono (c4 f.2 y v ex r k b s a1 d l p) λe2 a2 F c8=>?_;obtain ⟨rfl,c7,D,r1,r2,r3⟩:=c8;exact ⟨rfl,c7.trans t,D,r1,o.trans r2,r3⟩;rename_i hn;refine wp_mono (b1 f.1 q H ex r k b g a w j i) λe a1 d x=>?_;obtain ⟨rfl,t,s,l,o,p⟩:=x;cases e with
  | normal=>simp_all
  | _=>exact ⟨rfl,t,s,l,o,p⟩
 | cond c d3 d4 b1 c4=>
  intro f q H ex r k b g a w j i;simp only [dW,zN] at f;simp only [dh] at b;split at b;rename_i d2 hc;have hv:=Ev i f.1.1;rw [hc] at hv;apply wp_cond hv.bool;cases d2
  grind
  grind
  cases b
 | block id c A=>
  intro f q H ex r k b g a w j i;simp only [dW] at f;simp only [dh] at b;apply wp_block;split at b;rename_i c9 y v z;refine wp_mono (A f q H _ y v z g a w j i) λe a1 d x=>?_;obtain ⟨rfl,t,s,l,o,p⟩:=x;simp only [Exit.inBlock];split at b;rename_i R;cases b;rw [zP R];exact ⟨rfl,t,s,l,o,p⟩;rename_i R;cases b;rw [zO R];exact ⟨rfl,t,s,l,o,p⟩;rename_i hn;refine wp_mono (A f q H ex r k b g a w j i) λe a1 d x=>?_;obtain ⟨rfl,t,s,l,o,p⟩:=x;cases e with
  | exit c9=>simp_all
  | _=>exact ⟨rfl,t,s,l,o,p⟩
 | loop c A=>
  intro f q H ex r k b g a w j i;simp only [dW] at f;simp only [dh] at b;let X:Nat->Act->World->Prop:=λn a1 d=>∃y v s,pg (dh P Pl h L K c) n y v=some (ex,r,k)/\Rel s v d/\Ext g H w s v d/\Tm s y a1/\a1.defers=a.defers
  have c2:∀a1 d,(∃n,X n a1 d)->∃n,X n a1 d/\∀m,X m a1 d->n<=m:=by
   intro a1 d ⟨n,hn⟩;induction n using Nat.strongRecOn with
   | _ n d9=>
    by_cases hx:∃m,m<n/\X m a1 d;have ⟨m,d5,d6⟩:=hx
    grind
    grind
  let E:Act->World->Nat:=λa1 d=>by
   classical
   exact if b:∃n,X n a1 d then (c2 a1 d b).choose else 0
  have c3:∀a1 d (b:∃n,X n a1 d),X (E a1 d) a1 d/\∀m,X m a1 d->E a1 d<=m:=by intro a1 d b;have:=(c2 a1 d b).choose_spec;simp only [E,dif_pos b];exact this
  refine wp_loop (λa1 d=>∃n,X n a1 d) E ⟨L,q,H,g,b,j,Ext.refl _ _ _,i,rfl⟩ λa1 d hI=>?_;have ⟨⟨y,v,s,C,k2,k3,k4,k5⟩,d7⟩:=c3 a1 d hI;generalize hn:E a1 d=n at*;cases n with
  | zero=>cases C
  | succ n=>
   simp only [pg] at C;split at C;rename_i c5 H2 M;refine wp_mono (A f y v .normal c5 H2 M s a1 d k2 k4) λe a2 F x=>?_;obtain ⟨rfl,t,D,l,o,p⟩:=x;have N:X n a2 F:=⟨c5,H2,D,C,l,k3.trans o,p,t.trans k5⟩;refine ⟨⟨n,N⟩,?_⟩;have:=(c3 a2 F ⟨n,N⟩).2 n N;omega;rename_i d8;refine wp_mono (A f y v ex r k C s a1 d k2 k4) λe a2 F x=>?_;obtain ⟨rfl,t,D,l,o,p⟩:=x;cases e with
   | normal=>simp_all
   | _=>exact ⟨rfl,t.trans k5,D,l,k3.trans o,p⟩
 | exit id=>intro _ q H ex r k b g a w j i;cases b;exact wp_exit ⟨rfl,rfl,g,j,Ext.refl _ _ _,i⟩
 | ret=>intro _ q H ex r k b g a w j i;cases b;exact wp_ret ⟨rfl,rfl,g,j,Ext.refl _ _ _,i⟩
 | _=>intro _ q H ex r k b;cases b
end
end
section
variable {P:aB} {Pl:cQ} {L:Nat}
def fE (P:aB) (b:aQ) (H:AH):ResultVar->fQ
 | .tmp t=>some (b.getD t undef)
 | .cell a t=>cV P t (b.getD a undef) H
def wh (P:aB) (e:List ResultVar) (d:aQ) (H:AH):fQ:=
 match e with
 | []=>some (.tuple #[])
 | [r]=>fE P d H r
 | [r,s]=>match fE P d H r,fE P d H s with
  | some a,some b=>some (.tuple #[a,b])
  | _,_=>none
 | [r,s,t]=>match fE P d H r,fE P d H s,fE P d H t with
  | some a,some b,some c=>some (.tuple #[a,b,c])
  | _,_,_=>none
 | _=>none
def Kt (b:Array aq):ResultVar->Sem aq
 | .tmp t=>pure (b.getD t undef)
 | .cell a t=>do loadVar t (<-asAddr (b.getD a undef))
theorem fU {f:au} {H:AH} {w:World} {a:Act} {r:ResultVar} (h:fE P p H r=some u) (j:Rel f H w) (c:Tm f p a):∃b,(Kt a.tmps r).run P w= .ok b w/\VR f u b:=by
 cases r with
 | tmp t=>cases h;exact ⟨_,rfl,Tm.get c t⟩
 | cell d t=>
  simp only [fE] at h;have ⟨b,k,l⟩:=qC h j (Tm.get c d);refine ⟨b,?_,l⟩;rw [<-k];have:∃A,a.tmps.getD d undef= .pointer (some A):=by have g:=Tm.get c d;unfold cV at h;split at h;rename_i m n e;rw [e] at g;exact g.lH;cases h
  have ⟨A,i⟩:=this;simp only [Kt,Instr.loadAt,i,asAddr,Instr.sureAddr]
theorem vx (b:Func) (c:Array aq):results b c=(do
  let a <-b.results.mapM (Kt c)
  pure (if h:a.size=1 then a[0] else .tuple a)):=by
 unfold results;congr 1
theorem Fa {o:au} {H:AH} {w:World} {a:Act} {e:Func} (h:wh P e.results.toList p H=some u) (b:Rel o H w) (c:Tm o p a):∃k,(results e a.tmps).run P w= .ok k w/\VR o u k:=by
 rw [vx];generalize E:e.results=A at h ⊢;have ⟨l⟩:=A;simp only at h;unfold wh at h;split at h;cases h;exact ⟨.tuple #[],Z,VR.undef⟩;rename_i r;have ⟨k,i,d⟩:=fU h b c
 simp_all
 rename_i r s;split at h;rename_i x y f g;cases h;have ⟨m,i,d⟩:=fU f b c;have ⟨n,q,j⟩:=fU g b c;exact ⟨.tuple #[m,n],by simp [i,q],VR.rJ (cd.cons d (cd.cons j .nil))⟩;cases h;rename_i r s t;split at h;rename_i x y z f g v;cases h;have ⟨m,i,d⟩:=fU f b c;have ⟨n,q,j⟩:=fU g b c;have ⟨D,F,C⟩:=fU v b c;exact ⟨.tuple #[m,n,D],by simp_all,VR.rJ (cd.cons d (cd.cons j (cd.cons C .nil)))⟩;cases h;cases h
abbrev qI:=Nat->Option (aQ->AH->Option (aq×AH))
def qE (P:aB) (Pl:cQ) (f:Callee) (L K:Nat) (b:Func) (c:Code) (e:aQ) (H:AH):Option (aq×AH):=
 match dh P Pl f L K c (e++List.replicate (b.ntmps-e.length) undef) H with
 | some (.normal,d,a)=>(wh P b.results.toList d a).map λv=>(v,a)
 | some (.ret,d,a)=>(wh P b.results.toList d a).map λv=>(v,a)
 | _=>none
def fG (P:aB) (Pl:cQ) (d:qI) (dp:Nat->Bool) (L:Nat):Nat->Callee
 | 0=>λ_ _ _=>none
 | n+1=>λK a H=>
  match d K with
  | some f=>f a H
  | none=>if dp K=true then
    match P.funcs[K]? with
    | some b=>match b.body with
     | some c=>qE P Pl (fG P Pl d dp L n) L K b c a H
     | none=>none
    | none=>none
   else none
theorem tX [hP:Small P] (hm:P.follows .mixedOrders) {l:qI} {dp:Nat->Bool}
  (c3:∀K f,l K=some f->da P (λN b H=>if N=K then f b H else none))
  (c2:∀K a c,dp K->P.funcs[K]? =some a->a.body=some c->dW P Pl K c):∀n,da P (fG P Pl l dp L n):=by
 intro n;induction n with
 | zero=>intro K b H r d h;cases h
 | succ n ih=>
  intro K b H r d h X k w g A q;simp only [fG] at h;cases p:l K with
  | some f=>rw [p] at h;exact c3 K f p K b H r d (by grind) X k w g A q
  | none=>
   rw [p] at h;simp only at h;split at h;rename_i b6;split at h;rename_i a z;split at h;rename_i c x;have b1:=c2 K a c b6 z x;apply calls_of_wp z x;have ht:Tm k (b++List.replicate (a.ntmps-b.length) undef) {tmps:=g.toArray++Array.replicate (a.ntmps-g.toArray.size) undef,defers:=[]}:=by
    have:cd k (List.replicate (a.ntmps-b.length) undef) (List.replicate (a.ntmps-b.length) undef):=by refine ⟨rfl,λc6 c7 c8 C D=>?_⟩;rw [C] at D;cases D;have:=zI C;rw [List.mem_replicate] at this;rw [this.2];exact VR.undef
    have e:a.ntmps-g.toArray.size=a.ntmps-b.length:=by simp [q.1]
    rw [e];simpa [Tm] using q.append this
   have c5:∀(ex:Exit) (j:aQ),(ex= .normal\/ex= .ret)->dh P Pl (fG P Pl l dp L n) L K c (b++List.replicate (a.ntmps-b.length) undef) H=some (ex,j,d)->wh P a.results.toList j d=some r->
     c.wp P (bodyPost P a λe t=>∃v i,e= .returned v/\VR i r v/\Rel i d t/\Ext k H w i d t) {tmps:=g.toArray++Array.replicate (a.ntmps-g.toArray.size) undef,defers:=[]} w:=by
    intro ex j b2 m o;refine wp_mono (Fh hm ih c b1 _ H ex j d m k _ w A ht) λe c4 t hf=>?_;obtain ⟨rfl,y,i,s,E,q3⟩:=hf;have ⟨v,F,J⟩:=Fa o s q3;rcases b2 with rfl|rfl;exact ⟨y,v,F,v,i,rfl,J,s,E⟩;exact ⟨y,v,F,v,i,rfl,J,s,E⟩
   unfold qE at h;split at h;rename_i j M m;have ⟨v0,o,R⟩:=map_some h
   simp_all
   rename_i j M m;have ⟨v0,o,R⟩:=map_some h
   simp_all
   cases h;cases h;cases h;cases h
end
end V
namespace T
open Go V
inductive TV where
 | u
 | v (x:aq)
 | sl (o:Bool) (es:List (List TV))
 | p (r:Bool) (id off:Nat)
 | q (r:Bool) (id az i sz off:Nat)
 | pe (cs:List TV) (off:Nat)
 | m (r:Bool) (id az off n sz:Nat)
 | mp (id:Nat)
 | ag (cs:List TV)
 | tu (vs:List TV)
inductive TO where
 | row (cs:List TV) (sz:Nat)
 | aY (az sz:Nat) (es:List (List TV))
 | mp (es:Array MapEntry) (cl:Nat)
 | dead
abbrev aH:=Bool->Nat->Nat->di
def TO.az:TO->di
 | .row _ _=>some 0
 | .aY k _ _=>some k
 | .mp _ _=>some 0
 | .dead=>none
def ob (l s:List TO) (r:Bool):List TO:=bif r then s else l
def Mu (X:Nat->Prop) (c:aH) (l s:List TO) (b:Nat):Prop:=X b\/∃r a o k,(ob l s r)[a]? =some o/\o.az=some k/\c r a k=some b
def vO:aq->Bool
 | .slice _ _ _=>true
 | _=>false
def na:TV->Bool
 | .v _=>true
 | .sl o _=> !o
 | _=>false
def pK:List TV->Bool
 | []=>true
 | x::l=>na x&&pK l
def kq:TV->Bool
 | .v _=>true
 | .sl o _=> !o
 | .p r _ _=>r
 | .q r _ _ _ _ _=>r
 | .m r _ _ _ _ _=>r
 | .mp _=>true
 | .pe _ _=>true
 | _=>false
def mX:List TV->Bool
 | []=>true
 | x::l=>kq x&&mX l
def cH:TV->Bool
 | .u=>false
 | .ag _=>false
 | .tu _=>false
 | .p r _ _=>r
 | .q r _ _ _ _ _=>r
 | .m r _ _ _ _ _=>r
 | _=>true
def cJ:List TV->Bool
 | []=>true
 | x::l=>cH x&&cJ l
inductive TR (ι:aH) (M:Nat->Prop) (H:AH):TV->aq->Prop
 | u {x:aq}:TR ι M H .u x
 | v {x:aq} (h:ak x) (hn:vO x=false):TR ι M H (.v x) x
 | sn {o:Bool}:TR ι M H (.sl o []) (.slice none 0 0)
 | s0 {o:Bool} {id off:Nat}:TR ι M H (.sl o []) (.slice (some ⟨id,off,none⟩) 0 0)
 | se {id off c:Nat}:TR ι M H (.sl false []) (.slice (some ⟨id,off,none⟩) 0 c)
 | sl {o:Bool} {es:List (List TV)} {dH off sz:Nat} {C:aQ} {lo:di} (ho:H[dH]? =some (.row C sz lo)) (hm:¬M dH) (hl:off+es.length*sz<=C.length) (hs:∀e∈es,e.length=sz/\pK e) (hne:o->es≠[])
   (h:∀(i j:Nat) (e:List TV) (x:TV) (c:aq),es[i]? =some e->e[j]? =some x->C[off+i*sz+j]? =some c->TR ι M H x c):TR ι M H (.sl o es) (.slice (some ⟨dH,off,none⟩) es.length 1)
 | p {r:Bool} {id off dH:Nat} (h:ι r id 0=some dH):TR ι M H (.p r id off) (.pointer (some ⟨dH,off,none⟩))
 | q {r:Bool} {id az i sz off dH:Nat} (h:ι r id az=some dH):TR ι M H (.q r id az i sz off) (.pointer (some ⟨dH,i*sz+off,none⟩))
 | m {r:Bool} {id az off n sz dH:Nat} (h:ι r id az=some dH):TR ι M H (.m r id az off n sz) (.slice (some ⟨dH,off*sz,none⟩) n 1)
 | pe {cs:List TV} {off dH base sz:Nat} {C:aQ} {lo:di} (ho:H[dH]? =some (.row C sz lo)) (hm:¬M dH) (hl:base+cs.length<=C.length) (hb:pK cs)
   (h:∀(j:Nat) (x:TV) (c:aq),cs[j]? =some x->C[base+j]? =some c->TR ι M H x c):TR ι M H (.pe cs off) (.pointer (some ⟨dH,base+off,none⟩))
 | mp {id dH:Nat} (h:ι true id 0=some dH):TR ι M H (.mp id) (.map (some dH))
 | ag {cs:List TV} {xs:Array aq} (hs:cs.length=xs.size) (h:∀(j:Nat) (x:TV) (c:aq),cs[j]? =some x->xs[j]? =some c->TR ι M H x c):TR ι M H (.ag cs) (.agg xs)
 | tu {cs:List TV} {xs:Array aq} (hs:cs.length=xs.size) (h:∀(j:Nat) (x:TV) (c:aq),cs[j]? =some x->xs[j]? =some c->TR ι M H x c):TR ι M H (.tu cs) (.tuple xs)
def gS (d:aH) (M:Nat->Prop) (H:AH) (a:List TV) (b:aQ):Prop:=a.length=b.length/\∀(j:Nat) (x:TV) (c:aq),a[j]? =some x->b[j]? =some c->TR d M H x c
def JE (d:aH) (M:Nat->Prop) (H:AH) (a:List (List TV)) (sz:Nat) (C:aQ) (b:Nat):Prop:=
 (∀e∈a,e.length=sz/\mX e)/\b+a.length*sz<=C.length/\∀(i j:Nat) (e:List TV) (x:TV) (c:aq),a[i]? =some e->e[j]? =some x->C[b+i*sz+j]? =some c->TR d M H x c
section
variable {D E:aH} {M J:Nat->Prop} {H h:AH}
structure Le (ι:aH) (M:Nat->Prop) (H:AH) (ι':aH) (M':Nat->Prop) (H':AH):Prop where
 qp:∀(r:Bool) (id k dH:Nat),ι r id k=some dH->ι' r id k=some dH
 aM:∀(dH:Nat) (C:aQ) (sz:Nat) (lo:di),H[dH]? =some (.row C sz lo)->¬M dH->¬M' dH/\∃lo',H'[dH]? =some (.row C sz lo')
theorem Le.refl (D:aH) (M:Nat->Prop) (H:AH):Le D M H D M H:=⟨λ_ _ _ _ h=>h,λ_ _ _ _ h a=>⟨a,_,h⟩⟩
theorem Le.trans {g:aH} {c:Nat->Prop} {b:AH} (d:Le D M H E J h) (k:Le E J h g c b):Le D M H g c b:=
 ⟨λr f n a e=>k.qp r f n a (d.qp r f n a e),λa C sz m e l=>by obtain ⟨i,o,j⟩:=d.aM a C sz m e l;exact k.aM a C sz o j i⟩
theorem TR.mono (c:Le D M H E J h) {x:TV} {v:aq} (a:TR D M H x v):TR E J h x v:=by
 induction a with
 | u=>exact .u
 | v a o=>exact .v a o
 | sn=>exact .sn
 | s0=>exact .s0
 | se=>exact .se
 | sl g f d n e s b=>obtain ⟨j,r,l⟩:=c.aM _ _ _ _ g f;exact .sl l j d n e b
 | p a=>exact .p (c.qp _ _ _ _ a)
 | q a=>exact .q (c.qp _ _ _ _ a)
 | m a=>exact .m (c.qp _ _ _ _ a)
 | pe g f d e n b=>obtain ⟨j,r,l⟩:=c.aM _ _ _ _ g f;exact .pe l j d e b
 | mp a=>exact .mp (c.qp _ _ _ _ a)
 | ag i a b=>exact .ag i b
 | tu i a b=>exact .tu i b
theorem gS.mono (f:Le D M H E J h) {b:List TV} {d:aQ} (a:gS D M H b d):gS E J h b d:=⟨a.1,λj x c g e=>(a.2 j x c g e).mono f⟩
theorem JE.mono (m:Le D M H E J h) {b:List (List TV)} {sz:Nat} {C:aQ} {d:Nat} (a:JE D M H b sz C d):JE E J h b sz C d:=
 ⟨a.1,a.2.1,λi j e x c f g l=>(a.2.2 i j e x c f g l).mono m⟩
end
def iG:TV->Nat->Option TV
 | .ag a,j=>a[j]?
 | x,0=>some x
 | _,_=>none
def eG:TV->Nat->Nat->Option TV
 | .tu a,i,j=>(a[i]?).bind λx=>iG x j
 | x,0,j=>iG x j
 | _,_,_=>none
def jt:aq->Nat->fQ
 | .agg a,j=>a[j]?
 | x,0=>some x
 | _,_=>none
def mi:aq->Nat->Nat->fQ
 | .tuple a,i,j=>(a[i]?).bind λx=>jt x j
 | x,0,j=>jt x j
 | _,_,_=>none
inductive Loc where
 | t (n i j:Nat)
 | c (r:Bool) (id j:Nat)
 | o (r:Bool) (id:Nat)
def Fr (H:AH) (a:Addr) (n:Nat):Prop:=a.off=0/\∃C sz b,H[a.block]? =some (.row C sz (some b))/\C.length=n*sz/\b<=C.length
def Own (d:Nat->Option Loc) (H:AH) (x:TV) (v:aq) (c:Nat->Nat->Loc):Prop:=∀(i j:Nat) (b:List (List TV)) (a:Addr) (n:Nat),eG x i j=some (.sl true b)->mi v i j=some (.slice (some a) n 1)->d a.block=some (c i j)/\Fr H a n
def a19 (f:Nat->Option Loc) (H:AH) (e:List TV) (d:aQ) (c:Nat->Loc):Prop:=∀(j:Nat) (b:List (List TV)) (a:Addr) (n:Nat),e[j]? =some (.sl true b)->d[j]? =some (.slice (some a) n 1)->f a.block=some (c j)/\Fr H a n
def OR (c:aH) (M:Nat->Prop) (f:Nat->Option Loc) (H:AH) (w:Bool) (r:Bool) (b:Nat):TO->Prop
 | .row g sz=>cJ g=true/\∃a C,c r b 0=some a/\H[a]? =some (.row C sz (some 0))/\gS c M H g C/\f a=(bif w then some (.o r b) else none)/\(w=true->a19 f H g C (.c r b))
 | .aY k sz d=>∃a C,c r b k=some a/\H[a]? =some (.row C sz (some 0))/\C.length=d.length*sz/\JE c M H d sz C 0/\f a=(bif w then some (.o r b) else none)/\∀h,k<h->c r b h=none
 | .mp d cl=>∃a,c r b 0=some a/\H[a]? =some (.mp d cl)/\(∀e∈d,ak e.key/\ak e.val)/\f a=(bif w then some (.o r b) else none)
 | .dead=>True
abbrev TF:=Nat->TV
def wr (a:Nat) (r:Bool) (b:Nat):Bool:=bif r then Nat.ble a b else true
structure St (X:Nat->Prop) (ι:aH) (ω:Nat->Option Loc) (fl:Nat) (H:AH) (τ:TF) (l s:List TO) (V:aQ):Prop where
 tm:∀t,TR ι (Mu X ι l s) H (τ t) (V.getD t undef)
 ow:∀t,Own ω H (τ t) (V.getD t undef) (.t t)
 ob:∀r id o,(ob l s r)[id]? =some o->OR ι (Mu X ι l s) ω H (wr fl r id) r id o
 lt:∀dH loc,ω dH=some loc->dH<H.length
 fA:∀r id k dH,ι r id k=some dH->id<(T.ob l s r).length/\dH<H.length
 mJ:fl<=s.length
 xl:∀v,X v->v<H.length
 xo:∀v,X v->ω v=none
structure Xt (X:Nat->Prop) (fl:Nat) (ι:aH) (ω:Nat->Option Loc) (H:AH) (l s:List TO) (ι':aH) (ω':Nat->Option Loc) (H':AH) (l' s':List TO):Prop where
 qp:∀r id k dH,ι r id k=some dH->ι' r id k=some dH
 len:H.length<=H'.length
 same:∀dH,dH<H.length->ω dH=none->H'[dH]? =H[dH]? /\ω' dH=none
 aM:∀dH C sz lo,H[dH]? =some (.row C sz lo)->¬Mu X ι l s dH->∃lo',H'[dH]? =some (.row C sz lo')
 mu:∀dH,Mu X ι' l' s' dH->Mu X ι l s dH\/H.length<=dH
 Bm:∀id,id<fl->s'[id]? =s[id]?
section
variable {X:Nat->Prop} {fl:Nat} {D E J:aH} {h ω' ω'':Nat->Option Loc} {H H' H'':AH} {l s l' s' l'' s'':List TO}
theorem Xt.refl:Xt X fl D h H l s D h H l s:=⟨λ_ _ _ _ a=>a,zC _,λ_ _ a=>⟨rfl,a⟩,λ_ _ _ _ a _=>⟨_,a⟩,λ_ a=>.inl a,λ_ _=>rfl⟩
theorem Xt.le (a:Xt X fl D h H l s E ω' H' l' s'):Le D (Mu X D l s) H E (Mu X E l' s') H':=
 ⟨a.qp,λd C sz g f c=>⟨λe=>by
  rcases a.mu d e with b|b;exact c b
  simp_all,a.aM d C sz g f c⟩⟩
theorem Xt.trans (b:Xt X fl D h H l s E ω' H' l' s') (k:Xt X fl E ω' H' l' s' J ω'' H'' l'' s''):Xt X fl D h H l s J ω'' H'' l'' s'':={
 qp:=λr d n a e=>k.qp r d n a (b.qp r d n a e)
 len:=yI b.len k.len
 same:=λa f j=>by
  obtain ⟨c,g⟩:=b.same a f j;obtain ⟨q,t⟩:=k.same a (xN f b.len) g
  simp_all
 aM:=λa C sz o m i=>by obtain ⟨c,p,g⟩:=b.le.aM a C sz o m i;exact k.aM a C sz p g c
 mu:=λa f=>by rcases k.mu a f with c|c;exact b.mu a c;exact .inr (yI b.len c)
 Bm:=λd hid=>(k.Bm d hid).trans (b.Bm d hid)}
end
end T
namespace T
open Go V
variable {a b c d e f g:Nat} {u v w:Value} {i j k:Int} {t:TypeId} {p:List Value} {q:Bool} {n:IntKind} {x y z:TV} {r s:List TO} {o:List TV}
abbrev cD:=List (List TV)
abbrev ao:=List TV
abbrev ae:=List TO
abbrev eh:=Option TV
abbrev dL:=TV->List TO->List TO->Prop
abbrev jw:=TV->List TO->Prop
abbrev wZ:=List TO->List TO->Bool
def c1:aq->TV
 | .slice none 0 0=>.sl true []
 | x=>.v x
def iU:aq->TV
 | .agg a=>.ag (a.toList.map c1)
 | x=>c1 x
def dX:TV->TV
 | .sl _ a=>.sl false a
 | x=>x
def jz:TV->TV
 | .sl o []=>.sl o []
 | .sl _ a=>.sl false a
 | x=>x
def dz:TV->TV
 | .ag a=>.ag (a.map dX)
 | x=>dX x
def bw:TV->TV
 | .tu a=>.tu (a.map dz)
 | x=>dz x
def ce:TV->ao
 | .ag a=>a
 | x=>[x]
def aW (x:TV):Bool:=cJ (ce x)
def bO:ao->Bool
 | []=>true
 | x::l=>aW x&&bO l
def Ha:TV->Bool
 | .tu a=>bO a
 | x=>aW x
def nQ:ao->Option (aQ)
 | []=>some []
 | .v x::l=>(nQ l).map (x:: ·)
 | _=>none
def iF:TV->fQ
 | .v x=>some x
 | .ag a=>(nQ a).map λb=>.agg b.toArray
 | _=>none
def eP:ao->Nat->ao->ao
 | a,_,[]=>a
 | a,b,x::c=>eP (a.set b x) (b+1) c
def part (g:Bool) (n:Nat) (a:ao) (b:Nat):eh:=bif g then (if b+n<=a.length then some (.ag ((a.drop b).take n)) else none) else a[b]?
def res (P:aB) (t:aP):Option (Bool×Nat):=match P.underlying t,P.info? t with
 | some d,some i=>some (oK d,i.size)
 | _,_=>none
def zc (P:aB) (t:aP):Option (ao):=match P.info? t with
 | some i=>match i.zero with
  | some z=>if z.cells.toList.all ak=true/\z.cells.size=i.size/\i.size<1000000 then some (z.cells.toList.map c1) else none
  | none=>none
 | none=>none
def Bo (P:aB) (t:aP):Option aP:=match P.underlying t with
 | some (.slice a)=>some a
 | _=>none
def me (P:aB) (t:aP):di:=(P.info? t).map (·.size)
def tD (P:aB) (s:aP) (f:Nat):Option (Nat×Bool×Nat):=match P.underlying s with
 | some (.struct a)=>match a[f]? with
  | some fd=>(res P fd.type).map λp=>(fd.offset,p)
  | none=>none
 | _=>none
def VZ (P:aB) (t:aP):Option (List (Nat×Nat)):=match P.underlying t with
 | some (.struct b)=>(places P b).map (·.toList)
 | some (.array n a)=>(P.info? a).map λe=>(List.range n).map λi=>(i*e.size,e.size)
 | _=>none
def cR (a e:Nat):cD->Bool
 | []=>true
 | c::l=>Nat.beq c.length e&&(bif Nat.beq a 0 then pK c else mX c)&&cR a e l
def Pe:TV->Bool
 | .sl _ (_::_)=>false
 | .m _ _ _ _ _ _=>false
 | .u=>false
 | _=>true
def pR (sz:Nat) (a:ao):Bool:=bif Nat.ble sz 999999 then true else match gw sz with
 | some (_,o,N)=>Nat.beq a.length N&&match a[o+1]? with
  | some x=>Pe x
  | none=>true
 | none=>true
@[simp] theorem a0Y {sz:Nat} (h:sz<1000000):pR sz o:=by unfold pR;rw [zX O];rfl
def put (l s:ae) (r:Bool) (a:Nat) (o:TO):ae×ae:=bif r then (l,s.set a o) else (l.set a o,s)
def add (l s:ae) (r:Bool) (o:TO):ae×ae:=bif r then (l,s++[o]) else (l++[o],s)
def fk (g:Bool) (n:Nat) (l s:ae):TV->eh
 | .p r c a=>match (ob l s r)[c]? with
  | some (.row b _)=>(part g n b a).map bw
  | _=>none
 | .q r c f i sz a=>match (ob l s r)[c]? with
  | some (.aY k z d)=>if k=f/\z=sz then (d[i]?).bind λe=>part g n e a else none
  | _=>none
 | .pe b a=>part g n b a
 | _=>none
def gW (g:Bool) (n d:Nat) (l s:ae):TV->Option (TV×ae×ae)
 | .p r a c=>match (ob l s r)[a]? with
  | some (.row b sz)=>if wr d r a=true then (part g n b c).map λx=>(x,put l s r a (.row (eP b c ((ce x).map dX)) sz)) else none
  | _=>none
 | _=>none
def cI (n f:Nat) (x:TV) (l s:ae):TV->Option (ae×ae)
 | .p r a b=>match (ob l s r)[a]? with
  | some (.row c sz)=>if wr f r a=true/\(ce x).length=n/\b+n<=c.length/\aW x/\As sz b n=true then some (put l s r a (.row (eP c b (ce x)) sz)) else none
  | _=>none
 | .q r a g i sz b=>match (ob l s r)[a]? with
  | some (.aY k z d)=>if k=g/\z=sz/\wr f r a/\z<1000000 then match d[i]? with
    | some e=>if (ce x).length=n/\b+n<=e.length/\mX ((ce x).map dX)=true then some (put l s r a (.aY k z (d.set i (eP e b ((ce x).map dX))))) else none
    | none=>none
   else none
  | _=>none
 | _=>none
def et (l s:ae):TV->Option (TV×ae×ae)
 | .sl o a=>some (.sl o a,l,s)
 | .m r b d c n sz=>match (ob l s r)[b]? with
  | some (.aY k z a)=>if k=d/\z=sz/\c=0/\n=a.length/\r=false/\a≠[]/\cR 0 sz a=true then some (.sl true a,put l s r b .dead) else none
  | _=>none
 | _=>none
def Nj (o:Nat):TV->eh
 | .p r b a=>some (.p r b (a+o))
 | .q r b d i sz a=>some (.q r b d i sz (a+o))
 | .pe c a=>some (.pe c (a+o))
 | _=>none
def uT (e:Nat) (x:TV):TV->eh
 | .v (.int _ m)=>match x with
  | .sl _ a=>if 0<=m then (a[m.toNat]?).bind λc=>if c.length=e then some (.pe c 0) else none else none
  | .m r b f d n sz=>if 0<=m/\m<n/\sz=e then some (.q r b f (d+m.toNat) sz 0) else none
  | _=>none
 | _=>none
def Ac (d e:Nat) (x:TV):TV->eh
 | .v (.int _ m)=>if 0<=m/\m<d then match x with
  | .p r c a=>some (.p r c (a+m.toNat*e))
  | .pe b a=>some (.pe b (a+m.toNat*e))
  | _=>none
  else none
 | _=>none
def Nn (o:Nat) (g:Bool) (n:Nat):TV->eh
 | .ag a=>(part g n a o).map bw
 | _=>none
def DQ:TV->eh
 | .tu _=>none
 | x=>some x
def text (i:Nat):TV->eh
 | .tu a=>(a[i]?).bind DQ
 | _=>none
def A6:TV->eh
 | .p r b a=>some (.p r b a)
 | .q r b d i sz a=>some (.q r b d i sz a)
 | .pe c a=>some (.pe c a)
 | _=>none
def pC (d:Nat):eh->di
 | none=>some d
 | some (.v (.int _ i))=>if 0<=i then some i.toNat else none
 | _=>none
def Ex (e:Nat):cD->Bool
 | []=>true
 | c::l=>Nat.beq c.length e&&Ex e l
def Bj (e:Nat) (h g:eh) (l s:ae):TV->eh
 | .sl o c=>match pC 0 h,pC c.length g with
  | some a,some b=>if a<=b/\b<=c.length/\(a=0\/b=a\/Ex e c) then some (.sl (o&&c.isEmpty) ((c.take b).drop a)) else none
  | _,_=>none
 | .m r d f i n sz=>match pC 0 h,pC n g with
  | some a,some b=>if a<=b/\b<=n then
    if a=0 then some (.m r d f i b sz) else if b=a then some (.sl false []) else match (ob l s r)[d]? with
     | some (.aY k z _)=>if k=f/\z=sz/\e=sz then some (.m r d f (i+a) (b-a) sz) else none
     | _=>none
   else none
  | _,_=>none
 | _=>none
def Vk (c e:Nat) (h g:eh) (l s:ae):TV->eh
 | .p r d i=>match pC 0 h,pC c g with
  | some a,some b=>if a<=b/\b<=c then if b=a then some (.sl false []) else match (ob l s r)[d]? with
    | some (.row f sz)=>if e=sz/\i=0/\c*sz<=f.length then some (.m r d 0 a (b-a) sz) else none
    | _=>none
   else none
  | _,_=>none
 | _=>none
def aK (P:aB) (t:aP) (f d:eh) (i:eh) (l s:ae) (x:TV):eh:=
 match i with
 | some (.v (.int _ 0))=>match f,d,x,P.underlying t with
  | none,some (.v (.int _ 0)),.sl _ _,some (.slice c)=>(P.info? c).map λ_=>.sl true []
  | none,some (.v (.int _ 0)),.m _ _ _ _ _ _,some (.slice c)=>(P.info? c).map λ_=>.sl true []
  | _,_,_,_=>none
 | some _=>none
 | none=>match x with
  | .v (.string b)=>match f.map iF,d.map iF with
   | none,none=>(pG P t (.string b) none none none []).map iU
   | some (some a),none=>(pG P t (.string b) (some a) none none []).map iU
   | none,some (some g)=>(pG P t (.string b) none (some g) none []).map iU
   | some (some a),some (some g)=>(pG P t (.string b) (some a) (some g) none []).map iU
   | _,_=>none
  | _=>match P.underlying t with
   | some (.slice c)=>(me P c).bind λe=>Bj e f d l s x
   | some (.array h c)=>(me P c).bind λe=>Vk h e f d l s x
   | _=>none
def aO (l s:ae):TV->Option (cD)
 | .sl _ a=>some a
 | .m r g f d n sz=>if n=0 then some [] else match (ob l s r)[g]? with
  | some (.aY k z a)=>if k=f/\z=sz/\d+n<=a.length then some ((a.drop d).take n) else none
  | some (.row e z)=>if z=sz/\sz=1/\f=0/\d+n<=e.length then some (((e.drop d).take n).map λc=>[c]) else none
  | _=>none
 | .v (.string b)=>some (b.data.toList.map λc=>[.v (.int .u8 c.toNat)])
 | _=>none
def Om (l s:ae):TV->di
 | .sl _ a=>some a.length
 | .m _ _ _ _ n _=>some n
 | .v (.string b)=>some b.size
 | .mp c=>match (ob l s true)[c]? with
  | some (.mp a _)=>some a.size
  | _=>none
 | _=>none
def cN:cD->Option (List UInt8)
 | []=>some []
 | [.v (.int .u8 n)]::l=>(cN l).map (UInt8.ofNat n.toNat:: ·)
 | _=>none
def fits (n b:Nat):Bool:=decide (n*b<=140737488355328/\n<=4611686018427387904)
def db (an e:Nat) (es:cD) (l s:ae):TV×ae×ae:=
 match an with
 | 0=>(.sl true es,l,s)
 | 1=>(.m false l.length 0 0 es.length e,l++[.aY 0 e es],s)
 | _=>(.m true s.length 0 0 es.length e,l,s++[.aY 0 e es])
def cq (k:Bool) (e b d h:Nat) (x y:TV) (l s:ae):Option (TV×ae×ae):=
 match aO l s y with
 | none=>none
 | some c=>match x with
  | .sl true a=>if (a=[]\/(k=false/\d=0))/\cR d e c/\cR d e a/\fits (a.length+c.length) b/\0<e then
    if a++c=[] then some (.sl true [],l,s) else some (db d e (a++c) l s)
   else none
  | .m r f g i n sz=>match (ob l s r)[f]? with
   | some (.aY v z a)=>if v=g/\z=sz/\sz=e/\i=0/\n<=a.length/\k/\wr h r f/\cR 1 e c/\0<e/\fits (n+c.length) b=true then
     some (.m r f (g+1) 0 (n+c.length) sz,put l s r f (.aY (g+1) z (a.take n++c))) else none
   | _=>none
  | _=>none
def Fy:TV->Bool
 | .v _=>true
 | _=>false
def lC (e f:Nat) (x y:TV) (l s:ae):Option (TV×ae×ae):=
 match aO l s y with
 | none=>none
 | some a=>if cR 1 e a=true/\0<e/\Fy y=false then match x with
  | .m r c g d n sz=>if min a.length n=0 then some (.v (.int .i64 0),l,s) else match (ob l s r)[c]? with
   | some (.aY v z b)=>if v=g/\z=sz/\sz=e/\d+n<=b.length/\wr f r c=true then
     some (.v (.int .i64 (min a.length n:Nat)),put l s r c (.aY v z (b.take d++(a.take (min a.length n)++b.drop (d+min a.length n))))) else none
   | _=>none
  | _=>none
  else none
def mC (n:Nat) (c:ao):cD:=List.replicate n c
def mT (a e b:Nat) (z:ao) (n:TV) (l s:ae):Option (TV×ae×ae):=
 match n with
 | .v (.int _ n)=>if 0<=n/\n<=1099511627776/\(b:Int)*n<=1099511627776/\(a=0->0<n)/\(bif Nat.beq a 0 then pK z else mX z)=true/\z.length=e then some (db a e (mC n.toNat z) l s) else none
 | _=>none
def iJ (pl:List (Nat×Nat)):ao->List (Nat×TV)->Option (ao)
 | a,[]=>some a
 | a,(i,x)::ps=>match pl[i]? with
  | some (b,n)=>if (ce x).length=n/\b+n<=a.length/\aW x=true then iJ pl (eP a b ((ce x).map jz)) ps else none
  | none=>none
def iY (e:Nat):cD->List (Nat×TV)->Option (cD)
 | a,[]=>some a
 | a,(i,x)::ps=>if (ce x).length=e/\i<a.length then iY e (a.set i ((ce x).map dX)) ps else none
def sD (a:TypeDesc) (z:fQ) (b:Bool) (x ix:TV) (l s:ae):eh:=
 match x,ix with
 | .mp d,.v k=>match (ob l s true)[d]? with
  | some (.mp c _)=>if keyed a k=true then
    match Instr.findNow a k c.toList 0 with
    | some (some (_,v))=>some (if b=true then .tu [c1 v,.v (.bool true)] else c1 v)
    | some none=>match z with
     | some z=>if ak z=true then some (if b=true then .tu [c1 z,.v (.bool false)] else c1 z) else none
     | none=>none
    | none=>none
   else none
  | _=>none
 | _,_=>none
def zy (c:TypeDesc) (d:Nat) (x k v:TV) (l s:ae):Option (ae×ae):=
 match x,k,v with
 | .mp b,.v k,.v v=>match (ob l s true)[b]? with
  | some (.mp a cl)=>if keyed c k=true/\ak v/\wr d true b=true then
    match Instr.findNow c k a.toList 0 with
    | some (some (i,_))=>if Instr.sameBits 10000 (((a[i]?).map (·.key)).getD k) k=true then some (put l s true b (.mp (a.modify i λe=>{e with key:=k,val:=v}) cl)) else none
    | some none=>some (put l s true b (.mp (a.push {key:=k,val:=v,born:=cl}) (cl+1)))
    | none=>none
   else none
  | _=>none
 | _,_,_=>none
def cm (P:aB) (c:BinOp) (t:aP) (x y:TV):eh:=
 match iF x,iF y with
 | some a,some b=>if (bq a&&bq b)=true then (cZ P c t a b).map iU else none
 | some (.pointer none),none=>match y,Hz c,P.underlying t with
  | .p _ _ _,some b,some (.pointer _)=>some (.v (.bool !b))
  | .q _ _ _ _ _ _,some b,some (.pointer _)=>some (.v (.bool !b))
  | .pe _ _,some b,some (.pointer _)=>some (.v (.bool !b))
  | _,_,_=>none
 | none,some (.pointer none)=>match x,Hz c,P.underlying t with
  | .p _ _ _,some b,some (.pointer _)=>some (.v (.bool !b))
  | .q _ _ _ _ _ _,some b,some (.pointer _)=>some (.v (.bool !b))
  | .pe _ _,some b,some (.pointer _)=>some (.v (.bool !b))
  | _,_,_=>none
 | _,_=>none
def G8 (P:aB) (b:UnOp) (x:TV):eh:=(iF x).bind λa=>(FB P b a).map iU
def mn (P:aB) (t:aP) (x i:TV):eh:=(iF x).bind λa=>(iF i).bind λb=>(lh P t a b).map iU
def bJ (P:aB) (s d:aP) (x:TV) (l g:ae):eh:=
 match x with
 | .sl _ f=>match P.underlying s,P.underlying d with
  | some (.slice e),some .string=>match P.underlying e with
   | some (.int .u8)=>(cN f).map λbs=>.v (.string ⟨bs.toArray⟩)
   | _=>none
  | _,_=>none
 | .m _ _ _ _ _ _=>match P.underlying s,P.underlying d with
  | some (.slice e),some .string=>match P.underlying e with
   | some (.int .u8)=>(aO l g x).bind λf=>(cN f).map λbs=>.v (.string ⟨bs.toArray⟩)
   | _=>none
  | _,_=>none
 | .v (.string b)=>match P.underlying s,P.underlying d with
  | some .string,some .string=>some (.v (.string b))
  | some .string,some (.slice e)=>match P.underlying e with
   | some (.int .u8)=>if b.size<=4611686018427387904 then some (.sl false (b.data.toList.map λc=>[.v (.int .u8 c.toNat)])) else none
   | _=>none
  | _,_=>none
 | _=>(iF x).bind λa=>if (bq a&& !vO a)=true then (gH P s d a []).map λp=>iU p.1 else none
def Cq:ao->Option (aQ)
 | []=>some []
 | x::l=>(iF x).bind λa=>(Cq l).map (a:: ·)
def CF (P:aB) (b:Builtin) (e:Array aP) (f:aP) (d:Array Bool) (c:ao):eh:=
 (Cq c).bind λa=>if (a.all bq&&a.all λx=> !vO x)=true then match b with
  | .append=>none
  | .copy=>none
  | .len=>none
  | _=>(qF P b e f d a []).map λp=>iU p.1
  else none
structure An where
 an:Nat->Nat->Nat->Nat
 rw:Nat->Bool
 aM:Nat->Bool
 lv:Nat->Nat->aA
 tp:Nat->Option (ao->ae->Nat->Option (TV×ae))
def real (K:Nat):Nat:=K%1000
abbrev Tc:=Nat->ao->ae->Nat->Option (TV×ae)
def aS (a:TF):Operand->TV
 | .tmp t=>a t
 | .const v=>iU v
 | .global _=>.u
 | .func f=>.v (.func (.func f) #[] #[])
def aG (a:TF) (d:Nat) (x:TV):TF:=λt=>bif Nat.beq t d then x else a t
def dT (a:TF) (d:di) (x:TV):TF:=match d with
 | some d=>aG a d x
 | none=>a
def dN (a:TF):Operand->TF
 | .tmp t=>aG a t (bw (a t))
 | _=>a
def lD (a:TF):List Operand->TF
 | []=>a
 | x::l=>lD (dN a x) l
def jO (a:TF):aA->List Operand->ao
 | _,[]=>[]
 | seen,.tmp n::l=>(bif seen.contains n then bw (a n) else a n)::jO a (n::seen) l
 | seen,x::l=>aS a x::jO a seen l
def ct (i:Nat):TV->TV
 | .tu a=>.tu (a.set i ((a[i]?).elim .u dz))
 | x=>x
def y9 (a:TF) (i:Nat):Operand->TF
 | .tmp t=>aG a t (ct i (a t))
 | _=>a
def Ir (P:aB):TV->di
 | .v (.func (.func K) a b)=>if (a.isEmpty&&b.isEmpty&&eD P K&&Nat.blt K 1000)=true then some K else none
 | _=>none
abbrev TS:=TV×TF×ae×ae
def pQ (b:Bool) (x:TV):TV:=bif b then x else bw x
def eO (P:aB) (t:aP) (x:TV) (l s:ae):eh:=match P.underlying t,x with
 | some (.slice _),.sl _ a=>some (.v (.int .i64 (a.length:Nat)))
 | some (.slice _),.m _ _ _ _ n _=>some (.v (.int .i64 (n:Nat)))
 | some .string,.v (.string c)=>some (.v (.int .i64 (c.size:Nat)))
 | some (.map _ _),.mp b=>match (ob l s true)[b]? with
  | some (.mp a _)=>some (.v (.int .i64 (a.size:Nat)))
  | _=>none
 | _,_=>none
def Ft (P:aB) (t:aP) (b:Bool) (x i:TV) (l s:ae):eh:=match P.underlying t with
 | some (.map k e)=>match P.underlying k with
  | some a=>sD a ((P.info? e).bind (·.zero)) b x i l s
  | none=>none
 | _=>none
def Oi (a:TF) (x:Operand) (l s:ae):Option TS:=match x with
 | .tmp t=>(et l s (a t)).map λq=>(q.1,dN (aG a t q.1) (.tmp t),q.2)
 | _=>none
def dC (P:aB) (A:An) (H:Tc) (m r:Nat) (o:Oper) (h:TF) (l s:ae):Option TS:=
 match o.op with
 | .move x=>bif Nat.beq m 1 then some (aS h x,dN h x,l,s) else bif Nat.beq m 2 then Oi h x l s else some (bw (aS h x),h,l,s)
 | .assign x=>bif Nat.beq m 1 then some (aS h x,dN h x,l,s) else bif Nat.beq m 2 then Oi h x l s else some (bw (aS h x),h,l,s)
 | .pick c a b=>match aS h c with
  | .v (.bool t)=>some (bw (bif t then aS h a else aS h b),h,l,s)
  | _=>none
 | .alloc e=>match zc P e with
  | some z=>bif Nat.beq m 2 then some (.p true s.length 0,h,l,s++[.row z (bc P e)]) else some (.p false l.length 0,h,l++[.row z (bc P e)],s)
  | none=>none
 | .box e x=>match m with
  | 0=>if (aW (aS h x)&&pR (bc P e) (ce (aS h x)))=true then some (.p false l.length 0,h,l++[.row ((ce (aS h x)).map dX) (bc P e)],s) else none
  | 1=>if (aW (aS h x)&&pR (bc P e) (ce (aS h x)))=true then some (.p false l.length 0,dN h x,l++[.row (ce (aS h x)) (bc P e)],s) else none
  | 2=>if (aW (aS h x)&&pR (bc P e) (ce (aS h x)))=true then some (.p true s.length 0,h,l,s++[.row ((ce (aS h x)).map jz) (bc P e)]) else none
  | _=>none
 | .build t ps=>match zc P t,VZ P t with
  | some z,some pl=>(iJ pl z (ps.toList.map λp=>(p.1,aS h p.2))).map λJ=>(.ag J,h,l,s)
  | _,_=>none
 | .buildSlice t n ps=>match Bo P t with
  | some q=>match zc P q with
   | some z=>if n*z.length<=16777216/\0<z.length/\bO (ps.toList.map λp=>aS h p.2)=true then match iY z.length (mC n z) (ps.toList.map λp=>(p.1,aS h p.2)) with
     | some D=>if cR m z.length D=true then (bif Nat.beq n 0 then some (.sl true [],h,l,s) else some ((db m z.length D l s).1,h,(db m z.length D l s).2)) else none
     | none=>none
    else none
   | none=>none
  | none=>none
 | .load t a=>match res P t with
  | some (g,n)=>bif Nat.beq m 1 then (gW g n r l s (aS h a)).map λp=>(p.1,h,p.2) else (fk g n l s (aS h a)).map λx=>(x,h,l,s)
  | none=>none
 | .store t a x=>match me P t with
  | some n=>match m with
   | 0=>(cI n r (bw (aS h x)) l s (aS h a)).map λp=>(.tu [],h,p)
   | 1=>(cI n r (aS h x) l s (aS h a)).map λp=>(.tu [],dN h x,p)
   | _=>match x with
    | .tmp t=>match et l s (h t) with
     | some (y,R,s')=>(cI n r y R s' (aS (aG h t y) a)).map λp=>(.tu [],dN (aG h t y) x,p)
     | none=>none
    | _=>none
  | none=>none
 | .nilCheck x=>(A6 (aS h x)).map λv=>(v,h,l,s)
 | .binOp E t x y _=>(cm P E t (aS h x) (aS h y)).map λv=>(v,h,l,s)
 | .unOp E _ x=>(G8 P E (aS h x)).map λv=>(v,h,l,s)
 | .convert a d x=>(bJ P a d (aS h x) l s).map λv=>(v,h,l,s)
 | .makeMap _ none=>some (.mp s.length,h,l,s++[.mp #[] 0])
 | .makeSlice t n c=>match Bo P t with
  | some q=>match zc P q,P.info? q with
   | some z,some e=>match aS h n,aS h c with
    | .v (.int _ i),.v (.int _ j)=>if i=j then (mT m e.size e.bytes z (aS h n) l s).map λp=>(p.1,h,p.2) else none
    | _,_=>none
   | _,_=>none
  | none=>none
 | .slice t x lo M mx=>(aK P t (lo.map (aS h)) (M.map (aS h)) (mx.map (aS h)) l s (aS h x)).map λv=>(v,h,l,s)
 | .fieldAddr t x f=>match tD P t f with
  | some (o,_,n)=>if n≠0 then (Nj o (aS h x)).map λv=>(v,h,l,s) else none
  | none=>none
 | .field t x f=>match tD P t f with
  | some (o,g,n)=>(Nn o g n (aS h x)).map λv=>(v,h,l,s)
  | none=>none
 | .indexAddr t x i=>match P.underlying t with
  | some (.slice q)=>(me P q).bind λe=>(uT e (aS h x) (aS h i)).map λv=>(v,h,l,s)
  | some (.array X q)=>(me P q).bind λe=>(Ac X e (aS h x) (aS h i)).map λv=>(v,h,l,s)
  | _=>none
 | .index t x i=>(mn P t (aS h x) (aS h i)).map λv=>(v,h,l,s)
 | .lookup t x i ok=>(Ft P t ok (aS h x) (aS h i) l s).map λv=>(v,h,l,s)
 | .mapUpdate t b1 i x=>match P.underlying t with
  | some (.map k _)=>match P.underlying k with
   | some N=>(zy N r (aS h b1) (aS h i) (aS h x) l s).map λp=>(.tu [],h,p)
   | none=>none
  | _=>none
 | .extract x i=>bif Nat.beq m 1 then (text i (aS h x)).map λv=>(v,y9 h i x,l,s) else (text i (aS h x)).map λv=>(dz v,h,l,s)
 | .call {callee:=.value f,args, ..}=>match Ir P (aS h f) with
  | some K=>let C:=K+1000*m
   let F:=bif A.aM C then jO h [] args.toList else args.toList.map λx=>dz (aS h x)
   if bO F=true then (H C F s r).map λp=>(p.1,bif A.aM C then lD h args.toList else h,l,p.2) else none
  | none=>none
 | .call {callee:=.builtin b,args,argTypes}=>match b,args.toList,argTypes.toList with
  | .append,[x,y],[w,t1]=>match Bo P w,P.underlying t1 with
   | some q,some L=>match P.info? q,vP L with
    | some e,true=>if (e.zero.map (·.cells.size))=some e.size/\e.size<1000000 then (cq (qo w) e.size e.bytes m r (aS h x) (aS h y) l s).map λp=>(p.1,dN h x,p.2) else none
    | _,_=>none
   | _,_=>none
  | .copy,[x,y],[w,_]=>match Bo P w with
   | some q=>(me P q).bind λe=>(lC e r (aS h x) (aS h y) l s).map λp=>(p.1,h,p.2)
   | none=>none
  | .len,[x],[t]=>(eO P t (aS h x) l s).map λv=>(v,h,l,s)
  | _,_,_=>(CF P b argTypes o.type (args.map λ| .const _=>true|_=>false) (args.toList.map (aS h))).map λv=>(v,h,l,s)
 | _=>none
def Nh (a:Bool):TV->Option Bool
 | .v (.bool b)=>some (b==a)
 | .tu []=>some false
 | _=>none
def jo (a:Array Oper) (c:TF) (o:Oper):Option Bool:=match o.guard with
 | none=>some true
 | some (j,b)=>match (a[j]?).bind (·.dst) with
  | some d=>Nh b (c d)
  | none=>none
def Vf (w:Option Bool) (r:Bool):Bool:=match w with
 | some false=>true
 | some true=>r
 | none=>false
def nT:TV->TV->Bool
 | .v a,.v b=>kp a b
 | .p r i o,.p e c d=>r==e&&Nat.beq i c&&Nat.beq o d
 | .q r i v n z o,.q e c g f h d=>r==e&&Nat.beq i c&&Nat.beq v g&&Nat.beq n f&&Nat.beq z h&&Nat.beq o d
 | .m r i v n z o,.m e c g f h d=>r==e&&Nat.beq i c&&Nat.beq v g&&Nat.beq n f&&Nat.beq z h&&Nat.beq o d
 | _,_=>false
def Gk:ao->ao->Bool
 | [],[]=>true
 | x::l,y::k=>nT x y&&Gk l k
 | _,_=>false
def uW:TV->TV->Bool
 | .ag a,.ag b=>Gk a b
 | x,y=>nT x y
def r8:TV->Bool
 | .v (.bool _)=>true
 | .v (.int _ _)=>true
 | .v (.string _)=>true
 | .v (.pointer _)=>true
 | .v (.map _)=>true
 | .sl _ _=>true
 | .p _ _ _=>true
 | .q _ _ _ _ _ _=>true
 | .m _ _ _ _ _ _=>true
 | .pe _ _=>true
 | .mp _=>true
 | _=>false
def zw:ao->Bool
 | []=>true
 | x::l=>r8 x&&zw l
def zx:TV->Bool
 | .ag a=>zw a
 | x=>r8 x
def isRow:Option TO->Bool
 | some (.row _ _)=>true
 | _=>false
def El (k:Nat):Option TO->Bool
 | some (.aY v _ _)=>Nat.beq v k
 | _=>false
def mB (A:An) (a:Nat) (b:TF) (o:Oper):Bool:=match o.op with
 | .call {callee:=.value f, ..}=>(match aS b f with
  | .v (.func (.func K) _ _)=> !A.rw (K+1000*a)
  | _=>false)
 | _=>false
def qf (o:Oper):Bool:=match o.op with
 | .call {callee:=.value _, ..}=>true
 | .call {callee:=.builtin .append, ..}=>true
 | .convert _ _ _=>true
 | .mapUpdate _ _ _ _=>true
 | _=>false
def FE (y:eh) (r:Bool) (c:Nat):Bool:=match y with
 | some (.p b a _)=> !(b==r&&Nat.beq a c)
 | some (.q b a _ _ _ _)=> !(b==r&&Nat.beq a c)
 | _=>false
def tq (d c:Bool) (y:eh) (a:TV) (l s:ae):Bool:=match a with
 | .p false b _=>(d||FE y false b)&&isRow l[b]?
 | .pe _ _=>true
 | .p true b _=>(c||FE y true b)&&isRow s[b]?
 | .q true b k _ _ _=>(c||FE y true b)&&El k s[b]?
 | _=>false
def Nk (b:Nat) (c:TF) (e:Oper):eh:=match e.op with
 | .store _ a _=>bif Nat.ble b 1 then some (aS c a) else none
 | _=>none
def uS (A:An) (c:Nat) (b:TF) (l s:ae) (o:Oper) (e:Oper):Bool:=
 match o.op with
 | .load _ a=>tq (qf e) (mB A c b e) (Nk c b e) (aS b a) l s
 | _=>false
def Io (o:eh) (v:TV):Bool:=match o with
 | some w=>uW w v
 | none=>false
def XL (P:aB) (o:Oper) (b:Operand->TV) (l s:ae):eh:=match o.op with
 | .load t a=>match res P t with
  | some (g,n)=>fk g n l s (b a)
  | none=>none
 | .lookup t x i h=>Ft P t h (b x) (b i) l s
 | .slice t x e c f=>aK P t (e.map b) (c.map b) (f.map b) l s (b x)
 | .convert a d x=>bJ P a d (b x) l s
 | .call {callee:=.builtin .len,args,argTypes}=>match args.toList,argTypes.toList with
  | [x],[t]=>eO P t (b x) l s
  | _,_=>none
 | _=>none
def sw (P:aB) (A:An) (b:Array Oper) (k:Nat) (g:aA) (e:Oper) (c:Nat) (i:TF) (f h:ae) (a:TF) (l s:ae) (j:Nat):Bool:=
 match b[j]? with
 | some o=>Vf (jo b a o) (match o.dst with
  | some d=>(g.contains j&&uS A c i f h o e&&zx (a d))||Io (XL P o (aS a) l s) (a d)
  | none=>false)
 | none=>false
def indep (a:Array Oper) (b:di) (j:Nat):Bool:=match b with
 | none=>true
 | some d=>match a[j]? with
  | some o=> !((o.looksAt a).contains d)&&o.dst != some d
  | none=>false
def oJ (a:Array Oper) (o:Oper):Bool:=match o.op,o.dst with
 | .load _ _,some d=> !(o.looksAt a).contains d
 | _,_=>false
structure RS where
 τ:TF
 l:ae
 s:ae
 pd:aA
def GX (P:aB) (p:Nat×aA) (a:aA) (o:Oper):aA:=bif cls P o==3 then p.2.filter a.contains else a
def Jk (P:aB) (b:Array Oper) (p:Nat×aA) (a:aA) (o:Oper):aA:=bif oJ b o then p.1::GX P p a o else GX P p a o
def VY (P:aB) (a:Array Oper) (p:Nat×aA) (b:aA) (o:Oper):Bool:=(GX P p b o).all (indep a o.dst)&&(cls P o==3||p.2.isEmpty)
def jC (P:aB) (A:An) (f:Tc) (K c b:Nat) (a:Array Oper) (p:Nat×aA) (x:RS):Option RS:=
 match a[p.1]? with
 | none=>none
 | some o=>if VY P a p x.pd o=true then match jo a x.τ o with
  | none=>none
  | some false=>some ⟨dT x.τ o.dst (.tu []),x.l,x.s,Jk P a p x.pd o⟩
  | some true=>match dC P A f (A.an K c p.1) b o x.τ x.l x.s with
   | none=>none
   | some (v,e,l1,d)=>if (p.2.all λj=>sw P A a b x.pd o (A.an K c p.1) x.τ x.l x.s (dT e o.dst v) l1 d j)=true then some ⟨dT e o.dst v,l1,d,Jk P a p x.pd o⟩ else none
  else none
def dR (P:aB) (A:An) (a:Tc) (K c b:Nat) (d:Array Oper):List (Nat×aA)->RS->Option RS
 | [],x=>some x
 | p::ps,x=>(jC P A a K c b d p x).bind (dR P A a K c b d ps)
def eg:aA->ao->TF
 | t::a,x::b=>λi=>bif Nat.beq i t then x else eg a b i
 | _,_=>λ_=>.u
def rb (b:Nat):TV->Bool
 | .p false a _=>Nat.blt a b
 | .q false a _ _ _ _=>Nat.blt a b
 | .m false a _ _ _ _=>Nat.blt a b
 | .ag c=>cJ c
 | .tu _=>false
 | _=>true
def Ji (a:Nat):ao->Bool
 | []=>true
 | x::l=>rb a x&&Ji a l
abbrev TE:=Exit×TF×ae×ae
def jD (c:ao->ae->ae->Option TE) (a:aA) (b:Nat):Nat->ao->ae->ae->Option TE
 | 0,_,_,_=>none
 | n+1,g,l,s=>match c g l s with
  | some (.normal,d,e,f)=>if Ji b (a.map d)=true then jD c a b n (a.map d) (e.take b) f else none
  | r=>r
def CD:TV->Option Bool
 | .v (.bool b)=>some b
 | _=>none
def bN (P:aB) (A:An) (Pl:cQ) (e:Tc) (L K f:Nat):Nat->Code->TF->ae->ae->Option TE
 | _,.skip,d,l,s=>some (.normal,d,l,s)
 | _,.region g m n,d,l,s=>(dR P A e K g f m (if n=true then Pl (real K) g else nz m.size) ⟨d,l,s,[]⟩).map λx=>(.normal,x.τ,x.l,x.s)
 | p,.seq a b,d,l,s=>match bN P A Pl e L K f (2*p) a d l s with
  | some (.normal,k,h,j)=>bN P A Pl e L K f (2*p+1) b k h j
  | r=>r
 | p,.cond c a b,d,l,s=>match CD (aS d c) with
  | some t=>bif t then bN P A Pl e L K f (2*p) a d l s else bN P A Pl e L K f (2*p+1) b d l s
  | none=>none
 | p,.block g c,d,l,s=>match bN P A Pl e L K f (2*p) c d l s with
  | some (.exit i,k,h,j)=>bif Nat.beq i g then some (.normal,k,h,j) else some (.exit i,k,h,j)
  | r=>r
 | p,.loop c,d,l,s=>jD (λo l s=>bN P A Pl e L K f (2*p) c (eg (A.lv K p) o) l s) (A.lv K p) l.length L ((A.lv K p).map d) l s
 | _,.exit g,d,l,s=>some (.exit g,d,l,s)
 | _,.ret,d,l,s=>some (.ret,d,l,s)
 | _,_,_,_,_=>none
def eI (P:aB) (c:Nat) (b:TF) (l s:ae):ResultVar->Option (TV×TF×ae×ae)
 | .tmp t=>some (b t,dN b (.tmp t),l,s)
 | .cell a t=>match res P t with
  | some (g,n)=>(gW g n c l s (b a)).map λp=>(p.1,b,p.2)
  | none=>none
def uR (P:aB) (b:Nat) (c:List ResultVar) (a:TF) (l s:ae):Option (TV×ae):=
 match c with
 | []=>some (.tu [],s)
 | [r]=>(eI P b a l s r).map λp=>(p.1,p.2.2.2)
 | [r,q]=>match eI P b a l s r with
  | some (x,a,l,s)=>(eI P b a l s q).map λp=>(.tu [x,p.1],p.2.2.2)
  | none=>none
 | [r,q,t]=>match eI P b a l s r with
  | some (x,a,l,s)=>match eI P b a l s q with
   | some (y,a,l,s)=>(eI P b a l s t).map λp=>(.tu [x,y,p.1],p.2.2.2)
   | none=>none
  | none=>none
 | _=>none
def jE (d:Nat) (s:ae):TV->eh
 | .v x=>some (.v x)
 | .sl o c=>some (.sl o c)
 | .pe f b=>some (.pe f b)
 | .p true a b=>bif Nat.blt a d then some (.p true a b) else none
 | .q true a v i sz b=>bif Nat.blt a d then some (.q true a v i sz b) else none
 | .mp a=>bif Nat.blt a d then some (.mp a) else none
 | .m true a e b n sz=>bif Nat.blt a d then some (.m true a e b n sz) else match s[a]? with
  | some (.aY k z c)=>if k=e/\z=sz/\b=0/\n=c.length/\cR 0 sz c=true then some (.sl false c) else none
  | _=>none
 | _=>none
def nS (a:Nat) (s:ae):ao->Option (ao)
 | []=>some []
 | x::l=>(jE a s x).bind λy=>(nS a s l).map (y:: ·)
def kA (a:Nat) (s:ae):TV->eh
 | .ag b=>(nS a s b).map .ag
 | x=>jE a s x
def mo (a:Nat) (s:ae):ao->Option (ao)
 | []=>some []
 | x::l=>(kA a s x).bind λy=>(mo a s l).map (y:: ·)
def jF (a:Nat) (s:ae):TV->eh
 | .tu b=>(mo a s b).map .tu
 | x=>kA a s x
def aI (a:ao):TF:=λt=>a.getD t .u
def jq (rw a:Bool) (b:ae):Option (TV×ae)->Option (TV×ae)
 | some (r,s)=>bif rw then (if Ha r=true then some (pQ a r,s) else none) else (jF b.length s r).map λr=>(pQ a r,b)
 | none=>none
def kB (P:aB) (A:An) (Pl:cQ) (g:Tc) (L K:Nat) (e:Func) (c:Code) (f:ao) (s:ae) (a:Nat):Option (TV×ae):=
 match bN P A Pl g L K a 1 c (aI f) [] s with
 | some (.normal,d,l,b)=>uR P a e.results.toList d l b
 | some (.ret,d,l,b)=>uR P a e.results.toList d l b
 | _=>none
def gY (P:aB) (A:An) (Pl:cQ) (dp:Nat->Bool) (L:Nat):Nat->Tc
 | 0=>λ_ _ _ _=>none
 | n+1=>λK a s d=>
  if dp K=true then
   match P.funcs[real K]? with
   | some b=>match b.body with
    | some c=>if a.length<=b.ntmps then jq (A.rw K) (A.aM K) s (kB P A Pl (gY P A Pl dp L n) L K b c a s (bif A.rw K then d else s.length)) else none
    | none=>none
   | none=>none
  else match A.tp K with
   | some f=>f a s d
   | none=>none
section
variable {ι:aH} {M:Nat->Prop} {H:AH} {h:Nat->Option Loc} {P:aB}
def NO (x:TV) (v:aq):Prop:=∀(i j:Nat) (b:cD) (a:Addr) (n:Nat),eG x i j=some (.sl true b)->mi v i j=some (.slice (some a) n 1)->False
theorem NO.own (c:NO x u) (f:Nat->Nat->Loc):Own h H x u f:=λi j b a n d e=>(c i j b a n d e).elim
theorem NO.of (h:∀i j b,eG x i j≠some (.sl true b)):NO x u:=λi j b a n c _=>h i j b c
theorem NO.one {x:TV} {v:aq} (c:∀a,x≠ .ag a) (d:∀a,x≠ .tu a) (h:∀b,x≠ .sl true b):NO x v:=by
 refine .of λi j b e=>?_;unfold eG at e;split at e
 grind
 unfold iG at e;split at e
 grind
 simp_all
 cases e;cases e
theorem yw (h:ak u):(c1 u= .sl true []/\u= .slice none 0 0)\/(c1 u= .v u/\vO u=false):=by
 unfold c1;split
 simp_all
 rename_i b;refine .inr ⟨rfl,?_⟩;cases u with
 | slice a n c=>
  exfalso;unfold ak at h
  simp_all
 | _=>rfl
theorem TR.c1 (h:ak u):TR ι M H (T.c1 u) u:=by rcases yw h with ⟨e,rfl⟩|⟨e,a⟩;rw [e];exact .sn;rw [e];exact .v h a
theorem gS.Jy (h:p.all ak):gS ι M H (p.map T.c1) p:=by refine ⟨Z,λj x c b a=>?_⟩;rw [zJ,a] at b;cases b;rw [zT] at h;exact .c1 (h c (zI a))
theorem TR.iU (h:bq u):TR ι M H (T.iU u) u:=by
 unfold T.iU;split;rename_i b;have:=gS.Jy (ι:=ι) (M:=M) (H:=H) h;exact .ag Z λj y c a d=>this.2 j y c a (by grind);rename_i e;refine .c1 ?_;unfold bq at h;split at h
 simp_all
 exact h
theorem NO.c1 (h:ak u):NO (T.c1 u) u:=by
 rcases yw h with ⟨e,rfl⟩|⟨e,f⟩;rw [e];intro i j c a n d b;unfold mi at b;split at b
 simp_all
 unfold jt at b;split at b
 simp_all
 cases b;cases b;cases b;rw [e];exact .one (λ_ e=>by cases e) (λ_ e=>by cases e) (λ_ e=>by cases e)
theorem NO.iU (h:bq u):NO (T.iU u) u:=by
 unfold T.iU;split;rename_i e;intro i j f a n b c;have d:i=0:=by
  cases i with
  | zero=>rfl
  | succ i=>simp [eG] at b
 subst d;have b:=b;have c:=c;simp only [bq,zT] at h;have:=h _ (Zs (wN c));simp [ak] at this;rename_i g;refine .c1 ?_;unfold bq at h;split at h
 simp_all
 exact h
theorem za (x:TV) (j:Nat):iG (dz x) j=(iG x j).map dX:=by
 cases x with
 | ag a=>simp [dz,iG]
 | _=>cases j <;> simp [dz,iG,dX]
theorem rp (x:TV) (i j:Nat):eG (bw x) i j=(eG x i j).map dX:=by
 cases x with
 | tu a=>
  simp only [bw,eG,zJ];cases a[i]? with
  | none=>rfl
  | some y=>simp [za]
 | ag b=>cases i <;> simp [bw,dz,eG,iG]
 | _=>cases i <;> cases j <;> simp [bw,dz,dX,eG,iG]
theorem kY (x:TV) (a:cD):dX x≠ .sl true a:=by cases x <;> simp [dX]
theorem NO.bw (x:TV) (v:aq):NO (T.bw x) v:=by
 refine .of λi j a h=>?_;rw [rp] at h;cases b:eG x i j with
 | none=>simp_all
 | some y=>rw [b] at h;exact kY y a (by grind)
theorem NO.dz (x:TV) (v:aq) (b:∀a,x≠ .tu a):NO (T.dz x) v:=by
 have:T.dz x=T.bw x:=by
  cases x with
  | tu a=>simp_all
  | _=>rfl
 rw [this];exact .bw x v
theorem TR.dX {v:aq} (h:TR ι M H x v):TR ι M H (T.dX x) v:=by
 cases h with
 | u=>exact .u
 | v h j=>exact .v h j
 | sn=>exact .sn
 | s0=>exact .s0
 | se=>exact .se
 | sl a b c d g i=>exact .sl a b c d (λe=>by cases e) i
 | p h=>exact .p h
 | q h=>exact .q h
 | m h=>exact .m h
 | pe a b c d g=>exact .pe a b c d g
 | mp h=>exact .mp h
 | ag f h=>exact .ag f h
 | tu f h=>exact .tu f h
theorem gS.AV {ys:aQ} (h:gS ι M H o ys):gS ι M H (o.map T.dX) ys:=by
 refine ⟨by simpa using h.1,λj x c a d=>?_⟩;rw [zJ] at a;cases b:o[j]? with
 | none=>simp_all
 | some y=>rw [b] at a;cases a;exact (h.2 j y c b d).dX
theorem TR.dz {v:aq} (h:TR ι M H x v):TR ι M H (T.dz x) v:=by
 cases h with
 | @ag s r k h=>have:=gS.AV (ys:=r.toList) ⟨O,λj x c g n=>h j x c g (by grind)⟩;exact .ag (by simp_all) λj x c g n=>this.2 j x c g (by grind)
 | u=>exact .u
 | v h o=>exact .v h o
 | sn=>exact .sn
 | s0=>exact .s0
 | se=>exact .se
 | sl a b d f i l=>exact .sl a b d f (λe=>by cases e) l
 | p h=>exact .p h
 | q h=>exact .q h
 | m h=>exact .m h
 | pe a b d f i=>exact .pe a b d f i
 | mp h=>exact .mp h
 | tu k h=>exact .tu k h
theorem TR.bw (h:TR ι M H x u):TR ι M H (T.bw x) u:=by
 cases x with
 | tu e=>
  cases h with
  | @tu _ g f h=>
   refine .tu (by grind) λj x c a d=>?_;rw [zJ] at a;cases b:e[j]? with
   | none=>simp_all
   | some y=>rw [b] at a;cases a;exact (h j y c b d).dz
 | _=>exact h.dz
theorem gS.nQ:∀{d:ao} {ys e:aQ},gS ι M H d ys->T.nQ d=some e->ys=e:=by
 intro d;induction d with
 | nil=>intro ys e h b;cases b;exact zK h.1.symm
 | cons x d k=>
  intro ys e h b;cases x with
  | v x=>
   simp only [T.nQ] at b;obtain ⟨n,g,i⟩:=map_some b;subst i;cases ys with
   | nil=>simp [gS] at h
   | cons y ys=>have f:=h.2 0 (.v x) y rfl rfl;cases f;rw [k (ys:=ys) ⟨by simpa using h.1,λj a c l m=>h.2 (j+1) a c (by grind) (by grind)⟩ g]
  | _=>cases b
theorem TR.iF {v:aq} (h:TR ι M H x v) (a:T.iF x=some u):v=u:=by
 cases x with
 | v x=>cases a;cases h;rfl
 | ag f=>
  simp only [T.iF] at a;obtain ⟨k,b,d⟩:=map_some a;subst d;cases h with
  | @ag _ e i h=>have:=gS.nQ (ys:=e.toList) ⟨O,λj x c a g=>h j x c a (by grind)⟩ b;rw [<-this]
 | _=>cases a
theorem cO (h:cJ o) (b:o[a]? =some x):cH x:=by
 induction o generalizing a with
 | nil=>cases b
 | cons y o c=>
  simp only [cJ,zN] at h
  grind
theorem kf (h:∀x∈o,cH x):cJ o:=by
 induction o with
 | nil=>rfl
 | cons y o a=>simp only [cJ,zN];simp_all
theorem fi (h:mX o) (b:o[a]? =some x):kq x:=by
 induction o generalizing a with
 | nil=>cases b
 | cons y o c=>
  simp only [mX,zN] at h
  grind
theorem DY (h:∀x∈o,kq x):mX o:=by
 induction o with
 | nil=>rfl
 | cons y o a=>simp only [mX,zN];simp_all
theorem jh (h:pK o) (b:o[a]? =some x):na x:=by
 induction o generalizing a with
 | nil=>cases b
 | cons y o c=>
  simp only [pK,zN] at h
  grind
theorem DD (h:na x):kq x:=by cases x <;> simp_all [na,kq]
theorem iO (h:kq x):cH x:=by cases x <;> simp_all [kq,cH]
theorem rE (h:pK o):mX o:=DY λx b=>by obtain ⟨j,a,rfl⟩:=yA b;exact DD (jh h (zA a))
theorem tb:cH (dX x)=cH x:=by cases x <;> rfl
theorem sZ (h:cJ o):cJ (o.map dX):=kf λx b=>by obtain ⟨y,c,rfl⟩:=xW.1 b;obtain ⟨j,a,rfl⟩:=yA c;rw [tb];exact cO h (zA a)
theorem TR.zq {v:aq} (h:TR ι M H x v) (a:cH x):one v:=by
 cases h with
 | v h _=>exact fT h
 | u=>cases a
 | ag _ _=>cases a
 | tu _ _=>cases a
 | _=>rfl
theorem TR.ce (h:TR ι M H x v) (a:cJ (T.ce x)):gS ι M H (T.ce x) v.cells.toList/\v.cells.toList.all one:=by
 have n:∀d (f:aQ),cJ d->gS ι M H d f->f.all one:=by intro d f b e;rw [zT];intro y m;obtain ⟨j,l,rfl⟩:=yA m;have o:=e.1▸l;exact (e.2 j d[j] f[j] (zA _) (zA _)).zq (cO b (zA _))
 cases x with
 | ag i=>
  cases h with
  | @ag _ d p h=>have b:gS ι M H i d.toList:=⟨O,λj x c a g=>h j x c a (by grind)⟩;exact ⟨b,n _ _ a b⟩
 | u=>simp [T.ce,cJ,cH] at a
 | tu q=>simp [T.ce,cJ,cH] at a
 | _=>
  have b:=h.zq (by simpa [T.ce,cJ] using a);have e:v.cells= #[v]:=by cases v <;> first|rfl|(simp [one] at b)
  have k:gS ι M H [_] [v]:=⟨rfl,λj x c a g=>by
   cases j with
   | zero=>cases a;cases g;exact h
   | succ j=>cases a⟩
  rw [e];exact ⟨k,by simpa using b⟩
theorem gS.part {C:aQ} (i:o.length<=C.length/\∀(j:Nat) (x:TV) (c:aq),o[j]? =some x->C[j]? =some c->TR ι M H x c) (h:T.part q a o b=some x):
  ∃v,(bif q then (if b+a<=C.length then some (Value.agg ((C.drop b).take a).toArray) else none) else C[b]?)=some v/\TR ι M H x v/\
   (q=true->x= .ag ((o.drop b).take a)/\b+a<=o.length/\v= .agg ((C.drop b).take a).toArray)/\(q=false->o[b]? =some x/\C[b]? =some v):=by
 unfold T.part at h;cases q with
 | true=>
  simp only [cond_true] at h ⊢;split at h;rename_i g;cases h;refine ⟨.agg ((C.drop b).take a).toArray,zP O,.ag W λj x c f e=>?_,λ_=>⟨rfl,g,rfl⟩,λh=>by cases h⟩;have e:((C.drop b).take a)[j]? =some c:=by simpa using e
  rw [zS] at f e;split at f
  grind
  cases f;cases h
 | false=>simp only [cond_false] at h ⊢;have g:=ab h;have d:b<C.length:=O;exact ⟨C[b],zA d,i.2 b x _ h (zA d),λh=>(by cases h),λ_=>⟨h,zA d⟩⟩
theorem gS.le (h:gS ι M H o p):o.length<=p.length/\∀(j:Nat) (x:TV) (c:aq),o[j]? =some x->p[j]? =some c->TR ι M H x c:=⟨Nat.le_of_eq h.1,h.2⟩
theorem TR.nj (h:TR ι M H x w) (b:x≠ .u):nj w:=by
 cases h with
 | u=>simp_all
 | v a _=>cases w <;> first|rfl|(simp [ak] at a)
 | _=>rfl
theorem GY (f:∀(j:Nat) (x:TV) (c:aq),o[j]? =some x->p[j]? =some c->TR ι M H x c) (m:∀x∈o,x≠ .u) (h:T.part q a o b=some x):(bif q then ((p.drop b).take a).all V.nj else (p[b]?).all V.nj)=true:=by
 have r:=λj c d i=>(f j _ c (zA d) i).nj (m _ (zW d));unfold T.part at h;cases q with
 | true=>
  simp only [cond_true] at h ⊢;split at h;rename_i n;rw [zT];intro c g;obtain ⟨k,l,rfl⟩:=yA g;have e:=zA l;rw [zS] at e;split at e
  grind
  cases e;cases h
 | false=>grind
theorem DB (h:res P t=some (q,a)) {sz:Nat} {j:di} (g:H[b]? =some (.row p sz j)) (k:(bif q then ((p.drop c).take a).all nj else (p[c]?).all nj)=true):
  cV P t (.pointer (some ⟨b,c,none⟩)) H=bif q then (if c+a<=p.length then some (Value.agg ((p.drop c).take a).toArray) else none) else p[c]? :=by
 unfold res at h;split at h;rename_i d i e f;cases h;simp only [cV,g,e,f]
 grind
 cases h
theorem jg (h:res P t=some (q,a)) {sz:Nat} {g:di} (f:H[b]? =some (.row p sz g)) (e:(bif q then u.cells.toList.all V.nj else V.nj u)=true)
  (d:(bif q then (if c+a<=p.length then some (Value.agg ((p.drop c).take a).toArray) else none) else p[c]?)=some u):cV P t (.pointer (some ⟨b,c,none⟩)) H=some u:=by
 rw [DB h f,d];cases q with
 | true=>simp only [cond_true] at d e ⊢;split at d;cases d;simpa [Value.cells] using e;cases d
 | false=>simp_all
theorem Vd (d:∀(j:Nat) (x:TV) (c:aq),o[j]? =some x->p[j]? =some c->TR ι M H x c) (e:∀x∈o,x≠ .u) (h:T.part q a o b=some x) (f:q->x= .ag ((o.drop b).take a)/\b+a<=o.length/\u= .agg ((p.drop b).take a).toArray) (g:q=false->o[b]? =some x/\p[b]? =some u):(bif q then u.cells.toList.all V.nj else V.nj u)=true:=by
 have k:=GY d e h;cases q with
 | true=>obtain ⟨_,_,rfl⟩:=f rfl;simpa [Value.cells] using k
 | false=>simp_all
theorem DV (h:cH x):x≠ .u:=by rintro rfl;cases h
theorem DR (h:cJ o):∀x∈o,x≠ .u:=λx b=>by obtain ⟨j,a,rfl⟩:=yA b;exact DV (cO h (zA a))
theorem Jm (h:mX o):∀x∈o,x≠ .u:=λx b=>by obtain ⟨j,a,rfl⟩:=yA b;exact DV (iO (fi h (zA a)))
theorem AR {k:Nat} (h:b+c<=k):((p.drop (a+b)).take c)=((((p.drop a).take k).drop b).take c):=by
 rw [List.drop_take,List.drop_drop,List.take_take]
 grind
theorem A9 {g:Bool} (hr:res P t=some (g,a)) (b6:∀D w c3,(ob r s D)[w]? =some c3->OR ι M h H (wr b D w) D w c3) (d:fk g a r s x=some y) (o:TR ι M H x u):
  ∃v,cV P t u H=some v/\TR ι M H y v/\NO y v:=by
 have c2:∀k (n:Nat) (y:TV) (v:aq),mX k->T.part g a k n=some y->NO y v:=by
  intro k n y v hn l;unfold T.part at l;cases g with
  | true=>
   simp only [cond_true] at l;split at l;cases l;refine .of λi j N e=>?_;cases i with
   | succ i=>cases e
   | zero=>have e:((k.drop n).take a)[j]? =some (.sl true N):=e;rw [zS] at e;split at e;rw [yX] at e;exact absurd (fi hn e) (by simp [kq]);cases e
   cases l
  | false=>simp at l;have:=fi hn l;refine .one (λk e=>?_) (λk e=>?_) (λN e=>?_) <;> (subst e;simp [kq] at this)
 unfold fk at d;split at d;rename_i D w n;split at d;rename_i k sz J;have ⟨h0,c4,C,R,X,E,_⟩:=b6 D w _ J;cases o with
 | p F=>rw [R] at F;cases F;have ⟨z,h4,h5⟩:=map_some d;subst h5;have ⟨v,m,K,A,L⟩:=gS.part E.le h4;exact ⟨v,jg hr X (Vd E.2 (DR h0) h4 A L) m,K.bw,.bw _ _⟩
 cases d;rename_i D w c8 i sz n;split at d;rename_i c7 z N J;split at d;rename_i hk;obtain ⟨rfl,rfl⟩:=hk;have ⟨c4,C,R,X,hl,E,_⟩:=b6 D w _ J;cases o with
 | q F=>
  rw [R] at F;cases F;have ⟨e,he,l⟩:=zQ.1 d;have b2:=E.1 e (zI he);have c5:=ab he;have c6:i*z+z<=C.length:=by have:(i+1)*z<=N.length*z:=zV _ c5;rw [wL] at this;omega
  have f:e.length<=((C.drop (i*z)).take z).length/\∀(j:Nat) (x:TV) (c:aq),e[j]? =some x->((C.drop (i*z)).take z)[j]? =some c->TR ι M H x c:=by
   refine ⟨W,λj x c o f=>?_⟩;rw [zS] at f;split at f;rw [yX] at f;apply E.2.2 i j e x c he o
   simp_all
   cases f
  have ⟨v,m,K,A,L⟩:=gS.part f l;refine ⟨v,?_,K,c2 e n y v b2.2 l⟩;apply jg hr X (Vd f.2 (Jm b2.2) l A L);cases g with
  | true=>simp only [cond_true] at m ⊢;have ⟨_,q5,q6⟩:=A rfl;rw [zP O,AR (k:=z) O,q6]
  | false=>
   simp at m ⊢;rw [zS] at m;split at m
   simp_all
   cases m
 cases d;cases d;rename_i k n;cases o with
 | @pe _ _ c4 b1 sz C lo J hm hl hb hh=>
  have f:k.length<=(C.drop b1).length/\∀(j:Nat) (x:TV) (c:aq),k[j]? =some x->(C.drop b1)[j]? =some c->TR ι M H x c:=by refine ⟨W,λj x c o f=>?_⟩;rw [yX] at f;exact hh j x c o f
  have ⟨v,m,K,A,L⟩:=gS.part f d;refine ⟨v,?_,K,c2 k n y v (rE hb) d⟩;apply jg hr J (Vd f.2 (Jm (rE hb)) d A L);cases g with
  | true=>simp only [cond_true] at m ⊢;have ⟨_,q5,q6⟩:=A rfl;rw [zP O,q6,List.drop_drop]
  | false=>simp_all
 cases d
end
section
variable {X:Nat->Prop} {D E:aH} {M J:Nat->Prop} {H h:AH} {ω ω':Nat->Option Loc} {P:aB} {fl:Nat} {τ τ':TF} {l s l' s':ae} {V:aQ}
theorem cj (τ:TF) (d:Nat) (x:TV):aG τ d x d=x:=by simp [aG]
theorem He (h:a≠b):Nat.beq a b=false:=by
 cases c:Nat.beq a b with
 | false=>rfl
 | true=>simp_all
theorem sq (τ:TF) (x:TV) (h:b≠a):aG τ a x b=τ b:=by simp only [aG,He h,cond_false]
theorem aL (τ:TF) (d t:Nat) (x:TV):(t=d/\aG τ d x t=x)\/(t≠d/\aG τ d x t=τ t):=by by_cases h:t=d;subst h;exact .inl ⟨rfl,cj _ _ _⟩;exact .inr ⟨h,sq _ _ h⟩
theorem n6 {V:aQ} (h:a<V.length) (v:aq):(V.set a v).getD a undef=v:=by simp_all
theorem dQ {V:aQ} (h:a≠b):(V.set a u).getD b undef=V.getD b undef:=by simp_all
theorem jN (l s:ae) (r:Bool) (a:Nat) (o:TO) (c:Bool) (b:Nat):(ob (put l s r a o).1 (put l s r a o).2 c)[b]? =if c=r/\b=a then ((ob l s r)[a]?).map λ_=>o else (ob l s c)[b]? :=by
 cases r <;> cases c <;> simp only [ob,put,cond_true,cond_false,xA,Bool.true_eq_false,false_and,if_false,true_and];all_goals
  by_cases h:b=a;subst h;rw [zP rfl];rw [yO];simp;split;rename_i h;rw [zA h];rfl;rename_i h;rw [xE O];rfl;rw [zO h,zE (λe=>h e.symm)]
theorem gv (l s:ae) (r:Bool) (b:Nat) (o:TO) (a:Bool):(ob (put l s r b o).1 (put l s r b o).2 a).length=(ob l s a).length:=by cases r <;> cases a <;> simp [ob,put]
theorem DO (l s:ae) (r:Bool) (o:TO) (a:Bool) (b:Nat):(ob (add l s r o).1 (add l s r o).2 a)[b]? =if a=r/\b=(ob l s r).length then some o else (ob l s a)[b]? :=by
 cases r <;> cases a <;> simp only [ob,add,cond_true,cond_false,xA,Bool.true_eq_false,false_and,if_false,true_and];all_goals
  rw [List.getElem?_append];split;rename_i h;rw [zO O];rename_i h;split;rename_i c;subst c;simp;rename_i c;rw [xE W,xE O]
theorem ou (l s:ae) (r:Bool) (o:TO) (a:Bool):(ob (add l s r o).1 (add l s r o).2 a).length=if a=r then (ob l s a).length+1 else (ob l s a).length:=by cases r <;> cases a <;> simp [ob,add]
theorem yh (c:wr fl q a) (o:TO) (h:b<fl):(put l s q a o).2[b]? =s[b]? :=by
 cases q with
 | false=>rfl
 | true=>
  have:=yN c;show (s.set a o)[b]? =s[b]?
  grind
theorem I4 (b:fl<=s.length) (r:Bool) (o:TO) (h:a<fl):(add l s r o).2[a]? =s[a]? :=by
 cases r with
 | false=>rfl
 | true=>
  show (s++[o])[a]? =s[a]?
  grind
theorem TR.leaf {v:aq} (h:TR D M H x v) (c:∀b,x≠ .ag b) (d:∀b,x≠ .tu b) (f:x≠ .u):(∀a,v≠ .agg a)/\∀a,v≠ .tuple a:=by
 cases h with
 | v h g=>constructor <;> (rintro a rfl;simp [ak] at h)
 | u=>simp_all
 | ag=>simp_all
 | tu=>simp_all
 | _=>constructor <;> (rintro a e;cases e)
theorem FW (h:∀c,u≠ .agg c) (b:jt u a=some v):a=0/\v=u:=by
 unfold jt at b;split at b
 simp_all
 simp_all
 cases b
theorem N1 (h:∀c,x≠ .ag c) (b:iG x a=some y):a=0/\y=x:=by
 unfold iG at b;split at b
 simp_all
 simp_all
 cases b
theorem TR.iG {v:aq} (h:TR D M H x v) (g:T.iG x a=some y) (f:jt v a=some w):TR D M H y w:=by
 by_cases c:∃b,x= .ag b;obtain ⟨b,rfl⟩:=c;cases h with
 | @ag _ d k h=>exact h a y w g f
 have c:=λb e=>c ⟨b,e⟩;obtain ⟨rfl,rfl⟩:=N1 c g;by_cases i:y= .u;subst i;exact .u;have:∀d,v≠ .agg d:=by
  cases h with
  | v h j=>rintro d rfl;simp [ak] at h
  | u=>simp_all
  | ag=>simp_all
  | _=>rintro d e;cases e
 rw [(FW this f).2];exact h
theorem TR.at {v:aq} (h:TR D M H x v) (d:eG x a b=some y) (c:mi v a b=some w):TR D M H y w:=by
 by_cases i:∃f,x= .tu f;obtain ⟨f,rfl⟩:=i;cases h with
 | @tu _ g s h=>simp only [eG,zQ] at d;simp only [mi,zQ] at c;obtain ⟨j,l,d⟩:=d;obtain ⟨k,m,c⟩:=c;exact (h a j k l m).iG d c
 have i:=λf e=>i ⟨f,e⟩;by_cases o:x= .u;subst o;cases a with
 | succ a=>cases d
 | zero=>cases b with
  | zero=>cases d;exact .u
  | succ b=>cases d
 have n:a=0/\T.iG x b=some y:=by
  unfold eG at d;split at d
  simp_all
  simp_all
  cases d
 obtain ⟨rfl,p⟩:=n;have r:∀g,v≠ .tuple g:=by
  cases h with
  | v h q=>rintro g rfl;simp [ak] at h
  | u=>simp_all
  | tu=>simp_all
  | _=>rintro g e;cases e
 have c:jt v b=some w:=by
  unfold mi at c;split at c
  simp_all
  exact c;cases c
 exact h.iG p c
theorem TR.vF {c:cD} {b:Addr} (h:TR D M H (.sl true c) (.slice (some b) a 1)):¬M b.block/\∃C sz d,H[b.block]? =some (.row C sz d):=by
 cases h with
 | sl f e _ _ _ _=>simp_all
theorem OR.dH {r:Bool} {o:TO} (h:OR D M ω H q r a o) (d:o.az=some b):∃c,D r a b=some c/\ω c=bif q then some (.o r a) else none:=by
 cases o with
 | row i sz=>cases d;have ⟨_,c,C,e,_,_,f,_⟩:=h;simp_all
 | aY j sz g=>cases d;have ⟨c,C,e,_,_,_,f,_⟩:=h;simp_all
 | mp g cl=>cases d;have ⟨c,e,_,_,f⟩:=h;simp_all
 | dead=>cases d
theorem St.ne (h:St X D ω fl H τ l s V) {g:Bool} {o i:TO} (m:(T.ob l s q)[a]? =some o) (n:(T.ob l s g)[b]? =some i) (j:o.az=some c) (k:i.az=some d) (t:D q a c=some e) (v:D g b d=some f) (x:wr fl q a) (w:¬(g=q/\b=a)):f≠e:=by
 rintro rfl;obtain ⟨z,a1,a2⟩:=(h.ob q a o m).dH j;obtain ⟨A,p,r⟩:=(h.ob g b i n).dH k
 grind
theorem Mu.of {o:TO} (f:(ob l s q)[a]? =some o) (e:o.az=some b) (d:D q a b=some c):Mu X D l s c:=.inr ⟨q,a,o,b,f,e,d⟩
theorem Mu.put {r:Bool} {c k:Nat} {o f:TO} (j:(T.ob l s r)[c]? =some o) (q:o.az=some k) (t:f.az=some k):Mu X D (T.put l s r c f).1 (T.put l s r c f).2=Mu X D l s:=by
 funext w;apply propext;apply or_congr Iff.rfl;constructor;rintro ⟨i,h,p,m,a,b,g⟩;rw [jN] at a;split at a
 grind
 grind
 rintro ⟨i,h,p,m,a,b,g⟩;by_cases e:i=r/\h=c;obtain ⟨rfl,rfl⟩:=e;rw [j] at a;cases a;rw [q] at b;cases b;exact ⟨_,_,f,k,by rw [jN,zP ⟨rfl,rfl⟩,j];rfl,t,g⟩;exact ⟨i,h,p,m,by rw [jN,zO e];exact a,b,g⟩
theorem St.Aj (h:St X D ω fl H τ l s V) (c:a<V.length) (f:TR D (Mu X D l s) H x u) (d:Own ω H x u (.t a)):St X D ω fl H (aG τ a x) l s (V.set a u):={
 tm:=λt=>by
  rcases aL τ a t x with ⟨rfl,e⟩|⟨b,e⟩
  simp_all
  rw [e,dQ (λe=>b e.symm)];exact h.tm t
 ow:=λt=>by
  rcases aL τ a t x with ⟨rfl,e⟩|⟨b,e⟩
  simp_all
  rw [e,dQ (λe=>b e.symm)];exact h.ow t
 ob:=h.ob
 lt:=h.lt
 fA:=h.fA
 mJ:=h.mJ
 xl:=h.xl
 xo:=h.xo}
theorem St.put (h:St X D ω fl H τ l s V) {d:di} {x:TV} {v:aq} (a:∀k,d=some k->k<V.length) (c:TR D (Mu X D l s) H x v) (b:NO x v):St X D ω fl H (dT τ d x) l s (bZ V d v):=by
 cases d with
 | none=>exact h
 | some d=>exact h.Aj (a d rfl) c (b.own _)
theorem St.Ht (h:St X D ω fl H τ l s V) (t:Nat):St X D ω fl H (aG τ t (bw (τ t))) l s V:={
 tm:=λa=>by rcases aL τ t a (bw (τ t)) with ⟨rfl,e⟩|⟨b,e⟩;rw [e];exact (h.tm _).bw;rw [e];exact h.tm a
 ow:=λa=>by rcases aL τ t a (bw (τ t)) with ⟨rfl,e⟩|⟨b,e⟩;rw [e];exact (NO.bw _ _).own _;rw [e];exact h.ow a
 ob:=h.ob
 lt:=h.lt
 fA:=h.fA
 mJ:=h.mJ
 xl:=h.xl
 xo:=h.xo}
theorem Le.write (f:M a) (b:AO):Le D M H D M (H.set a b):=
 ⟨λ_ _ _ _ h=>h,λv C sz e c d=>⟨d,e,by
  rw [zE];exact c
  grind⟩⟩
theorem Fr.aM {b:Addr} (c:Fr H b a) (g:h[b.block]? =H[b.block]?):Fr h b a:=by obtain ⟨d,C,sz,i,e,f⟩:=c;exact ⟨d,C,sz,i,g.trans e,f⟩
theorem OR.other {r:Bool} {o:TO} (t:OR D M ω H q r a o) (m:Le D M H E J h) (w:∀k b,o.az=some k->D r a k=some b->h[b]? =H[b]? /\ω' b=ω b) (N:∀k sz g,o= .aY k sz g->∀f,k<f->D r a f=none->E r a f=none)
  (K:q->∀(c:Addr) (j:Nat),ω c.block=some (.c r a j)->¬M c.block->ω' c.block=some (.c r a j)/\h[c.block]? =H[c.block]?):OR E J ω' h q r a o:=by
 cases o with
 | row cs sz=>obtain ⟨F,b,C,d,i,e,l,v⟩:=t;obtain ⟨p,s⟩:=w 0 b rfl d;refine ⟨F,b,C,m.qp _ _ _ _ d,p.trans i,e.mono m,s.trans l,λy j g c n z A=>?_⟩;obtain ⟨P,R⟩:=v y j g c n z A;have:=(e.2 j _ _ z A).vF.1;obtain ⟨X,q4⟩:=K y c j P this;exact ⟨X,R.aM q4⟩
 | aY k sz g=>obtain ⟨b,C,d,i,L,e,l,v⟩:=t;obtain ⟨p,s⟩:=w k b rfl d;exact ⟨b,C,m.qp _ _ _ _ d,p.trans i,L,e.mono m,s.trans l,λf x=>N _ _ _ rfl f x (v f x)⟩
 | mp g cl=>obtain ⟨b,d,i,e,l⟩:=t;obtain ⟨p,s⟩:=w 0 b rfl d;exact ⟨b,m.qp _ _ _ _ d,p.trans i,e,s.trans l⟩
 | dead=>trivial
theorem St.write (h:St X D ω fl H τ l s V) {o o':TO} (y:(T.ob l s q)[a]? =some o) (x:wr fl q a) (w:o.az=some b) (R:o'.az=some b) (C:D q a b=some c) (r:AO) (f:Loc->Loc)
  (c3:∀t,TR D (Mu X D l s) H (τ' t) (V.getD t undef))
  (c2:∀t i j A p n,eG (τ' t) i j=some (.sl true A)->mi (V.getD t undef) i j=some (.slice (some p) n 1)->(ω p.block).map f=some (.t t i j)/\Fr H p n)
  (c7:∀q a,f (.o q a)= .o q a) (c6:∀k g j,¬(k=q/\g=a)->f (.c k g j)= .c k g j)
  (c9:OR D (Mu X D l s) (λv=>(ω v).map f) (H.set c r) true q a o'):
  St X D (λv=>(ω v).map f) fl (H.set c r) τ' (T.put l s q a o').1 (T.put l s q a o').2 V/\Xt X fl D ω H l s D (λv=>(ω v).map f) (H.set c r) (T.put l s q a o').1 (T.put l s q a o').2:=by
 have J:Mu X D (T.put l s q a o').1 (T.put l s q a o').2=Mu X D l s:=Mu.put y w R;have hm:Mu X D l s c:=Mu.of y w C;have F:Le D (Mu X D l s) H D (Mu X D l s) (H.set c r):=Le.write hm r;have d1:ω c=some (.o q a):=by obtain ⟨v1,a1,a2⟩:=(h.ob q a o y).dH w;rw [C] at a1;cases a1;rw [a2,x];rfl
 have z:∀v,v≠c->(H.set c r)[v]? =H[v]? :=λv d=>zE (λe=>d e.symm);refine ⟨⟨λt=>by rw [J];exact (c3 t).mono F,λt i j A p n m N=>?_,λk g M m=>?_,λv d2 d=>?_,λk g L v d=>?_,?_,λv d=>by rw [xH];exact h.xl v d,λv d=>by simp [h.xo v d]⟩,⟨λ_ _ _ _ h=>h,Z,λv _ d=>?_,λv c5 sz lo d hn=>⟨lo,?_⟩,λv d=>.inl (by simp_all),λg hid=>yh x o' hid⟩⟩;obtain ⟨q1,q2⟩:=c2 t i j A p n m N;refine ⟨q1,q2.aM (z _ ?_)⟩
 grind
 rw [jN] at m;rw [J];split at m
 simp_all
 rename_i e;refine (h.ob k g M m).other F (λL v E P=>?_) (λ_ _ _ _ _ _ w=>w) (λ_ p j hc c8=>⟨?_,z _ ?_⟩);have b6:=h.ne y m w E C P x e;refine ⟨z _ b6,?_⟩;obtain ⟨v2,b1,b2⟩:=(h.ob k g M m).dH E
 grind
 grind
 grind
 rw [xH];cases x:ω v with
 | none=>simp_all
 | some c4=>exact h.lt v c4 x
 rw [gv,xH];exact h.fA k g L v d;have:=h.mJ;have e:=gv l s q a o' true;simp only [T.ob,cond_true] at e;omega
 grind
 rw [z _ ?_];exact d
 grind
theorem hJ:∀(b c:ao) (a j:Nat),a+b.length<=c.length->(eP c a b)[j]? =if a<=j/\j<a+b.length then b[j-a]? else c[j]? :=by
 intro b;induction b with
 | nil=>intro c a j _;rw [zO Z];rfl
 | cons x b d=>
  intro c a j h;simp at h;rw [eP,d _ _ _ W,yO];simp;by_cases e:j=a
  grind
  by_cases f:a+1<=j/\j<a+1+b.length
  grind
  grind
theorem dV:∀(b c:aQ) (a j:Nat),a+b.length<=c.length->(cr c a b)[j]? =if a<=j/\j<a+b.length then b[j-a]? else c[j]? :=by
 intro b;induction b with
 | nil=>intro c a j _;rw [zO Z];rfl
 | cons x b d=>
  intro c a j h;simp at h;rw [cr,d _ _ _ W,yO];simp;by_cases e:j=a
  grind
  by_cases f:a+1<=j/\j<a+1+b.length
  grind
  grind
@[simp] theorem ja:∀(b a:ao) (c:Nat),(eP a c b).length=a.length:=by
 intro b;induction b with
 | nil=>intro a c;rfl
 | cons x b d=>intro a c;simp [eP,d]
theorem gS.eP {f:ao} {g:aQ} (h:gS D M H o p) (k:gS D M H f g) (i:a+f.length<=o.length):gS D M H (T.eP o a f) (cr p a g):=by refine ⟨by simp [h.1],λj x c d b=>?_⟩;rw [hJ _ _ _ _ i] at d;rw [dV _ _ _ _ (by have:=h.1;have:=k.1;omega),<-k.1] at b;split at d;rename_i e;rw [zP e] at b;exact k.2 _ x c d b;rename_i e;rw [zO e] at b;exact h.2 _ x c d b
theorem sY {b:ao} (h:cJ o) (k:cJ b) (d:a+b.length<=o.length):cJ (T.eP o a b):=by refine kf λx f=>?_;obtain ⟨j,c,rfl⟩:=yA f;have e:=zA c;rw [hJ _ _ _ _ d] at e;split at e;exact cO k e;exact cO h e
theorem Hd {b:ao} (h:mX o) (k:mX b) (d:a+b.length<=o.length):mX (T.eP o a b):=by refine DY λx f=>?_;obtain ⟨j,c,rfl⟩:=yA f;have e:=zA c;rw [hJ _ _ _ _ d] at e;split at e;exact fi k e;exact fi h e
theorem ry (H:AH) (a:Nat) (o:AO) (b:H[a]? =some o):H.set a o=H:=jc H a o b
theorem rk (h:aW x) (j:Nat):eG x 0 j=(ce x)[j]? :=by
 cases x with
 | ag a=>rfl
 | u=>simp [aW,ce,cJ,cH] at h
 | tu b=>simp [aW,ce,cJ,cH] at h
 | _=>cases j <;> simp [eG,iG,ce]
theorem jU (c:TR D M H x v) (h:aW x) (j:Nat):mi v 0 j=v.cells.toList[j]? :=by
 cases x with
 | ag l=>
  cases c with
  | ag _ _=>simp [mi,jt,Value.cells]
 | u=>simp [aW,ce,cJ,cH] at h
 | tu n=>simp [aW,ce,cJ,cH] at h
 | _=>
  have b:=c.zq (by simpa [aW,ce,cJ] using h);have e:v.cells= #[v]:=by cases v <;> first|rfl|(simp [one] at b)
  have f:∀a,v≠ .agg a:=by rintro a rfl;cases b
  have g:∀a,v≠ .tuple a:=by rintro a rfl;cases b
  rw [e];have i:mi v 0 j=jt v j:=by unfold mi;split;exact absurd rfl (g _);rfl;rename_i m d;exact absurd rfl d
  rw [i];unfold jt;split;exact absurd rfl (f _);rfl;rename_i k;cases j with
  | zero=>exact absurd rfl k
  | succ j=>simp
def toCell (c:di) (r:Bool) (a b:Nat):Loc->Loc
 | .t n i j=>if c=some n then .c r a (b+j) else .t n i j
 | x=>x
theorem nY (h:me P t=some a) {sz:Nat} (f:H[b]? =some (.row p sz (some d))) (g:u.cells.size=a) (j:c+a<=p.length) (k:u.cells.toList.all one) (l:d<=c) (m:As sz c a):
  fD P t (.pointer (some ⟨b,c,none⟩)) u H=some (H.set b (.row (cr p c u.cells.toList) sz (some d))):=by
 unfold me at h;obtain ⟨i,e,rfl⟩:=map_some h;simp only [fD,f,e]
 simp_all
theorem St.v7 (h:St X D ω fl H τ l s V) {n:Nat} {r:Bool} {off:Nat} {sz:Nat} (F:(T.ob l s r)[a]? =some (.row o sz)) (J:wr fl r a) {x':aq} (hn:(ce x).length=n) (hl:off+n<=o.length) (z:aW x) (L:TR D (Mu X D l s) H x x') (q:di)
  (b2:∀j c b k,eG x 0 j=some (.sl true c)->mi x' 0 j=some (.slice (some b) k 1)->∃m,q=some m/\ω b.block=some (.t m 0 j)/\Fr H b k)
  (N:∀t,(q≠some t/\τ' t=τ t)\/(∃y,τ' t=T.bw y/\TR D (Mu X D l s) H y (V.getD t undef))):
  ∃f C ω',D r a 0=some f/\H[f]? =some (.row C sz (some 0))/\o.length=C.length/\x'.cells.size=n/\x'.cells.toList.all one/\
   St X D ω' fl (H.set f (.row (cr C off x'.cells.toList) sz (some 0))) τ' (T.put l s r a (.row (eP o off (ce x)) sz)).1 (T.put l s r a (.row (eP o off (ce x)) sz)).2 V/\Xt X fl D ω H l s D ω' (H.set f (.row (cr C off x'.cells.toList) sz (some 0))) (T.put l s r a (.row (eP o off (ce x)) sz)).1 (T.put l s r a (.row (eP o off (ce x)) sz)).2:=by
 have c4:∀t,TR D (Mu X D l s) H (τ' t) (V.getD t undef):=by intro t;rcases N t with ⟨_,e⟩|⟨y,e,M⟩;rw [e];exact h.tm t;rw [e];exact M.bw
 have b6:∀(r:Bool) (a off:Nat) t i j c b k,eG (τ' t) i j=some (.sl true c)->mi (V.getD t undef) i j=some (.slice (some b) k 1)->(ω b.block).map (toCell q r a off)=some (.t t i j)/\Fr H b k:=by
  intro r a off t i j c b k d v;rcases N t with ⟨b1,e⟩|⟨y,e,M⟩;rw [e] at d;obtain ⟨q1,q2⟩:=h.ow t i j c b k d v;rw [q1];exact ⟨by simp [toCell,b1],q2⟩;rw [e,rp] at d;cases hz:eG y i j with
  | none=>simp_all
  | some c6=>rw [hz] at d;exact absurd (yD d) (kY c6 c)
 obtain ⟨h0,f,C,d,v,w,h4,h5⟩:=h.ob r a _ F;obtain ⟨c1,R⟩:=L.ce (by simpa [aW] using z);have c3:x'.cells.size=n:=by have:=c1.1;simp at this;omega
 refine ⟨f,C,λc5=>(ω c5).map (toCell q r a off),d,v,w.1,c3,R,?_⟩;apply h.write F J rfl rfl d _ (toCell q r a off) c4 (b6 r a off) (λ_ _=>rfl) (λr' c7 j he=>rfl);have K:Mu X D l s f:=Mu.of F rfl d;refine ⟨sY h0 (by simpa [aW] using z) O,f,cr C off x'.cells.toList,d,zF (ab v),(w.eP c1 O).mono (Le.write K _),?_,λ_ j c b k p g=>?_⟩;show (ω f).map _=_;rw [h4,J];rfl;rw [hJ _ _ _ _ O] at p;rw [dV _ _ _ _ (by have:=w.1;simp_all),<-c1.1] at g;have P:∀{y:TV} {c:cD} {b:Addr} {k:Nat},TR D (Mu X D l s) H (.sl true c) (.slice (some b) k 1)->(H.set f (.row (cr C off x'.cells.toList) sz (some 0)))[b.block]? =H[b.block]? :=by intro y c b k hh;refine zE ?_;rintro rfl;exact hh.vF.1 K
 split at p;rename_i E;rw [zP E] at g;obtain ⟨m,e1,A,e3⟩:=b2 (j-off) c b k (by rw [rk z];exact p) (by rw [jU L z];exact g);refine ⟨?_,e3.aM (P (y:=.u) (c1.2 _ _ _ p g))⟩;show (ω b.block).map _=_;rw [A];simp only [zM,toCell,e1,if_true,xK,Loc.c.injEq,true_and];omega;rename_i E;rw [zO E] at g;obtain ⟨A,e3⟩:=h5 J j c b k p g;refine ⟨?_,e3.aM (P (y:=.u) (w.2 _ _ _ p g))⟩;show (ω b.block).map _=_;rw [A];rfl
theorem St.store (E:St X D ω fl H τ l s V) {t:aP} {b1:Nat} (ht:me P t=some b1) {c8 x:TV} {a' K:aq} {p:ae×ae} (a:cI b1 fl x l s c8=some p) (ha:TR D (Mu X D l s) H c8 a') (hx:TR D (Mu X D l s) H x K) (C:di)
  (d9:∀j f c k,eG x 0 j=some (.sl true f)->mi K 0 j=some (.slice (some c) k 1)->∃d2,C=some d2/\ω c.block=some (.t d2 0 j)/\Fr H c k)
  (c6:∀t,(C≠some t/\τ' t=τ t)\/(∃y,τ' t=T.bw y/\TR D (Mu X D l s) H y (V.getD t undef))):
  ∃h ω',fD P t a' K H=some h/\St X D ω' fl h τ' p.1 p.2 V/\Xt X fl D ω H l s D ω' h p.1 p.2:=by
 have f1:∀t,TR D (Mu X D l s) H (τ' t) (V.getD t undef):=by intro t;rcases c6 t with ⟨_,e⟩|⟨y,e,hy⟩;rw [e];exact E.tm t;rw [e];exact hy.bw
 have e1:∀(r:Bool) (m d:Nat) t i j f c k,eG (τ' t) i j=some (.sl true f)->mi (V.getD t undef) i j=some (.slice (some c) k 1)->(ω c.block).map (toCell C r m d)=some (.t t i j)/\Fr H c k:=by
  intro r m d t i j f c k b w;rcases c6 t with ⟨d8,e⟩|⟨y,e,hy⟩;rw [e] at b;obtain ⟨q1,q2⟩:=E.ow t i j f c k b w;rw [q1];exact ⟨by simp [toCell,d8],q2⟩;rw [e,rp] at b;cases hz:eG y i j with
  | none=>simp_all
  | some z=>rw [hz] at b;exact absurd (yD b) (kY z f)
 unfold cI at a;split at a;rename_i r m d;split at a;rename_i cs sz J;split at a;rename_i hc;obtain ⟨R,hn,hl,N,d3⟩:=hc;cases a;obtain ⟨b2,c7,ω',b,w,A,h4,h5,n⟩:=E.v7 J R hn hl N hx C d9 c6;cases ha with
 | p F=>rw [b] at F;cases F;exact ⟨_,ω',nY ht w h4 O h5 (zY _) d3,n⟩
 cases a;cases a;rename_i r m f6 i sz d;split at a;rename_i k z f J;split at a;rename_i hk;obtain ⟨rfl,rfl,R,e6⟩:=hk;split at a;rename_i e M;split at a;rename_i hc;obtain ⟨hn,hl,N⟩:=hc;cases a;obtain ⟨b2,c7,b,w,f3,A,h4,h5⟩:=E.ob r m _ J;cases ha with
 | q F=>
  rw [b] at F;cases F;have hb:=hx.dz;have e2:cJ (ce x):=by
   refine kf λy hy=>?_;obtain ⟨j,hj,rfl⟩:=yA hy;have:((ce x).map dX)[j]? =some (dX (ce x)[j]):=by rw [zJ,zA hj];rfl
   have:=iO (fi N this);rwa [tb] at this
  obtain ⟨c1,c2⟩:=hx.ce e2;have c3:=c1.AV;have d1:K.cells.size=b1:=by have:=c1.1;simp at this;omega
  have c9:=A.1 e (zI M);have d7:=ab M;have f4:i*z+z<=c7.length:=by have:(i+1)*z<=f.length*z:=zV _ d7;rw [wL] at this;omega
  refine ⟨_,λf2=>(ω f2).map (toCell C r m d),nY ht w d1 O c2 (zY _) (KD e6),?_⟩;apply E.write J R rfl rfl b _ (toCell C r m d) f1 (e1 r m d) (λ_ _=>rfl) (λr' f5 j M=>rfl);have hm:Mu X D l s b2:=Mu.of J rfl b;have d4:K.cells.toList.length=b1:=by simpa using d1
  refine ⟨b2,_,b,zF (ab w),by simp_all,?_,?_,h5⟩;refine JE.mono (Le.write hm _) ⟨λL d5=>?_,W,λi' j L y b6 n g o=>?_⟩;rcases List.mem_or_eq_of_mem_set d5 with v|v;exact A.1 L v;subst v;exact ⟨by simp_all,Hd c9.2 N W⟩;rw [yZ] at o;rw [dV _ _ _ _ O,d4] at o;rw [yO] at n;split at n;rename_i c4;subst c4;cases n;have c5:=ab g;rw [ja,c9.1] at c5;rw [hJ _ _ _ _ W] at g;simp only [yQ] at g;split at g;rename_i hj;rw [zP O] at o;rw [show i*z+j-(i*z+d)=j-d by omega] at o;exact c3.2 _ y b6 g o;rename_i hj;rw [zO O] at o;exact A.2.2 i j e y b6 M g (by simp_all);rename_i c4;have d6:=A.1 L (zI n);have c5:=ab g;rw [d6.1] at c5;rw [zO ?_] at o;exact A.2.2 i' j L y b6 n g (by simp_all);rintro ⟨g1,g2⟩;rcases Nat.lt_or_gt_of_ne c4 with v|v;have:(i+1)*z<=i'*z:=zV _ v
  grind
  have:(i'+1)*z<=i*z:=zV _ v
  grind
  show (ω b2).map _=_;rw [h4,R];rfl
 cases a;cases a;cases a;cases a;cases a
theorem EL (h:cH x):ce x=[x]:=by cases x <;> first|rfl|(cases h)
theorem GZ (g:cJ o) (h:part q a o b=some x):∃m,(ce x).length=m/\b+m<=o.length/\(∀j,j<m->(ce x)[j]? =o[b+j]?)/\aW x/\ce x=(o.drop b).take m/\(q=true->m=a)/\(q=false->m=1):=by
 unfold part at h;cases q with
 | true=>simp only [cond_true] at h;split at h;rename_i i;cases h;refine ⟨a,by simp [ce];omega,i,λj c=>by simp [ce,c],?_,rfl,λ_=>rfl,λh=>by cases h⟩;refine kf λl k=>?_;have:=wD (yM k);obtain ⟨j,c,rfl⟩:=yA this;exact cO g (zA c);cases h
 | false=>
  simp at h;have d:=cO g h;have f:=ab h;have e:(o.drop b).take 1=[x]:=by rw [yG f];simp only [List.take_succ_cons,List.take_zero];rw [zA f] at h;cases h;rfl
  rw [EL d];refine ⟨1,rfl,f,λj c=>?_,by simp [aW,EL d,cJ,d],e.symm,(λh=>by cases h),λ_=>rfl⟩
  simp_all
def lT (r:Bool) (e a m d:Nat):Loc->Loc
 | .c c b k=>if c=r/\b=e/\a<=k/\k<a+m then .t d 0 (k-a) else .c c b k
 | x=>x
theorem St.take (h:St X D ω fl H τ l s V) (hr:res P t=some (q,a)) {p:TV×ae×ae} (b:gW q a fl l s x=some p) (ha:TR D (Mu X D l s) H x u) (d:di) (hd:∀k,d=some k->k<V.length):
  ∃v ω',cV P t u H=some v/\St X D ω' fl H (dT τ d p.1) p.2.1 p.2.2 (bZ V d v)/\Xt X fl D ω H l s D ω' H p.2.1 p.2.2:=by
 unfold gW at b;split at b;rename_i c4 id f;split at b;rename_i cs sz ho;split at b;rename_i J;obtain ⟨b1,L,rfl⟩:=map_some b;obtain ⟨A,R,C,y,E,z,h4,h5⟩:=h.ob c4 id _ ho;cases ha with
 | p F=>
  rw [y] at F;cases F;obtain ⟨v,q1,N,q3,q4⟩:=gS.part z.le L;obtain ⟨m,M,m2,m3,m4,m5,m6,m7⟩:=GZ A L;have hv:=jg hr E (Vd z.2 (DR A) L q3 q4) q1;have c5:∀j,j<m->mi v 0 j=C[f+j]? :=by
   intro j r;cases q with
   | true=>
    obtain ⟨_,_,rfl⟩:=q3 rfl;have:=m6 rfl;simp only [mi,jt]
    simp_all
   | false=>
    obtain ⟨p1,p2⟩:=q4 rfl;have:=m7 rfl;obtain rfl:j=0:=O;have y:=N.zq (cO A p1);rw [jU N m4];have E:v.cells= #[v]:=by cases v <;> first|rfl|(simp [one] at y)
    simp_all
  have c2:=ry H R _ E;have c3:=h.write (o':=.row (T.eP cs f ((ce b1).map dX)) sz) ho J rfl rfl y (.row C sz (some 0)) (lT c4 id f m (d.getD 0)) h.tm
   (λt i j n c k e g=>by
    obtain ⟨u1,u2⟩:=h.ow t i j n c k e g;rw [u1];exact ⟨rfl,u2⟩) (λ_ _=>rfl) (λr' c7 j he=>by
    simp only [lT]
    simp_all) (by
    rw [c2];refine ⟨sY A (sZ m4) W,R,C,y,E,⟨by rw [ja];exact z.1,λj c6 b6 w hc=>?_⟩,?_,λ_ j n c k o h7=>?_⟩;rw [hJ _ _ _ _ W,yQ,M] at w;split at w;rename_i r;rw [zJ,m3 _ O,show f+(j-f)=j by omega] at w;cases K:cs[j]? with
    | none=>simp_all
    | some b2=>rw [K] at w;cases w;exact (z.2 j b2 b6 K hc).dX
    exact z.2 j c6 b6 w hc;show (ω R).map _=_;rw [h4,J];rfl;rw [hJ _ _ _ _ W,yQ,M] at o;split at o;rename_i r;rw [zJ] at o;cases K:(ce b1)[j-f]? with
    | none=>simp_all
    | some b2=>rw [K] at o;exact absurd (yD o) (kY b2 n)
    rename_i r;obtain ⟨g,e3⟩:=h5 J j n c k o h7;refine ⟨?_,e3⟩;show (ω c.block).map _=_;rw [g];simp only [zM,lT]
    simp_all)
  rw [c2] at c3;obtain ⟨w1,w2⟩:=c3;refine ⟨v,_,hv,?_,w2⟩;cases d with
  | none=>exact w1
  | some d=>
   refine w1.Aj (hd d rfl) (N.mono w2.le) λi j n c k e g=>?_;have F:i=0:=by
    cases i with
    | zero=>rfl
    | succ i=>exfalso;cases b1 <;> simp [eG] at e;rename_i vs;simp [aW,ce,cJ,cH] at m4
   subst F;rw [rk m4] at e;have r:j<m:=by rw [<-M];exact ab e
   rw [c5 j r] at g;rw [m3 j r] at e;obtain ⟨e3,e4⟩:=h5 J (f+j) n c k e g;refine ⟨?_,e4⟩;show (ω c.block).map _=_;rw [e3];simp only [zM,lT,Option.getD_some]
   simp_all
 cases b;cases b;cases b
def aH.add (D:aH) (r:Bool) (d k e:Nat):aH:=λc a b=>if c=r/\a=d/\b=k then some e else D c a b
theorem aH.add_same (D:aH) (r:Bool) (a k b:Nat):D.add r a k b r a k=some b:=zP ⟨rfl,rfl,rfl⟩
theorem St.add (h:St X D ω fl H τ l s V) (r:Bool) {o:TO} (A:o.az=some 0) (m:AO) (f:Loc->Loc)
  (c5:∀t,TR D (Mu X D l s) H (τ' t) (V.getD t undef))
  (c4:∀t i j w a n,eG (τ' t) i j=some (.sl true w)->mi (V.getD t undef) i j=some (.slice (some a) n 1)->(ω a.block).map f=some (.t t i j)/\Fr H a n)
  (c9:∀r M,f (.o r M)= .o r M) (c8:∀g d j,d<(T.ob l s g).length->f (.c g d j)= .c g d j)
  (d2:∀J:Nat->Prop,Le D (Mu X D l s) H (D.add r (T.ob l s r).length 0 H.length) J (H++[m])->OR (D.add r (T.ob l s r).length 0 H.length) J (λv=>if v=H.length then some (.o r (T.ob l s r).length) else (ω v).map f) (H++[m]) true r (T.ob l s r).length o):
  St X (D.add r (T.ob l s r).length 0 H.length) (λv=>if v=H.length then some (.o r (T.ob l s r).length) else (ω v).map f) fl (H++[m]) τ' (T.add l s r o).1 (T.add l s r o).2 V/\
   Xt X fl D ω H l s (D.add r (T.ob l s r).length 0 H.length) (λv=>if v=H.length then some (.o r (T.ob l s r).length) else (ω v).map f) (H++[m]) (T.add l s r o).1 (T.add l s r o).2:=by
 have d3:wr fl r (T.ob l s r).length:=by
  cases r with
  | false=>rfl
  | true=>simp only [wr,cond_true,T.ob];exact zX h.mJ
 have L:∀g d k v,D g d k=some v->(D.add r (T.ob l s r).length 0 H.length) g d k=some v:=by intro g d k v b;unfold aH.add;rw [zO];exact b;rintro ⟨rfl,rfl,rfl⟩;exact absurd (h.fA _ _ _ _ b).1 (wC _)
 have K:∀v,Mu X (D.add r (T.ob l s r).length 0 H.length) (T.add l s r o).1 (T.add l s r o).2 v->Mu X D l s v\/H.length<=v:=by
  rintro v (hx|⟨r1,c6,y,k1,c,q,p⟩);exact .inl (.inl hx);rw [DO] at c;split at c;rename_i e;obtain ⟨rfl,rfl⟩:=e;cases c;rw [A] at q;cases q;rw [aH.add_same] at p;simp_all;rename_i e;refine .inl (.inr ⟨r1,c6,y,k1,c,q,?_⟩);unfold aH.add at p;rw [zO] at p;exact p
  simp_all
 have z:∀v,v<H.length->(H++[m])[v]? =H[v]? :=λv b=>zD b;have E:Le D (Mu X D l s) H (D.add r (T.ob l s r).length 0 H.length) (Mu X (D.add r (T.ob l s r).length 0 H.length) (T.add l s r o).1 (T.add l s r o).2) (H++[m]):=
  ⟨L,λv C sz x b F=>⟨λc3=>by
   rcases K v c3 with c|c;exact F c
   simp_all,x,(z v (ab b)).trans b⟩⟩
 refine ⟨⟨λt=>(c5 t).mono E,λt i j w a n c q=>?_,λg d y c=>?_,λv d5 b=>?_,λg d k v b=>?_,?_,λv b=>by have:=h.xl v b;simp;omega,λv b=>by have:=h.xl v b;show (if _ then _ else _)=_;rw [zO O,h.xo v b];rfl⟩,⟨L,Z,λv b hn=>?_,λv C sz x b F=>(E.aM v C sz x b F).2,K,λd hid=>I4 h.mJ r o hid⟩⟩
 obtain ⟨q1,N⟩:=c4 t i j w a n c q;have c2:a.block<H.length:=by obtain ⟨_,C,sz,x,p,_⟩:=N;exact ab p
 refine ⟨?_,N.aM (z _ c2)⟩
 grind
 rw [DO] at c;split at c
 simp_all
 rename_i e;have hid:=ab c;refine (h.ob g d y c).other E (λk v b6 R=>?_) (λd4 sz w _ k _ A=>?_) (λ_ a j P d1=>?_);have b:=(h.fA _ _ _ _ R).2;refine ⟨z _ b,?_⟩;show (if _ then _ else _)=_;rw [zO O];obtain ⟨v2,b1,b2⟩:=(h.ob g d y c).dH b6
 grind
 unfold aH.add;rw [zO];exact A;omega;have:=h.lt _ _ P
 grind
 simp;by_cases e:v=H.length;omega;simp only [zO e] at b;cases hw:ω v with
 | none=>simp_all
 | some c7=>have:=h.lt v c7 hw;omega
 rw [ou];simp;unfold aH.add at b;split at b
 simp_all
 have:=h.fA g d k v b
 grind
 have:=h.mJ;have e:=ou l s r o true;simp only [T.ob,cond_true] at e
 grind
 grind
theorem St.fresh (h:St X D ω fl H τ l s V) {sz k:Nat} {f:cD} (b6:k<=p.length) (d:di) (hd:∀n,d=some n->n<V.length) (R:p.length=f.length*sz) (c3:f≠[])
  (b1:∀e∈f,e.length=sz/\pK e) (b:∀(i j:Nat) (e:ao) (x:TV) (c:aq),f[i]? =some e->e[j]? =some x->p[i*sz+j]? =some c->TR D (Mu X D l s) H x c):
  ∃ω',St X D ω' fl (H++[.row p sz (some k)]) (dT τ d (.sl true f)) l s (bZ V d (.slice (some ⟨H.length,0,none⟩) f.length 1))/\Xt X fl D ω H l s D ω' (H++[.row p sz (some k)]) l s:=by
 have r:∀v,v<H.length->(H++[.row p sz (some k)])[v]? =H[v]? :=λv b=>zD b;have c2:∀v,Mu X D l s v->v<H.length:=by rintro v (hx|⟨r1,c8,M,k1,_,_,F⟩);exact h.xl v hx;exact (h.fA _ _ _ _ F).2
 have q:Le D (Mu X D l s) H D (Mu X D l s) (H++[.row p sz (some k)]):=⟨λ_ _ _ _ h=>h,λv C P z b o=>⟨o,z,(r v (ab b)).trans b⟩⟩;let ω':Nat->Option Loc:=λv=>if v=H.length then some (.t (d.getD 0) 0 0) else ω v
 have w:∀v,v<H.length->ω' v=ω v:=λv b=>zO O;have E:St X D ω' fl (H++[.row p sz (some k)]) τ l s V:=by
  refine ⟨λt=>(h.tm t).mono q,λt i j f a n g m=>?_,λA y M g=>?_,λv L b=>?_,λA y K v b=>?_,h.mJ,λv b=>by have:=h.xl v b;simp;omega,λv b=>(w v (h.xl v b)).trans (h.xo v b)⟩;obtain ⟨N,q2⟩:=h.ow t i j f a n g m;have:=h.lt _ _ N;exact ⟨(w _ this).trans N,q2.aM (r _ this)⟩;refine (h.ob A y M g).other q (λK v c6 b2=>?_) (λ_ _ _ _ _ _ hk=>hk) (λ_ a j hc c7=>?_);have:=(h.fA _ _ _ _ b2).2
  simp_all
  have:=h.lt _ _ hc
  simp_all
  simp;by_cases e:v=H.length;omega;have:ω v=some L:=by rw [<-b];exact (zO e).symm
  have:=h.lt v L this;omega;have:=h.fA A y K v b
  grind
 have J:(H++[AO.row p sz (some k)])[H.length]? =some (.row p sz (some k)):=Z;have c4:TR D (Mu X D l s) (H++[.row p sz (some k)]) (.sl true f) (.slice (some ⟨H.length,0,none⟩) f.length 1):=
  .sl J (λo=>absurd (c2 _ o) (wC _)) O b1 (λ_=>c3) λi j e x c g m F=>(b i j e x c g m (by simp_all)).mono q
 refine ⟨ω',?_,⟨λ_ _ _ _ h=>h,Z,λv b hn=>⟨r v b,(w v b).trans hn⟩,λv C P z b o=>(q.aM v C P z b o).2,λv b=>.inl b,λ_ _=>rfl⟩⟩;cases d with
 | none=>exact E
 | some d=>
  refine E.Aj (hd d rfl) c4 λi j c5 a n g m=>?_;cases i with
  | succ i=>cases g
  | zero=>
   cases j with
   | succ j=>cases g
   | zero=>cases g;cases m;exact ⟨zP rfl,rfl,p,sz,k,J,R,b6⟩
theorem ch {c:cD} (h:cR a b c) (d:o∈c):o.length=b/\mX o/\(a=0->pK o):=by
 induction c with
 | nil=>cases d
 | cons x c g=>
  simp only [cR,zN] at h;rcases yL.1 d with rfl|d;refine ⟨zU h.1.1,?_,λf=>?_⟩;have:=h.1.2;cases e:Nat.beq a 0 with
  | true=>rw [e] at this;exact rE this
  | false=>simp_all
  simp_all
  grind
structure cB (ι:aH) (M:Nat->Prop) (H:AH) (es:cD) (e:Nat) (cs:aQ):Prop where
 len:cs.length=es.length*e
 oe:cs.all one
 rel:∀(i j:Nat) (c:ao) (x:TV) (v:aq),es[i]? =some c->c[j]? =some x->cs[i*e+j]? =some v->TR ι M H x v
theorem cB.mono (l:Le D M H E J h) {d:cD} (b:cB D M H d a p):cB E J h d a p:=⟨b.len,b.oe,λi j c x v e f g=>(b.rel i j c x v e f g).mono l⟩
theorem cB.mk' {d:cD} (g:0<b) (m:cR a b d) (l:p.length=d.length*b) (h:∀(i j:Nat) (c:ao) (x:TV) (v:aq),d[i]? =some c->c[j]? =some x->p[i*b+j]? =some v->TR D M H x v):cB D M H d b p:=by
 refine ⟨l,?_,h⟩;rw [zT];intro v o;obtain ⟨n,t,rfl⟩:=yA o;have k:n/b<d.length:=by rw [Nat.div_lt_iff_lt_mul g];omega
 have s:n%b<b:=Nat.mod_lt _ g;have e:=zA k;obtain ⟨w,q,_⟩:=ch m (zI e);have f:=zA (show n%b<d[n/b].length by omega);have r:n/b*b+n%b=n:=by rw [Nat.mul_comm];exact Nat.div_add_mod _ _
 exact (h _ _ _ _ p[n] e f (by simp_all)).zq (iO (fi q f))
theorem oU {b:cD} {cs:aQ} {f:Option (aQ)} (h:cB D M H b a cs) (c:cs.all nj->f=some cs):∃cs,f=some cs/\cB D M H b a cs:=⟨cs,c (by have:=h.oe;rw [zT] at this ⊢;intro x d;have:=this x d;cases x <;> first|rfl|(simp [one] at this)),h⟩
theorem kH (c3:∀r A c4,(ob l s r)[A]? =some c4->OR D M ω H (wr fl r A) r A c4) {o:cD} (h:aO l s x=some o) (P:0<b) (t:cR a b o) (hy:TR D M H x u):
  wo u=some o.length/\∃y,cY b o.length u H=some y/\cB D M H o b y:=by
 have L:o=[]->cB D M H o b []:=by rintro rfl;exact ⟨Z,rfl,λi j c N v d=>by simp at d⟩
 unfold aO at h;split at h;cases h;cases hy with
 | sn=>exact ⟨rfl,[],rfl,L rfl⟩
 | s0=>exact ⟨rfl,[],rfl,L rfl⟩
 | se=>exact ⟨rfl,[],rfl,L rfl⟩
 | @sl _ _ c7 f sz C lo R hm F c5 c9 hr=>
  refine ⟨rfl,?_⟩;by_cases E:o.length=0;exact ⟨[],by simp [cY,E],L (zK E)⟩;have K:sz=b:=by have d:=zA (show 0<o.length by omega);have:=(ch t (zI d)).1;have:=(c5 _ (zI d)).1;omega
  subst K;refine oU (cs:=(C.drop f).take (o.length*sz)) (.mk' P t W λi j c N v d h2 q=>?_) λc2=>by simp only [cY];simp_all
  rw [zS] at q;split at q
  grind
  cases q
 rename_i r A d2 f n sz;cases hy with
 | @m _ _ _ _ _ _ c7 hi=>
  split at h;rename_i E;subst E;cases h;exact ⟨rfl,[],by simp [cY],L rfl⟩;rename_i E;split at h;rename_i d1 z X R;split at h;rename_i hk;obtain ⟨rfl,rfl,b6⟩:=hk;cases h;have ⟨c8,C,d,h2,F,q,_⟩:=c3 r A _ R;rw [hi] at d;cases d;have J:((X.drop f).take n).length=n:=W;have K:z=b:=by have d:=zA (show 0<((X.drop f).take n).length by omega);have e1:=(ch t (zI d)).1;have:=(q.1 _ (wD (yM (zI d)))).1;omega
  subst K;have c6:f*z+n*z<=C.length:=by have:(f+n)*z<=X.length*z:=zV _ b6;rw [Nat.add_mul] at this;omega
  refine ⟨by rw [J];rfl,oU (cs:=(C.drop (f*z)).take (n*z)) (.mk' P t (by grind) λi j c N v e w g=>?_) λc2=>by rw [J];simp only [cY];simp_all⟩;rw [zS] at e g;split at e;rw [yX] at e;split at g;rw [yX] at g;apply q.2.2 (f+i) j c N v e w
  grind
  cases g;cases e;cases h;rename_i y z R;split at h;rename_i hk;obtain ⟨rfl,rfl,rfl,b6⟩:=hk;cases h;have ⟨_,c8,C,d,h2,q,_⟩:=c3 r A _ R;rw [hi] at d;cases d;have J:(((y.drop f).take n).map λc=>[c]).length=n:=W;have K:1=b:=by have d:=zA (show 0<(((y.drop f).take n).map λc=>[c]).length by omega);have e1:=(ch t (zI d)).1;simpa using e1
  subst K;have c6:f*1+n*1<=C.length:=by have:=q.1;omega
  refine ⟨by rw [J];rfl,oU (cs:=(C.drop (f*1)).take (n*1)) (.mk' P t (by grind) λi j c N v e w g=>?_) λc2=>by rw [J];simp only [cY];simp_all⟩;rw [zJ] at e;cases k:((y.drop f).take n)[i]? with
  | none=>simp_all
  | some z=>
   rw [k] at e;cases e;cases j with
   | succ j=>cases w
   | zero=>cases w;rw [zS] at k g;split at k;split at g;rw [yX] at k g;exact q.2 _ _ _ k (by grind);cases g;cases k
  cases h;cases h
 rename_i p;cases h;cases hy;have b1:p.data.toList.length=p.size:=Z;have F:(p.data.toList.map λc=>[TV.v (.int .u8 c.toNat)]).length=p.size:=by rw [yQ,b1]
 refine ⟨by rw [F];rfl,_,by rw [F];rfl,?_⟩;have b2:(p.extract 0 p.size).data.toList=p.data.toList:=Z;refine .mk' P t ?_ λi j c N v e w g=>?_;rw [F,b2,yQ,b1];by_cases hb:p.data.toList=[]
 grind
 have:b=1:=by have ⟨c,k⟩:=List.exists_mem_of_ne_nil _ hb;have:=(ch t (xW.2 ⟨c,k,rfl⟩)).1;simpa using this.symm
 simp_all
 rw [zJ] at e;cases k:p.data.toList[i]? with
 | none=>simp_all
 | some z=>
  rw [k] at e;cases e;have:b=1:=by have:=(ch t (xW.2 ⟨z,zI k,rfl⟩)).1;simpa using this.symm
  subst this;cases j with
  | succ j=>cases w
  | zero=>cases w;rw [b2,zJ,Nat.mul_one,Nat.add_zero,k] at g;cases g;exact .v rfl rfl
 cases h
theorem St.Bm (h:St X D ω fl H τ l s V) {x:cD} {f:Addr} (A:τ a= .sl true x) (d:V.getD a undef= .slice (some f) b 1) {sz:Nat} (ho:H[f.block]? =some (.row p sz (some c))):
  St X D ω fl (H.set f.block (.row p sz none)) (aG τ a (bw (τ a))) l s V/\Xt X fl D ω H l s D ω (H.set f.block (.row p sz none)) l s:=by
 have C:=h.tm a;rw [A,d] at C;have b2:=C.vF.1;obtain ⟨c3,_⟩:=h.ow a 0 0 x f b (by rw [A];rfl) (by rw [d];rfl);have n:∀v,v≠f.block->(H.set f.block (.row p sz none))[v]? =H[v]? :=λv d=>zE (λe=>d e.symm);have m:Le D (Mu X D l s) H D (Mu X D l s) (H.set f.block (.row p sz none)):=⟨λ_ _ _ _ h=>h,λv w L J E q=>⟨q,by
  by_cases e:v=f.block
  grind
  simp_all⟩⟩
 refine ⟨⟨λk=>?_,λk i j y o K g z=>?_,λt r o1 g=>?_,λv b6 d=>by rw [xH];exact h.lt v b6 d,λt r F v d=>by rw [xH];exact h.fA t r F v d,h.mJ,λv d=>by rw [xH];exact h.xl v d,h.xo⟩,
  ⟨λ_ _ _ _ h=>h,Z,λv d hn=>⟨n v (by grind),hn⟩,λv w L J E q=>(m.aM v w L J E q).2,λv d=>.inl d,λ_ _=>rfl⟩⟩
 rcases aL τ a k (bw (τ a)) with ⟨rfl,e⟩|⟨b1,e⟩;rw [e];exact ((h.tm _).bw).mono m;rw [e];exact (h.tm k).mono m;rcases aL τ a k (bw (τ a)) with ⟨rfl,e⟩|⟨b1,e⟩;rw [e] at g;exact ((NO.bw _ _) i j y o K g z).elim;rw [e] at g;obtain ⟨q1,q2⟩:=h.ow k i j y o K g z;refine ⟨q1,q2.aM (n _ ?_)⟩
 grind
 refine (h.ob t r o1 g).other m (λF v R N=>⟨n v ?_,rfl⟩) (λ_ _ _ _ _ _ P=>P) (λ_ o j M c2=>⟨M,n _ ?_⟩);rintro rfl;exact b2 (Mu.of g R N)
 grind
theorem St.freeze (h:St X D ω fl H τ l s V) {sz:Nat} {g:cD} (ht:τ a= .m false b c 0 d sz) (y:(T.ob l s false)[b]? =some (.aY c sz g)) (P:d=g.length) (F:g≠[]) (hz:cR 0 sz g):
  ∃ω',St X D ω' fl H (aG τ a (.sl true g)) (T.put l s false b .dead).1 (T.put l s false b .dead).2 V/\Xt X fl D ω H l s D ω' H (T.put l s false b .dead).1 (T.put l s false b .dead).2:=by
 obtain ⟨q,c2,h1,L,hl,M,t,h5⟩:=h.ob false b _ y;have t:ω q=some (.o false b):=t;have J:=h.tm a;rw [ht] at J;have c9:V.getD a undef= .slice (some ⟨q,0,none⟩) g.length 1:=by
  generalize V.getD a undef=v at J;cases J with
  | m hi=>grind
 have E:∀v,Mu X D (T.put l s false b .dead).1 (T.put l s false b .dead).2 v->Mu X D l s v/\v≠q:=by rintro v (R|⟨r1,d1,z,k1,f,k,r⟩);exact ⟨.inl R,by rintro rfl;rw [h.xo _ R] at t;cases t⟩;rw [jN] at f;split at f;rw [y] at f;cases f;cases k;rename_i e;exact ⟨.inr ⟨r1,d1,z,k1,f,k,r⟩,h.ne y f rfl k h1 r rfl e⟩
 have C:Le D (Mu X D l s) H D (Mu X D (T.put l s false b .dead).1 (T.put l s false b .dead).2) H:=⟨λ_ _ _ _ h=>h,λv C' d4 lo n w=>⟨λc7=>w (E v c7).1,lo,n⟩⟩;let c5:Loc->Loc:=λx=>match x with
  | .o b6 o=>if b6=false/\o=b then .t a 0 0 else .o b6 o
  | x=>x
 have d7:TR D (Mu X D (T.put l s false b .dead).1 (T.put l s false b .dead).2) H (.sl true g) (.slice (some ⟨q,0,none⟩) g.length 1):=
  .sl L (λw=>(E q w).2 rfl) O (λe N=>⟨(M.1 e N).1,(ch hz N).2.2 rfl⟩) (λ_=>F) λi j e x c3 f k r=>(M.2.2 i j e x c3 f k r).mono C
 refine ⟨λv=>(ω v).map c5,⟨λp=>?_,λp i j c4 K n' f k=>?_,λA o z f=>?_,λv d8 n=>?_,λA o k' v n=>by rw [gv];exact h.fA A o k' v n,h.mJ,h.xl,λv n=>by simp [h.xo v n]⟩,
  ⟨λ_ _ _ _ h=>h,zC _,λv n P=>⟨rfl,by simp [P]⟩,λv C' d4 d2 c8 w=>⟨d2,c8⟩,λv n=>.inl (E v n).1,λ_ _=>rfl⟩⟩
 rcases aL τ a p (.sl true g) with ⟨rfl,e⟩|⟨F,e⟩
 grind
 rw [e];exact (h.tm p).mono C;rcases aL τ a p (.sl true g) with ⟨rfl,e⟩|⟨F,e⟩;rw [e] at f;rw [c9] at k;cases i with
 | succ i=>cases f
 | zero=>
  cases j with
  | succ j=>cases f
  | zero=>cases f;cases k;exact ⟨by grind,rfl,c2,sz,0,L,hl,zY _⟩
 rw [e] at f;obtain ⟨q1,q2⟩:=h.ow p i j c4 K n' f k
 grind
 rw [jN] at f;split at f;rw [y] at f;cases f;trivial;rename_i e;refine (h.ob A o z f).other C (λk' v c6 d5=>⟨rfl,?_⟩) (λ_ _ _ _ _ _ hk=>hk) (λ_ K j hc d6=>⟨?_,rfl⟩);obtain ⟨v2,b1,b2⟩:=(h.ob A o z f).dH c6
 grind
 grind
 cases hw:ω v with
 | none=>grind
 | some d3=>exact h.lt v d3 hw
theorem St.bump (h:St X D ω fl H τ l s V) {sz:Nat} {es k:cD} (t:(T.ob l s q)[a]? =some (.aY b sz es)) (A:wr fl q a) (F:D q a b=some c) (L:cB D (Mu X D l s) H k sz p) (d2:∀e∈k,e.length=sz/\mX e) (d:di) (hd:∀n,d=some n->n<V.length):
  ∃E ω',St X E ω' fl (H.set c .dead++[.row p sz (some 0)]) (dT τ d (.m q a (b+1) 0 k.length sz)) (T.put l s q a (.aY (b+1) sz k)).1 (T.put l s q a (.aY (b+1) sz k)).2 (bZ V d (.slice (some ⟨H.length,0,none⟩) k.length 1))/\
   Xt X fl D ω H l s E ω' (H.set c .dead++[.row p sz (some 0)]) (T.put l s q a (.aY (b+1) sz k)).1 (T.put l s q a (.aY (b+1) sz k)).2:=by
 obtain ⟨f3,C0,h1,h2,hl,h3,z,h5⟩:=h.ob q a _ t;rw [F] at h1;cases h1;have f2:Mu X D l s c:=Mu.of t rfl F;rw [A] at z;have z:=z;have c2:(H.set c AO.dead++[AO.row p sz (some 0)]).length=H.length+1:=Z;have C:∀v,v<H.length->v≠c->(H.set c .dead++[.row p sz (some 0)])[v]? =H[v]? :=λv f d9=>by grind
 have d5:(H.set c AO.dead++[AO.row p sz (some 0)])[H.length]? =some (.row p sz (some 0)):=by rw [zH Z];simp
 have d8:=ab t;have f1:=h5 (b+1) (yF b);have c4:∀w m r v,D w m r=some v->(D.add q a (b+1) H.length) w m r=some v:=by
  intro w m r v f;unfold aH.add;rw [zO];exact f
  grind
 have c3:∀v,Mu X (D.add q a (b+1) H.length) (T.put l s q a (.aY (b+1) sz k)).1 (T.put l s q a (.aY (b+1) sz k)).2 v->(Mu X D l s v/\v<H.length/\v≠c)\/v=H.length:=by
  rintro v (P|⟨r1,d6,o1,k1,g,y,x⟩);exact .inl ⟨.inl P,h.xl v P,by rintro rfl;rw [h.xo _ P] at z;cases z⟩;rw [jN] at g;split at g;rename_i e;obtain ⟨rfl,rfl⟩:=e;rw [t] at g;cases g;cases y;rw [aH.add_same] at x;simp_all;rename_i e;left;unfold aH.add at x;rw [zO] at x;exact ⟨.inr ⟨r1,d6,o1,k1,g,y,x⟩,(h.fA _ _ _ _ x).2,h.ne t g rfl y F x A e⟩
  simp_all
 have J:Le D (Mu X D l s) H (D.add q a (b+1) H.length) (Mu X (D.add q a (b+1) H.length) (T.put l s q a (.aY (b+1) sz k)).1 (T.put l s q a (.aY (b+1) sz k)).2) (H.set c .dead++[.row p sz (some 0)]):=
  ⟨c4,λv C' c6 R f N=>⟨λd4=>by
   rcases c3 v d4 with ⟨g,_⟩|g;exact N g
   simp_all,R,(C v (ab f) (by grind)).trans f⟩⟩
 let ω':Nat->Option Loc:=λv=>if v=H.length then some (.o q a) else ω v
 have K:∀v,v<H.length->ω' v=ω v:=λv f=>zO O;have c7:St X (D.add q a (b+1) H.length) ω' fl (H.set c .dead++[.row p sz (some 0)]) τ (T.put l s q a (.aY (b+1) sz k)).1 (T.put l s q a (.aY (b+1) sz k)).2 V:=by
  refine ⟨λb1=>(h.tm b1).mono J,λb1 i j c9 b2 n g y=>?_,λw m o1 g=>?_,λv c5 f=>?_,λw m r v f=>?_,?_,λv f=>by have:=h.xl v f;omega,λv f=>(K v (h.xl v f)).trans (h.xo v f)⟩;obtain ⟨q1,q2⟩:=h.ow b1 i j c9 b2 n g y;have:=h.lt _ _ q1;refine ⟨(K _ this).trans q1,q2.aM (C _ this ?_)⟩
  grind
  rw [jN] at g;split at g;rename_i e;obtain ⟨rfl,rfl⟩:=e;rw [t] at g;cases g;rw [A];refine ⟨H.length,p,aH.add_same _ _ _ _ _,d5,L.len,⟨d2,by rw [yZ,L.len];omega,λi j e d7 c8 e1 e2 e3=>(L.rel i j e d7 c8 e1 e2 (by simp_all)).mono J⟩,zP rfl,λr hk=>?_⟩;unfold aH.add
  grind
  rename_i e;refine (h.ob w m o1 g).other J (λr v d3 b6=>?_) (λ_ _ _ _ r _ hk=>?_) (λ_ b2 j d1 e6=>?_);have:=(h.fA _ _ _ _ b6).2;exact ⟨C v this (h.ne t g rfl d3 F b6 A e),K _ this⟩;unfold aH.add;rw [zO];exact hk
  simp_all
  have:=h.lt _ _ d1
  grind
  rw [c2];by_cases e:v=H.length;omega;have:ω v=some c5:=by rw [<-f];exact (zO e).symm
  have:=h.lt v c5 this;omega;rw [gv,c2];unfold aH.add at f;split at f
  simp_all
  have:=h.fA w m r v f;omega;have:=h.mJ;have e:=gv l s q a (.aY (b+1) sz k) true;simp only [T.ob,cond_true] at e;omega
 refine ⟨_,ω',?_,⟨c4,O,λv f hn=>⟨C v f (by grind),(K v f).trans hn⟩,λv C' c6 R f N=>(J.aM v C' c6 R f N).2,λv f=>?_,λm hid=>?_⟩⟩;refine c7.put hd ?_ (.one (λ_ e=>by cases e) (λ_ e=>by cases e) (λ_ e=>by cases e));have:=TR.m (M:=Mu X (D.add q a (b+1) H.length) (T.put l s q a (.aY (b+1) sz k)).1 (T.put l s q a (.aY (b+1) sz k)).2) (H:=H.set c .dead++[.row p sz (some 0)]) (off:=0) (n:=k.length) (sz:=sz) (aH.add_same D q a (b+1) H.length)
 simp_all
 rcases c3 v f with ⟨g,_⟩|g
 grind
 omega;exact yh A _ (by assumption)
theorem av (h:St X D ω fl H τ l s V) {x:Operand} (a:pF x):TR D (Mu X D l s) H (aS τ x) (ev V x):=by
 cases x with
 | tmp t=>exact h.tm t
 | const v=>exact .iU a
 | global g=>cases a
 | func f=>exact .v rfl rfl
theorem ri {x:Operand} (a:pF x) (b:∀t,x≠ .tmp t):NO (aS τ x) (ev V x):=by
 cases x with
 | tmp t=>simp_all
 | const v=>exact .iU a
 | global g=>cases a
 | func f=>exact .one (λ_ e=>by cases e) (λ_ e=>by cases e) (λ_ e=>by cases e)
def KO (t:Nat) (d:di):Loc->Loc
 | .t n i j=>if n=t then .t (d.getD t) i j else .t n i j
 | x=>x
theorem St.move (h:St X D ω fl H τ l s V) (t:Nat) (d:di) (J:∀k,d=some k->k<V.length):∃ω',St X D ω' fl H (dT (aG τ t (bw (τ t))) d (τ t)) l s (bZ V d (V.getD t undef))/\Xt X fl D ω H l s D ω' H l s:=by
 let ω':Nat->Option Loc:=λv=>(ω v).map (KO t d)
 have z:St X D ω' fl H (aG τ t (bw (τ t))) l s V:=by
  refine ⟨(h.Ht t).tm,λA i j c a n b f=>?_,λr q o g=>?_,λv b6 m=>?_,h.fA,h.mJ,h.xl,λv m=>by simp [ω',h.xo v m]⟩;rcases aL τ t A (bw (τ t)) with ⟨rfl,e⟩|⟨L,e⟩;rw [e] at b;exact ((NO.bw _ _) i j c a n b f).elim;rw [e] at b;obtain ⟨w,x⟩:=h.ow A i j c a n b f;refine ⟨?_,x⟩;show (ω a.block).map _=_;rw [w];simp [KO,L];refine (h.ob r q o g).other (Le.refl _ _ _) (λk v p K=>⟨rfl,?_⟩) (λ_ _ _ _ _ _ p=>p) (λ_ a j F _=>⟨?_,rfl⟩);obtain ⟨v2,y,E⟩:=(h.ob r q o g).dH p;rw [K] at y;cases y;show (ω v).map _=ω v;rw [E];cases wr fl r q <;> rfl;show (ω a.block).map _=_;rw [F];rfl;cases M:ω v with
  | none=>grind
  | some R=>exact h.lt v R M
 have N:Xt X fl D ω H l s D ω' H l s:=⟨λ_ _ _ _ h=>h,zC _,λv _ hn=>⟨rfl,by grind⟩,λv C sz P g _=>⟨P,g⟩,λv m=>.inl m,λ_ _=>rfl⟩;refine ⟨ω',?_,N⟩;cases d with
 | none=>exact z
 | some d=>refine z.Aj (J d rfl) (h.tm t) λi j c a n b f=>?_;obtain ⟨w,x⟩:=h.ow t i j c a n b f;refine ⟨?_,x⟩;show (ω a.block).map _=_;rw [w];simp [KO]
theorem St.Pv (h:St X D ω fl H τ l s V) (F:τ a= .tu o) (J:o[b]? =some x) (d1:∀w,x≠ .tu w) (d:di) (hd:∀k,d=some k->k<V.length) {v:aq} {A:Array aq} (i:V.getD a undef= .tuple A) (N:A[b]? =some v):
  ∃ω',St X D ω' fl H (dT (aG τ a (.tu (o.set b (dz x)))) d x) l s (bZ V d v)/\Xt X fl D ω H l s D ω' H l s:=by
 have M:=h.tm a;rw [F,i] at M;have L:o.length=A.size/\∀(j:Nat) (x:TV) (c:aq),o[j]? =some x->A[j]? =some c->TR D (Mu X D l s) H x c:=by
  cases M with
  | tu hs h=>grind
 let c3:Loc->Loc:=λy=>match y with
  | .t n m j=>if n=a/\m=b then .t (d.getD a) 0 j else .t n m j
  | y=>y
 let ω':Nat->Option Loc:=λv=>(ω v).map c3
 have K:St X D ω' fl H (aG τ a (.tu (o.set b (dz x)))) l s V:=by
  refine ⟨λr=>?_,λr m j q p n f g=>?_,λc2 R b6 z=>?_,λv d2 i=>?_,h.fA,h.mJ,h.xl,λv i=>by simp [ω',h.xo v i]⟩;rcases aL τ a r (.tu (o.set b (dz x))) with ⟨rfl,e⟩|⟨c5,e⟩;rw [e,i];refine .tu (by simp_all) λj y c f g=>?_;rw [yO] at f;split at f;rename_i hj;subst hj;split at f;cases f;exact (L.2 _ x c J g).dz;cases f
  grind
  rw [e];exact h.tm r;rcases aL τ a r (.tu (o.set b (dz x))) with ⟨rfl,e⟩|⟨c5,e⟩;rw [e] at f;simp only [eG,yO] at f;by_cases C:b=m;subst C;rw [zP rfl] at f;split at f;simp only [zR,za] at f;cases hz:T.iG x j with
  | none=>simp_all
  | some c7=>rw [hz] at f;exact absurd (yD f) (kY c7 q)
  cases f;rw [zO C] at f;obtain ⟨q1,q2⟩:=h.ow r m j q p n (by rw [F];exact f) g
  grind
  rw [e] at f;obtain ⟨q1,q2⟩:=h.ow r m j q p n f g
  grind
  refine (h.ob c2 R b6 z).other (Le.refl _ _ _) (λk v E C=>⟨rfl,?_⟩) (λ_ _ _ _ _ _ E=>E) (λ_ p j hc _=>⟨?_,rfl⟩);obtain ⟨v2,b1,b2⟩:=(h.ob c2 R b6 z).dH E
  grind
  grind
  cases hw:ω v with
  | none=>grind
  | some c6=>exact h.lt v c6 hw
 have hX:Xt X fl D ω H l s D ω' H l s:=⟨λ_ _ _ _ h=>h,zC _,λv _ hn=>⟨rfl,by grind⟩,λv c8 sz lo z _=>⟨lo,z⟩,λv i=>.inl i,λ_ _=>rfl⟩;refine ⟨ω',?_,hX⟩;cases d with
 | none=>exact K
 | some d=>
  have P:=L.2 b x v J N;refine K.Aj (hd d rfl) P λm j q p n f g=>?_;have t:m=0/\T.iG x j=some (.sl true q):=by
   unfold eG at f;split at f
   simp_all
   simp_all
   cases f
  obtain ⟨rfl,t⟩:=t;have hu:x≠ .u:=by
   rintro rfl;cases j with
   | zero=>cases t
   | succ j=>cases t
  have c9:∀w,v≠ .tuple w:=by
   cases P with
   | v h hn=>rintro w rfl;simp [ak] at h
   | u=>simp_all
   | tu=>simp_all
   | _=>rintro w e;cases e
  have c4:jt v j=some (.slice (some p) n 1):=by
   unfold mi at g;split at g
   simp_all
   exact g
   simp_all
  obtain ⟨q1,q2⟩:=h.ow a b j q p n (by rw [F];simp only [eG,J,zR];exact t) (by rw [i];simp only [mi,N,zR];exact c4)
  grind
theorem Gc {s:aP} {g:Bool} (j:tD P s a=some (b,g,c)) (F:c≠0) (h:Nj b x=some y) (m:TR D M H x u):∃v,eX P s u a=some v/\TR D M H y v/\NO y v:=by
 have o:∀n r,eX P s (.pointer (some ⟨n,r,none⟩)) a=some (.pointer (some ⟨n,r+b,none⟩)):=by
  intro n r;unfold tD at j;split at j;rename_i E C;split at j;rename_i fd A;have ⟨p,f,l⟩:=map_some j;unfold res at f;split at f;rename_i d i J k;cases f;cases l;simp only [eX,C,A,k]
  grind
  cases f;cases j;cases j
 unfold Nj at h;split at h;cases h;cases m with
 | p k=>exact ⟨_,o _ _,.p k,.one (λ_ e=>by cases e) (λ_ e=>by cases e) (λ_ e=>by cases e)⟩
 cases h;cases m with
 | q k=>exact ⟨_,o _ _,by rw [Nat.add_assoc];exact .q k,.one (λ_ e=>by cases e) (λ_ e=>by cases e) (λ_ e=>by cases e)⟩
 cases h;cases m with
 | pe f l t w z=>exact ⟨_,o _ _,by rw [Nat.add_assoc];exact .pe f l t w z,.one (λ_ e=>by cases e) (λ_ e=>by cases e) (λ_ e=>by cases e)⟩
 cases h
theorem Gj {s:aP} (e:tD P s a=some (b,q,c)) (h:Nn b q c x=some y) (k:TR D M H x u):∃v,po P s u a=some v/\TR D M H y v/\NO y v:=by
 unfold Nn at h;split at h;rename_i N;obtain ⟨z,f,rfl⟩:=map_some h;cases k with
 | @ag _ l F E=>
  have ⟨v,K,L,_⟩:=gS.part (C:=l.toList) ⟨by simp [F],λj x m k X=>E j x m k (by grind)⟩ f;refine ⟨v,?_,L.bw,.bw _ _⟩;unfold tD at e;split at e;rename_i R J;split at e;rename_i fd r;have ⟨p,g,n⟩:=map_some e;unfold res at g;split at g;rename_i d i o w;cases g;cases n;simp only [po,J,r,apart,o,w];rw [<-K];cases t:oK d with
  | true=>
   simp only [if_true,cond_true];have A:fd.offset+i.size<=l.toList.length:=by
    unfold part at f;rw [t] at f;simp only [cond_true] at f;split at f
    simp_all
    cases f
   rw [zP A];congr 2
   grind
  | false=>simp
  cases g;cases e;cases e
 cases h
theorem Hb:NO (.p q a b) u:=.one (λ_ e=>by cases e) (λ_ e=>by cases e) (λ_ e=>by cases e)
theorem Pc:NO (.q q a b c d e) u:=.one (λ_ f=>by cases f) (λ_ f=>by cases f) (λ_ f=>by cases f)
theorem Hc:NO (.m q a b c d e) u:=.one (λ_ f=>by cases f) (λ_ f=>by cases f) (λ_ f=>by cases f)
theorem DX:NO (.pe o a) u:=.one (λ_ e=>by cases e) (λ_ e=>by cases e) (λ_ e=>by cases e)
theorem kO:NO (.v u) v:=.one (λ_ e=>by cases e) (λ_ e=>by cases e) (λ_ e=>by cases e)
theorem Pd:NO (.mp a) u:=.one (λ_ e=>by cases e) (λ_ e=>by cases e) (λ_ e=>by cases e)
theorem kP {a:cD}:NO (.sl false a) u:=.one (λ_ e=>by cases e) (λ_ e=>by cases e) (λ_ e=>by cases e)
theorem oy:NO (.tu []) undef:=.of λi j a h=>by simp [eG] at h
theorem TR.int (h:TR D M H (.v (.int n i)) u):u= .int n i:=by cases h;rfl
theorem TR.vv (h:TR D M H (.v u) v):v=u:=by cases h;rfl
theorem jH (h:me P t=some a):∃i,P.info? t=some i/\i.size=a:=by
 unfold me at h
 simp_all
theorem Cv {n:aP} (q:P.underlying t=some (.slice n)) (E:me P n=some a) (h:uT a x y=some z) (r:TR D M H x u) (k:TR D M H y v):∃e,cX P t u v=some e/\TR D M H z e/\NO z e:=by
 obtain ⟨b,p,rfl⟩:=jH E;unfold uT at h;split at h;rename_i c2 m;cases k.int;split at h;rename_i c4 o;split at h;rename_i A;have ⟨c,d,i⟩:=zQ.1 h;split at i;rename_i X;cases i;have f:=ab d;cases r with
 | sn=>simp at f
 | s0=>simp at f
 | se=>simp at f
 | @sl _ _ l g sz C lo K J b1 F b6 L=>
  have ⟨q1,R⟩:=F c (zI d);have N:sz=b.size:=O;subst N;have b2:m.toNat*b.size+b.size<=o.length*b.size:=by have:(m.toNat+1)*b.size<=o.length*b.size:=zV _ f;rwa [wL] at this
  refine ⟨.pointer (some ⟨l,g+m.toNat*b.size,none⟩),?_,?_,DX⟩;simp only [cX,q,p]
  simp_all
  have:=TR.pe (off:=0) K J O R λj x e s w=>L m.toNat j c x e d s w;exact this
 cases i;cases h;rename_i c5 id c6 g c3 sz;split at h;rename_i d;obtain ⟨A,hn,rfl⟩:=d;cases h;cases r with
 | @m _ _ _ _ _ _ l k=>
  refine ⟨.pointer (some ⟨l,g*b.size+m.toNat*b.size,none⟩),?_,?_,Pc⟩;simp only [cX,q,p]
  simp_all
  have:=TR.q (M:=M) (H:=H) (i:=g+m.toNat) (sz:=b.size) (off:=0) k
  grind
 cases h;cases h;cases h
theorem Cw {e:aP} (g:P.underlying t=some (.array a e)) (w:me P e=some b) (h:Ac a b x y=some z) (i:TR D M H x u) (c:TR D M H y v):∃d,cX P t u v=some d/\TR D M H z d/\NO z d:=by
 obtain ⟨l,f,rfl⟩:=jH w;unfold Ac at h;split at h;rename_i k m;cases c.int;split at h;rename_i J;split at h;cases h;cases i with
 | p c=>
  refine ⟨_,?_,.p c,Hb⟩;simp only [cX,g,f]
  grind
 rename_i F A;cases h;cases i with
 | @pe _ _ E j sz C K n o q r s=>
  refine ⟨.pointer (some ⟨E,j+A+m.toNat*l.size,none⟩),?_,by rw [Nat.add_assoc];exact .pe n o q r s,DX⟩;simp only [cX,g,f]
  grind
 cases h;cases h;cases h
theorem sG (h:text a x=some y) (c:TR D M H x u):∃d b v,x= .tu d/\d[a]? =some y/\u= .tuple b/\b[a]? =some v/\TR D M H y v/\∀g,y≠ .tu g:=by
 unfold text at h;split at h;rename_i d;have ⟨z,e,f⟩:=zQ.1 h;have k:z=y/\∀g,z≠ .tu g:=by
  unfold DQ at f;split at f;cases f
  simp_all
 obtain ⟨rfl,i⟩:=k;cases c with
 | @tu _ b l j=>have:=ab e;have c:=yK (show a<b.size by omega);exact ⟨d,b,b[a],rfl,e,rfl,c,j a z _ e c,i⟩
 cases h
theorem Cr (h:A6 x=some y) (b:TR D M H x u):N7 u=some u/\TR D M H y u/\NO y u:=by
 unfold A6 at h;split at h;cases h;cases b with|p a=>exact ⟨rfl,.p a,Hb⟩
 cases h;cases b with|q a=>exact ⟨rfl,.q a,Pc⟩
 cases h;cases b with|pe c d e f g=>exact ⟨rfl,.pe c d e f g,DX⟩
 cases h
theorem jX {o:eh} {c:fQ} (h:pC a o=some b) (d:(o=none/\c=none)\/∃x v,o=some x/\c=some v/\TR D M H x v):vY c a=some b:=by unfold pC at h;split at h;cases h;rcases d with ⟨_,rfl⟩|⟨x,v,e,_⟩;rfl;cases e;rename_i k i;rcases d with ⟨e,_⟩|⟨x,v,e,rfl,g⟩;cases e;cases e;cases g.int;split at h;rename_i f;cases h;simp [vY,f];cases h;cases h
abbrev ud (D:aH) (M:Nat->Prop) (H:AH) (o:eh) (a:fQ):Prop:=(o=none/\a=none)\/∃x v,o=some x/\a=some v/\TR D M H x v
theorem HA {b:cD} (h:Ex a b) (c:o∈b):o.length=a:=by
 induction b with
 | nil=>cases c
 | cons x b d=>
  simp only [Ex,zN] at h;rcases yL.1 c with rfl|c
  simp_all
  grind
theorem yj {a:Option Addr}:NO (.sl q []) (.slice a 0 0):=by
 intro i j d c n e b;cases i with
 | succ i=>cases b
 | zero=>cases j with
  | succ j=>cases b
  | zero=>cases b
theorem Ga {el:aP} (p:P.underlying t=some (.slice el)) (E:me P el=some a) {lo z:eh} {c2 A:fQ} (h:Bj a lo z l s x=some y) (c8:∀r J o,(ob l s r)[J]? =some o->OR D M ω H (wr fl r J) r J o)
  (hx:TR D M H x u) (hl:ud D M H lo c2) (hh:ud D M H z A):∃c3,cK P t u c2 A H=some c3/\TR D M H y c3/\NO y c3:=by
 obtain ⟨K,n,rfl⟩:=jH E;unfold Bj at h;split at h;rename_i o g;split at h;rename_i d b e j;have e:=jX e hl;have j:=jX j hh;split at h;rename_i v;have ⟨v,L,R⟩:=v;cases h;cases hx with
 | sn=>
  obtain rfl:b=0:=by grind
  obtain rfl:d=0:=O;exact ⟨.slice none 0 0,by simp only [cK,p,n,e];simp_all,.sn,yj⟩
 | s0=>
  obtain rfl:b=0:=by grind
  obtain rfl:d=0:=O;refine ⟨_,by simp only [cK,p,n,e];rw [show vY A 0=some 0 from j];simp only [zC,and_self,if_true];rfl,.s0,yj⟩
 | se=>
  obtain rfl:b=0:=by grind
  obtain rfl:d=0:=O;refine ⟨_,by simp only [cK,p,n,e];rw [show vY A 0=some 0 from j];simp only [zC,and_self,if_true];rfl,.se,kP⟩
 | @sl _ _ k f sz c5 d6 F c4 d2 X d4 hr=>
  have c9:(o&&g.isEmpty)=false:=by
   cases o with
   | false=>rfl
   | true=>simp_all
  rw [c9];have go:cK P t (.slice (some ⟨k,f,none⟩) g.length 1) c2 A H=if d=0 then some (.slice (some ⟨k,f,none⟩) b 1) else if b=d then some (.slice (some ⟨k,f,none⟩) 0 2) else if K.size=sz/\(1:Nat)=1 then some (.slice (some ⟨k,f+d*sz,none⟩) (b-d) 1) else none:=by simp only [cK,p,n,e];rw [show vY A g.length=some b from j];simp only [F];rw [zP ⟨v,L⟩]
  rw [go];by_cases q:d=0;subst q;rw [zP rfl];refine ⟨_,rfl,?_,kP⟩;rw [wG];by_cases c6:b=0;subst c6;exact .se;have b1:(g.take b).length=b:=by simp;omega
  have c7:b*sz<=g.length*sz:=zV _ L;have:=TR.sl (o:=false) (off:=f) F c4 (by rw [b1];omega) (λa E=>X a (yM E)) (λa=>by cases a) λb2 b6 a x c i N g3=>by rw [zS] at i;split at i;exact hr b2 b6 a x c i N g3;cases i
  simp_all
  rw [zO q];by_cases w:b=d;subst w;rw [zP rfl];refine ⟨_,rfl,?_,kP⟩;rw [yT (by simp_all)];exact .se;rw [zO w];have b1:((g.take b).drop d).length=b-d:=W;have d1:K.size=sz:=by have R:=(R.resolve_left q).resolve_left w;have C:=zA (show 0<g.length by omega);have:=HA R (zI C);have:=(X _ (zI C)).1;omega
  rw [zP ⟨d1,rfl⟩];refine ⟨_,rfl,?_,kP⟩;have c7:b*sz<=g.length*sz:=zV _ L;have d3:d*sz+(b-d)*sz=b*sz:=by rw [<-Nat.add_mul];congr 1;omega
  have:=TR.sl (o:=false) (off:=f+d*sz) F c4 (by rw [b1];omega) (λa E=>X a (yM (wD E))) (λa=>by cases a) λb2 b6 a x c i N g3=>by rw [yX,zS] at i;split at i;exact hr (d+b2) b6 a x c i N (by grind);cases i
  simp_all
 cases h;cases h;rename_i r J d8 f d7 sz;split at h;rename_i d b e j;have e:=jX e hl;have j:=jX j hh;split at h;rename_i v;have ⟨v,L⟩:=v;cases hx with
 | @m _ _ _ _ _ _ k z=>
  split at h;rename_i q;subst q;cases h;refine ⟨.slice (some ⟨k,f*sz,none⟩) b 1,?_,.m z,Hc⟩;simp only [cK,p,n,e]
  simp_all
  rename_i q;split at h;rename_i w;subst w;cases h;refine ⟨.slice (some ⟨k,f*sz,none⟩) 0 2,?_,.se,kP⟩;simp only [cK,p,n,e]
  simp_all
  rename_i w;split at h;rename_i d5 e1 g F;split at h;rename_i hk;obtain ⟨rfl,rfl,rfl⟩:=hk;cases h;have ⟨d9,c5,C,h2,_⟩:=c8 r J _ F;rw [z] at C;cases C;refine ⟨.slice (some ⟨k,f*K.size+d*K.size,none⟩) (b-d) 1,?_,by rw [<-Nat.add_mul];exact .m z,Hc⟩;simp only [cK,p,n,e]
  simp_all
  cases h;cases h
 cases h;cases h;cases h
end
section
variable {X:Nat->Prop} {ι E:aH} {M J:Nat->Prop} {H h:AH} {D ω':Nat->Option Loc} {P:aB} {fl:Nat} {τ τ':TF} {l s l' s':ae} {V:aQ}
theorem Gb {j:aP} (q:P.underlying t=some (.array a j)) (L:me P j=some b) {w c:eh} {z n:fQ} (h:Vk a b w c l s x=some y) (b1:∀r d o,(ob l s r)[d]? =some o->OR ι M D H (wr fl r d) r d o)
  (hx:TR ι M H x u) (X:ud ι M H w z) (N:ud ι M H c n):∃v,cK P t u z n H=some v/\TR ι M H y v/\NO y v:=by
 obtain ⟨E,m,rfl⟩:=jH L;unfold Vk at h;split at h;rename_i r d b2;split at h;rename_i i C e f;have e:=jX e X;have f:=jX f N;split at h;rename_i K;cases hx with
 | @p _ _ _ A c=>
  split at h;rename_i g;subst g;cases h;refine ⟨.slice (some ⟨A,b2,none⟩) 0 2,?_,.se,kP⟩;simp only [cK,q,m,e,f]
  simp_all
  rename_i g;split at h;rename_i cs sz ho;split at h;rename_i R;obtain ⟨rfl,rfl,c2⟩:=R;cases h;have ⟨_,c3,b6,k,F,J,_⟩:=b1 r d _ ho;rw [c] at k;cases k;refine ⟨.slice (some ⟨A,0+i*E.size,none⟩) (C-i) 1,?_,by rw [yZ];exact .m c,Hc⟩;simp only [cK,q,m,e,f,F];rw [zP K,zO g,zP (by refine ⟨?_,by have:=J.1;omega⟩;simp_all)];cases h;cases h
 cases h;cases h;cases h
theorem fm {o:fQ} (h:dt o=some u):bq u:=by
 unfold dt at h;split at h;split at h
 simp_all
 cases h;cases h
theorem lO {a:Option Addr}:NO (.sl true []) (.slice a 0 0):=by
 intro i j d c n e b;cases i with
 | succ i=>cases b
 | zero=>cases j with
  | succ j=>cases b
  | zero=>cases b
theorem uP {w f mx:eh} {J A c3:fQ} (h:aK P t w f mx l s x=some y) (c2:∀r F o,(ob l s r)[F]? =some o->OR ι M D H (wr fl r F) r F o)
  (C:TR ι M H x u) (p:ud ι M H w J) (n:ud ι M H f A) (hm:ud ι M H mx c3):∃v,pG P t u J A c3 H=some v/\TR ι M H y v/\NO y v:=by
 have b1:∀{o:eh} {c:fQ} {z:aq},ud ι M H o c->o=some (.v z)->c=some z:=by intro o c z q e;subst e;rcases q with ⟨e,_⟩|⟨a,b,e,rfl,N⟩;cases e;cases e;rw [N.vv]
 have R:∀{o:eh} {c:fQ},ud ι M H o c->o=none->c=none:=by intro o c q e;subst e;rcases q with ⟨_,rfl⟩|⟨a,b,e,_⟩;rfl;cases e
 unfold aK at h;split at h;rename_i c5;have e3:=b1 hm rfl;subst e3;split at h;rename_i k2 o es K g;have j:=R p rfl;have d:=b1 n rfl;subst j d;obtain ⟨c4,f,rfl⟩:=map_some h;have c6:∃v,fM P t u none (some (.int k2 0)) (some (.int c5 0))=some v/\∃a,v= .slice a 0 0/\TR ι M H (.sl true []) v:=by
  cases C with
  | sn=>exact ⟨_,by simp only [fM,g,f],none,rfl,.sn⟩
  | s0=>exact ⟨_,by simp only [fM,g,f];rfl,_,rfl,.s0⟩
  | se=>exact ⟨_,by simp only [fM,g,f];rfl,_,rfl,.s0⟩
  | sl=>exact ⟨_,by simp only [fM,g,f];rfl,_,rfl,.s0⟩
 obtain ⟨v,k,a,rfl,E⟩:=c6;exact ⟨_,by simp only [pG];exact k,E,lO⟩;rename_i k2 r F d4 d3 d2 sz K g;have j:=R p rfl;have d:=b1 n rfl;subst j d;obtain ⟨c4,f,rfl⟩:=map_some h;cases C with
 | m A=>exact ⟨_,by simp only [pG,fM,g,f];rfl,.s0,lO⟩
 cases h;cases h;rename_i c8;have e3:=R hm rfl;subst e3;split at h;rename_i b;cases C.vv;have c7:∀w f (y:TV),(pG P t (.string b) w f none []).map iU=some y->∃v,pG P t (.string b) w f none H=some v/\TR ι M H y v/\NO y v:=by intro w f y h;obtain ⟨v,i,rfl⟩:=map_some h;have h2:=i;refine ⟨v,h2,?_⟩;unfold pG at i;simp only at i;split at i;have:=fm i;exact ⟨.iU this,.iU this⟩;cases i
 have conv:∀{o:eh} {c:fQ} {z:aq},ud ι M H o c->o.map iF=some (some z)->c=some z:=by
  intro o c z q e;cases o with
  | none=>cases e
  | some a=>simp at e;rcases q with ⟨d,_⟩|⟨a',b',d,rfl,N⟩;cases d;cases d;rw [N.iF e]
 have b2:∀{o:eh} {c:fQ},ud ι M H o c->o.map iF=none->c=none:=by
  intro o c q e;cases o with
  | none=>grind
  | some a=>cases e
 split at h
 grind
 rename_i j d;rw [conv p j,b2 n d];grind;rename_i j d;rw [b2 p j,conv n d];grind;rename_i j d;rw [conv p j,conv n d];grind;cases h;rename_i c9;have b6:(∀b,u≠ .string b)->pG P t u J A none H=cK P t u J A H:=by
  intro hn;unfold pG;split;split
  simp_all
  rfl
  simp_all
 split at h;rename_i K g;have ⟨e,L,i⟩:=zQ.1 h;have ⟨v,k,E,X⟩:=Ga g L i c2 C p n;refine ⟨v,?_,E,X⟩;rw [b6];exact k;rintro b rfl;simp only [cK,g] at k;cases k;rename_i d1 K g;have ⟨e,L,i⟩:=zQ.1 h;have ⟨v,k,E,X⟩:=Gb g L i c2 C p n;refine ⟨v,?_,E,X⟩;rw [b6];exact k;rintro b rfl;simp only [cK,g] at k;cases k;cases h
theorem Ba {a:BinOp} (h:cZ P a t u v=some w):bq w:=by unfold cZ at h;split at h;exact fm h;unfold mO at h;split at h <;> first|(cases h;rfl)|(cases h)
theorem CE {e:BinOp} (h:cm P e t x y=some z) (g:TR ι M H x u) (i:TR ι M H y v):∃j,cZ P e t u v=some j/\TR ι M H z j/\NO z j:=by
 have n:∀A (b:Bool) (f:aP),Hz e=some b->P.underlying t=some (.pointer f)->cZ P e t (.pointer none) (.pointer (some A))=some (.bool !b):=by intro A b f c d;unfold cZ;rw [zO (by simp [bq,ak])];simp [mO,c,d]
 have o:∀A (b:Bool) (f:aP),Hz e=some b->P.underlying t=some (.pointer f)->cZ P e t (.pointer (some A)) (.pointer none)=some (.bool !b):=by intro A b f c d;unfold cZ;rw [zO (by simp [bq,ak])];simp [mO,c,d]
 unfold cm at h;split at h;rename_i a b k l;cases g.iF k;cases i.iF l;split at h;obtain ⟨j,c,rfl⟩:=map_some h;have:=Ba c;exact ⟨j,c,.iU this,.iU this⟩;cases h;rename_i k l;cases g.iF k;split at h;rename_i c d;cases h;cases i with|p m=>exact ⟨_,n _ _ _ c d,.v rfl rfl,kO⟩
 rename_i c d;cases h;cases i with|q m=>exact ⟨_,n _ _ _ c d,.v rfl rfl,kO⟩
 rename_i c d;cases h;cases i with|pe _ _ _ _ _=>exact ⟨_,n _ _ _ c d,.v rfl rfl,kO⟩
 cases h;rename_i k l;cases i.iF l;split at h;rename_i c d;cases h;cases g with|p m=>exact ⟨_,o _ _ _ c d,.v rfl rfl,kO⟩
 rename_i c d;cases h;cases g with|q m=>exact ⟨_,o _ _ _ c d,.v rfl rfl,kO⟩
 rename_i c d;cases h;cases g with|pe _ _ _ _ _=>exact ⟨_,o _ _ _ c d,.v rfl rfl,kO⟩
 cases h;cases h
theorem G7 {c:UnOp} (h:G8 P c x=some y) (f:TR ι M H x u):∃v,FB P c u=some v/\TR ι M H y v/\NO y v:=by
 have ⟨a,e,d⟩:=zQ.1 h;cases f.iF e;obtain ⟨v,b,rfl⟩:=map_some d;have:bq v:=by unfold FB at b;split at b;exact fm b;cases b
 exact ⟨v,b,.iU this,.iU this⟩
theorem Cu (h:mn P t x y=some z) (j:TR ι M H x u) (i:TR ι M H y v):∃c,lh P t u v=some c/\TR ι M H z c/\NO z c:=by
 have ⟨a,f,e⟩:=zQ.1 h;have ⟨b,g,e⟩:=zQ.1 e;cases j.iF f;cases i.iF g;obtain ⟨c,d,rfl⟩:=map_some e;have:bq c:=by unfold lh at d;split at d;exact fm d;cases d
 exact ⟨c,d,.iU this,.iU this⟩
theorem Cp:∀{f:ao} {g d:aQ},Cq f=some g->gS ι M H f d->d=g:=by
 intro f;induction f with
 | nil=>intro g d h b;cases h;exact zK b.1.symm
 | cons a f m=>
  intro g d h b;have ⟨x,i,k⟩:=zQ.1 h;obtain ⟨p,l,rfl⟩:=map_some k;cases d with
  | nil=>simp [gS] at b
  | cons v d=>have e:=m l ⟨by simpa using b.1,λj x c o n=>b.2 (j+1) x c (by grind) (by grind)⟩;rw [(b.2 0 a v rfl rfl).iF i,e]
theorem Bb {b:Builtin} {c:Array aP} {a:Array Bool} (i:b≠ .append) (j:b≠ .copy) (k:b≠ .len):∃g:fQ,(∀G,qF P b c t a p G=g.map λv=>(v,G))/\∀v,g=some v->bq v:=by
 have e:∀G,qF P b c t a p G=if p.all bq=true then match aj P (builtin b c t a p.toArray) with
   | some (.value v)=>if bq v=true then some (v,G) else none
   | _=>none
  else none:=by
  intro G;unfold qF;split
  simp_all
  simp_all
  simp_all
  rfl
 cases d:p.all bq with
 | false=>exact ⟨none,λG=>by simp_all,λv h=>by cases h⟩
 | true=>
  cases f:aj P (builtin b c t a p.toArray) with
  | none=>exact ⟨none,λG=>by simp_all,λv h=>by cases h⟩
  | some n=>
   cases n with
   | value v=>
    cases l:bq v with
    | true=>exact ⟨some v,λG=>by simp_all,λm h=>by simp_all⟩
    | false=>exact ⟨none,λG=>by simp_all,λv h=>by cases h⟩
   | _=>exact ⟨none,λG=>by rw [e];simp [d,f],λv h=>by cases h⟩
theorem Gm {b:Builtin} {d:Array aP} {c:Array Bool} (h:CF P b d t c o=some x) (q:gS ι M H o p):∃v,qF P b d t c p H=some (v,H)/\TR ι M H x v/\NO x v:=by
 have ⟨l,e,a⟩:=zQ.1 h;rw [Cp e q];split at a;have z:∀(e:b≠ .append) (a:b≠ .copy) (y:b≠ .len),(qF P b d t c l []).map (λk=>iU k.1)=some x->∃v,qF P b d t c l H=some (v,H)/\TR ι M H x v/\NO x v:=by intro r s w h;obtain ⟨k,f,rfl⟩:=map_some h;obtain ⟨g,m,n⟩:=Bb r s w;rw [m] at f ⊢;obtain ⟨v,i,rfl⟩:=map_some f;have j:=n v i;exact ⟨v,by rw [i];rfl,.iU j,.iU j⟩
 split at a;cases a;cases a;cases a
 simp_all
 cases a
theorem JV (h:∀a,u≠ .tuple a) (j:Nat):mi u 0 j=jt u j:=by cases u <;> first|rfl|simp_all
theorem A8 {R E:aP} {N:TypeDesc} (L:P.underlying t=some (.map R E)) (J:P.underlying R=some N) (h:sD N ((P.info? E).bind (·.zero)) q x y l s=some z)
  (b2:∀r k o,(ob l s r)[k]? =some o->OR ι M D H (wr fl r k) r k o) (g:TR ι M H x u) (A:TR ι M H y v):∃c,fO P t u v q H=some c/\TR ι M H z c/\NO z c:=by
 have F:∀c (b:Bool),ak c->TR ι M H (if q=true then .tu [c1 c,.v (.bool b)] else c1 c) (if q=true then .tuple #[c,.bool b] else c)/\NO (if q=true then .tu [c1 c,.v (.bool b)] else c1 c) (if q=true then .tuple #[c,.bool b] else c):=by
  intro c b d;split;refine ⟨.tu rfl λj x b6 g m=>?_,λy j w a n f i=>?_⟩;cases j with
  | zero=>simp at g m;subst g m;exact .c1 d
  | succ j=>cases j with
   | zero=>simp at g m;subst g m;exact .v rfl rfl
   | succ j=>simp at g
  cases y with
  | zero=>
   have b1:∀X,c≠ .tuple X:=by rintro X rfl;simp [ak] at d
   have e1:eG (c1 c) 0 j=some (.sl true w):=by rcases yw d with ⟨e,_⟩|⟨e,_⟩ <;> (rw [e] at f ⊢;exact f)
   have e2:mi c 0 j=some (.slice (some a) n 1):=by have i:=i;rw [JV b1];exact i
   exact NO.c1 d 0 j w a n e1 e2
  | succ y=>cases y with
   | zero=>have f:=f;cases j <;> cases f
   | succ y=>cases f
  exact ⟨.c1 d,.c1 d⟩
 unfold sD at h;split at h;rename_i k c2;cases A.vv;cases g with
 | @mp _ c3 hm=>split at h;rename_i w cl ho;have ⟨c4,f,i,h3,_⟩:=b2 true k _ ho;rw [hm] at f;cases f;split at h;rename_i K;split at h;rename_i j c p;cases h;obtain ⟨e,he,rfl⟩:=n8 _ _ _ _ p;have d:=(h3 e (by grind)).2;refine ⟨_,?_,F e.val true d⟩;simp only [fO,L,i,J,K,if_true,p];rename_i p;split at h;rename_i z C;split at h;rename_i d;cases h;have ⟨y,A,C⟩:=zQ.1 C;refine ⟨_,?_,F z false d⟩;simp only [fO,L,i,J,K,if_true,p,A,C,d];cases h;cases h;cases h;cases h;cases h
 cases h
theorem rP (b:Nat):∀(a:aQ) (k:Nat) (C:Array aq),((a.zipIdx k).foldl (λ(c:Array aq) (p:aq×Nat)=>c.setIfInBounds (b+p.2) p.1) C).toList=cr C.toList (b+k) a:=by
 intro a;induction a with
 | nil=>intro k C;rfl
 | cons x a d=>intro k C;rw [List.zipIdx_cons,List.foldl_cons,d,Array.toList_setIfInBounds];rfl
theorem qx {d:Nat->Option (Nat×Nat)} {ps:List (Nat×aq)} (e:d a=some (b,c)) (f:u.cells.size=c) (g:b+c<=p.length):
  Instr.fill d p.toArray ((a,u)::ps)=Instr.fill d (cr p b u.cells.toList).toArray ps:=by
 simp only [Instr.fill,e];rw [zO (by simp_all)];congr 1;apply Array.ext';rw [<-Array.foldl_toList,Array.toList_zipIdx];have:=rP b u.cells.toList 0 p.toArray;omega
def wX (b:ao) (C:aQ):Prop:=∀(j:Nat) (c:cD) (a:Addr) (n:Nat),b[j]? =some (.sl true c)->C[j]? =some (.slice (some a) n 1)->False
theorem wX.Jy (h:p.all ak):wX (p.map c1) p:=by intro j c a n _ b;rw [zT] at h;have:=h _ (zI b);simp [ak] at this
theorem wX.eP {d:ao} {f:aQ} (h:wX o p) (k:a+d.length<=o.length) (q:p.length=o.length) (m:f.length=d.length) (l:wX d f):wX (T.eP o a d) (cr p a f):=by intro j i g n c b;rw [hJ _ _ _ _ k] at c;rw [dV _ _ _ _ O,m] at b;split at c;rename_i e;rw [zP e] at b;exact l _ i g n c b;rename_i e;rw [zO e] at b;exact h j i g n c b
theorem TR.jz (h:TR ι M H x u):TR ι M H (T.jz x) u:=by unfold T.jz;split;exact h;exact h.dX;exact h
theorem gS.ES (h:gS ι M H o p):gS ι M H (o.map T.jz) p:=by
 refine ⟨by simpa using h.1,λj x c a d=>?_⟩;rw [zJ] at a;cases b:o[j]? with
 | none=>simp_all
 | some y=>rw [b] at a;cases a;exact (h.2 j y c b d).jz
theorem wX.ES (h:gS ι M H o p):wX (o.map T.jz) p:=by
 intro j f a n b d;rw [zJ] at b;cases c:o[j]? with
 | none=>simp_all
 | some y=>
  rw [c] at b;have e:=h.2 j y _ c d;simp at b;unfold T.jz at b;split at b;cases b;cases e with
  | sl _ _ _ _ g _=>simp_all
  cases b
  simp_all
theorem vI (b:ao) (j:Nat) (a:cD):(b.map dX)[j]? ≠some (.sl true a):=by
 rw [zJ];cases b[j]? with
 | none=>simp
 | some x=>simp;exact kY x a
theorem DS (h:p.all ak):cJ (p.map c1):=by refine kf λx b=>?_;obtain ⟨c,a,rfl⟩:=xW.1 b;rw [zT] at h;rcases yw (h c a) with ⟨e,_⟩|⟨e,_⟩ <;> (rw [e];rfl)
abbrev Fl (ι:aH) (M:Nat->Prop) (H:AH) (ps:List (Nat×TV)) (a:List (Nat×aq)):Prop:=ps.map (·.1)=a.map (·.1)/\gS ι M H (ps.map (·.2)) (a.map (·.2))
theorem Fl.ep {p:Nat×TV} {ps:List (Nat×TV)} {a:List (Nat×aq)} (h:Fl ι M H (p::ps) a):∃v e,a=(p.1,v)::e/\TR ι M H p.2 v/\Fl ι M H ps e:=by
 cases a with
 | nil=>grind
 | cons q a=>obtain ⟨b,d⟩:=h;simp at b;refine ⟨q.2,a,by rw [b.1],d.2 0 _ _ rfl rfl,b.2,by simpa using d.1,λj x c g f=>d.2 (j+1) x c (by grind) (by grind)⟩
theorem qb {pl:List (Nat×Nat)} {f:Nat->Option (Nat×Nat)} (m:∀(i:Nat) (p:Nat×Nat),pl[i]? =some p->f i=some p):∀{ps:List (Nat×TV)} {a:List (Nat×aq)} {c d:ao} {C:aQ},iJ pl c ps=some d->gS ι M H c C->wX c C->Fl ι M H ps a->
  ∃b,Instr.fill f C.toArray a=some b.toArray/\gS ι M H d b/\wX d b:=by
 intro ps;induction ps with
 | nil=>
  intro a c d C h e g j;cases h;have:a=[]:=by cases a with|nil=>rfl|cons _ _=>grind
  subst this;exact ⟨C,rfl,e,g⟩
 | cons p ps w=>
  intro a c d C h e g j;obtain ⟨v,K,rfl,t,q⟩:=j.ep;have ⟨i,x⟩:=p;simp only [iJ] at h;split at h;rename_i J n r;split at h;rename_i o;have ⟨E,F,k⟩:=o;have ⟨c1,D⟩:=t.ce (by simpa [aW] using k);have s:v.cells.size=n:=by have:=c1.1;simp at this;omega
  have l:=c1.ES;have ⟨b,y,z,A⟩:=w h (e.eP l W) (wX.eP g W e.1.symm W (wX.ES c1)) q;refine ⟨b,?_,z,A⟩;rw [qx (m _ _ r) s (Zo e.1)];exact y;cases h;cases h
theorem uV (he:0<a):∀{ps:List (Nat×TV)} {f:List (Nat×aq)} {b e:cD} {C:aQ},iY a b ps=some e->cB ι M H b a C->(∀c∈b,c.length=a)->bO (ps.map (·.2))=true->Fl ι M H ps f->
  ∃m,Instr.fill (λi=>some (i*a,a)) C.toArray f=some m.toArray/\cB ι M H e a m/\e.length=b.length/\∀c∈e,c.length=a:=by
 intro ps;induction ps with
 | nil=>
  intro f b e C h d q _ z;cases h;have:f=[]:=by cases f with|nil=>rfl|cons _ _=>grind
  subst this;exact ⟨C,rfl,d,rfl,q⟩
 | cons b1 ps ih=>
  intro f b e C h d q r z;obtain ⟨v,qs,rfl,hv,X⟩:=z.ep;have ⟨i,x⟩:=b1;simp only [yS,bO,zN] at r;simp only [iY] at h;split at h;rename_i p;have ⟨h1,E⟩:=p;have ⟨c1,D⟩:=hv.ce (by simpa [aW] using r.1);have A:v.cells.size=a:=by have:=c1.1;simp at this;omega
  have F:=c1.AV;have R:i*a+a<=C.length:=by rw [d.len];have:(i+1)*a<=b.length*a:=zV _ E;rwa [wL] at this
  have K:v.cells.toList.length=a:=by simpa using A
  have J:cB ι M H (b.set i ((ce x).map dX)) a (cr C (i*a) v.cells.toList):=by
   refine ⟨by simp [d.len],?_,λs j c y w g n k=>?_⟩;rw [zT];intro w hw;obtain ⟨b2,p,rfl⟩:=yA hw;have t:=zA p;rw [dV _ _ _ _ O] at t;have o1:=d.oe;rw [zT] at o1 D;split at t
   grind
   grind
   rw [dV _ _ _ _ O,K] at k;rw [yO] at g;split at g;rename_i o;subst o;cases g;have L:=ab n;simp at L;rw [zP O,show i*a+j-i*a=j by omega] at k;exact F.2 j y w n k;rename_i o;have N:=ab n;rw [q c (zI g)] at N;rw [zO ?_] at k;exact d.rel s j c y w g n k;rintro ⟨g5,g6⟩;rcases Nat.lt_or_gt_of_ne o with l|l;have:(i+1)*a<=s*a:=zV _ l
   grind
   have:(s+1)*a<=i*a:=zV _ l
   grind
  have P:∀c∈b.set i ((ce x).map dX),c.length=a:=by
   intro c d;rcases List.mem_or_eq_of_mem_set d with l|l
   grind
   simp_all
  have ⟨m,q1,q2,q3,q4⟩:=ih h J P r.2 X;refine ⟨m,?_,q2,by grind,q4⟩;rw [qx rfl A R];exact q1;cases h
end
end T
end Go.Proofs.YtglilpjokhgidaaGreatDoor
