import Derived.Test.YtkenbckagmjheaaD
import Derived.Test.YtkenbckagmjheaaE
import Derived.Test.YtkenbckagmjheaaF
namespace Go.Proofs.Ytkenbckagmjheaa
open Go.RowKit

/-- What the reference's Put does to its pairs. -/
def putL (every most : Int) (ev : List Int) (L : List (Int × Int)) (gone t x : Int) : Bool × List (Int × Int) × Int :=
  if t < 0 ∨ t % every ≠ 0 ∨ (L.map Prod.fst).contains t = true then (false, L, gone)
  else if (L.length : Int) + 1 ≤ most then (true, ins L ((L.map Prod.fst).countP (· < t)) (t, x), gone)
  else (true, del (ins L ((L.map Prod.fst).countP (· < t)) (t, x)) (dropAt ((ins L ((L.map Prod.fst).countP (· < t)) (t, x)).map Prod.fst) ev gone), gone + 1)

theorem putS_L (every most : Int) (ev : List Int) (L : List (Int × Int)) (gone t x : Int) : putS every most ev (L.map Prod.fst) (L.map Prod.snd) gone t x = ((putL every most ev L gone t x).1, (putL every most ev L gone t x).2.1.map Prod.fst, (putL every most ev L gone t x).2.1.map Prod.snd, (putL every most ev L gone t x).2.2) := by
  unfold putS putL
  rw [List.length_map]
  split
  · rfl
  · split
    · simp only [map_ins]
    · simp only [map_del, map_ins]

theorem rput_any (every most gone t x : Int) (ea : Option Addr) (ec : Nat) (lV : Value) (L : List (Int × Int)) (ev : List Int) (w : World) (h : PView w lV L) (hev : View w (.slice ea ev.length ec) ev) (hi : Inv every most (L.map Prod.fst) (L.map Prod.snd)) (hg0 : 0 ≤ gone) (hg1 : gone ≤ 1000000) :
    Calls Try.prog 13 #[sv every most (.slice ea ev.length ec) lV gone, .int .i64 t, .int .i64 x] w (RPut (putL every most ev L gone t x).1 every most (putL every most ev L gone t x).2.2 (.slice ea ev.length ec) lV (putL every most ev L gone t x).2.1 w) := by
  have hlen : L.length ≤ 64 := by have := hi.few; have := hi.m64; rw [List.length_map] at *; omega
  unfold putL
  by_cases h0 : t < 0
  · rw [if_pos (.inl h0)]
    exact rput_no every most gone t x ea _ ec lV L w h hi.e1 (.inl h0)
  by_cases h1 : t % every ≠ 0
  · rw [if_pos (.inr (.inl h1))]
    exact rput_no every most gone t x ea _ ec lV L w h hi.e1 (.inr ⟨by omega, bne_iff_ne.2 h1⟩)
  have hm : (t % every != 0) = false := by simpa using h1
  cases hc : (L.map Prod.fst).contains t with
  | true =>
    rw [if_pos (.inr (.inr rfl))]
    exact rput_there every most gone t x ea _ ec lV L w h hi.e1 (by omega) hm hi.sorted (by omega) hc
  | false =>
    rw [if_neg (by intro e; rcases e with e | e | e; exact h0 e; exact h1 e; cases e)]
    have := rput_new every most gone t x ea _ ec lV L ev w h hev hi.e1 (by omega) hm hi.sorted (fun a ha => (hi.all a ha).1) (by omega) hc hi.m1 hg0 hg1
    by_cases hf : (L.length : Int) + 1 ≤ most
    · rw [if_pos hf] at this ⊢
      exact this
    · rw [if_neg hf] at this ⊢
      exact this

/-- What holds at the head of each round: the store and the reference hold the same, and lie apart. -/
structure Pair (w : World) (B Bm : Nat) (ev : List Int) (every most : Int) (a2 : Option Addr) (c2 : Nat) (k : Nat) (wr : World) (L : List (Int × Int)) (gone : Int) (eV tV xV lV : Value) : Prop where
  st : St wr w.heap.size B ev every most (L.map Prod.fst) (L.map Prod.snd) gone eV tV xV
  inv : Inv every most (L.map Prod.fst) (L.map Prod.snd)
  g0 : 0 ≤ gone
  g1 : gone ≤ k
  bel : Below w.heap.size w wr
  box : wr.heap[Bm]? = some (so every most (.slice a2 ev.length c2) lV gone)
  view : PView wr lV L
  bm : w.heap.size ≤ Bm
  am : ¬ Mine B tV xV Bm
  ae : eV.ownBlock ≠ some Bm
  al : ∀ k, lV.ownBlock = some k → ¬ Mine B tV xV k ∧ k ≠ Bm ∧ k < wr.heap.size

theorem Pair.lt {w : World} {B Bm : Nat} {ev : List Int} {every most : Int} {a2 : Option Addr} {c2 k : Nat} {wr : World} {L : List (Int × Int)} {gone : Int} {eV tV xV lV : Value} (h : Pair w B Bm ev every most a2 c2 k wr L gone eV tV xV lV) : Bm < wr.heap.size := by
  have := h.box
  rcases Nat.lt_or_ge Bm wr.heap.size with h' | h'
  · exact h'
  · rw [Array.getElem?_eq_none h'] at this; cases this

theorem Mine.lt {w : World} {base B : Nat} {ev : List Int} {every most : Int} {T X : List Int} {gone : Int} {eV tV xV : Value} (h : St w base B ev every most T X gone eV tV xV) (k : Nat) (hk : Mine B tV xV k) : k < w.heap.size := by
  rcases hk with rfl | hk | hk
  · exact h.lt
  · exact h.rt.blt k hk
  · exact h.rx.blt k hk
theorem Mine.ge {w : World} {base B : Nat} {ev : List Int} {every most : Int} {T X : List Int} {gone : Int} {eV tV xV : Value} (h : St w base B ev every most T X gone eV tV xV) (k : Nat) (hk : Mine B tV xV k) : base ≤ k := by
  rcases hk with rfl | hk | hk
  · exact h.hB
  · exact h.rt.ge k hk
  · exact h.rx.ge k hk
/-- What is not the store's stays so through a method. -/
theorem Mine.keep {B : Nat} {tV xV tV' xV' : Value} {w w' : World} (P : Step B tV xV tV' xV' w w') (k : Nat) (hk : k < w.heap.size) (hn : ¬ Mine B tV xV k) : ¬ Mine B tV' xV' k := by
  intro h
  rcases h with rfl | h | h
  · exact hn (.inl rfl)
  · rcases P.nt k h with h' | h'
    · exact hn (.inr (.inl h'))
    · omega
  · rcases P.nx k h with h' | h'
    · exact hn (.inr (.inr h'))
    · omega

/-- All that was stands: new blocks alone. -/
theorem Pair.below {w : World} {B Bm : Nat} {ev : List Int} {every most : Int} {a2 : Option Addr} {c2 k : Nat} {wr w' : World} {L : List (Int × Int)} {gone : Int} {eV tV xV lV : Value} (h : Pair w B Bm ev every most a2 c2 k wr L gone eV tV xV lV) (hb : Below wr.heap.size wr w') : Pair w B Bm ev every most a2 c2 k w' L gone eV tV xV lV :=
  ⟨h.st.below hb, h.inv, h.g0, h.g1, h.bel.trans (hb.mono h.bel.size), (hb.block Bm h.lt).trans h.box, h.view.below hb, h.bm, h.am, h.ae, fun k hk => ⟨(h.al k hk).1, (h.al k hk).2.1, Nat.lt_of_lt_of_le (h.al k hk).2.2 hb.size⟩⟩

/-- Behind a method of the store. -/
theorem Pair.step {w : World} {B Bm : Nat} {ev : List Int} {every most : Int} {a2 : Option Addr} {c2 k : Nat} {wr w' : World} {L : List (Int × Int)} {gone : Int} {eV tV xV lV tV' xV' : Value} (h : Pair w B Bm ev every most a2 c2 k wr L gone eV tV xV lV) (P : Step B tV xV tV' xV' wr w') :
    Below w.heap.size w w' ∧ w'.heap[Bm]? = some (so every most (.slice a2 ev.length c2) lV gone) ∧ PView w' lV L ∧ ¬ Mine B tV' xV' Bm ∧ (∀ k, lV.ownBlock = some k → ¬ Mine B tV' xV' k ∧ k ≠ Bm ∧ k < w'.heap.size) :=
  ⟨h.bel.trans (P.below h.bel.size h.st.hB h.st.rt.ge h.st.rx.ge), (P.block Bm h.lt h.am).trans h.box, h.view.same (fun k hk hlt => P.block k hlt (h.al k hk).1), Mine.keep P Bm h.lt h.am, fun k hk => ⟨Mine.keep P k (h.al k hk).2.2 (h.al k hk).1, (h.al k hk).2.1, Nat.lt_of_lt_of_le (h.al k hk).2.2 P.size⟩⟩

/-- A store stands where one block that is not its own turns. -/
theorem St.other {w w' : World} {base B Bm : Nat} {ev : List Int} {every most : Int} {T X : List Int} {gone : Int} {eV tV xV : Value} (h : St w base B ev every most T X gone eV tV xV) (hs : ∀ k, k < w.heap.size → k ≠ Bm → w'.heap[k]? = w.heap[k]?) (hm : ¬ Mine B tV xV Bm) (he : eV.ownBlock ≠ some Bm) : St w' base B ev every most T X gone eV tV xV :=
  ⟨(hs B h.lt (fun e => hm (.inl e.symm))).trans h.blk, h.hB, h.re.same (fun k hk => hs k (h.re.blt k hk) (fun e => he (by rw [← e]; exact hk))), h.rt.same (fun k hk => hs k (h.rt.blt k hk) (fun e => hm (.inr (.inl (by rw [← e]; exact hk))))), h.rx.same (fun k hk => hs k (h.rx.blt k hk) (fun e => hm (.inr (.inr (by rw [← e]; exact hk))))), h.oe, h.ot, h.ox, h.et, h.ex, h.tx⟩

def five (w : World) (b : Nat) (v0 v1 v2 v3 v4 : Value) : World := ((((w.setCell ⟨b, 0, none⟩ v0).setCell ⟨b, 1, none⟩ v1).setCell ⟨b, 2, none⟩ v2).setCell ⟨b, 3, none⟩ v3).setCell ⟨b, 4, none⟩ v4
theorem five_other (w : World) (b : Nat) (v0 v1 v2 v3 v4 : Value) (k : Nat) (h : k ≠ b) : (five w b v0 v1 v2 v3 v4).heap[k]? = w.heap[k]? := by
  unfold five
  rw [heap_setCell_other _ _ _ _ h, heap_setCell_other _ _ _ _ h, heap_setCell_other _ _ _ _ h, heap_setCell_other _ _ _ _ h, heap_setCell_other _ _ _ _ h]
theorem five_same (w : World) (b : Nat) (c0 c1 c2 c3 c4 v0 v1 v2 v3 v4 : Value) (h : w.heap[b]? = some (.cells #[c0, c1, c2, c3, c4] 37 (0, 0))) : (five w b v0 v1 v2 v3 v4).heap[b]? = some (.cells #[v0, v1, v2, v3, v4] 37 (0, 0)) := by
  have h0 := heap_setCell_same w b 0 _ 37 v0 h
  have h1 := heap_setCell_same _ b 1 _ 37 v1 h0
  have h2 := heap_setCell_same _ b 2 _ 37 v2 h1
  have h3 := heap_setCell_same _ b 3 _ 37 v3 h2
  exact heap_setCell_same _ b 4 _ 37 v4 h3
theorem five_below {B : Nat} (w : World) (b : Nat) (v0 v1 v2 v3 v4 : Value) (h : B ≤ b) : Below B w (five w b v0 v1 v2 v3 v4) :=
  (((((Below.refl B w).setCell h v0).setCell h v1).setCell h v2).setCell h v3).setCell h v4
theorem five_size (w : World) (b : Nat) (v0 v1 v2 v3 v4 : Value) : (five w b v0 v1 v2 v3 v4).heap.size = w.heap.size := by unfold five; simp [World.setCell]

/-- Behind the reference's method: the box holds the new value; the store stands. -/
theorem Pair.turn {w : World} {B Bm : Nat} {ev : List Int} {every most : Int} {a2 : Option Addr} {c2 k : Nat} {w1 w2 w3 : World} {L L' : List (Int × Int)} {gone gone' : Int} {eV tV xV lV v : Value} (h : Pair w B Bm ev every most a2 c2 k w1 L gone eV tV xV lV) (hb : Below w1.heap.size w1 w2) (hv : v = lV ∨ ∀ k, v.ownBlock = some k → w1.heap.size ≤ k ∧ k < w2.heap.size) (pv : PView w2 v L') (h3 : Below w2.heap.size w2 w3) :
    St (five w3 Bm (.int .i64 every) (.int .i64 most) (.slice a2 ev.length c2) v (.int .i64 gone')) w.heap.size B ev every most (L.map Prod.fst) (L.map Prod.snd) gone eV tV xV ∧
    Below w.heap.size w (five w3 Bm (.int .i64 every) (.int .i64 most) (.slice a2 ev.length c2) v (.int .i64 gone')) ∧
    (five w3 Bm (.int .i64 every) (.int .i64 most) (.slice a2 ev.length c2) v (.int .i64 gone')).heap[Bm]? = some (so every most (.slice a2 ev.length c2) v gone') ∧
    PView (five w3 Bm (.int .i64 every) (.int .i64 most) (.slice a2 ev.length c2) v (.int .i64 gone')) v L' ∧
    (∀ k, v.ownBlock = some k → ¬ Mine B tV xV k ∧ k ≠ Bm ∧ k < (five w3 Bm (.int .i64 every) (.int .i64 most) (.slice a2 ev.length c2) v (.int .i64 gone')).heap.size) := by
  have H3 := (h.below hb).below h3
  have hal : ∀ k, v.ownBlock = some k → ¬ Mine B tV xV k ∧ k ≠ Bm := fun k hk => by
    rcases hv with e | e
    · exact ⟨(h.al k (by rw [← e]; exact hk)).1, (h.al k (by rw [← e]; exact hk)).2.1⟩
    · have := (e k hk).1
      exact ⟨fun hm => by have := Mine.lt h.st k hm; omega, by have := h.lt; omega⟩
  have hvb : ∀ k, v.ownBlock = some k → k < w2.heap.size := fun k hk => by
    rcases hv with e | e
    · exact Nat.lt_of_lt_of_le (h.al k (by rw [← e]; exact hk)).2.2 hb.size
    · exact (e k hk).2
  refine ⟨H3.st.other (fun k _ hn => five_other _ _ _ _ _ _ _ k hn) h.am h.ae, H3.bel.trans (five_below _ _ _ _ _ _ _ h.bm), five_same _ _ _ _ _ _ _ _ _ _ _ _ H3.box, (pv.below h3).same (fun k hk _ => five_other _ _ _ _ _ _ _ k (hal k hk).2), fun k hk => ⟨(hal k hk).1, (hal k hk).2, ?_⟩⟩
  rw [five_size]
  exact Nat.lt_of_lt_of_le (hvb k hk) h3.size

/-- A pair again, behind a method of the store at a world where all else holds already. -/
theorem Pair.mk2 {w : World} {B Bm : Nat} {ev : List Int} {every most : Int} {a2 : Option Addr} {c2 k : Nat} {X w5 : World} {L' : List (Int × Int)} {T0 X0 : List Int} {gone0 gone' : Int} {eV tV xV tV' xV' v : Value}
    (s0 : St X w.heap.size B ev every most T0 X0 gone0 eV tV xV) (bel : Below w.heap.size w X) (box : X.heap[Bm]? = some (so every most (.slice a2 ev.length c2) v gone')) (view : PView X v L') (al : ∀ k, v.ownBlock = some k → ¬ Mine B tV xV k ∧ k ≠ Bm ∧ k < X.heap.size) (bm : w.heap.size ≤ Bm) (am : ¬ Mine B tV xV Bm) (ae : eV.ownBlock ≠ some Bm)
    (Q : Step B tV xV tV' xV' X w5) (s5 : St w5 w.heap.size B ev every most (L'.map Prod.fst) (L'.map Prod.snd) gone' eV tV' xV') (inv : Inv every most (L'.map Prod.fst) (L'.map Prod.snd)) (g0 : 0 ≤ gone') (g1 : gone' ≤ k) : Pair w B Bm ev every most a2 c2 k w5 L' gone' eV tV' xV' v := by
  have hlt : Bm < X.heap.size := by
    rcases Nat.lt_or_ge Bm X.heap.size with h' | h'
    · exact h'
    · rw [Array.getElem?_eq_none h'] at box; cases box
  exact ⟨s5, inv, g0, g1, bel.trans (Q.below bel.size s0.hB s0.rt.ge s0.rx.ge), (Q.block Bm hlt am).trans box, view.same (fun k hk hl => Q.block k hl (al k hk).1), bm, Mine.keep Q Bm hlt am, ae, fun k hk => ⟨Mine.keep Q k (al k hk).2.2 (al k hk).1, (al k hk).2.1, Nat.lt_of_lt_of_le (al k hk).2.2 Q.size⟩⟩

/-- The store and the reference with nothing behind a time. -/
theorem Pair.mk3 {w : World} {B Bm : Nat} {ev : List Int} {every most : Int} {a2 : Option Addr} {c2 k : Nat} {w0 w5 w6 : World} {L L' : List (Int × Int)} {gone : Int} {eV tV xV tV' xV' lV v : Value} (h : Pair w B Bm ev every most a2 c2 k w0 L gone eV tV xV lV)
    (Q : Step B tV xV tV' xV' w0 w5) (s5 : St w5 w.heap.size B ev every most (L'.map Prod.fst) (L'.map Prod.snd) gone eV tV' xV') (inv : Inv every most (L'.map Prod.fst) (L'.map Prod.snd)) (hb : Below w5.heap.size w5 w6) (hr : PRow w6 w5.heap.size v L') :
    Pair w B Bm ev every most a2 c2 (k + 1) (five w6 Bm (.int .i64 every) (.int .i64 most) (.slice a2 ev.length c2) v (.int .i64 gone)) L' gone eV tV' xV' v := by
  obtain ⟨b1, b2, b3, b4, b5⟩ := h.step Q
  have hlt : Bm < w5.heap.size := Nat.lt_of_lt_of_le h.lt Q.size
  have bx6 := (hb.block Bm hlt).trans b2
  have hal : ∀ k, v.ownBlock = some k → ¬ Mine B tV' xV' k ∧ k ≠ Bm := fun k hk => by
    have := hr.ge k hk
    exact ⟨fun hm => by have := Mine.lt s5 k hm; omega, by omega⟩
  refine ⟨(s5.below hb).other (fun k _ hn => five_other _ _ _ _ _ _ _ k hn) b4 h.ae, inv, h.g0, by have := h.g1; omega, (b1.trans (hb.mono b1.size)).trans (five_below _ _ _ _ _ _ _ h.bm), five_same _ _ _ _ _ _ _ _ _ _ _ _ bx6, hr.view.same (fun k hk _ => five_other _ _ _ _ _ _ _ k (hal k hk).2), h.bm, b4, h.ae, fun k hk => ⟨(hal k hk).1, (hal k hk).2, ?_⟩⟩
  rw [five_size]
  exact hr.blt k hk

theorem inv_take {every most : Int} {T X : List Int} (h : Inv every most T X) (n : Nat) : Inv every most (T.take n) (X.take n) :=
  ⟨h.sorted.sublist (List.take_sublist n T), by simp [h.len], by have := h.few; have : (T.take n).length ≤ T.length := (List.take_sublist n T).length_le; omega, fun t ht => h.all t (List.mem_of_mem_take ht), h.m1, h.m64, h.e1⟩
theorem Pair.more {w : World} {B Bm : Nat} {ev : List Int} {every most : Int} {a2 : Option Addr} {c2 k : Nat} {wr : World} {L : List (Int × Int)} {gone : Int} {eV tV xV lV : Value} (h : Pair w B Bm ev every most a2 c2 k wr L gone eV tV xV lV) : Pair w B Bm ev every most a2 c2 (k + 1) wr L gone eV tV xV lV :=
  ⟨h.st, h.inv, h.g0, by have := h.g1; omega, h.bel, h.box, h.view, h.bm, h.am, h.ae, h.al⟩
end Go.Proofs.Ytkenbckagmjheaa
