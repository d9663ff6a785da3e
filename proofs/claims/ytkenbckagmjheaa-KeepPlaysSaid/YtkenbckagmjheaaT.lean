import Derived.Test.YtkenbckagmjheaaS
namespace Go.Proofs.Ytkenbckagmjheaa
open Go.RowKit

/-- Two values that own no block together. -/
def Apart (a b : Value) : Prop := a.ownBlock = none ∨ a.ownBlock ≠ b.ownBlock
/-- A value that does not own this block. -/
def Off (a : Value) (B : Nat) : Prop := a.ownBlock ≠ some B

/-- A store lies in the block B: its numbers, its rows, all of the call's own and apart. -/
structure St (w : World) (base B : Nat) (ev : List Int) (every most : Int) (T X : List Int) (gone : Int) (eV tV xV : Value) : Prop where
  blk : w.heap[B]? = some (.cells #[.int .i64 every, .int .i64 most, eV, tV, xV, .int .i64 gone] 52 (0, 0))
  hB : base ≤ B
  re : Row w base eV ev
  rt : Row w base tV T
  rx : Row w base xV X
  oe : Off eV B
  ot : Off tV B
  ox : Off xV B
  et : Apart eV tV
  ex : Apart eV xV
  tx : Apart tV xV

/-- The blocks of a store that may be written. -/
def Mine (B : Nat) (tV xV : Value) (k : Nat) : Prop := k = B ∨ tV.ownBlock = some k ∨ xV.ownBlock = some k

/-- What a method leaves: only the store's own blocks have turned, its rows lie where they lay or are new. -/
structure Step (B : Nat) (tV xV tV' xV' : Value) (w w' : World) : Prop where
  os : w'.os = w.os
  tape : w'.tape = w.tape
  output : w'.output = w.output
  size : w.heap.size ≤ w'.heap.size
  block : ∀ k, k < w.heap.size → ¬ Mine B tV xV k → w'.heap[k]? = w.heap[k]?
  nt : ∀ k, tV'.ownBlock = some k → tV.ownBlock = some k ∨ w.heap.size ≤ k
  nx : ∀ k, xV'.ownBlock = some k → xV.ownBlock = some k ∨ w.heap.size ≤ k

theorem Step.refl (B : Nat) (tV xV : Value) (w : World) : Step B tV xV tV xV w w := ⟨rfl, rfl, rfl, Nat.le_refl _, fun _ _ _ => rfl, fun _ h => .inl h, fun _ h => .inl h⟩
theorem Step.drewN (B : Nat) (tV xV : Value) (w : World) (q : Nat) : Step B tV xV tV xV w (w.drewN q) := ⟨rfl, rfl, rfl, Nat.le_refl _, fun _ _ _ => rfl, fun _ h => .inl h, fun _ h => .inl h⟩
theorem Step.trans {B : Nat} {tV xV tV1 xV1 tV2 xV2 : Value} {w w1 w2 : World} (h : Step B tV xV tV1 xV1 w w1) (k : Step B tV1 xV1 tV2 xV2 w1 w2) : Step B tV xV tV2 xV2 w w2 := by
  refine ⟨k.os.trans h.os, k.tape.trans h.tape, k.output.trans h.output, Nat.le_trans h.size k.size, fun i hi hn => ?_, fun i hi => ?_, fun i hi => ?_⟩
  · refine (k.block i (Nat.lt_of_lt_of_le hi h.size) (fun hm => ?_)).trans (h.block i hi hn)
    rcases hm with hm | hm | hm
    · exact hn (.inl hm)
    · rcases h.nt i hm with h' | h'
      · exact hn (.inr (.inl h'))
      · omega
    · rcases h.nx i hm with h' | h'
      · exact hn (.inr (.inr h'))
      · omega
  · rcases k.nt i hi with h' | h'
    · exact h.nt i h'
    · exact .inr (Nat.le_trans h.size h')
  · rcases k.nx i hi with h' | h'
    · exact h.nx i h'
    · exact .inr (Nat.le_trans h.size h')
theorem Step.grown_t {B : Nat} {tV xV tV' : Value} {w w' : World} (h : w.grownBy w' tV.ownBlock) (hn : tV'.ownBlock = tV.ownBlock ∨ tV'.ownBlock = some w.heap.size) : Step B tV xV tV' xV w w' :=
  ⟨h.os, h.tape, h.output, h.size, fun k hk hm => h.block k hk (fun e => hm (.inr (.inl e.symm))), fun k hk => hn.elim (fun e => .inl (by rw [← e]; exact hk)) (fun e => .inr (by rw [hk] at e; injection e with e; omega)), fun _ h => .inl h⟩
theorem Step.grown_x {B : Nat} {tV xV xV' : Value} {w w' : World} (h : w.grownBy w' xV.ownBlock) (hn : xV'.ownBlock = xV.ownBlock ∨ xV'.ownBlock = some w.heap.size) : Step B tV xV tV xV' w w' :=
  ⟨h.os, h.tape, h.output, h.size, fun k hk hm => h.block k hk (fun e => hm (.inr (.inr e.symm))), fun _ h => .inl h, fun k hk => hn.elim (fun e => .inl (by rw [← e]; exact hk)) (fun e => .inr (by rw [hk] at e; injection e with e; omega))⟩
theorem Step.alloc (B : Nat) (tV xV : Value) (w : World) (o : Obj) : Step B tV xV tV xV w (w.alloc o) :=
  ⟨rfl, rfl, rfl, by simp, fun k hk _ => Below.heap_alloc _ _ _ hk, fun _ h => .inl h, fun _ h => .inl h⟩
theorem Step.store (B : Nat) (tV xV : Value) (w : World) (o : Nat) (v : Value) : Step B tV xV tV xV w (w.setCell ⟨B, o, none⟩ v) :=
  ⟨rfl, rfl, rfl, by simp [World.setCell], fun k _ hm => heap_setCell_other w _ k v (fun e => hm (.inl e)), fun _ h => .inl h, fun _ h => .inl h⟩
theorem Step.below {B base : Nat} {tV xV tV' xV' : Value} {w w' : World} (h : Step B tV xV tV' xV' w w') (hb : base ≤ w.heap.size) (hB : base ≤ B) (ht : ∀ k, tV.ownBlock = some k → base ≤ k) (hx : ∀ k, xV.ownBlock = some k → base ≤ k) : Below base w w' :=
  ⟨h.os, h.tape, h.output, h.size, fun k hk => h.block k (by omega) (fun hm => by
    rcases hm with hm | hm | hm
    · omega
    · have := ht k hm; omega
    · have := hx k hm; omega)⟩

theorem Row.ge {w : World} {base : Nat} {v : Value} {l : List Int} (h : Row w base v l) : ∀ k, v.ownBlock = some k → base ≤ k := fun k hk => (h.lt k hk).1
theorem Row.blt {w : World} {base : Nat} {v : Value} {l : List Int} (h : Row w base v l) : ∀ k, v.ownBlock = some k → k < w.heap.size := fun k hk => (h.lt k hk).2
/-- A row stands where its own block stands. -/
theorem Row.same {w w' : World} {base : Nat} {v : Value} {l : List Int} (h : Row w base v l) (hs : ∀ k, v.ownBlock = some k → w'.heap[k]? = w.heap[k]?) : Row w' base v l := by
  refine ⟨h.1, ?_⟩
  rcases h.2 with hn | ⟨g, cap, cur, hv, hb, hg, r⟩
  · exact .inl hn
  · exact .inr ⟨g, cap, cur, hv, hb, (hs g (by rw [hv]; rfl)).trans hg, r⟩

theorem St.lt {w : World} {base B : Nat} {ev : List Int} {every most : Int} {T X : List Int} {gone : Int} {eV tV xV : Value} (h : St w base B ev every most T X gone eV tV xV) : B < w.heap.size := by
  have := h.blk
  rcases Nat.lt_or_ge B w.heap.size with h' | h'
  · exact h'
  · rw [Array.getElem?_eq_none h'] at this; cases this
/-- A store stands where its blocks stand. -/
theorem St.same {w w' : World} {base B : Nat} {ev : List Int} {every most : Int} {T X : List Int} {gone : Int} {eV tV xV : Value} (h : St w base B ev every most T X gone eV tV xV)
    (hs : ∀ k, k < w.heap.size → w'.heap[k]? = w.heap[k]?) : St w' base B ev every most T X gone eV tV xV :=
  ⟨(hs B h.lt).trans h.blk, h.hB, h.re.same (fun k hk => hs k (h.re.blt k hk)), h.rt.same (fun k hk => hs k (h.rt.blt k hk)), h.rx.same (fun k hk => hs k (h.rx.blt k hk)), h.oe, h.ot, h.ox, h.et, h.ex, h.tx⟩
theorem St.alloc {w : World} {base B : Nat} {ev : List Int} {every most : Int} {T X : List Int} {gone : Int} {eV tV xV : Value} (h : St w base B ev every most T X gone eV tV xV) (o : Obj) : St (w.alloc o) base B ev every most T X gone eV tV xV :=
  h.same (fun _ hk => Below.heap_alloc _ _ _ hk)
theorem St.drewN {w : World} {base B : Nat} {ev : List Int} {every most : Int} {T X : List Int} {gone : Int} {eV tV xV : Value} (h : St w base B ev every most T X gone eV tV xV) (q : Nat) : St (w.drewN q) base B ev every most T X gone eV tV xV :=
  h.same (fun _ _ => rfl)
theorem St.drew {w : World} {base B : Nat} {ev : List Int} {every most : Int} {T X : List Int} {gone : Int} {eV tV xV : Value} (h : St w base B ev every most T X gone eV tV xV) : St w.drew base B ev every most T X gone eV tV xV :=
  h.same (fun _ _ => rfl)
theorem St.below {w w' : World} {base B : Nat} {ev : List Int} {every most : Int} {T X : List Int} {gone : Int} {eV tV xV : Value} (h : St w base B ev every most T X gone eV tV xV) (hb : Below w.heap.size w w') : St w' base B ev every most T X gone eV tV xV :=
  h.same (fun k hk => hb.block k hk)

/-- The store's cells. -/
theorem St.cells {w : World} {base B : Nat} {ev : List Int} {every most : Int} {T X : List Int} {gone : Int} {eV tV xV : Value} (h : St w base B ev every most T X gone eV tV xV) :
    w.cell? ⟨B, 0, none⟩ = some (.int .i64 every) ∧ w.cell? ⟨B, 1, none⟩ = some (.int .i64 most) ∧ w.cell? ⟨B, 2, none⟩ = some eV ∧ w.cell? ⟨B, 3, none⟩ = some tV ∧ w.cell? ⟨B, 4, none⟩ = some xV ∧ w.cell? ⟨B, 5, none⟩ = some (.int .i64 gone) ∧
    ∀ k, w.frozen? ⟨B, k, none⟩ = false := by
  have hc := fun j => cell_of_row w B j _ 52 (0, 0) h.blk
  exact ⟨hc 0, hc 1, hc 2, hc 3, hc 4, hc 5, fun k => frozen_of_row w B k _ 52 h.blk⟩

/-- Behind a turn of the row of times, and its store. -/
theorem St.put_t {w w2 : World} {base B : Nat} {ev : List Int} {every most : Int} {T X T' : List Int} {gone : Int} {eV tV xV tV' : Value} (h : St w base B ev every most T X gone eV tV xV)
    (hg : w.grownBy w2 tV.ownBlock) (hr : Row w2 base tV' T') (hn : tV'.ownBlock = tV.ownBlock ∨ tV'.ownBlock = some w.heap.size) : St (w2.setCell ⟨B, 3, none⟩ tV') base B ev every most T' X gone eV tV' xV := by
  have hB := h.lt
  have b2 : w2.heap[B]? = some (.cells #[.int .i64 every, .int .i64 most, eV, tV, xV, .int .i64 gone] 52 (0, 0)) := (hg.block B hB (fun e => h.ot e.symm)).trans h.blk
  have b3 := heap_setCell_same w2 B 3 _ 52 tV' b2
  have ot' : Off tV' B := by
    rcases hn with e | e
    · unfold Off; rw [e]; exact h.ot
    · intro e'; rw [e] at e'; injection e' with e'; omega
  have oth : ∀ k, k ≠ B → (w2.setCell ⟨B, 3, none⟩ tV').heap[k]? = w2.heap[k]? := fun k hk => heap_setCell_other w2 _ k _ hk
  have keep : ∀ (v : Value) (l : List Int), Row w base v l → Off v B → Apart v tV → Row (w2.setCell ⟨B, 3, none⟩ tV') base v l := fun v l r o a => r.same (fun k hk => by
    refine (oth k (fun e => o (by rw [hk, e]))).trans (hg.block k (r.blt k hk) (fun e => ?_))
    rcases a with a | a
    · rw [a] at hk; cases hk
    · exact a (by rw [hk, e]))
  have ap : ∀ (v : Value) (l : List Int), Row w base v l → Apart v tV → Apart v tV' := fun v l r a => by
    rcases hn with e | e
    · unfold Apart; rw [e]; exact a
    · by_cases h0 : v.ownBlock = none
      · exact .inl h0
      · refine .inr (fun e' => ?_)
        rw [e] at e'
        have := r.blt _ e'
        omega
  have tx' : Apart xV tV := by
    rcases h.tx with e | e
    · by_cases h0 : xV.ownBlock = none
      · exact .inl h0
      · exact .inr (by rw [e]; exact h0)
    · exact .inr (fun e' => e e'.symm)
  have tx2 := ap xV X h.rx tx'
  refine ⟨b3, h.hB, keep eV ev h.re h.oe h.et, hr.same (fun k hk => oth k (fun e => ot' (by rw [hk, e]))), keep xV X h.rx h.ox tx', h.oe, ot', h.ox, ap eV ev h.re h.et, h.ex, ?_⟩
  rcases tx2 with e | e
  · by_cases h0 : tV'.ownBlock = none
    · exact .inl h0
    · exact .inr (by rw [e]; exact h0)
  · exact .inr (fun e' => e e'.symm)

/-- Behind a turn of the row of things, and its store. -/
theorem St.put_x {w w2 : World} {base B : Nat} {ev : List Int} {every most : Int} {T X X' : List Int} {gone : Int} {eV tV xV xV' : Value} (h : St w base B ev every most T X gone eV tV xV)
    (hg : w.grownBy w2 xV.ownBlock) (hr : Row w2 base xV' X') (hn : xV'.ownBlock = xV.ownBlock ∨ xV'.ownBlock = some w.heap.size) : St (w2.setCell ⟨B, 4, none⟩ xV') base B ev every most T X' gone eV tV xV' := by
  have hB := h.lt
  have b2 : w2.heap[B]? = some (.cells #[.int .i64 every, .int .i64 most, eV, tV, xV, .int .i64 gone] 52 (0, 0)) := (hg.block B hB (fun e => h.ox e.symm)).trans h.blk
  have b3 := heap_setCell_same w2 B 4 _ 52 xV' b2
  have ox' : Off xV' B := by
    rcases hn with e | e
    · unfold Off; rw [e]; exact h.ox
    · intro e'; rw [e] at e'; injection e' with e'; omega
  have oth : ∀ k, k ≠ B → (w2.setCell ⟨B, 4, none⟩ xV').heap[k]? = w2.heap[k]? := fun k hk => heap_setCell_other w2 _ k _ hk
  have keep : ∀ (v : Value) (l : List Int), Row w base v l → Off v B → Apart v xV → Row (w2.setCell ⟨B, 4, none⟩ xV') base v l := fun v l r o a => r.same (fun k hk => by
    refine (oth k (fun e => o (by rw [hk, e]))).trans (hg.block k (r.blt k hk) (fun e => ?_))
    rcases a with a | a
    · rw [a] at hk; cases hk
    · exact a (by rw [hk, e]))
  have ap : ∀ (v : Value) (l : List Int), Row w base v l → Apart v xV → Apart v xV' := fun v l r a => by
    rcases hn with e | e
    · unfold Apart; rw [e]; exact a
    · by_cases h0 : v.ownBlock = none
      · exact .inl h0
      · refine .inr (fun e' => ?_)
        rw [e] at e'
        have := r.blt _ e'
        omega
  exact ⟨b3, h.hB, keep eV ev h.re h.oe h.ex, keep tV T h.rt h.ot h.tx, hr.same (fun k hk => oth k (fun e => ox' (by rw [hk, e]))), h.oe, h.ot, ox', h.et, ap eV ev h.re h.ex, ap tV T h.rt h.tx⟩

/-- Behind a store of the count. -/
theorem St.put_g {w : World} {base B : Nat} {ev : List Int} {every most : Int} {T X : List Int} {gone g' : Int} {eV tV xV : Value} (h : St w base B ev every most T X gone eV tV xV) : St (w.setCell ⟨B, 5, none⟩ (.int .i64 g')) base B ev every most T X g' eV tV xV := by
  have b3 := heap_setCell_same w B 5 _ 52 (.int .i64 g') h.blk
  have oth : ∀ k, k ≠ B → (w.setCell ⟨B, 5, none⟩ (.int .i64 g')).heap[k]? = w.heap[k]? := fun k hk => heap_setCell_other w _ k _ hk
  have keep : ∀ (v : Value) (l : List Int), Row w base v l → Off v B → Row (w.setCell ⟨B, 5, none⟩ (.int .i64 g')) base v l := fun v l r o => r.same (fun k hk => oth k (fun e => o (by rw [hk, e])))
  exact ⟨b3, h.hB, keep eV ev h.re h.oe, keep tV T h.rt h.ot, keep xV X h.rx h.ox, h.oe, h.ot, h.ox, h.et, h.ex, h.tx⟩

theorem gone_any (w : World) (base B : Nat) (ev : List Int) (every most : Int) (T X : List Int) (gone : Int) (eV tV xV : Value) (h : St w base B ev every most T X gone eV tV xV) :
    Calls Try.prog 18 #[.pointer (some ⟨B, 0, none⟩)] w fun e w' => e = .returned (.int .i64 gone) ∧ w = w' := by
  obtain ⟨_, _, _, _, _, c5, _⟩ := h.cells
  clear h
  go_enter Try.func18, Try.ntmps18
  go_wp2
  go_ret
  exact ⟨rfl, rfl⟩
theorem gone_nil (w : World) : Calls Try.prog 18 #[.pointer none] w fun e w' => e = .returned (.int .i64 0) ∧ w = w' := by
  go_enter Try.func18, Try.ntmps18
  go_wp2
  go_ret
  exact ⟨rfl, rfl⟩

theorem times_any (w : World) (base B : Nat) (ev : List Int) (every most : Int) (T X : List Int) (gone : Int) (eV tV xV : Value) (h : St w base B ev every most T X gone eV tV xV) (hlen : T.length ≤ 1000) :
    Calls Try.prog 10 #[.pointer (some ⟨B, 0, none⟩)] w fun e w' => ∃ v', e = .returned v' ∧ Row w' w.heap.size v' T ∧ Below w.heap.size w w' := by
  obtain ⟨_, _, _, c3, _⟩ := h.cells
  have hv := h.rt.view
  clear h
  go_enter Try.func10, Try.ntmps10
  go_wp2_with fail
  refine (clone_any _ _ _ hv (by omega)).mono ?_
  rintro e w' ⟨v', rfl, hr, hb⟩
  go_wp2_with fail
  go_ret
  exact ⟨v', rfl, hr, hb⟩
theorem times_nil (w : World) : Calls Try.prog 10 #[.pointer none] w fun e w' => e = .returned (.slice none 0 0) ∧ w = w' := by
  go_enter Try.func10, Try.ntmps10
  go_wp2
  go_ret
  exact ⟨rfl, rfl⟩
end Go.Proofs.Ytkenbckagmjheaa
