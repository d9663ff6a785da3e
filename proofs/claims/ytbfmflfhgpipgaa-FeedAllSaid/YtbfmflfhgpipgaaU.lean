/-
  Opening the arguments of FeedAll: a code (a struct of three slices) and what was seen (a slice of structs), down to their cells.
-/
import Derived.Test.YtbfmflfhgpipgaaQ
import Derived.ProofKit
import Derived.OpenShut
import Derived.ShutString
import Derived.ChangeOld
import Derived.Lib.SmallJoins
import Derived.Deep.Slices
import Derived.Deep.Fields
import Derived.ChangeSame
import Derived.SliceStrings
namespace Go.Proofs.Ytbfmflfhgpipgaa.lawFeedAll
open Go.ChangeShapes Go.WideShapes Go.ChangeAt Go.RowKit Go.Joins Go.Deep
set_option linter.unusedVariables false

section
variable {H : Type} {enc : TypeId × Value → H} {P : Program} {w : World} {base : Nat} {spare : Nat → Bool} {held : Bool}
theorem open_slice_fields {t e : TypeId} {fs : Array Field} {fuel : Nat} {cs : List Value} {x : DataW H × List MemPlace} (ht : P.underlying t = some (.slice e)) (he : P.underlying e = some (.struct fs))
    (hone : oneCellFields P fs = true) (hC : P.cellsOf e = fs.size) (h : DataW.trod enc P w base spare held fuel t cs = some x) :
    (cs = [.slice none 0 0] ∧ x = (.nil, [])) ∨
    ∃ (a : Addr) (len cap m : Nat) (D : Nat → DataW H) (Pl : Nat → List MemPlace), cs = [.slice (some a) len cap] ∧ base ≤ a.block ∧ len ≤ cap ∧ cap ≤ maxLen ∧ m = (if spare a.block then cap else len) ∧
      x = (.slice ((List.range len).map D) ((List.range (m - len)).map fun j => D (len + j)), MemPlace.row a (m * fs.size) ++ (List.range m).flatMap Pl) ∧
      ∀ i, i < m → ∃ (ys : List (DataW H × List MemPlace)) (n : Nat), D i = .agg (ys.map (·.1)) ∧ Pl i = ys.flatMap (·.2) ∧ ys.length = fs.size ∧
        ∀ (j : Nat) (f : Field), fs[j]? = some f → ∃ (v : Value) (y : DataW H × List MemPlace), w.cell? (a.add (i * fs.size + j)) = some v ∧ ys[j]? = some y ∧ DataW.trod enc P w base spare held n f.type [v] = some y := by
  rcases open_slice ht h with h0 | ⟨a, len, cap, m, n, D, Pl, hcs, hb, hl, hm, hmm, hx, hi⟩
  · exact .inl h0
  · refine .inr ⟨a, len, cap, m, D, Pl, hcs, hb, hl, hm, hmm, by rw [hC] at hx; exact hx, fun i him => ?_⟩
    obtain ⟨cs', hc, ht'⟩ := hi i him
    rw [hC] at hc
    obtain ⟨ys, n', hn', hy, hlen, hyl, hf⟩ := DataW.trod_struct he ht'
    obtain ⟨_, hcl, hat⟩ := World.cells?_some hc
    simp only [Prod.mk.injEq] at hy
    refine ⟨ys, n', hy.1, hy.2, hyl, fun j f hj => ?_⟩
    obtain ⟨ho, hk⟩ := hone_of hone j f hj
    have hjl : j < fs.size := (Array.getElem?_eq_some_iff.1 hj).1
    have hcell := hat j hjl
    have hv : cs'[j]? = some (cs'[j]'(by omega)) := List.getElem?_eq_getElem (by omega)
    have h1 := hf j f hj
    rw [ho, hk] at h1
    have hone' : (cs'.drop j).take 1 = [cs'[j]'(by omega)] := by
      rw [List.drop_eq_getElem_cons (by omega)]
      rfl
    rw [hone'] at h1
    have hys : ys[j]? = some (ys[j]'(by omega)) := List.getElem?_eq_getElem (by omega)
    refine ⟨_, _, ?_, hys, h1.trans hys⟩
    rw [← Go.Deep.add_add, hcell, hv]
end

theorem cells40 : Try.prog.cellsOf 40 = 3 := by kernel_rfl

section
variable {H : Type} {enc : TypeId × Value → H} {W : World}

/-- A slice of instructions. -/
theorem open_ins {fuel : Nat} {cs : List Value} {x : DataW H × List MemPlace} (h : DataW.trod enc Try.prog W 0 (fun _ => true) true fuel 36 cs = some x) :
    ∃ (ai : Option Addr) (n k : Nat) (op a ln : Nat → Int), cs = [.slice ai n k] ∧ n ≤ 9223372036854775807 ∧
      ∀ j, j < n → ∃ b off, ai = some ⟨b, off, none⟩ ∧ b < W.heap.size ∧ W.cell? ⟨b, off + j * 3, none⟩ = some (.int .u8 (op j)) ∧ W.cell? ⟨b, off + j * 3 + 1, none⟩ = some (.int .i64 (a j)) ∧ W.cell? ⟨b, off + j * 3 + 2, none⟩ = some (.int .i64 (ln j)) ∧ 0 ≤ op j ∧ op j ≤ 255 := by
  rcases open_slice_fields Try.underlying36 Try.underlying55 (by kernel_rfl) (by kernel_rfl) h with ⟨rfl, _⟩ | ⟨ad, len, cap, m, D, Pl, rfl, _, hl, hm, hmm, _, hi⟩
  · exact ⟨none, 0, 0, fun _ => 0, fun _ => 0, fun _ => 0, rfl, by omega, fun j hj => by omega⟩
  · have hall : ∀ j, j < len → ∃ x : Int, ∃ y : Int, ∃ z : Int, ∃ b off, some ad = some ⟨b, off, none⟩ ∧ b < W.heap.size ∧ W.cell? ⟨b, off + j * 3, none⟩ = some (.int .u8 x) ∧ W.cell? ⟨b, off + j * 3 + 1, none⟩ = some (.int .i64 y) ∧ W.cell? ⟨b, off + j * 3 + 2, none⟩ = some (.int .i64 z) ∧ 0 ≤ x ∧ x ≤ 255 := by
      intro j hj
      have spot0 : ad.spot = none := by
        obtain ⟨ys, n', _, _, _, hf⟩ := hi 0 (by simp at hmm; omega)
        obtain ⟨v0, y0, hc0, _, _⟩ := hf 0 _ rfl
        simpa [Addr.add] using World.cell?_spot hc0
      obtain ⟨ys, n', _, _, _, hf⟩ := hi j (by simp at hmm; omega)
      obtain ⟨v0, y0, hc0, _, ht0⟩ := hf 0 _ rfl
      obtain ⟨v1, y1, hc1, _, ht1⟩ := hf 1 _ rfl
      obtain ⟨v2, y2, hc2, _, ht2⟩ := hf 2 _ rfl
      obtain ⟨x, e0, _, wx⟩ := DataW.trod_int Try.underlying5 ht0
      obtain ⟨y, e1, _, _⟩ := DataW.trod_int Try.underlying2 ht1
      obtain ⟨z, e2, _, _⟩ := DataW.trod_int Try.underlying3 ht2
      simp at e0 e1 e2
      subst e0 e1 e2
      obtain ⟨b, off, spot⟩ := ad
      simp only at spot0
      subst spot0
      rw [add_plain] at hc0 hc1 hc2
      exact ⟨x, y, z, b, off, rfl, World.block_lt_of_cell? _ _ hc0, hc0, hc1, hc2, bounds_u8 wx⟩
    obtain ⟨op, h1⟩ := choose_lt hall
    obtain ⟨a, h2⟩ := choose_lt h1
    obtain ⟨ln, h3⟩ := choose_lt h2
    exact ⟨some ad, len, cap, op, a, ln, rfl, by unfold maxLen at hm; omega, h3⟩

/-- A slice of functions' entries. -/
theorem open_fns {fuel : Nat} {cs : List Value} {x : DataW H × List MemPlace} (h : DataW.trod enc Try.prog W 0 (fun _ => true) true fuel 37 cs = some x) :
    ∃ (ai : Option Addr) (n k : Nat) (f0 f1 f2 f3 f4 : Nat → Int), cs = [.slice ai n k] ∧ n ≤ 9223372036854775807 ∧
      ∀ j, j < n → ∃ b off, ai = some ⟨b, off, none⟩ ∧ b < W.heap.size ∧ W.cell? ⟨b, off + j * 5, none⟩ = some (.int .i64 (f0 j)) ∧ W.cell? ⟨b, off + j * 5 + 1, none⟩ = some (.int .i64 (f1 j)) ∧ W.cell? ⟨b, off + j * 5 + 2, none⟩ = some (.int .i64 (f2 j)) ∧ W.cell? ⟨b, off + j * 5 + 3, none⟩ = some (.int .i64 (f3 j)) ∧ W.cell? ⟨b, off + j * 5 + 4, none⟩ = some (.int .i64 (f4 j)) := by
  rcases open_slice_fields Try.underlying37 Try.underlying48 (by kernel_rfl) (by kernel_rfl) h with ⟨rfl, _⟩ | ⟨ad, len, cap, m, D, Pl, rfl, _, hl, hm, hmm, _, hi⟩
  · exact ⟨none, 0, 0, fun _ => 0, fun _ => 0, fun _ => 0, fun _ => 0, fun _ => 0, rfl, by omega, fun j hj => by omega⟩
  · have hall : ∀ j, j < len → ∃ x0 : Int, ∃ x1 : Int, ∃ x2 : Int, ∃ x3 : Int, ∃ x4 : Int, ∃ b off, some ad = some ⟨b, off, none⟩ ∧ b < W.heap.size ∧ W.cell? ⟨b, off + j * 5, none⟩ = some (.int .i64 x0) ∧ W.cell? ⟨b, off + j * 5 + 1, none⟩ = some (.int .i64 x1) ∧ W.cell? ⟨b, off + j * 5 + 2, none⟩ = some (.int .i64 x2) ∧ W.cell? ⟨b, off + j * 5 + 3, none⟩ = some (.int .i64 x3) ∧ W.cell? ⟨b, off + j * 5 + 4, none⟩ = some (.int .i64 x4) := by
      intro j hj
      have spot0 : ad.spot = none := by
        obtain ⟨ys, n', _, _, _, hf⟩ := hi 0 (by simp at hmm; omega)
        obtain ⟨v0, y0, hc0, _, _⟩ := hf 0 _ rfl
        simpa [Addr.add] using World.cell?_spot hc0
      obtain ⟨ys, n', _, _, _, hf⟩ := hi j (by simp at hmm; omega)
      obtain ⟨v0, y0, hc0, _, ht0⟩ := hf 0 _ rfl
      obtain ⟨v1, y1, hc1, _, ht1⟩ := hf 1 _ rfl
      obtain ⟨v2, y2, hc2, _, ht2⟩ := hf 2 _ rfl
      obtain ⟨v3, y3, hc3, _, ht3⟩ := hf 3 _ rfl
      obtain ⟨v4, y4, hc4, _, ht4⟩ := hf 4 _ rfl
      obtain ⟨x0, e0, _, _⟩ := DataW.trod_int Try.underlying3 ht0
      obtain ⟨x1, e1, _, _⟩ := DataW.trod_int Try.underlying3 ht1
      obtain ⟨x2, e2, _, _⟩ := DataW.trod_int Try.underlying3 ht2
      obtain ⟨x3, e3, _, _⟩ := DataW.trod_int Try.underlying3 ht3
      obtain ⟨x4, e4, _, _⟩ := DataW.trod_int Try.underlying3 ht4
      simp at e0 e1 e2 e3 e4
      subst e0 e1 e2 e3 e4
      obtain ⟨b, off, spot⟩ := ad
      simp only at spot0
      subst spot0
      rw [add_plain] at hc0 hc1 hc2 hc3 hc4
      exact ⟨x0, x1, x2, x3, x4, b, off, rfl, World.block_lt_of_cell? _ _ hc0, hc0, hc1, hc2, hc3, hc4⟩
    obtain ⟨f0, h0⟩ := choose_lt hall
    obtain ⟨f1, h1⟩ := choose_lt h0
    obtain ⟨f2, h2⟩ := choose_lt h1
    obtain ⟨f3, h3⟩ := choose_lt h2
    obtain ⟨f4, h4⟩ := choose_lt h3
    exact ⟨some ad, len, cap, f0, f1, f2, f3, f4, rfl, by unfold maxLen at hm; omega, h4⟩

/-- A slice of texts: their sizes. -/
theorem open_strs' {fuel : Nat} {cs : List Value} {x : DataW H × List MemPlace} (h : DataW.trod enc Try.prog W 0 (fun _ => true) true fuel 38 cs = some x) :
    ∃ (ai : Option Addr) (n k : Nat) (sz : Nat → Nat), cs = [.slice ai n k] ∧ n ≤ 9223372036854775807 ∧
      ∀ j, j < n → ∃ b off s, ai = some ⟨b, off, none⟩ ∧ b < W.heap.size ∧ W.cell? ⟨b, off + j, none⟩ = some (.string s) ∧ s.size = sz j ∧ s.size ≤ 9223372036854775807 := by
  rcases open_strings Try.underlying38 Try.underlying9 (by kernel_rfl) h with ⟨rfl, _⟩ | ⟨ad, len, cap, ss, rfl, _, hl, hm, hz, _, hcell, hws⟩
  · exact ⟨none, 0, 0, fun _ => 0, rfl, by omega, fun j hj => by omega⟩
  · refine ⟨some ad, len, cap, fun j => (ss.getD j ByteArray.empty).size, rfl, by unfold maxLen at hm; omega, fun j hj => ?_⟩
    have hz' : ss.length = cap := by simpa using hz
    have spot0 : ad.spot = none := by simpa [Addr.add] using World.cell?_spot (hcell 0 (by omega))
    have hc := hcell j (by omega)
    obtain ⟨b, off, spot⟩ := ad
    simp only at spot0
    subst spot0
    rw [add_plain] at hc
    refine ⟨b, off, _, rfl, World.block_lt_of_cell? _ _ hc, hc, rfl, ?_⟩
    have := hws (ss.getD j ByteArray.empty) (by
      rw [List.getD_eq_getElem?_getD, List.getElem?_eq_getElem (by omega)]
      exact List.getElem_mem _)
    unfold maxLen at this
    omega

/-- What was seen. -/
theorem open_seens {fuel : Nat} {cs : List Value} {x : DataW H × List MemPlace} (h : DataW.trod enc Try.prog W 0 (fun _ => true) true fuel 41 cs = some x) :
    ∃ (ai : Option Addr) (k : Nat) (s : SeenD), cs = [.slice ai s.n k] ∧ SeenAt W W.heap.size ai k s := by
  rcases open_slice_fields Try.underlying41 Try.underlying23 (by kernel_rfl) (by kernel_rfl) h with ⟨rfl, _⟩ | ⟨ad, len, cap, m, D, Pl, rfl, _, hl, hm, hmm, _, hi⟩
  · exact ⟨none, 0, ⟨0, fun _ => 0, fun _ => 0, fun _ => 0, fun _ => 0⟩, rfl, fun j hj => absurd hj (Nat.not_lt_zero _), Nat.le_refl _, by omega⟩
  · have hall : ∀ j, j < len → ∃ x0 : Int, ∃ x1 : Int, ∃ x2 : Int, ∃ x3 : Int, ∃ b off, some ad = some ⟨b, off, none⟩ ∧ b < W.heap.size ∧ W.cell? ⟨b, off + j * 4, none⟩ = some (.int .u8 x0) ∧ W.cell? ⟨b, off + j * 4 + 1, none⟩ = some (.int .u8 x1) ∧ W.cell? ⟨b, off + j * 4 + 2, none⟩ = some (.int .i64 x2) ∧ W.cell? ⟨b, off + j * 4 + 3, none⟩ = some (.int .i64 x3) ∧ (0 ≤ x0 ∧ x0 ≤ 255) ∧ 0 ≤ x1 ∧ x1 ≤ 255 := by
      intro j hj
      have spot0 : ad.spot = none := by
        obtain ⟨ys, n', _, _, _, hf⟩ := hi 0 (by simp at hmm; omega)
        obtain ⟨v0, y0, hc0, _, _⟩ := hf 0 _ rfl
        simpa [Addr.add] using World.cell?_spot hc0
      obtain ⟨ys, n', _, _, _, hf⟩ := hi j (by simp at hmm; omega)
      obtain ⟨v0, y0, hc0, _, ht0⟩ := hf 0 _ rfl
      obtain ⟨v1, y1, hc1, _, ht1⟩ := hf 1 _ rfl
      obtain ⟨v2, y2, hc2, _, ht2⟩ := hf 2 _ rfl
      obtain ⟨v3, y3, hc3, _, ht3⟩ := hf 3 _ rfl
      obtain ⟨x0, e0, _, w0⟩ := DataW.trod_int Try.underlying5 ht0
      obtain ⟨x1, e1, _, w1⟩ := DataW.trod_int Try.underlying5 ht1
      obtain ⟨x2, e2, _, _⟩ := DataW.trod_int Try.underlying3 ht2
      obtain ⟨x3, e3, _, _⟩ := DataW.trod_int Try.underlying3 ht3
      simp at e0 e1 e2 e3
      subst e0 e1 e2 e3
      obtain ⟨b, off, spot⟩ := ad
      simp only at spot0
      subst spot0
      rw [add_plain] at hc0 hc1 hc2 hc3
      exact ⟨x0, x1, x2, x3, b, off, rfl, World.block_lt_of_cell? _ _ hc0, hc0, hc1, hc2, hc3, bounds_u8 w0, bounds_u8 w1⟩
    obtain ⟨f0, h0⟩ := choose_lt hall
    obtain ⟨f1, h1⟩ := choose_lt h0
    obtain ⟨f2, h2⟩ := choose_lt h1
    obtain ⟨f3, h3⟩ := choose_lt h2
    exact ⟨some ad, cap, ⟨len, f0, f1, f2, f3⟩, rfl, h3, hl, by unfold maxLen at hm; omega⟩

/-- A code. -/
theorem open_code {r : Reach} {b0 : Nat} {v : Value} {d : DataW H} {p : List MemPlace} (hv : Value.okWide Try.prog W r b0 40 v) (h : DataW.Trod enc Try.prog W 0 (fun _ => true) true 40 v d p) :
    ∃ (ai af as' : Option Addr) (k1 k2 k3 : Nat) (c : CodeD), v = .agg #[.slice ai c.ni k1, .slice af c.nf k2, .slice as' c.ns k3] ∧ CodeAt W W.heap.size ai af as' c := by
  obtain ⟨v0, v1, v2, y0, y1, y2, m, rfl, _, _, h0, h1, h2⟩ := open_agg3 Try.underlying40 (by kernel_rfl) cells40 hv h
  obtain ⟨ai, n0, k1, op, a, ln, e0, b0', c0⟩ := open_ins h0
  obtain ⟨af, n1, k2, f0, f1, f2, f3, f4, e1, b1', c1⟩ := open_fns h1
  obtain ⟨as', n2, k3, sz, e2, b2', c2⟩ := open_strs' h2
  simp only [List.cons.injEq, and_true] at e0 e1 e2
  subst e0 e1 e2
  exact ⟨ai, af, as', k1, k2, k3, ⟨n0, op, a, ln, n1, f0, f1, f2, f3, f4, n2, sz⟩, rfl, c0, c1, c2, b0', b1', b2'⟩
end
end Go.Proofs.Ytbfmflfhgpipgaa.lawFeedAll
