import Derived.Test.YtkenbckagmjheaaN
import Derived.Deep.AppendLies
namespace Go.Proofs.Ytkenbckagmjheaa
open Go.RowKit

/-! Pairs of a time and a thing, as the reference keeps them. -/
def flat (L : List (Int × Int)) : List Value := L.flatMap fun p => [.int .i64 p.1, .int .i64 p.2]
theorem flat_length (L : List (Int × Int)) : (flat L).length = L.length * 2 := by
  induction L with
  | nil => rfl
  | cons p L ih => rw [flat, List.flatMap_cons, List.length_append, ← flat, ih, List.length_cons]; simp; omega
theorem flat_append (A B : List (Int × Int)) : flat (A ++ B) = flat A ++ flat B := by unfold flat; rw [List.flatMap_append]
theorem flat_get (L : List (Int × Int)) : ∀ j, j < L.length → (flat L)[j * 2]? = some (.int .i64 (L.getD j (0, 0)).1) ∧ (flat L)[j * 2 + 1]? = some (.int .i64 (L.getD j (0, 0)).2) := by
  induction L with
  | nil => intro j hj; simp at hj
  | cons p L ih =>
    intro j hj
    have e : flat (p :: L) = Value.int .i64 p.1 :: Value.int .i64 p.2 :: flat L := rfl
    rw [e]
    cases j with
    | zero => exact ⟨rfl, rfl⟩
    | succ j =>
      have := ih j (by simpa using hj)
      rw [show (j + 1) * 2 = j * 2 + 1 + 1 by omega]
      simpa using this

/-- A row of the call's own that holds these pairs. -/
def PRow (w : World) (base : Nat) (v : Value) (L : List (Int × Int)) : Prop := w.ownsRow base 46 2 v L.length (flat L)
/-- A slice that reads as these pairs. -/
def PView (w : World) (v : Value) (L : List (Int × Int)) : Prop := (∃ a c, v = .slice a 0 c ∧ L = []) ∨
  ∃ b off c, v = .slice (some ⟨b, off, none⟩) L.length c ∧ (∀ j, j < L.length → w.cell? ⟨b, off + j * 2, none⟩ = some (.int .i64 (L.getD j (0, 0)).1) ∧ w.cell? ⟨b, off + j * 2 + 1, none⟩ = some (.int .i64 (L.getD j (0, 0)).2))

theorem PRow.view {w : World} {base : Nat} {v : Value} {L : List (Int × Int)} (h : PRow w base v L) : PView w v L := by
  rcases h.2 with ⟨hv, h0⟩ | ⟨g, cap, cur, hv, hb, hg, hle, hm, hs, ht⟩
  · exact .inl ⟨none, 0, hv, List.eq_nil_of_length_eq_zero h0⟩
  · refine .inr ⟨g, 0, cap, hv, fun j hj => ?_⟩
    obtain ⟨f1, f2⟩ := flat_get L j hj
    rw [← ht, List.getElem?_take, if_pos (by omega)] at f1 f2
    rw [Nat.zero_add, cell_of_row w g _ cur 46 (0, 0) hg, cell_of_row w g _ cur 46 (0, 0) hg]
    exact ⟨by simpa using f1, by simpa using f2⟩
theorem PView.slice {w : World} {v : Value} {L : List (Int × Int)} (h : PView w v L) : ∃ a c, v = .slice a L.length c ∧ (0 < L.length → ∃ b off, a = some ⟨b, off, none⟩ ∧ b < w.heap.size ∧ ∀ j, j < L.length → w.cell? ⟨b, off + j * 2, none⟩ = some (.int .i64 (L.getD j (0, 0)).1) ∧ w.cell? ⟨b, off + j * 2 + 1, none⟩ = some (.int .i64 (L.getD j (0, 0)).2)) := by
  rcases h with ⟨a, c, rfl, rfl⟩ | ⟨b, off, c, rfl, hc⟩
  · exact ⟨a, c, rfl, fun h => absurd h (by simp)⟩
  · exact ⟨_, c, rfl, fun h0 => ⟨b, off, rfl, World.block_lt_of_cell? w _ (hc 0 h0).1, hc⟩⟩
theorem PView.same {w w' : World} {v : Value} {L : List (Int × Int)} (h : PView w v L) (hs : ∀ k, v.ownBlock = some k → k < w.heap.size → w'.heap[k]? = w.heap[k]?) : PView w' v L := by
  rcases h with h | ⟨b, off, c, rfl, hc⟩
  · exact .inl h
  · refine .inr ⟨b, off, c, rfl, fun j hj => ?_⟩
    have hb := World.block_lt_of_cell? w _ (hc j hj).1
    have e := hs b rfl hb
    exact ⟨(World.cell?_of_block (w := w) (a := ⟨b, off + j * 2, none⟩) e).trans (hc j hj).1, (World.cell?_of_block (w := w) (a := ⟨b, off + j * 2 + 1, none⟩) e).trans (hc j hj).2⟩
theorem PView.below {w w' : World} {v : Value} {L : List (Int × Int)} (h : PView w v L) (hb : Below w.heap.size w w') : PView w' v L := h.same (fun k _ hk => hb.block k hk)

/-- The value of the reference's store. -/
def sv (every most : Int) (eV lV : Value) (gone : Int) : Value := .agg #[.int .i64 every, .int .i64 most, eV, lV, .int .i64 gone]
def so (every most : Int) (eV lV : Value) (gone : Int) : Obj := .cells #[.int .i64 every, .int .i64 most, eV, lV, .int .i64 gone] 37 (0, 0)

theorem getD_fst (L : List (Int × Int)) (j : Nat) : (L.map Prod.fst).getD j 0 = (L.getD j (0, 0)).1 := by
  rw [List.getD_eq_getElem?_getD, List.getD_eq_getElem?_getD, List.getElem?_map]
  cases L[j]? <;> rfl
theorem getD_snd (L : List (Int × Int)) (j : Nat) : (L.map Prod.snd).getD j 0 = (L.getD j (0, 0)).2 := by
  rw [List.getD_eq_getElem?_getD, List.getD_eq_getElem?_getD, List.getElem?_map]
  cases L[j]? <;> rfl

theorem may_any (every most : Int) (w : World) : Calls Try.prog 12 #[.int .i64 every, .int .i64 most] w fun e w' => e = .returned (.bool (decide (1 ≤ every ∧ every ≤ 1048576 ∧ 1 ≤ most ∧ most ≤ 64))) ∧ w = w' := by
  by_cases h : 1 ≤ every ∧ every ≤ 1048576 ∧ 1 ≤ most ∧ most ≤ 64
  · rw [decide_eq_true h]
    obtain ⟨h1, h2, h3, h4⟩ := h
    go_enter Try.func12, Try.ntmps12
    go_wp2
    go_ret
    exact ⟨rfl, rfl⟩
  · rw [decide_eq_false h]
    have hz : every < 1 ∨ (¬ every < 1 ∧ 1048576 < every) ∨ (¬ every < 1 ∧ ¬ 1048576 < every ∧ most < 1) ∨ (¬ every < 1 ∧ ¬ 1048576 < every ∧ ¬ most < 1 ∧ 64 < most) := by omega
    clear h
    rcases hz with h1 | ⟨h1, h2⟩ | ⟨h1, h2, h3⟩ | ⟨h1, h2, h3, h4⟩
    · have z1 : decide (1 ≤ every) = false := decide_eq_false (by omega)
      go_enter Try.func12, Try.ntmps12
      go_wp2
      go_ret
      exact ⟨rfl, rfl⟩
    · have z1 : decide (every ≤ 1048576) = false := decide_eq_false (by omega)
      go_enter Try.func12, Try.ntmps12
      go_wp2
      go_ret
      exact ⟨rfl, rfl⟩
    · have z1 : decide (1 ≤ most) = false := decide_eq_false (by omega)
      go_enter Try.func12, Try.ntmps12
      go_wp2
      go_ret
      exact ⟨rfl, rfl⟩
    · have z1 : decide (most ≤ 64) = false := decide_eq_false (by omega)
      go_enter Try.func12, Try.ntmps12
      go_wp2
      go_ret
      exact ⟨rfl, rfl⟩

set_option maxHeartbeats 1000000 in
theorem rnear_any (every most gone t : Int) (ea : Option Addr) (en ec : Nat) (lV : Value) (L : List (Int × Int)) (w : World) (h : PView w lV L) (hs : (L.map Prod.fst).Pairwise (· < ·)) (hlen : L.length ≤ 1000) :
    Calls Try.prog 16 #[sv every most (.slice ea en ec) lV gone, .int .i64 t] w fun e w' => e = .returned (.int .i64 ((nb (L.map Prod.fst) t : Nat) - 1)) ∧ Below w.heap.size w w' := by
  have PV := h.below ((Below.refl _ _).alloc (Nat.le_refl _) (so every most (.slice ea en ec) lV gone))
  have hsp := Lib.hid (fun i hi => nb_spec hs t i hi)
  have hn := nb_le (L.map Prod.fst) t
  rw [List.length_map] at hn
  obtain ⟨la, lc, rfl, hc⟩ := h.slice
  have b0 := Lib.hid ((Below.refl w.heap.size w).alloc (Nat.le_refl _) (so every most (.slice ea en ec) (.slice la L.length lc) gone))
  have c3 : (w.alloc (so every most (.slice ea en ec) (.slice la L.length lc) gone)).cell? ⟨w.heap.size, 3, none⟩ = some (.slice la L.length lc) := cell_of_row _ _ 3 _ 37 (0, 0) (heap_alloc_new w _)
  have HC : Hid (0 < L.length → ∃ b off, la = some ⟨b, off, none⟩ ∧ ∀ j, j < L.length → (w.alloc (so every most (.slice ea en ec) (.slice la L.length lc) gone)).cell? ⟨b, off + j * 2, none⟩ = some (.int .i64 (L.getD j (0, 0)).1)) := fun h0 => by
    obtain ⟨b, off, e, hb, hcc⟩ := hc h0
    exact ⟨b, off, e, fun j hj => (Below.cell ((Below.refl w.heap.size w).alloc (Nat.le_refl _) _) (p := ⟨b, off + j * 2, none⟩) hb).trans (hcc j hj).1⟩
  clear h hs PV hc
  generalize nb (L.map Prod.fst) t = c at *
  unfold sv
  unfold so at *
  go_enter Try.func16, Try.ntmps16
  go_wp2_with fail
  generalize w.alloc (.cells #[.int .i64 every, .int .i64 most, .slice ea en ec, .slice la L.length lc, .int .i64 gone] 37 (0, 0)) = w0 at *
  go_loopw [10, 5, 6] (fun ix at_ _ wr => ∃ (k : Nat) (a : Int), k ≤ L.length ∧ ix = .int .i64 k ∧ at_ = .int .i64 a ∧ Hid (a = ((min k c : Nat) : Int) - 1) ∧ wr = w0) (fun ix _ _ _ => L.length - (intOf ix).toNat)
  case atStart => exact ⟨0, -1, Nat.zero_le _, rfl, rfl, by rw [Hid, Nat.zero_min]; rfl, rfl⟩
  case round =>
    obtain ⟨k, a, hk, rfl, rfl, ha, rfl⟩ := hrel
    by_cases hlt : k < L.length
    · obtain ⟨b, off, rfl, hcc⟩ := HC.out (by omega)
      have k1 := hcc k hlt
      have hle := hsp.out k (by rw [List.length_map]; exact hlt)
      rw [getD_fst] at hle
      generalize (L.getD k (0, 0)).1 = tk at *
      have y1 : (0 : Int) ≤ (k : Int) := by omega
      have y2 : (k : Int) < (L.length : Int) := by omega
      clear hcc HC hsp
      by_cases hc : k < c
      · have z1 : decide (tk ≤ t) = true := decide_eq_true (hle.2 hc)
        have ha2 : Hid ((k : Int) = ((min (k + 1) c : Nat) : Int) - 1) := by rw [Hid, Nat.min_eq_left (by omega)]; omega
        clear hle
        go_wp2_with fail
        go_roundw
        case rel => exact ⟨k + 1, k, by omega, by go_num, rfl, ha2, trivial⟩
        case measure => simp [intOf]; omega
      · have z1 : decide (tk ≤ t) = false := decide_eq_false (fun e => hc (hle.1 e))
        have ha2 : Hid (a = ((min (k + 1) c : Nat) : Int) - 1) := by
          have := ha.out
          rw [Nat.min_eq_right (by omega)] at this
          rw [Hid, Nat.min_eq_right (by omega)]
          exact this
        clear hle
        go_wp2_with fail
        go_roundw
        case rel => exact ⟨k + 1, a, by omega, by go_num, rfl, ha2, trivial⟩
        case measure => simp [intOf]; omega
    · obtain rfl : k = L.length := by omega
      have ha2 := ha.out
      rw [Nat.min_eq_right hn] at ha2
      have ha2 := Lib.hid ha2
      clear HC hsp
      go_wp2_with fail
      go_ret
      exact ⟨by rw [ha2.out]; rfl, b0.out⟩
end Go.Proofs.Ytkenbckagmjheaa
