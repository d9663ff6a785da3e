import Derived.Test.YtbfmflfhgpipgaaB
namespace Go.Proofs.Ytbfmflfhgpipgaa
open Go.RowKit

theorem hint_one (w : World) : Calls Try.prog 7 #[.agg #[.int .u8 0, .int .u8 0, .int .i64 3, .int .i64 0]] w fun e w' => e = .returned (.agg #[.int .u8 0, .int .u8 0, .int .i64 1]) ∧ Below w.heap.size w w' :=
  hint_any 0 0 3 0 w (by decide) (by decide) (by decide) (by decide)
theorem hint_two (w : World) : Calls Try.prog 7 #[.agg #[.int .u8 10, .int .u8 2, .int .i64 0, .int .i64 0]] w fun e w' => e = .returned (.agg #[.int .u8 0, .int .u8 1, .int .i64 0]) ∧ Below w.heap.size w w' :=
  hint_any 10 2 0 0 w (by decide) (by decide) (by decide) (by decide)

theorem awake_any (w : World) : Calls Try.prog 9 #[] w fun e w' => e = .returned (.bool true) ∧ Below w.heap.size w w' := by
  go_enter Try.func9, Try.ntmps9
  go_wp2_with fail
  refine (hint_one _).mono ?_
  rintro e w1 ⟨rfl, b1⟩
  go_wp2_with fail
  refine (hint_two _).mono ?_
  rintro e w2 ⟨rfl, b2⟩
  go_wp2_with fail
  go_ret
  exact ⟨rfl, b1.trans (b2.mono b1.size)⟩

/-- The four cells of a struct that is boxed at block B, the room behind it, and all that was there before. -/
theorem keep4 {B : Nat} {c0 c1 c2 c3 : Option Value} {w w1 w2 : World} (hb : Below w1.heap.size w1 w2) (h : w1.cell? ⟨B, 0, none⟩ = c0 ∧ w1.cell? ⟨B, 1, none⟩ = c1 ∧ w1.cell? ⟨B, 2, none⟩ = c2 ∧ w1.cell? ⟨B, 3, none⟩ = c3 ∧ B < w1.heap.size ∧ Below B w w1) :
    w2.cell? ⟨B, 0, none⟩ = c0 ∧ w2.cell? ⟨B, 1, none⟩ = c1 ∧ w2.cell? ⟨B, 2, none⟩ = c2 ∧ w2.cell? ⟨B, 3, none⟩ = c3 ∧ B < w2.heap.size ∧ Below B w w2 := by
  obtain ⟨h0, h1, h2, h3, h4, h5⟩ := h
  have hs := hb.size
  exact ⟨(hb.cell (p := ⟨B, 0, none⟩) h4).trans h0, (hb.cell (p := ⟨B, 1, none⟩) h4).trans h1, (hb.cell (p := ⟨B, 2, none⟩) h4).trans h2, (hb.cell (p := ⟨B, 3, none⟩) h4).trans h3, by omega, h5.trans (hb.mono (by omega))⟩

theorem law_hints (l r y n : Int) (w : World) (l0 : 0 ≤ l) (l1 : l ≤ 255) (r0 : 0 ≤ r) (r1 : r ≤ 255) :
    Calls Try.prog 3 #[.agg #[.int .u8 l, .int .u8 r, .int .i64 y, .int .i64 n]] w fun e w' => e = .returned (.bool true) ∧ Below w.heap.size w w' := by
  have c1 : Hid (∀ w, Calls Try.prog 7 #[.agg #[.int .u8 l, .int .u8 r, .int .i64 y, .int .i64 n]] w fun e w' => e = .returned (.agg #[.int .u8 (kd l), .int .u8 (kd r), .int .i64 (way y n)]) ∧ Below w.heap.size w w') := fun w => hint_any l r y n w l0 l1 r0 r1
  have c2 : Hid (∀ w, Calls Try.prog 8 #[.agg #[.int .u8 l, .int .u8 r, .int .i64 y, .int .i64 n]] w fun e w' => e = .returned (.agg #[.int .u8 (kd l), .int .u8 (kd r), .int .i64 (way y n)]) ∧ Below w.heap.size w w') := fun w => hint_ref l r y n w l0 l1 r0 r1
  generalize kd l = a at *
  generalize kd r = b at *
  generalize way y n = c at *
  go_enter Try.func3, Try.ntmps3
  go_wp2_with fail
  go_region_held3 (fun w' => w'.cell? ⟨w.heap.size, 0, none⟩ = some (.int .u8 l) ∧ w'.cell? ⟨w.heap.size, 1, none⟩ = some (.int .u8 r) ∧ w'.cell? ⟨w.heap.size, 2, none⟩ = some (.int .i64 y) ∧ w'.cell? ⟨w.heap.size, 3, none⟩ = some (.int .i64 n) ∧ w.heap.size < w'.heap.size ∧ Below w.heap.size w w')
    (first | exact keep4 (by assumption) (by assumption) | exact ⟨by simp, by simp, by simp, by simp, by simp, ((Below.refl _ _).alloc (Nat.le_refl _) _).drew⟩ | go_keep)
    (first | (go_at_call 7; refine (c1.out _).mono ?_; rintro e w' ⟨rfl, hb⟩) | (go_at_call 8; refine (c2.out _).mono ?_; rintro e w' ⟨rfl, hb⟩) | (go_at_call 9; refine (awake_any _).mono ?_; rintro e w' ⟨rfl, hb⟩))
  all_goals go_wp2
  all_goals (rename_i hS; go_ret; exact ⟨rfl, hS.2.2.2.2.2⟩)
end Go.Proofs.Ytbfmflfhgpipgaa
