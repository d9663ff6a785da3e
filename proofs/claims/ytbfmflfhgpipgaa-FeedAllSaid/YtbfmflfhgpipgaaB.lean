import Derived.Test.YtbfmflfhgpipgaaA
namespace Go.Proofs.Ytbfmflfhgpipgaa
open Go.RowKit

theorem way_pos {y n : Int} (h : 2 ≤ y) (h' : (n == 0) = true) : way y n = 1 := by
  have := beq_iff_eq.1 h'
  unfold way; rw [if_pos ⟨h, this⟩]
theorem way_neg {y n : Int} (h : 2 ≤ n) (h' : (y == 0) = true) : way y n = -1 := by
  have := beq_iff_eq.1 h'
  unfold way; rw [if_neg (by omega), if_pos ⟨h, this⟩]
theorem way_no {y n : Int} (h : y < 2 ∨ (n == 0) = false) (h' : n < 2 ∨ (y == 0) = false) : way y n = 0 := by
  have a : ¬ (2 ≤ y ∧ n = 0) := by
    rcases h with h | h
    · omega
    · have := beq_eq_false_iff_ne.1 h; omega
  have b : ¬ (2 ≤ n ∧ y = 0) := by
    rcases h' with h | h
    · omega
    · have := beq_eq_false_iff_ne.1 h; omega
  unfold way; rw [if_neg a, if_neg b]

set_option maxHeartbeats 1000000 in
theorem hint_any (l r y n : Int) (w : World) (l0 : 0 ≤ l) (l1 : l ≤ 255) (r0 : 0 ≤ r) (r1 : r ≤ 255) :
    Calls Try.prog 7 #[.agg #[.int .u8 l, .int .u8 r, .int .i64 y, .int .i64 n]] w fun e w' => e = .returned (.agg #[.int .u8 (kd l), .int .u8 (kd r), .int .i64 (way y n)]) ∧ Below w.heap.size w w' := by
  go_enter Try.func7, Try.ntmps7
  go_wp2
  go_region_held3 (fun w' => w'.cell? ⟨w.heap.size, 0, none⟩ = some (.int .u8 l) ∧ w'.cell? ⟨w.heap.size, 1, none⟩ = some (.int .u8 r)) (go_keep) (first | (go_at_call 17; refine (kind_any _ _ (by assumption) (by assumption)).mono ?_; rintro e w' ⟨rfl, rfl⟩))
  all_goals go_wp2
  all_goals first
    | refine bodyPost_ret (v := .agg #[.int .u8 (kd l), .int .u8 (kd r), .int .i64 1]) (by simp [results, Try.results7, go_sem]) rfl ⟨by rw [way_pos (by assumption) (by assumption)], ?_⟩
    | refine bodyPost_ret (v := .agg #[.int .u8 (kd l), .int .u8 (kd r), .int .i64 (-1)]) (by simp [results, Try.results7, go_sem]) rfl ⟨by rw [way_neg (by assumption) (by assumption)], ?_⟩
    | refine bodyPost_ret (v := .agg #[.int .u8 (kd l), .int .u8 (kd r), .int .i64 0]) (by simp [results, Try.results7, go_sem]) rfl ⟨by rw [way_no (by first | (left; assumption) | (right; assumption)) (by first | (left; assumption) | (right; assumption))], ?_⟩
  all_goals (repeat (first | exact Below.refl _ _ | refine Below.setCell ?_ (by first | (simp; done) | (simp; omega)) _ | refine Below.alloc ?_ (by first | (simp; done) | (simp; omega)) _ | refine Below.drew ?_))

set_option maxHeartbeats 1000000 in
theorem hint_ref (l r y n : Int) (w : World) (l0 : 0 ≤ l) (l1 : l ≤ 255) (r0 : 0 ≤ r) (r1 : r ≤ 255) :
    Calls Try.prog 8 #[.agg #[.int .u8 l, .int .u8 r, .int .i64 y, .int .i64 n]] w fun e w' => e = .returned (.agg #[.int .u8 (kd l), .int .u8 (kd r), .int .i64 (way y n)]) ∧ Below w.heap.size w w' := by
  go_enter Try.func8, Try.ntmps8
  go_wp2
  all_goals go_region_held3 (fun w' => w'.cell? ⟨w.heap.size, 0, none⟩ = some (.int .u8 l) ∧ w'.cell? ⟨w.heap.size, 1, none⟩ = some (.int .u8 r)) (go_keep) (first | (go_at_call 18; refine (kind_ref _ _ (by assumption) (by assumption)).mono ?_; rintro e w' ⟨rfl, rfl⟩))
  all_goals go_wp2
  all_goals first
    | refine bodyPost_ret (v := .agg #[.int .u8 (kd l), .int .u8 (kd r), .int .i64 1]) (by simp [results, Try.results8, go_sem]) rfl ⟨by rw [way_pos (by omega) (by assumption)], ?_⟩
    | refine bodyPost_ret (v := .agg #[.int .u8 (kd l), .int .u8 (kd r), .int .i64 (-1)]) (by simp [results, Try.results8, go_sem]) rfl ⟨by rw [way_neg (by omega) (by assumption)], ?_⟩
    | refine bodyPost_ret (v := .agg #[.int .u8 (kd l), .int .u8 (kd r), .int .i64 0]) (by simp [results, Try.results8, go_sem]) rfl ⟨by rw [way_no (by first | (left; omega) | (right; assumption)) (by first | (left; omega) | (right; assumption))], ?_⟩
  all_goals (repeat (first | exact Below.refl _ _ | refine Below.setCell ?_ (by first | (simp; done) | (simp; omega)) _ | refine Below.alloc ?_ (by first | (simp; done) | (simp; omega)) _ | refine Below.drew ?_))
end Go.Proofs.Ytbfmflfhgpipgaa
