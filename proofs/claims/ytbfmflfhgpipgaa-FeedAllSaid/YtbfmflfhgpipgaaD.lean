import Derived.Test.YtbfmflfhgpipgaaC
namespace Go.Proofs.Ytbfmflfhgpipgaa
open Go.RowKit

theorem sum_any (a b : Int) (w : World) :
    Calls Try.prog 19 #[.int .i64 a, .int .i64 b] w fun e w' => e = .returned (.int .i64 (sm a b)) ∧ w = w' := by
  go_enter Try.func19, Try.ntmps19
  go_wp2
  go_ret
  exact ret_i64 rfl
theorem sum_ref (a b : Int) (w : World) :
    Calls Try.prog 21 #[.int .i64 a, .int .i64 b] w fun e w' => e = .returned (.int .i64 (sm a b)) ∧ w = w' := by
  go_enter Try.func21, Try.ntmps21
  go_wp2
  go_ret
  exact ret_i64 rfl

theorem bits_ref (a b : Int) (w : World) (a0 : 0 ≤ a) (a1 : a ≤ 255) (b0 : 0 ≤ b) (b1 : b ≤ 255) :
    Calls Try.prog 20 #[.int .u8 a, .int .u8 b] w fun e w' => e = .returned (.int .u8 (orv a b)) ∧ w = w' := by
  go_enter Try.func20, Try.ntmps20
  go_wp2
  go_loop [5, 6, 7] (fun o p i => ∃ (k : Nat) (pv ov : Int), k ≤ 8 ∧ i = .int .i64 k ∧ p = .int .u8 pv ∧ o = .int .u8 ov ∧ BitsAt a b k pv ov) (fun _ _ i => 8 - (intOf i).toNat)
  case atStart => exact ⟨0, 1, 0, by omega, rfl, rfl, rfl, BitsAt.start a b⟩
  case round =>
    obtain ⟨k, pv, ov, hk, rfl, rfl, rfl, hb⟩ := hrel
    by_cases h8 : k < 8
    · have hp1 := (hb.pow h8).2.1
      have hp2 := (hb.pow h8).2.2
      have ha : 0 ≤ a / pv := Int.ediv_nonneg a0 (by omega)
      have hc : 0 ≤ b / pv := Int.ediv_nonneg b0 (by omega)
      have hz : ¬ pv = 0 := by omega
      have Hb := Lib.hid hb
      clear hb
      by_cases hy : a / pv % 2 = 1
      · have hy1 : (a / pv % 2 == 1) = true := by simpa using hy
        have hn := Lib.hid (Hb.out.yes h8 a0 b0 (.inl hy))
        clear hy
        go_wp2
        go_round
        case rel => exact ⟨k + 1, _, _, by omega, by go_num, rfl, rfl, hn.out⟩
        case measure => simp [intOf]; omega
      · by_cases hx : b / pv % 2 = 1
        · have hy1 : (a / pv % 2 == 1) = false := by simpa using hy
          have hy2 : (b / pv % 2 == 1) = true := by simpa using hx
          have hn := Lib.hid (Hb.out.yes h8 a0 b0 (.inr hx))
          clear hy hx
          go_wp2
          go_round
          case rel => exact ⟨k + 1, _, _, by omega, by go_num, rfl, rfl, hn.out⟩
          case measure => simp [intOf]; omega
        · have hy1 : (a / pv % 2 == 1) = false := by simpa using hy
          have hy2 : (b / pv % 2 == 1) = false := by simpa using hx
          have hn := Lib.hid (Hb.out.no h8 a0 b0 hy hx)
          clear hy hx
          go_wp2
          go_round
          case rel => exact ⟨k + 1, _, _, by omega, by go_num, rfl, rfl, hn.out⟩
          case measure => simp [intOf]; omega
    · obtain rfl : k = 8 := by omega
      have Hb := Lib.hid hb.out
      clear hb
      go_wp2
      go_ret
      exact ret_u8 (Hb.out a0 a1 b0 b1)

theorem join_any (al ar ay an bl br bl' bn : Int) (w : World) (al0 : 0 ≤ al) (al1 : al ≤ 255) (ar0 : 0 ≤ ar) (ar1 : ar ≤ 255) (bl0 : 0 ≤ bl) (bl1 : bl ≤ 255) (br0 : 0 ≤ br) (br1 : br ≤ 255) :
    Calls Try.prog 10 #[.agg #[.int .u8 al, .int .u8 ar, .int .i64 ay, .int .i64 an], .agg #[.int .u8 bl, .int .u8 br, .int .i64 bl', .int .i64 bn]] w fun e w' => e = .returned (.agg #[.int .u8 (orv al bl), .int .u8 (orv ar br), .int .i64 (sm ay bl'), .int .i64 (sm an bn)]) ∧ Below w.heap.size w w' := by
  have o1 : bits .or .u8 al bl = orv al bl := u8_or al bl (by omega) (by omega) (by omega) (by omega)
  have o2 : bits .or .u8 ar br = orv ar br := u8_or ar br (by omega) (by omega) (by omega) (by omega)
  go_enter Try.func10, Try.ntmps10
  go_wp2_with fail
  go_region_held3 (fun w' => w'.cell? ⟨w.heap.size, 0, none⟩ = some (.int .u8 al) ∧ w'.cell? ⟨w.heap.size, 1, none⟩ = some (.int .u8 ar) ∧ w'.cell? ⟨w.heap.size, 2, none⟩ = some (.int .i64 ay) ∧ w'.cell? ⟨w.heap.size, 3, none⟩ = some (.int .i64 an)
      ∧ w'.cell? ⟨w.heap.size + 1, 0, none⟩ = some (.int .u8 bl) ∧ w'.cell? ⟨w.heap.size + 1, 1, none⟩ = some (.int .u8 br) ∧ w'.cell? ⟨w.heap.size + 1, 2, none⟩ = some (.int .i64 bl') ∧ w'.cell? ⟨w.heap.size + 1, 3, none⟩ = some (.int .i64 bn))
    (go_keep)
    (first | (go_at_call 19; refine (sum_any _ _ _).mono ?_; rintro e w' ⟨rfl, rfl⟩))
  all_goals go_wp2
  all_goals refine bodyPost_ret (v := .agg #[.int .u8 (orv al bl), .int .u8 (orv ar br), .int .i64 (sm ay bl'), .int .i64 (sm an bn)]) (by simp [results, Try.results10, go_sem]) rfl ⟨rfl, ?_⟩
  all_goals (repeat (first | exact Below.refl _ _ | refine Below.setCell ?_ (by first | (simp; done) | (simp; omega)) _ | refine Below.alloc ?_ (by first | (simp; done) | (simp; omega)) _ | refine Below.drew ?_))

theorem join_ref (al ar ay an bl br bl' bn : Int) (w : World) (al0 : 0 ≤ al) (al1 : al ≤ 255) (ar0 : 0 ≤ ar) (ar1 : ar ≤ 255) (bl0 : 0 ≤ bl) (bl1 : bl ≤ 255) (br0 : 0 ≤ br) (br1 : br ≤ 255) :
    Calls Try.prog 11 #[.agg #[.int .u8 al, .int .u8 ar, .int .i64 ay, .int .i64 an], .agg #[.int .u8 bl, .int .u8 br, .int .i64 bl', .int .i64 bn]] w fun e w' => e = .returned (.agg #[.int .u8 (orv al bl), .int .u8 (orv ar br), .int .i64 (sm ay bl'), .int .i64 (sm an bn)]) ∧ Below w.heap.size w w' := by
  go_enter Try.func11, Try.ntmps11
  go_wp2_with fail
  go_region_held3 (fun w' => w'.cell? ⟨w.heap.size, 0, none⟩ = some (.int .u8 al) ∧ w'.cell? ⟨w.heap.size, 1, none⟩ = some (.int .u8 ar) ∧ w'.cell? ⟨w.heap.size, 2, none⟩ = some (.int .i64 ay) ∧ w'.cell? ⟨w.heap.size, 3, none⟩ = some (.int .i64 an)
      ∧ w'.cell? ⟨w.heap.size + 1, 0, none⟩ = some (.int .u8 bl) ∧ w'.cell? ⟨w.heap.size + 1, 1, none⟩ = some (.int .u8 br) ∧ w'.cell? ⟨w.heap.size + 1, 2, none⟩ = some (.int .i64 bl') ∧ w'.cell? ⟨w.heap.size + 1, 3, none⟩ = some (.int .i64 bn))
    (go_keep)
    (first | (go_at_call 20; refine (bits_ref _ _ _ (by assumption) (by assumption) (by assumption) (by assumption)).mono ?_; rintro e w' ⟨rfl, rfl⟩) | (go_at_call 21; refine (sum_ref _ _ _).mono ?_; rintro e w' ⟨rfl, rfl⟩))
  all_goals go_wp2
  all_goals refine bodyPost_ret (v := .agg #[.int .u8 (orv al bl), .int .u8 (orv ar br), .int .i64 (sm ay bl'), .int .i64 (sm an bn)]) (by simp [results, Try.results11, go_sem]) rfl ⟨rfl, ?_⟩
  all_goals (repeat (first | exact Below.refl _ _ | refine Below.setCell ?_ (by first | (simp; done) | (simp; omega)) _ | refine Below.alloc ?_ (by first | (simp; done) | (simp; omega)) _ | refine Below.drew ?_))
end Go.Proofs.Ytbfmflfhgpipgaa
