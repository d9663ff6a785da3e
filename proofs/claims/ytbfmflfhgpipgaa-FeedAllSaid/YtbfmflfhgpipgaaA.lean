import Derived.Test.YtbfmflfhgpipgaaRows
import Derived.Test.YtbfmflfhgpipgaaM
import Derived.WalkKit
import Derived.Lib.Walk
import Derived.Lib.Hide
import Derived.Deep.RegionHeld3
namespace Go.Proofs.Ytbfmflfhgpipgaa
open Go.RowKit

theorem pop_w (x : Int) (h0 : 0 ≤ x) (h1 : x ≤ 255) : wrap64 (Lib.pop8 x) = Lib.onesCount x.toNat := by
  unfold wrap64; exact Lib.pop8_int x h0 h1
theorem ntz_w (x : Int) (h0 : 0 ≤ x) (h1 : x ≤ 255) : wrap64 (Lib.ntz8 x) = Lib.trailingZeros8 x.toNat := by
  unfold wrap64; exact Lib.ntz8_int x h0 h1

theorem ret_i64 {a b : Int} {w : World} (h : a = b) : Ending.returned (.int .i64 a) = .returned (.int .i64 b) ∧ w = w := ⟨by rw [h], rfl⟩
theorem ret_u8 {a b : Int} {w : World} (h : a = b) : Ending.returned (.int .u8 a) = .returned (.int .u8 b) ∧ w = w := ⟨by rw [h], rfl⟩

set_option maxRecDepth 100000 in
theorem ones_any (x : Int) (w : World) (h0 : 0 ≤ x) (h1 : x ≤ 255) :
    Calls Try.prog 24 #[.int .u8 x] w fun e w' => e = .returned (.int .i64 (Lib.onesCount x.toNat)) ∧ w = w' := by
  go_enter Try.func24, Try.ntmps24
  go_wp2
  go_ret
  exact ret_i64 (pop_w x h0 h1)

set_option maxRecDepth 100000 in
theorem ntz_any (x : Int) (w : World) (h0 : 0 ≤ x) (h1 : x ≤ 255) :
    Calls Try.prog 25 #[.int .u8 x] w fun e w' => e = .returned (.int .i64 (Lib.trailingZeros8 x.toNat)) ∧ w = w' := by
  go_enter Try.func25, Try.ntmps25
  go_wp2
  go_ret
  exact ret_i64 (ntz_w x h0 h1)

theorem kind_any (x : Int) (w : World) (h0 : 0 ≤ x) (h1 : x ≤ 255) :
    Calls Try.prog 17 #[.int .u8 x] w fun e w' => e = .returned (.int .u8 (kd x)) ∧ w = w' := by
  have c1 : Hid (∀ w, Calls Try.prog 24 #[.int .u8 x] w fun e w' => e = .returned (.int .i64 (Lib.onesCount x.toNat)) ∧ w = w') := fun w => ones_any x w h0 h1
  have c2 : Hid (∀ w, Calls Try.prog 25 #[.int .u8 x] w fun e w' => e = .returned (.int .i64 (Lib.trailingZeros8 x.toNat)) ∧ w = w') := fun w => ntz_any x w h0 h1
  have hl := Lib.trailingZeros8_le8 ⟨x.toNat, by omega⟩
  have k1 := kd_some x h0 h1
  have k2 := kd_none x h0 h1
  simp only at hl
  generalize Lib.onesCount x.toNat = o at *
  generalize Lib.trailingZeros8 x.toNat = t at *
  generalize kd x = k at *
  by_cases h : (o : Int) = 1
  · have hk := Lib.hid (k1 h)
    have h' : ((o : Int) != 1) = false := by simpa using h
    clear h k1 k2
    go_enter Try.func17, Try.ntmps17
    go_wp2_with (first | (go_at_call 24; refine (c1.out _).mono ?_; rintro e w' ⟨rfl, rfl⟩) | (go_at_call 25; refine (c2.out _).mono ?_; rintro e w' ⟨rfl, rfl⟩))
    go_ret
    exact ret_u8 hk.out
  · have hk := Lib.hid (k2 h)
    have h' : ((o : Int) != 1) = true := by simpa using h
    clear h k1 k2
    go_enter Try.func17, Try.ntmps17
    go_wp2_with (first | (go_at_call 24; refine (c1.out _).mono ?_; rintro e w' ⟨rfl, rfl⟩) | (go_at_call 25; refine (c2.out _).mono ?_; rintro e w' ⟨rfl, rfl⟩))
    go_ret
    exact ret_u8 hk.out.symm

theorem kind_ref (x : Int) (w : World) (_h0 : 0 ≤ x) (_h1 : x ≤ 255) :
    Calls Try.prog 18 #[.int .u8 x] w fun e w' => e = .returned (.int .u8 (kd x)) ∧ w = w' := by
  go_enter Try.func18, Try.ntmps18
  go_wp2
  refine wp_loop_rounds 8 ?_
  iterate 7
    rw [rounds_succ]
    go_wp2
    (focus (go_ret; refine ret_u8 ?_; rename_i hx; have hx := beq_iff_eq.1 hx; subst hx; rfl))
  rw [rounds_succ]
  go_wp2
  go_ret
  refine ret_u8 ?_
  unfold kd
  simp_all
end Go.Proofs.Ytbfmflfhgpipgaa
