import Derived.Test.YtbfmflfhgpipgaaH
namespace Go.Proofs.Ytbfmflfhgpipgaa
open Go.RowKit

set_option maxHeartbeats 1000000 in
theorem law_hot (a d : Option Addr) (n m c e : Nat) (zs bs : List Int) (f : Int) (w : World) (hbig : n ≤ 9223372036854775807) (hbig2 : m ≤ 9223372036854775807) (hr : Hid (RowAt w a n zs)) (hs : Hid (RowAt w d m bs)) :
    Calls Try.prog 5 #[.slice a n c, .int .i64 f, .slice d m e] w fun e w' => e = .returned (.bool true) ∧ Below w.heap.size w w' := by
  have c1 : Hid (Calls Try.prog 12 #[.slice a n c, .int .i64 f, .slice d m e] w fun e w' => e = .returned (.tuple #[.int .i64 (max (hot zs bs n m f) 0), .bool (decide (0 ≤ hot zs bs n m f))]) ∧ w = w') := hot_any a d n m c e zs bs f w hbig hbig2 hr hs
  have c2 : Hid (Calls Try.prog 13 #[.slice a n c, .int .i64 f, .slice d m e] w fun e w' => e = .returned (.int .i64 (hot zs bs n m f)) ∧ w = w') := hot_ref a d n m c e zs bs f w hbig hbig2 hr hs
  clear hr hs
  by_cases h1 : 200 < n
  · go_enter Try.func5, Try.ntmps5
    go_wp2_with (go_at_call 9; refine (awake_any _).mono ?_; rintro e w' ⟨rfl, hb⟩)
    all_goals (go_ret; exact ⟨rfl, by assumption⟩)
  · by_cases h2 : 200 < m
    · go_enter Try.func5, Try.ntmps5
      go_wp2_with (go_at_call 9; refine (awake_any _).mono ?_; rintro e w' ⟨rfl, hb⟩)
      all_goals (go_ret; exact ⟨rfl, by assumption⟩)
    · rcases hot_cases zs bs n m f with h | ⟨k, hk, h⟩
      · rw [h] at c1 c2
        clear h
        go_enter Try.func5, Try.ntmps5
        go_wp2_with (first | (go_at_call 12; (with_reducible refine c1.out.mono ?_); rintro e w' ⟨rfl, rfl⟩) | (go_at_call 13; (with_reducible refine c2.out.mono ?_); rintro e w' ⟨rfl, rfl⟩) | (go_at_call 9; refine (awake_any _).mono ?_; rintro e w' ⟨rfl, hb⟩))
        all_goals (go_ret; exact ⟨rfl, by assumption⟩)
      · rw [h] at c1 c2
        clear h
        rw [show max (k : Int) 0 = k by omega, show decide (0 ≤ (k : Int)) = true by simp] at c1
        go_enter Try.func5, Try.ntmps5
        go_wp2_with (first | (go_at_call 12; (with_reducible refine c1.out.mono ?_); rintro e w' ⟨rfl, rfl⟩) | (go_at_call 13; (with_reducible refine c2.out.mono ?_); rintro e w' ⟨rfl, rfl⟩) | (go_at_call 9; refine (awake_any _).mono ?_; rintro e w' ⟨rfl, hb⟩))
        all_goals (go_ret; exact ⟨rfl, by assumption⟩)
end Go.Proofs.Ytbfmflfhgpipgaa
