import Derived.Test.YtmcjkijnapmboaaA
namespace Go.Proofs.Ytmcjkijnapmboaa
open Go.RowKit

theorem take_snoc' (s : ByteArray) (k : Nat) (h : k < s.size) : s.data.toList.take (k + 1) = s.data.toList.take k ++ [s[k]] := by
  rw [List.take_succ_eq_append_getElem (by simpa using h)]; rfl

set_option maxHeartbeats 1000000 in
theorem size_any (s : ByteArray) (w : World) (hs : s.size ≤ 100000) :
    Calls Try.prog 13 #[.string s] w fun e w' => e = .returned (.int .i64 (size s.data.toList)) ∧ Below w.heap.size w w' := by
  go_enter Try.func13, Try.ntmps13
  go_wp2_with fail
  go_loopw [3, 4, 7] (fun n _ i wr => ∃ (k m : Nat), k ≤ s.size ∧ i = .int .i64 k ∧ n = .int .i64 m ∧ Hid (m = 2 + ((s.data.toList.take k).flatMap one).length) ∧ m ≤ 2 + 4 * k ∧ Below w.heap.size w wr) (fun _ _ i _ => s.size - (intOf i).toNat)
  case atStart => exact ⟨0, 2, Nat.zero_le _, rfl, rfl, rfl, by omega, Below.refl _ _⟩
  case round =>
    obtain ⟨k, m, hk, rfl, rfl, hm, hm4, hb⟩ := hrel
    by_cases hlt : k < s.size
    · have hn : Hid (m + (one s[k]).length = 2 + ((s.data.toList.take (k + 1)).flatMap one).length) := by
        rw [take_snoc' s k hlt, List.flatMap_append, hm.out, Hid]
        simp
        omega
      have h14 := one_len s[k]
      have c1 : Hid (∀ w, Calls Try.prog 18 #[.int .u8 (s[k].toNat : Int)] w (Bytes (one s[k]) w)) := fun w => one_any s[k] w
      generalize one s[k] = l at *
      have hsz : ({ data := l.toArray } : ByteArray).size = l.length := by simp [ByteArray.size]
      go_wp2_with fail
      refine (c1.out _).mono ?_
      rintro e w1 ⟨rfl, hb1⟩
      go_wp2_with fail
      go_roundw
      case rel => exact ⟨k + 1, m + l.length, by omega, by go_num, by go_num, hn, by omega, hb.trans (hb1.mono hb.size)⟩
      case measure => simp [intOf]; omega
    · obtain rfl : k = s.size := by omega
      go_wp2_with fail
      go_ret
      have e : s.data.toList.take s.size = s.data.toList := List.take_of_length_le (by simp)
      rw [e] at hm
      exact ⟨by rw [size, ← hm.out]; rfl, hb⟩
end Go.Proofs.Ytmcjkijnapmboaa
