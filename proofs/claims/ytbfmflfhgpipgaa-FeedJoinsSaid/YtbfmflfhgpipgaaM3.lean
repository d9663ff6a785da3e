/-
  Plain facts for FeedJoins: joining is the same in any order; what is believed of more is believed of less, or nothing was.
-/
import Derived.Test.YtbfmflfhgpipgaaM
namespace Go.Proofs.Ytbfmflfhgpipgaa

theorem orv_comm (a e : Int) : orv a e = orv e a := by unfold orv; rw [Nat.or_comm]
theorem orv_assoc (a e c : Int) : orv (orv a e) c = orv a (orv e c) := by unfold orv; simp only [Int.toNat_natCast]; rw [Nat.or_assoc]
theorem orv_bd (a e : Int) (a0 : 0 ≤ a) (a1 : a ≤ 255) (e0 : 0 ≤ e) (e1 : e ≤ 255) : 0 ≤ orv a e ∧ orv a e ≤ 255 := by
  have : a.toNat ||| e.toNat < 2 ^ 8 := Nat.or_lt_two_pow (by omega) (by omega)
  unfold orv; omega
theorem sm_comm (a e : Int) : sm a e = sm e a := by unfold sm; omega
theorem sm_assoc (a e c : Int) : sm (sm a e) c = sm a (sm e c) := by unfold sm; omega
theorem way_join (ay ey an en : Int) : way (sm ay ey) (sm an en) = 0 ∨ way ay an = 0 ∨ way ay an = way (sm ay ey) (sm an en) := by
  unfold way sm
  split <;> split <;> (try split) <;> (try split) <;> omega
theorem kd_bits : ∀ a : Fin 256, ∀ k : Fin 8, a.val &&& 2 ^ k.val = a.val → a.val = 0 ∨ a.val = 2 ^ k.val := by decide +kernel
theorem kd_set (x : Int) (h : kd x ≠ 0) : ∃ k : Fin 8, x = ((2 ^ k.val : Nat) : Int) := by
  unfold kd at h
  by_cases h1 : x = 2
  · exact ⟨1, h1⟩
  by_cases h2 : x = 4
  · exact ⟨2, h2⟩
  by_cases h3 : x = 8
  · exact ⟨3, h3⟩
  by_cases h4 : x = 16
  · exact ⟨4, h4⟩
  by_cases h5 : x = 32
  · exact ⟨5, h5⟩
  by_cases h6 : x = 64
  · exact ⟨6, h6⟩
  by_cases h7 : x = 128
  · exact ⟨7, h7⟩
  rw [if_neg h1, if_neg h2, if_neg h3, if_neg h4, if_neg h5, if_neg h6, if_neg h7] at h
  exact absurd rfl h
theorem and_or_id (a e : Nat) : a &&& (a ||| e) = a := by
  apply Nat.eq_of_testBit_eq
  intro i
  rw [Nat.testBit_and, Nat.testBit_or]
  cases a.testBit i <;> simp
theorem kd_join (a e : Int) (a0 : 0 ≤ a) (a1 : a ≤ 255) : kd (orv a e) ≠ 0 → kd a = kd (orv a e) ∨ a = 0 := by
  intro h
  obtain ⟨k, hk⟩ := kd_set _ h
  have h1 : a.toNat ||| e.toNat = 2 ^ k.val := by unfold orv at hk; exact_mod_cast hk
  have h2 := kd_bits ⟨a.toNat, by omega⟩ k (by
    show a.toNat &&& 2 ^ k.val = a.toNat
    rw [← h1, and_or_id])
  simp only at h2
  rcases h2 with h2 | h2
  · right; omega
  · left; rw [hk, ← h2, Int.toNat_of_nonneg a0]
end Go.Proofs.Ytbfmflfhgpipgaa
