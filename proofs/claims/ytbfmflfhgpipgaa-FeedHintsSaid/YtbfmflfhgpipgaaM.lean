/-
  Plain facts for the statements of layer 20: the kind of a set of bits, what is believed, the sum of two counts. No program in sight.
-/
import Derived.Lib.BitFns
namespace Go.Proofs.Ytbfmflfhgpipgaa

/-- The kind whose bit alone is set; 0: none. -/
def kd (x : Int) : Int :=
  if x = 2 then 1 else if x = 4 then 2 else if x = 8 then 3 else if x = 16 then 4 else if x = 32 then 5 else if x = 64 then 6 else if x = 128 then 7 else 0

theorem kd_tab : ∀ n : Fin 256, (if Lib.onesCount n.val = 1 then (Lib.trailingZeros8 n.val : Int) else 0) = kd n.val := by decide +kernel

theorem kd_some (x : Int) (h0 : 0 ≤ x) (h1 : x ≤ 255) (h : (Lib.onesCount x.toNat : Int) = 1) : (Lib.trailingZeros8 x.toNat : Int) = kd x := by
  have e := kd_tab ⟨x.toNat, by omega⟩
  simp only [Int.toNat_of_nonneg h0] at e
  rw [if_pos (by omega)] at e
  exact e

theorem kd_none (x : Int) (h0 : 0 ≤ x) (h1 : x ≤ 255) (h : ¬ (Lib.onesCount x.toNat : Int) = 1) : kd x = 0 := by
  have e := kd_tab ⟨x.toNat, by omega⟩
  simp only [Int.toNat_of_nonneg h0] at e
  rw [if_neg (by omega)] at e
  exact e.symm

theorem kd_le (x : Int) : 0 ≤ kd x ∧ kd x ≤ 7 := by
  unfold kd
  repeat' split
  all_goals omega

/-- Whether it jumps, as far as is believed. -/
def way (y n : Int) : Int := if 2 ≤ y ∧ n = 0 then 1 else if 2 ≤ n ∧ y = 0 then -1 else 0

/-- The sum of two counts. -/
def sm (a b : Int) : Int := min (min (max a 0) 1073741824 + min (max b 0) 1073741824) 1073741824

end Go.Proofs.Ytbfmflfhgpipgaa
