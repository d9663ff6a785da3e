/-
  Plain facts for the statements of layer 20: the kind of a set of bits, what is believed, the sum of two counts. No program in sight.
-/
import Derived.Lib.BitFns
namespace Go.Proofs.Ytbfmflfhgpipgaa

/-- The kind whose bit alone is set; 0: none. -/
def kd (x : Int) : Int :=
  if x = 2 then 1 else if x = 4 then 2 else if x = 8 then 3 else if x = 16 then 4 else if x = 32 then 5 else if x = 64 then 6 else if x = 128 then 7 else 0

theorem kd_tab : ∀ n : Fin 256, (if Lib.onesCount n.val = 1 then (Lib.trailingZeros8 n.val : Int) else 0) = kd n.val := by decide +kernel

theorem kd_some (x : Int) (h0 : 0 ≤ x) (h1 : x ≤ 255) (h : (Lib.onesCount x.toNat : Int) = 1) : (Lib.trailingZeros8 x.toNat : Int) = kd x := by
  have e := kd_tab ⟨x.toNat, by omega⟩
  simp only [Int.toNat_of_nonneg h0] at e
  rw [if_pos (by omega)] at e
  exact e

theorem kd_none (x : Int) (h0 : 0 ≤ x) (h1 : x ≤ 255) (h : ¬ (Lib.onesCount x.toNat : Int) = 1) : kd x = 0 := by
  have e := kd_tab ⟨x.toNat, by omega⟩
  simp only [Int.toNat_of_nonneg h0] at e
  rw [if_neg (by omega)] at e
  exact e.symm

theorem kd_le (x : Int) : 0 ≤ kd x ∧ kd x ≤ 7 := by
  unfold kd
  repeat' split
  all_goals omega

/-- Whether it jumps, as far as is believed. -/
def way (y n : Int) : Int := if 2 ≤ y ∧ n = 0 then 1 else if 2 ≤ n ∧ y = 0 then -1 else 0

/-- The sum of two counts. -/
def sm (a b : Int) : Int := min (min (max a 0) 1073741824 + min (max b 0) 1073741824) 1073741824


/-- Each bit that one has. -/
def orv (a b : Int) : Int := ((a.toNat ||| b.toNat : Nat) : Int)

/-- Behind k rounds of the reference's loop: the power of two, and the bits below it. -/
def BitsAt (a b : Int) (k : Nat) (p o : Int) : Prop := p = ((2 ^ k % 256 : Nat) : Int) ∧ o = (((a.toNat ||| b.toNat) % 2 ^ k : Nat) : Int)

theorem BitsAt.start (a b : Int) : BitsAt a b 0 1 0 := by
  refine ⟨rfl, ?_⟩
  simp [Nat.mod_one]

theorem pow_le7 (k : Nat) (h : k < 8) : 1 ≤ 2 ^ k ∧ 2 ^ k ≤ 128 := by
  have : ∀ k : Fin 8, 1 ≤ 2 ^ k.val ∧ 2 ^ k.val ≤ 128 := by decide
  exact this ⟨k, h⟩

theorem BitsAt.pow {a b : Int} {k : Nat} {p o : Int} (h : BitsAt a b k p o) (hk : k < 8) : p = ((2 ^ k : Nat) : Int) ∧ 1 ≤ p ∧ p ≤ 128 := by
  have := pow_le7 k hk
  have e : 2 ^ k % 256 = 2 ^ k := Nat.mod_eq_of_lt (by omega)
  obtain ⟨h1, _⟩ := h
  rw [e] at h1
  refine ⟨h1, ?_, ?_⟩ <;> omega

theorem BitsAt.out {a b : Int} {p o : Int} (h : BitsAt a b 8 p o) (a0 : 0 ≤ a) (a1 : a ≤ 255) (b0 : 0 ≤ b) (b1 : b ≤ 255) : o = orv a b := by
  rw [h.2]
  have : a.toNat ||| b.toNat < 2 ^ 8 := Nat.or_lt_two_pow (by omega) (by omega)
  rw [Nat.mod_eq_of_lt this]
  rfl

theorem BitsAt.low {a b : Int} {k : Nat} {p o : Int} (h : BitsAt a b k p o) (hk : k < 8) : 0 ≤ o ∧ o < p := by
  obtain ⟨hp, h1, _⟩ := h.pow hk
  have := Nat.mod_lt (a.toNat ||| b.toNat) (y := 2 ^ k) (by omega)
  rw [h.2, hp]
  omega

theorem bit_int (x : Int) (k : Nat) (p : Int) (hp : p = ((2 ^ k : Nat) : Int)) (h0 : 0 ≤ x) : (x / p % 2 = 1) ↔ x.toNat.testBit k = true := by
  obtain ⟨n, rfl⟩ := Int.eq_ofNat_of_zero_le h0
  rw [Nat.testBit_eq_decide_div_mod_eq, hp]
  simp only [Int.toNat_natCast, decide_eq_true_eq]
  omega

theorem BitsAt.yes {a b : Int} {k : Nat} {p o : Int} (h : BitsAt a b k p o) (hk : k < 8) (a0 : 0 ≤ a) (b0 : 0 ≤ b) (hy : a / p % 2 = 1 ∨ b / p % 2 = 1) :
    BitsAt a b (k + 1) (p * 2 % 256) ((o + p) % 256) := by
  have hl := h.low hk
  obtain ⟨hp, h1, h2⟩ := h.pow hk
  have hb : (a.toNat ||| b.toNat).testBit k = true := by
    rw [Nat.testBit_or, Bool.or_eq_true]
    exact hy.imp (bit_int a k p hp a0).1 (bit_int b k p hp b0).1
  rw [Nat.testBit_eq_decide_div_mod_eq, decide_eq_true_eq] at hb
  refine ⟨?_, ?_⟩
  · rw [hp, Nat.pow_succ]; omega
  · rw [h.2, Nat.mod_pow_succ, hb, hp]
    have := Nat.mod_lt (a.toNat ||| b.toNat) (y := 2 ^ k) (by omega)
    omega

theorem BitsAt.no {a b : Int} {k : Nat} {p o : Int} (h : BitsAt a b k p o) (hk : k < 8) (a0 : 0 ≤ a) (b0 : 0 ≤ b) (hy : ¬ a / p % 2 = 1) (hz : ¬ b / p % 2 = 1) :
    BitsAt a b (k + 1) (p * 2 % 256) o := by
  obtain ⟨hp, h1, h2⟩ := h.pow hk
  have hb : ¬ (a.toNat ||| b.toNat).testBit k = true := by
    rw [Nat.testBit_or, Bool.or_eq_true]
    intro hc
    exact hc.elim (fun hc => hy ((bit_int a k p hp a0).2 hc)) (fun hc => hz ((bit_int b k p hp b0).2 hc))
  rw [Nat.testBit_eq_decide_div_mod_eq, decide_eq_true_eq] at hb
  refine ⟨?_, ?_⟩
  · rw [hp, Nat.pow_succ]; omega
  · rw [h.2, Nat.mod_pow_succ]
    have : (a.toNat ||| b.toNat) / 2 ^ k % 2 = 0 := by omega
    rw [this]
    simp

end Go.Proofs.Ytbfmflfhgpipgaa
