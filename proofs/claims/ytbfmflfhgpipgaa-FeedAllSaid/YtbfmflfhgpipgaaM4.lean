/-
  Plain facts for FeedAll: when a code may be; both ways of asking agree.
-/
import Derived.Test.YtbfmflfhgpipgaaM
namespace Go.Proofs.Ytbfmflfhgpipgaa

/-- What the walk is told of a code: its instructions, functions, texts' sizes. -/
structure CodeD where
  ni : Nat
  op : Nat → Int
  a : Nat → Int
  ln : Nat → Int
  nf : Nat
  at' : Nat → Int
  len : Nat → Int
  par : Nat → Int
  slo : Nat → Int
  res : Nat → Int
  ns : Nat
  sz : Nat → Nat

/-- More than is gone through. -/
def GreatP (c : CodeD) : Prop := 1500 < c.ni ∨ 150 < c.nf ∨ 200 < c.ns ∨ ∃ j, j < c.ns ∧ 300 < c.sz j

/-- How many instructions the first i functions have. -/
def CodeD.sum (c : CodeD) : Nat → Int
  | 0 => 0
  | i + 1 => c.sum i + c.len i

/-- A function's entry may be (as the program asks). -/
def FnOk (c : CodeD) (i : Nat) : Prop := c.at' i = c.sum i ∧ 0 ≤ c.len i ∧ c.len i ≤ (c.ni : Int) - c.sum i ∧ 0 ≤ c.par i ∧ c.par i ≤ c.slo i ∧ c.slo i ≤ 200 ∧ 0 ≤ c.res i ∧ c.res i ≤ 1
/-- .. as the reference asks. -/
def FnRef (c : CodeD) (i : Nat) : Prop := c.at' i = c.sum i ∧ 0 ≤ c.len i ∧ c.len i ≤ (c.ni : Int) ∧ 0 ≤ c.par i ∧ c.par i ≤ c.slo i ∧ c.slo i ≤ 200 ∧ (c.res i = 0 ∨ c.res i = 1)
def InsOk (c : CodeD) (j : Nat) : Prop := 1 ≤ c.op j ∧ c.op j ≤ 26 ∧ 0 ≤ c.ln j ∧ c.ln j ≤ 2147483647

/-- A code may be (its texts are short). -/
def MayP (c : CodeD) : Prop := c.nf ≤ 100 ∧ (∀ i, i < c.nf → FnOk c i) ∧ c.sum c.nf = c.ni ∧ ∀ j, j < c.ni → InsOk c j

theorem sum_mono (c : CodeD) (n : Nat) (h : ∀ i, i < n → 0 ≤ c.len i) : ∀ i k, i + k ≤ n → c.sum i ≤ c.sum (i + k)
  | i, 0, _ => by simp
  | i, k + 1, hk => by
    have h1 := sum_mono c n h i k (by omega)
    have h2 : c.sum (i + (k + 1)) = c.sum (i + k) + c.len (i + k) := rfl
    have h3 := h (i + k) (by omega)
    omega

theorem may_ref (c : CodeD) : MayP c ↔ c.nf ≤ 100 ∧ (∀ i, i < c.nf → FnRef c i) ∧ (∀ j, j < c.ni → InsOk c j) ∧ c.sum c.nf = c.ni := by
  constructor
  · rintro ⟨h1, h2, h3, h4⟩
    refine ⟨h1, fun i hi => ?_, h4, h3⟩
    have h5 := sum_mono c c.nf (fun i hi => (h2 i hi).2.1) 0 i (by omega)
    rw [Nat.zero_add] at h5
    have h0 : c.sum 0 = 0 := rfl
    obtain ⟨a1, a2, a3, a4, a5, a6, a7, a8⟩ := h2 i hi
    exact ⟨a1, a2, by omega, a4, a5, a6, by omega⟩
  · rintro ⟨h1, h2, h3, h4⟩
    refine ⟨h1, fun i hi => ?_, h4, h3⟩
    have h5 := sum_mono c c.nf (fun i hi => (h2 i hi).2.1) (i + 1) (c.nf - (i + 1)) (by omega)
    rw [show i + 1 + (c.nf - (i + 1)) = c.nf by omega] at h5
    have h6 : c.sum (i + 1) = c.sum i + c.len i := rfl
    obtain ⟨a1, a2, a3, a4, a5, a6, a7⟩ := h2 i hi
    exact ⟨a1, a2, by omega, a4, a5, a6, by omega, by omega⟩

/-- Sums of the first entries that are within bounds stay small. -/
theorem sum_bd (c : CodeD) : ∀ i, (∀ k, k < i → 0 ≤ c.len k ∧ c.len k ≤ (c.ni : Int)) → 0 ≤ c.sum i ∧ c.sum i ≤ (c.ni : Int) * i
  | 0, _ => by simp [CodeD.sum]
  | i + 1, h => by
    have h1 := sum_bd c i (fun k hk => h k (by omega))
    have h2 := h i (by omega)
    have h3 : c.sum (i + 1) = c.sum i + c.len i := rfl
    rw [h3]
    have h4 : (c.ni : Int) * ((i + 1 : Nat) : Int) = (c.ni : Int) * i + c.ni := by
      rw [Int.natCast_add, Int.mul_add]; simp
    omega
theorem sum_ok (c : CodeD) : ∀ i, (∀ k, k < i → FnOk c k) → 0 ≤ c.sum i ∧ c.sum i ≤ (c.ni : Int)
  | 0, _ => by simp [CodeD.sum]
  | i + 1, h => by
    have h1 := sum_ok c i (fun k hk => h k (by omega))
    obtain ⟨_, a2, a3, _⟩ := h i (by omega)
    have h3 : c.sum (i + 1) = c.sum i + c.len i := rfl
    omega
end Go.Proofs.Ytbfmflfhgpipgaa
