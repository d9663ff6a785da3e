/-
  Plain facts for FeedHot: the first index that is begun often and isn't among some.
-/
import Derived.KernelRfl
namespace Go.Proofs.Ytbfmflfhgpipgaa

/-- Is x among the first m? -/
def inB (bs : List Int) (m : Nat) (x : Int) : Bool := (List.range m).any fun i => bs.getD i 0 == x
theorem inB_hit {bs : List Int} {m : Nat} {x : Int} (k : Nat) (hk : k < m) (h : bs.getD k 0 = x) : inB bs m x = true := by
  unfold inB
  rw [List.any_eq_true]
  exact ⟨k, List.mem_range.2 hk, beq_iff_eq.2 h⟩
theorem inB_miss {bs : List Int} {m : Nat} {x : Int} (h : ∀ j, j < m → bs.getD j 0 ≠ x) : inB bs m x = false := by
  unfold inB
  rw [List.any_eq_false]
  intro k hk
  simpa using h k (List.mem_range.1 hk)
theorem inB_succ (bs : List Int) (m : Nat) (x : Int) : inB bs (m + 1) x = (inB bs m x || bs.getD m 0 == x) := by
  unfold inB
  rw [List.range_succ, List.any_append]
  simp

/-- Begun often, and not among some. -/
def good (zs bs : List Int) (m : Nat) (from' : Int) (j : Nat) : Bool := decide (from' ≤ zs.getD j 0) && !inB bs m j
/-- The first one; -1. -/
def hot (zs bs : List Int) (n m : Nat) (from' : Int) : Int := if from' < 1 then -1 else match (List.range n).find? (good zs bs m from') with
  | some j => j
  | none => -1
theorem find_hit (p : Nat → Bool) (n k : Nat) (hk : k < n) (h : p k = true) (hn : ∀ j, j < k → p j = false) : (List.range n).find? p = some k := by
  rw [List.find?_range_eq_some]
  exact ⟨h, by simpa using hk, fun j hj => by simp [hn j hj]⟩
theorem hot_hit {zs bs : List Int} {n m k : Nat} {f : Int} (hf : ¬ f < 1) (hk : k < n) (h : good zs bs m f k = true) (hn : ∀ j, j < k → good zs bs m f j = false) : hot zs bs n m f = k := by
  unfold hot; rw [if_neg hf, find_hit _ n k hk h hn]
theorem hot_miss {zs bs : List Int} {n m : Nat} {f : Int} (hn : ∀ j, j < n → good zs bs m f j = false) : hot zs bs n m f = -1 := by
  unfold hot
  split
  · rfl
  · have : (List.range n).find? (good zs bs m f) = none := by
      rw [List.find?_eq_none]
      intro j hj
      simp [hn j (List.mem_range.1 hj)]
    rw [this]
theorem hot_low {zs bs : List Int} {n m : Nat} {f : Int} (hf : f < 1) : hot zs bs n m f = -1 := by
  unfold hot; rw [if_pos hf]
theorem hot_cases (zs bs : List Int) (n m : Nat) (f : Int) : hot zs bs n m f = -1 ∨ ∃ k : Nat, k < n ∧ hot zs bs n m f = k := by
  unfold hot
  split
  · exact .inl rfl
  · cases h : (List.range n).find? (good zs bs m f) with
    | none => exact .inl rfl
    | some j => exact .inr ⟨j, List.mem_range.1 (List.mem_of_find?_eq_some h), rfl⟩
end Go.Proofs.Ytbfmflfhgpipgaa
