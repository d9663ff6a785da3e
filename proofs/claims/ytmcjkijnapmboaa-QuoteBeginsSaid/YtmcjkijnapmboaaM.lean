/-
  Plain facts for the statements of layer 3: how bytes are quoted and read. No program in sight.
-/
import Derived.KernelRfl
namespace Go.Proofs.Ytmcjkijnapmboaa

/-- A digit to the base 16. -/
def hexd (n : UInt8) : UInt8 := if n < 10 then 48 + n else 87 + n
/-- How a byte stands in a literal. -/
def one (c : UInt8) : List UInt8 :=
  if c = 34 ∨ c = 92 then [92, c] else if c = 10 then [92, 110] else if c = 9 then [92, 116]
  else if c < 32 ∨ 126 < c then [92, 120, hexd (c / 16), hexd (c % 16)] else [c]
/-- The literal of bytes. -/
def quote (l : List UInt8) : List UInt8 := 34 :: (l.flatMap one ++ [34])
def size (l : List UInt8) : Nat := 2 + (l.flatMap one).length
/-- A digit's value; 16: it is none. -/
def dg (c : UInt8) : Nat := if 48 ≤ c ∧ c ≤ 57 then c.toNat - 48 else if 97 ≤ c ∧ c ≤ 102 then c.toNat - 87 else if 65 ≤ c ∧ c ≤ 70 then c.toNat - 55 else 16

/-- Reading on behind the first quote: what is left, what has been read, how many of the text's bytes. -/
def rd : List UInt8 → List UInt8 → Nat → List UInt8 × Nat × Bool
  | [], _, i => ([], i, false)
  | c :: r, acc, i =>
    if c < 32 ∨ 126 < c then ([], i, false)
    else if c = 34 then (acc, i + 1, true)
    else if c ≠ 92 then rd r (acc ++ [c]) (i + 1)
    else match r with
      | [] => ([], i + 1, false)
      | e :: r2 =>
        if e = 34 ∨ e = 92 then rd r2 (acc ++ [e]) (i + 2)
        else if e = 110 then rd r2 (acc ++ [10]) (i + 2)
        else if e = 116 then rd r2 (acc ++ [9]) (i + 2)
        else if e = 120 then match r2 with
          | [] => ([], i + 2, false)
          | a :: r3 =>
            if dg a = 16 then ([], i + 2, false)
            else match r3 with
              | [] => ([], i + 3, false)
              | b :: r4 => if dg b = 16 then ([], i + 3, false) else rd r4 (acc ++ [UInt8.ofNat (16 * dg a + dg b)]) (i + 4)
        else ([], i + 1, false)

theorem rd_nil (acc : List UInt8) (i : Nat) : rd [] acc i = ([], i, false) := by rw [rd.eq_def]
theorem rd_cons (c : UInt8) (r acc : List UInt8) (i : Nat) : rd (c :: r) acc i =
    if c < 32 ∨ 126 < c then ([], i, false)
    else if c = 34 then (acc, i + 1, true)
    else if c ≠ 92 then rd r (acc ++ [c]) (i + 1)
    else match r with
      | [] => ([], i + 1, false)
      | e :: r2 =>
        if e = 34 ∨ e = 92 then rd r2 (acc ++ [e]) (i + 2)
        else if e = 110 then rd r2 (acc ++ [10]) (i + 2)
        else if e = 116 then rd r2 (acc ++ [9]) (i + 2)
        else if e = 120 then match r2 with
          | [] => ([], i + 2, false)
          | a :: r3 =>
            if dg a = 16 then ([], i + 2, false)
            else match r3 with
              | [] => ([], i + 3, false)
              | b :: r4 => if dg b = 16 then ([], i + 3, false) else rd r4 (acc ++ [UInt8.ofNat (16 * dg a + dg b)]) (i + 4)
        else ([], i + 1, false) := by
  rw [rd.eq_def]

/-- The literal that a text begins with: its bytes, how many the text's are, whether it is whole. -/
def read (l : List UInt8) : List UInt8 × Nat × Bool :=
  match l with
  | [] => ([], 0, false)
  | c :: r => if c = 34 then rd r [] 1 else ([], 0, false)

theorem one_len (c : UInt8) : 1 ≤ (one c).length ∧ (one c).length ≤ 4 := by
  unfold one
  repeat' split
  all_goals simp

theorem hexd_dg : ∀ n : Fin 16, dg (hexd (UInt8.ofNat n.val)) = n.val := by decide +kernel
theorem hexd_dg8 (n : UInt8) (h : n.toNat < 16) : dg (hexd n) = n.toNat := by
  have := hexd_dg ⟨n.toNat, h⟩
  simp only [UInt8.ofNat_toNat] at this
  exact this
/-- There and back, for one byte: reading what it is quoted as adds it to what has been read. -/
theorem rd_one (c : UInt8) (r acc : List UInt8) (i : Nat) : rd (one c ++ r) acc i = rd r (acc ++ [c]) (i + (one c).length) := by
  unfold one
  by_cases h1 : c = 34 ∨ c = 92
  · rw [if_pos h1]
    have h2 : ¬ ((92 : UInt8) < 32 ∨ (126 : UInt8) < 92) := by decide
    have h3 : ¬ ((92 : UInt8) = 34) := by decide
    show rd (92 :: c :: r) acc i = _
    rw [rd_cons, if_neg h2, if_neg h3, if_neg (by decide)]
    simp only [h1, if_true]
    rfl
  · rw [if_neg h1]
    by_cases h2 : c = 10
    · subst h2; rw [if_pos rfl]
      show rd (92 :: 110 :: r) acc i = _
      rw [rd_cons, if_neg (by decide), if_neg (by decide), if_neg (by decide)]
      simp only []
      rw [if_neg (by decide), if_pos trivial]
      rfl
    · rw [if_neg h2]
      by_cases h3 : c = 9
      · subst h3; rw [if_pos rfl]
        show rd (92 :: 116 :: r) acc i = _
        rw [rd_cons, if_neg (by decide), if_neg (by decide), if_neg (by decide)]
        simp only []
        rw [if_neg (by decide), if_neg (by decide), if_pos trivial]
        rfl
      · rw [if_neg h3]
        by_cases h4 : c < 32 ∨ 126 < c
        · rw [if_pos h4]
          have hlt1 : (c / 16).toNat < 16 := by have := c.toNat_lt; simp; omega
          have hlt2 : (c % 16).toNat < 16 := by simp; omega
          have e1 := hexd_dg8 _ hlt1
          have e2 := hexd_dg8 _ hlt2
          have e3 : UInt8.ofNat (16 * (c / 16).toNat + (c % 16).toNat) = c := by
            apply UInt8.toNat_inj.1
            have := c.toNat_lt
            simp
            omega
          show rd (92 :: 120 :: hexd (c / 16) :: hexd (c % 16) :: r) acc i = _
          rw [rd_cons, if_neg (by decide), if_neg (by decide), if_neg (by decide)]
          simp only []
          rw [if_neg (by decide), if_neg (by decide), if_neg (by decide), if_pos trivial]
          rw [e1, if_neg (by omega), e2, if_neg (by omega), e3]
          rfl
        · rw [if_neg h4]
          show rd (c :: r) acc i = _
          rw [rd_cons, if_neg h4, if_neg (fun h => h1 (.inl h)), if_pos (fun h => h1 (.inr h))]
          rfl

theorem rd_many (l r acc : List UInt8) (i : Nat) : rd (l.flatMap one ++ r) acc i = rd r (acc ++ l) (i + (l.flatMap one).length) := by
  induction l generalizing acc i with
  | nil => simp
  | cons c l ih =>
    rw [List.flatMap_cons, List.append_assoc, rd_one, ih]
    simp [Nat.add_assoc]

/-- What is quoted is read as it was, whatever stands behind. -/
theorem read_quote (l more : List UInt8) : read (quote l ++ more) = (l, (quote l).length, true) := by
  unfold quote read
  simp only [List.cons_append, if_true]
  rw [List.append_assoc, rd_many]
  simp only [List.singleton_append, List.nil_append]
  rw [rd_cons, if_neg (by decide), if_pos rfl]
  simp
  omega

theorem size_quote (l : List UInt8) : size l = (quote l).length := by
  unfold size quote; simp; omega

theorem quote_append (s t : List UInt8) : quote (s ++ t) = (quote s).take ((quote s).length - 1) ++ (quote t).drop 1 := by
  unfold quote
  simp

theorem size_append (s t : List UInt8) : size (s ++ t) + 2 = size s + size t := by
  unfold size; simp; omega

theorem quote_len (l : List UInt8) : 2 ≤ (quote l).length ∧ (quote l).length ≤ 4 * l.length + 2 := by
  have : ∀ l : List UInt8, (l.flatMap one).length ≤ 4 * l.length := by
    intro l
    induction l with
    | nil => simp
    | cons c l ih =>
      have := (one_len c).2
      simp only [List.flatMap_cons, List.length_append, List.length_cons]
      omega
  have := this l
  unfold quote
  simp only [List.length_cons, List.length_append, List.length_nil]
  omega
end Go.Proofs.Ytmcjkijnapmboaa
