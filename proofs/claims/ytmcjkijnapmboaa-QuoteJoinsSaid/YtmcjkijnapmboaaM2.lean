import Derived.Test.YtmcjkijnapmboaaM
namespace Go.Proofs.Ytmcjkijnapmboaa

/-- What is left of a text from the place k on. -/
def left (s : ByteArray) (k : Nat) : List UInt8 := s.data.toList.drop k
theorem left_cons (s : ByteArray) (k : Nat) (h : k < s.size) : left s k = s[k] :: left s (k + 1) := by
  unfold left
  rw [List.drop_eq_getElem_cons (by simpa using h)]; rfl
theorem left_end (s : ByteArray) : left s s.size = [] := by unfold left; simp
theorem left_end' (s : ByteArray) (k : Nat) (h : k = s.size) : left s k = [] := by subst h; exact left_end s

section
variable (s : ByteArray) (acc : List UInt8) (k : Nat)
theorem rd_end : rd (left s s.size) acc s.size = ([], s.size, false) := by rw [left_end, rd_nil]
theorem rd_bad (h : k < s.size) (hc : s[k] < 32 ∨ 126 < s[k]) : rd (left s k) acc k = ([], k, false) := by
  rw [left_cons s k h, rd_cons, if_pos hc]
theorem rd_quote (h : k < s.size) (hc : s[k] = 34) : rd (left s k) acc k = (acc, k + 1, true) := by
  rw [left_cons s k h, rd_cons, if_neg (by rw [hc]; decide), if_pos hc]
theorem rd_plain (h : k < s.size) (h1 : ¬ (s[k] < 32 ∨ 126 < s[k])) (h2 : ¬ s[k] = 34) (h3 : ¬ s[k] = 92) : rd (left s k) acc k = rd (left s (k + 1)) (acc ++ [s[k]]) (k + 1) := by
  rw [left_cons s k h, rd_cons, if_neg h1, if_neg h2, if_pos h3]
theorem rd_slash (h : k < s.size) (hc : s[k] = 92) : rd (left s k) acc k = match left s (k + 1) with
      | [] => ([], k + 1, false)
      | e :: r2 =>
        if e = 34 ∨ e = 92 then rd r2 (acc ++ [e]) (k + 2)
        else if e = 110 then rd r2 (acc ++ [10]) (k + 2)
        else if e = 116 then rd r2 (acc ++ [9]) (k + 2)
        else if e = 120 then match r2 with
          | [] => ([], k + 2, false)
          | a :: r3 =>
            if dg a = 16 then ([], k + 2, false)
            else match r3 with
              | [] => ([], k + 3, false)
              | b :: r4 => if dg b = 16 then ([], k + 3, false) else rd r4 (acc ++ [UInt8.ofNat (16 * dg a + dg b)]) (k + 4)
        else ([], k + 1, false) := by
  rw [left_cons s k h, rd_cons, if_neg (by rw [hc]; decide), if_neg (by rw [hc]; decide), if_neg (by rw [hc]; decide)]
  rcases left s (k + 1) with _ | ⟨e, _ | ⟨a, _ | ⟨b, r⟩⟩⟩ <;> rfl
theorem rd_slash_end (h : k < s.size) (hc : s[k] = 92) (h1 : k + 1 = s.size) : rd (left s k) acc k = ([], k + 1, false) := by
  rw [rd_slash s acc k h hc, left_end' s (k + 1) h1]
theorem rd_esc (h : k + 1 < s.size) (hc : s[k] = 92) (he : s[k + 1] = 34 ∨ s[k + 1] = 92) : rd (left s k) acc k = rd (left s (k + 2)) (acc ++ [s[k + 1]]) (k + 2) := by
  rw [rd_slash s acc k (by omega) hc, left_cons s (k + 1) h]
  simp only [he, if_true]
theorem rd_esc_n (h : k + 1 < s.size) (hc : s[k] = 92) (he : s[k + 1] = 110) : rd (left s k) acc k = rd (left s (k + 2)) (acc ++ [10]) (k + 2) := by
  rw [rd_slash s acc k (by omega) hc, left_cons s (k + 1) h, he]
  rfl
theorem rd_esc_t (h : k + 1 < s.size) (hc : s[k] = 92) (he : s[k + 1] = 116) : rd (left s k) acc k = rd (left s (k + 2)) (acc ++ [9]) (k + 2) := by
  rw [rd_slash s acc k (by omega) hc, left_cons s (k + 1) h, he]
  rfl
theorem rd_esc_no (h : k + 1 < s.size) (hc : s[k] = 92) (h1 : ¬ (s[k + 1] = 34 ∨ s[k + 1] = 92)) (h2 : ¬ s[k + 1] = 110) (h3 : ¬ s[k + 1] = 116) (h4 : ¬ s[k + 1] = 120) : rd (left s k) acc k = ([], k + 1, false) := by
  rw [rd_slash s acc k (by omega) hc, left_cons s (k + 1) h]
  simp only [h1, h2, h3, h4, if_false]
theorem rd_x (h : k + 1 < s.size) (hc : s[k] = 92) (he : s[k + 1] = 120) : rd (left s k) acc k = match left s (k + 2) with
          | [] => ([], k + 2, false)
          | a :: r3 =>
            if dg a = 16 then ([], k + 2, false)
            else match r3 with
              | [] => ([], k + 3, false)
              | b :: r4 => if dg b = 16 then ([], k + 3, false) else rd r4 (acc ++ [UInt8.ofNat (16 * dg a + dg b)]) (k + 4) := by
  rw [rd_slash s acc k (by omega) hc, left_cons s (k + 1) h, he]
  rfl
theorem rd_x0 (h : k + 1 < s.size) (hc : s[k] = 92) (he : s[k + 1] = 120) (h2 : k + 2 = s.size) : rd (left s k) acc k = ([], k + 2, false) := by
  rw [rd_x s acc k h hc he, left_end' s (k + 2) h2]
theorem rd_x1 (h : k + 2 < s.size) (hc : s[k] = 92) (he : s[k + 1] = 120) (ha : dg s[k + 2] = 16) : rd (left s k) acc k = ([], k + 2, false) := by
  rw [rd_x s acc k (by omega) hc he, left_cons s (k + 2) h]
  simp only [ha, if_true]
theorem rd_x2 (h : k + 2 < s.size) (hc : s[k] = 92) (he : s[k + 1] = 120) (ha : ¬ dg s[k + 2] = 16) (h3 : k + 3 = s.size) : rd (left s k) acc k = ([], k + 3, false) := by
  rw [rd_x s acc k (by omega) hc he, left_cons s (k + 2) h, left_end' s (k + 2 + 1) h3]
  simp only [ha, if_false]
theorem rd_x3 (h : k + 3 < s.size) (hc : s[k] = 92) (he : s[k + 1] = 120) (ha : ¬ dg s[k + 2] = 16) (hb : dg s[k + 3] = 16) : rd (left s k) acc k = ([], k + 3, false) := by
  rw [rd_x s acc k (by omega) hc he, left_cons s (k + 2) (by omega), left_cons s (k + 2 + 1) h]
  simp only [ha, if_false]
  rw [if_pos hb]
theorem rd_x4 (h : k + 3 < s.size) (hc : s[k] = 92) (he : s[k + 1] = 120) (ha : ¬ dg s[k + 2] = 16) (hb : ¬ dg s[k + 3] = 16) : rd (left s k) acc k = rd (left s (k + 4)) (acc ++ [UInt8.ofNat (16 * dg s[k + 2] + dg s[k + 3])]) (k + 4) := by
  rw [rd_x s acc k (by omega) hc he, left_cons s (k + 2) (by omega), left_cons s (k + 2 + 1) h]
  simp only [ha, if_false]
  rw [if_neg hb]
end

theorem read_no (s : ByteArray) (h : s.size = 0 ∨ ∃ h : 0 < s.size, ¬ s[0] = 34) : read (left s 0) = ([], 0, false) := by
  rcases h with h | ⟨h, hc⟩
  · rw [left_end' s 0 h.symm]; rfl
  · rw [left_cons s 0 h, read, if_neg hc]
theorem read_yes (s : ByteArray) (h : 0 < s.size) (hc : s[0] = 34) : read (left s 0) = rd (left s 1) [] 1 := by
  rw [left_cons s 0 h, read, if_pos hc]
theorem left_all (s : ByteArray) : left s 0 = s.data.toList := rfl

theorem dg_le (c : UInt8) : dg c ≤ 16 := by
  have := c.toNat_lt
  unfold dg
  have h1 : ∀ a b : UInt8, a ≤ b ↔ a.toNat ≤ b.toNat := fun a b => UInt8.le_iff_toNat_le
  simp only [h1]
  repeat' split
  all_goals simp at *
  all_goals omega

/-- A beginning of a literal that is not all of it is no literal: it is read to its end. -/
theorem rd_one_part (c : UInt8) (m : Nat) (hm : m < (one c).length) (acc : List UInt8) (i : Nat) : ∃ a, rd ((one c).take m) acc i = (a, i + m, false) := by
  have hl := (one_len c).2
  by_cases h0 : m = 0
  · subst h0; exact ⟨_, by rw [List.take_zero, rd_nil]; rfl⟩
  have key : ∀ d, one c = 92 :: d → (d.length = 1 ∨ ∃ x y, d = [120, x, y] ∧ dg x ≠ 16) → ∃ a, rd ((one c).take m) acc i = (a, i + m, false) := by
    intro d hd h
    rcases h with h | ⟨x, y, rfl, hx⟩
    · have : m = 1 := by rw [hd] at hm; simp at hm; omega
      subst this
      refine ⟨[], ?_⟩
      rw [hd, List.take_succ_cons, List.take_zero, rd_cons]; rfl
    · rw [hd] at hm ⊢
      have : m = 1 ∨ m = 2 ∨ m = 3 := by simp at hm; omega
      rcases this with rfl | rfl | rfl
      · exact ⟨[], by rw [List.take_succ_cons, List.take_zero, rd_cons]; rfl⟩
      · exact ⟨[], by rw [List.take_succ_cons, List.take_succ_cons, List.take_zero, rd_cons]; rfl⟩
      · refine ⟨[], ?_⟩
        rw [List.take_succ_cons, List.take_succ_cons, List.take_succ_cons, List.take_zero, rd_cons]
        rw [if_neg (by decide), if_neg (by decide), if_neg (by decide)]
        simp only []
        rw [if_neg (by decide), if_neg (by decide), if_neg (by decide), if_pos trivial, if_neg hx]
  by_cases h1 : c = 34 ∨ c = 92
  · exact key [c] (by unfold one; rw [if_pos h1]) (.inl rfl)
  by_cases h2 : c = 10
  · exact key [110] (by unfold one; rw [if_neg h1, if_pos h2]) (.inl rfl)
  by_cases h3 : c = 9
  · exact key [116] (by unfold one; rw [if_neg h1, if_neg h2, if_pos h3]) (.inl rfl)
  by_cases h4 : c < 32 ∨ 126 < c
  · refine key [120, hexd (c / 16), hexd (c % 16)] (by unfold one; rw [if_neg h1, if_neg h2, if_neg h3, if_pos h4]) (.inr ⟨_, _, rfl, ?_⟩)
    have hlt1 : (c / 16).toNat < 16 := by have := c.toNat_lt; simp; omega
    rw [hexd_dg8 _ hlt1]; omega
  · exfalso
    have : one c = [c] := by unfold one; rw [if_neg h1, if_neg h2, if_neg h3, if_neg h4]
    rw [this] at hm; simp at hm; omega

theorem rd_part (l : List UInt8) (m : Nat) (acc : List UInt8) (i : Nat) (hm : m < (l.flatMap one).length + 1) : ∃ a, rd ((l.flatMap one ++ [34]).take m) acc i = (a, i + m, false) := by
  induction l generalizing m acc i with
  | nil => 
    have : m = 0 := by simp at hm; omega
    subst this
    exact ⟨_, by rw [List.take_zero, rd_nil]; rfl⟩
  | cons c l ih =>
    rw [List.flatMap_cons, List.append_assoc]
    by_cases h : m < (one c).length
    · rw [List.take_append_of_le_length (by omega)]
      exact rd_one_part c m h acc i
    · obtain ⟨j, rfl⟩ : ∃ j, m = (one c).length + j := ⟨m - (one c).length, by omega⟩
      rw [List.take_length_add_append, rd_one]
      obtain ⟨a, ha⟩ := ih j (acc ++ [c]) (i + (one c).length) (by rw [List.flatMap_cons, List.length_append] at hm; omega)
      exact ⟨a, by rw [ha, Nat.add_assoc]⟩

theorem read_part (l : List UInt8) (m : Nat) (hm : m < (quote l).length) : ∃ a, read ((quote l).take m) = (a, m, false) := by
  cases m with
  | zero => exact ⟨_, rfl⟩
  | succ m =>
    obtain ⟨a, ha⟩ := rd_part l m [] 1 (by unfold quote at hm; simp at hm; simpa using hm)
    refine ⟨a, ?_⟩
    unfold quote read
    rw [List.take_succ_cons]
    simp only [if_true]
    rw [ha, Nat.add_comm]
end Go.Proofs.Ytmcjkijnapmboaa
