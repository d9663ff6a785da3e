import Derived.Test.YtbfmflfhgpipgaaN
namespace Go.Proofs.Ytbfmflfhgpipgaa
open Go.RowKit

theorem says_yes {P : Program} {f : FuncId} {args : Array Value} {w : World} {p : Prop} (h : Calls P f args w (Says p w.heap.size w)) (hp : p) : Calls P f args w fun e w' => e = .returned (.bool true) ∧ Below w.heap.size w w' :=
  h.mono fun e w' ⟨t, he, ht, hb⟩ => ⟨by rw [he, ht.2 hp], hb⟩
theorem says_no {P : Program} {f : FuncId} {args : Array Value} {w : World} {p : Prop} (h : Calls P f args w (Says p w.heap.size w)) (hp : ¬ p) : Calls P f args w fun e w' => e = .returned (.bool false) ∧ Below w.heap.size w w' :=
  h.mono fun e w' ⟨t, he, ht, hb⟩ => ⟨by
    cases t with
    | true => exact absurd (ht.1 rfl) hp
    | false => exact he, hb⟩

/-- The three cells of a boxed code, and what was there before, behind a callee. -/
theorem box3 {w w1 w2 : World} {b : Nat} {c0 c1 c2 : Option Value} (hb : Below w1.heap.size w1 w2) (hw : Below w.heap.size w w1) (hB : b < w1.heap.size) (h0 : w1.cell? ⟨b, 0, none⟩ = c0) (h1 : w1.cell? ⟨b, 1, none⟩ = c1) (h2 : w1.cell? ⟨b, 2, none⟩ = c2) :
    w2.cell? ⟨b, 0, none⟩ = c0 ∧ w2.cell? ⟨b, 1, none⟩ = c1 ∧ w2.cell? ⟨b, 2, none⟩ = c2 ∧ b < w2.heap.size ∧ Below w.heap.size w w2 :=
  ⟨(hb.cell (p := ⟨b, 0, none⟩) hB).trans h0, (hb.cell (p := ⟨b, 1, none⟩) hB).trans h1, (hb.cell (p := ⟨b, 2, none⟩) hB).trans h2, Nat.lt_of_lt_of_le hB hb.size, hw.trans (hb.mono hw.size)⟩

section
variable (ai af as' sa : Option Addr) (k1 k2 k3 k4 : Nat) (c : CodeD) (f : Int) (s : SeenD) (w : World)

/-- The law's call. -/
def LawAll : Prop := Calls Try.prog 6 #[.agg #[.slice ai c.ni k1, .slice af c.nf k2, .slice as' c.ns k3], .int .i64 f, .slice sa s.n k4] w fun e w' => e = .returned (.bool true) ∧ Below w.heap.size w w'

set_option maxHeartbeats 2000000 in
theorem law_all_great (hc : Hid (CodeAt w w.heap.size ai af as' c)) (hg : GreatP c) : LawAll ai af as' sa k1 k2 k3 k4 c f s w := by
  have cg : Hid (∀ o, Calls Try.prog 14 #[.agg #[.slice ai c.ni k1, .slice af c.nf k2, .slice as' c.ns k3]] (w.alloc o) fun e w' => e = .returned (.bool true) ∧ Below (w.alloc o).heap.size (w.alloc o) w') := fun o =>
    says_yes (great_any ai af as' k1 k2 k3 c (w.alloc o) (hc.out.up ((Below.refl _ _).alloc (Nat.le_refl _) _))) hg
  clear hc hg
  unfold LawAll
  go_enter Try.func6, Try.ntmps6
  go_wp2_with fail
  refine (cg.out _).mono ?_
  rintro e w1 ⟨rfl, hb⟩
  go_wp2_with fail
  refine (awake_any _).mono ?_
  rintro e w2 ⟨rfl, hb2⟩
  go_wp2
  go_ret
  exact ⟨rfl, ((Below.refl _ _).alloc (Nat.le_refl _) _).trans ((hb.mono (by simp)).trans (hb2.mono (by have := hb.size; simp at this; omega)))⟩

set_option maxHeartbeats 2000000 in
theorem law_all_long (hc : Hid (CodeAt w w.heap.size ai af as' c)) (hg : ¬ GreatP c) (hs : 1500 < s.n) : LawAll ai af as' sa k1 k2 k3 k4 c f s w := by
  have cg : Hid (∀ o, Calls Try.prog 14 #[.agg #[.slice ai c.ni k1, .slice af c.nf k2, .slice as' c.ns k3]] (w.alloc o) fun e w' => e = .returned (.bool false) ∧ Below (w.alloc o).heap.size (w.alloc o) w') := fun o =>
    says_no (great_any ai af as' k1 k2 k3 c (w.alloc o) (hc.out.up ((Below.refl _ _).alloc (Nat.le_refl _) _))) hg
  clear hc hg
  unfold LawAll
  go_enter Try.func6, Try.ntmps6
  go_wp2_with fail
  refine (cg.out _).mono ?_
  rintro e w1 ⟨rfl, hb⟩
  go_wp2_with fail
  refine (awake_any _).mono ?_
  rintro e w2 ⟨rfl, hb2⟩
  go_wp2
  go_ret
  exact ⟨rfl, ((Below.refl _ _).alloc (Nat.le_refl _) _).trans ((hb.mono (by simp)).trans (hb2.mono (by have := hb.size; simp at this; omega)))⟩

set_option maxHeartbeats 2000000 in
theorem law_all_arg (hc : Hid (CodeAt w w.heap.size ai af as' c)) (hg : Hid (¬ GreatP c)) (hs : s.n ≤ 1500) (h : s.n ≠ c.ni ∨ ¬ MayP c) : LawAll ai af as' sa k1 k2 k3 k4 c f s w := by
  have bi := hc.out.bi
  have cg : Hid (∀ o, Calls Try.prog 14 #[.agg #[.slice ai c.ni k1, .slice af c.nf k2, .slice as' c.ns k3]] (w.alloc o) fun e w' => e = .returned (.bool false) ∧ Below (w.alloc o).heap.size (w.alloc o) w') := fun o =>
    says_no (great_any ai af as' k1 k2 k3 c (w.alloc o) (hc.out.up ((Below.refl _ _).alloc (Nat.le_refl _) _))) hg
  have ch : Hid (∀ w', Below w.heap.size w w' → Calls Try.prog 15 #[.agg #[.slice ai c.ni k1, .slice af c.nf k2, .slice as' c.ns k3], .int .i64 f, .slice sa s.n k4] w' fun e w'' => e = .returned (.tuple #[.slice none 0 0, .int .i64 1]) ∧ Below w'.heap.size w' w'') := fun w' hb =>
    hints_arg ai af as' sa k1 k2 k3 k4 c f s w' (hc.out.up hb) hg h (by omega)
  have cr : Hid (∀ w', Below w.heap.size w w' → ∃ t, (t = false ∨ (s.n : Int) ≠ c.ni) ∧ Calls Try.prog 16 #[.agg #[.slice ai c.ni k1, .slice af c.nf k2, .slice as' c.ns k3]] w' fun e w'' => e = .returned (.bool t) ∧ Below w'.heap.size w' w'') := fun w' hb => by
    by_cases hm : MayP c
    · exact ⟨true, .inr (by have := h.resolve_right (fun h => h hm); omega), says_yes (may_ref_any ai af as' k1 k2 k3 c w' (hc.out.up hb) hg) hm⟩
    · exact ⟨false, .inl rfl, says_no (may_ref_any ai af as' k1 k2 k3 c w' (hc.out.up hb) hg) hm⟩
  clear hc hg h
  unfold LawAll
  generalize s.n = sn at *
  go_enter Try.func6, Try.ntmps6
  go_wp2_with fail
  refine (cg.out _).mono ?_
  rintro e w1 ⟨rfl, hb⟩
  obtain ⟨q0, q1, q2, z1, hw1⟩ := box3 (b := w.heap.size) (c0 := some (.slice ai c.ni k1)) (c1 := some (.slice af c.nf k2)) (c2 := some (.slice as' c.ns k3)) hb ((Below.refl _ _).alloc (Nat.le_refl _) _) (by simp) (by go_simp) (by go_simp) (by go_simp)
  clear hb cg
  go_wp2_with fail
  refine (ch.out _ hw1).mono ?_
  rintro e w2 ⟨rfl, hb⟩
  obtain ⟨q0, q1, q2, z1, hw2⟩ := box3 hb hw1 z1 q0 q1 q2
  clear hb ch hw1
  go_wp2_with fail
  obtain ⟨t, ht, c16⟩ := cr.out _ hw2
  have C16 := Lib.hid c16
  clear c16 cr
  refine C16.out.mono ?_
  rintro e w3 ⟨rfl, hb⟩
  obtain ⟨q0, q1, q2, z1, hw3⟩ := box3 hb hw2 z1 q0 q1 q2
  clear hb C16 hw2
  cases t with
  | false =>
    clear ht
    go_wp2_with fail
    refine (awake_any _).mono ?_
    rintro e w4 ⟨rfl, hb2⟩
    go_wp2
    go_ret
    exact ⟨rfl, hw3.trans (hb2.mono hw3.size)⟩
  | true =>
    have hne : ((sn : Int) != (c.ni : Int)) = true := by
      have := ht.resolve_left (by simp)
      simpa using this
    clear ht
    go_wp2_with fail
    refine (awake_any _).mono ?_
    rintro e w4 ⟨rfl, hb2⟩
    go_wp2
    go_ret
    exact ⟨rfl, hw3.trans (hb2.mono hw3.size)⟩

set_option maxHeartbeats 2000000 in
theorem law_all_none (hc : Hid (CodeAt w w.heap.size ai af as' c)) (hg : Hid (¬ GreatP c)) (hs : s.n ≤ 1500) (hn : s.n = c.ni) (hm : MayP c) (hf : f < 0 ∨ (c.nf : Int) ≤ f) : LawAll ai af as' sa k1 k2 k3 k4 c f s w := by
  have bi := hc.out.bi
  have bf := hc.out.bf
  have cg : Hid (∀ o, Calls Try.prog 14 #[.agg #[.slice ai c.ni k1, .slice af c.nf k2, .slice as' c.ns k3]] (w.alloc o) fun e w' => e = .returned (.bool false) ∧ Below (w.alloc o).heap.size (w.alloc o) w') := fun o =>
    says_no (great_any ai af as' k1 k2 k3 c (w.alloc o) (hc.out.up ((Below.refl _ _).alloc (Nat.le_refl _) _))) hg
  have ch : Hid (∀ w', Below w.heap.size w w' → Calls Try.prog 15 #[.agg #[.slice ai c.ni k1, .slice af c.nf k2, .slice as' c.ns k3], .int .i64 f, .slice sa s.n k4] w' fun e w'' => e = .returned (.tuple #[.slice none 0 0, .int .i64 20]) ∧ Below w'.heap.size w' w'') := fun w' hb =>
    hints_none ai af as' sa k1 k2 k3 k4 c f s w' (hc.out.up hb) hg hn hm (by omega) hf
  have cr : Hid (∀ w', Below w.heap.size w w' → Calls Try.prog 16 #[.agg #[.slice ai c.ni k1, .slice af c.nf k2, .slice as' c.ns k3]] w' fun e w'' => e = .returned (.bool true) ∧ Below w'.heap.size w' w'') := fun w' hb =>
    says_yes (may_ref_any ai af as' k1 k2 k3 c w' (hc.out.up hb) hg) hm
  have hn1 : ((s.n : Int) != (c.ni : Int)) = false := by simp [hn]
  clear hc hg hm hn
  unfold LawAll
  generalize s.n = sn at *
  go_enter Try.func6, Try.ntmps6
  go_wp2_with fail
  refine (cg.out _).mono ?_
  rintro e w1 ⟨rfl, hb⟩
  obtain ⟨q0, q1, q2, z1, hw1⟩ := box3 (b := w.heap.size) (c0 := some (.slice ai c.ni k1)) (c1 := some (.slice af c.nf k2)) (c2 := some (.slice as' c.ns k3)) hb ((Below.refl _ _).alloc (Nat.le_refl _) _) (by simp) (by go_simp) (by go_simp) (by go_simp)
  clear hb cg
  go_wp2_with fail
  refine (ch.out _ hw1).mono ?_
  rintro e w2 ⟨rfl, hb⟩
  obtain ⟨q0, q1, q2, z1, hw2⟩ := box3 hb hw1 z1 q0 q1 q2
  clear hb ch hw1
  go_wp2_with fail
  refine (cr.out _ hw2).mono ?_
  rintro e w3 ⟨rfl, hb⟩
  obtain ⟨q0, q1, q2, z1, hw3⟩ := box3 hb hw2 z1 q0 q1 q2
  clear hb cr hw2
  by_cases hf0 : f < 0
  · clear hf
    go_wp2_with fail
    refine (awake_any _).mono ?_
    rintro e w4 ⟨rfl, hb2⟩
    go_wp2
    go_ret
    exact ⟨rfl, hw3.trans (hb2.mono hw3.size)⟩
  · have hf1 : (c.nf : Int) ≤ f := by omega
    clear hf
    go_wp2_with fail
    refine (awake_any _).mono ?_
    rintro e w4 ⟨rfl, hb2⟩
    go_wp2
    go_ret
    exact ⟨rfl, hw3.trans (hb2.mono hw3.size)⟩
end
end Go.Proofs.Ytbfmflfhgpipgaa
