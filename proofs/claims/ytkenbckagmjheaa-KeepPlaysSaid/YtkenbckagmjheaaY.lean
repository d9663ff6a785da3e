import Derived.Test.YtkenbckagmjheaaX
namespace Go.Proofs.Ytkenbckagmjheaa
open Go.RowKit

/-- What Put does to what a store holds: whether it kept, the times, the things, how many went. -/
def putS (every most : Int) (ev T X : List Int) (gone t x : Int) : Bool × List Int × List Int × Int :=
  if t < 0 ∨ t % every ≠ 0 ∨ T.contains t = true then (false, T, X, gone)
  else if (T.length : Int) + 1 ≤ most then (true, ins T (T.countP (· < t)) t, ins X (T.countP (· < t)) x, gone)
  else (true, del (ins T (T.countP (· < t)) t) (dropAt (ins T (T.countP (· < t)) t) ev gone), del (ins X (T.countP (· < t)) x) (dropAt (ins T (T.countP (· < t)) t) ev gone), gone + 1)

/-- What a store's lists are. -/
structure Inv (every most : Int) (T X : List Int) : Prop where
  sorted : T.Pairwise (· < ·)
  len : X.length = T.length
  few : (T.length : Int) ≤ most
  all : ∀ t ∈ T, 0 ≤ t ∧ t % every = 0
  m1 : 1 ≤ most
  m64 : most ≤ 64
  e1 : 1 ≤ every

theorem split_at (T : List Int) (t : Int) (h : T.Pairwise (· < ·)) : (∀ a ∈ T.take (T.countP (· < t)), a < t) ∧ (∀ a ∈ T.drop (T.countP (· < t)), t ≤ a) := by
  induction T with
  | nil => simp
  | cons a T ih =>
    rw [List.pairwise_cons] at h
    obtain ⟨h1, h2⟩ := h
    by_cases ha : a < t
    · obtain ⟨i1, i2⟩ := ih h2
      rw [List.countP_cons_of_pos (by simpa using ha)]
      refine ⟨fun b hb => ?_, fun b hb => i2 b (by simpa using hb)⟩
      rw [List.take_succ_cons, List.mem_cons] at hb
      rcases hb with rfl | hb
      · exact ha
      · exact i1 b hb
    · have h0 : (a :: T).countP (· < t) = 0 := by
        rw [List.countP_eq_zero]
        intro b hb
        rw [List.mem_cons] at hb
        rcases hb with rfl | hb
        · simpa using ha
        · have := h1 b hb; simp; omega
      rw [h0]
      refine ⟨by simp, fun b hb => ?_⟩
      rw [List.drop_zero, List.mem_cons] at hb
      rcases hb with rfl | hb
      · omega
      · have := h1 b hb; omega

theorem ins_sorted (T : List Int) (t : Int) (h : T.Pairwise (· < ·)) (hc : T.contains t = false) : (ins T (T.countP (· < t)) t).Pairwise (· < ·) := by
  obtain ⟨h1, h2⟩ := split_at T t h
  have hn : t ∉ T := by simpa using hc
  have h3 : ∀ a ∈ T.drop (T.countP (· < t)), t < a := fun a ha => by
    have := h2 a ha
    have : a ≠ t := fun e => hn (by rw [← e]; exact List.mem_of_mem_drop ha)
    omega
  have hs := h
  rw [← List.take_append_drop (T.countP (· < t)) T, List.pairwise_append] at hs
  unfold ins
  rw [List.pairwise_append, List.pairwise_cons]
  refine ⟨hs.1, ⟨h3, hs.2.1⟩, fun a ha b hb => ?_⟩
  rw [List.mem_cons] at hb
  rcases hb with rfl | hb
  · exact h1 a ha
  · have := h1 a ha; have := h3 b hb; omega
theorem mem_ins {α : Type} {l : List α} {i : Nat} {x a : α} (h : a ∈ ins l i x) : a = x ∨ a ∈ l := by
  unfold ins at h
  rw [List.mem_append, List.mem_cons] at h
  rcases h with h | h | h
  · exact .inr (List.mem_of_mem_take h)
  · exact .inl h
  · exact .inr (List.mem_of_mem_drop h)
theorem del_sublist {α : Type} (l : List α) (j : Nat) : (del l j).Sublist l := by
  unfold del
  conv => rhs; rw [← List.take_append_drop j l]
  refine List.Sublist.append (List.Sublist.refl _) ?_
  rw [← List.drop_drop]
  exact List.drop_sublist 1 _
theorem del_length {α : Type} (l : List α) (j : Nat) (h : j < l.length) : (del l j).length = l.length - 1 := by unfold del; simp; omega

theorem fromOf_le (T : List Int) : fromOf T ≤ 1 := by unfold fromOf; split <;> omega
theorem dropAt_lt (T ev : List Int) (gone : Int) (h : 2 ≤ T.length) : fromOf T ≤ dropAt T ev gone ∧ dropAt T ev gone < T.length := by
  have := fromOf_le T
  have h1 := (dropJ (K := evAt ev gone) (L := T.length) (F := fromOf T) (J := dropAt T ev gone) (by omega) rfl).1
  exact ⟨by unfold dropAt; omega, h1⟩

theorem inv_put {every most : Int} {T X : List Int} (ev : List Int) (gone t x : Int) (h : Inv every most T X) : Inv every most (putS every most ev T X gone t x).2.1 (putS every most ev T X gone t x).2.2.1 := by
  unfold putS
  by_cases h0 : t < 0 ∨ t % every ≠ 0 ∨ T.contains t = true
  · rw [if_pos h0]; exact h
  · rw [if_neg h0]
    have h1 : 0 ≤ t := by omega
    have h2 : t % every = 0 := Decidable.byContradiction fun e => h0 (.inr (.inl e))
    have h3 : T.contains t = false := by
      cases hq : T.contains t with
      | false => rfl
      | true => exact absurd (.inr (.inr hq)) h0
    have hi : T.countP (· < t) ≤ T.length := List.countP_le_length
    have hs := ins_sorted T t h.sorted h3
    have hall : ∀ a ∈ ins T (T.countP (· < t)) t, 0 ≤ a ∧ a % every = 0 := fun a ha => by
      rcases mem_ins ha with rfl | ha
      · exact ⟨h1, h2⟩
      · exact h.all a ha
    have l1 := ins_length T (T.countP (· < t)) t hi
    have l2 := ins_length X (T.countP (· < t)) x (by rw [h.len]; exact hi)
    rw [h.len] at l2
    by_cases hf : (T.length : Int) + 1 ≤ most
    · rw [if_pos hf]
      exact ⟨hs, by rw [l1, l2], by rw [l1]; omega, hall, h.m1, h.m64, h.e1⟩
    · rw [if_neg hf]
      have hlen2 : 2 ≤ (ins T (T.countP (· < t)) t).length := by have := h.m1; omega
      have hd := (dropAt_lt (ins T (T.countP (· < t)) t) ev gone hlen2).2
      refine ⟨hs.sublist (del_sublist _ _), ?_, ?_, fun a ha => hall a ((del_sublist _ _).subset ha), h.m1, h.m64, h.e1⟩
      · rw [del_length _ _ hd, del_length _ _ (by rw [l2, ← l1]; exact hd), l1, l2]
      · rw [del_length _ _ hd, l1]
        have := h.few
        omega

theorem gone_put (every most : Int) (ev T X : List Int) (gone t x : Int) : (putS every most ev T X gone t x).2.2.2 = gone ∨ (putS every most ev T X gone t x).2.2.2 = gone + 1 := by
  unfold putS
  split
  · exact .inl rfl
  · split
    · exact .inl rfl
    · exact .inr rfl

def Put (r : Bool × List Int × List Int × Int) (w : World) (base B : Nat) (ev : List Int) (every most : Int) (eV tV xV : Value) : Ending → World → Prop := fun e w' =>
  ∃ tV' xV', e = .returned (.bool r.1) ∧ St w' base B ev every most r.2.1 r.2.2.1 r.2.2.2 eV tV' xV' ∧ Step B tV xV tV' xV' w w'

theorem put_any (w : World) (base B : Nat) (ev : List Int) (every most : Int) (T X : List Int) (gone : Int) (eV tV xV : Value) (t x : Int) (h : St w base B ev every most T X gone eV tV xV) (hi : Inv every most T X) (hbw : base ≤ w.heap.size) (hg0 : 0 ≤ gone) (hg1 : gone ≤ 1000000) (hev : ev.length ≤ 140737488355328) :
    Calls Try.prog 9 #[.pointer (some ⟨B, 0, none⟩), .int .i64 t, .int .i64 x] w (Put (putS every most ev T X gone t x) w base B ev every most eV tV xV) := by
  have hs : T.Pairwise (· ≤ ·) := hi.sorted.imp (fun h => Int.le_of_lt h)
  have hlen : T.length ≤ 64 := by have := hi.few; have := hi.m64; omega
  have no : ∀ e w', PutNo w e w' → Put (false, T, X, gone) w base B ev every most eV tV xV e w' := by
    rintro e w' ⟨rfl, q, rfl⟩
    exact ⟨tV, xV, rfl, h.drewN q, Step.drewN B tV xV w q⟩
  unfold putS
  by_cases h0 : t < 0
  · rw [if_pos (.inl h0)]
    exact (put_low w base B ev every most T X gone eV tV xV t x h h0).mono no
  by_cases h1 : t % every ≠ 0
  · rw [if_pos (.inr (.inl h1))]
    exact (put_odd w base B ev every most T X gone eV tV xV t x h (by omega) hi.e1 (bne_iff_ne.2 h1)).mono no
  have hm : (t % every != 0) = false := by simpa using h1
  cases hc : T.contains t with
  | true =>
    rw [if_pos (.inr (.inr rfl))]
    exact (put_there w base B ev every most T X gone eV tV xV t x h (by omega) hs (by omega) hi.e1 hm hc).mono no
  | false =>
    rw [if_neg (by intro e; rcases e with e | e | e; exact h0 e; exact h1 e; cases e)]
    by_cases hf : (T.length : Int) + 1 ≤ most
    · rw [if_pos hf]
      refine (put_few w base B ev every most T X gone eV tV xV t x h hbw hi.len (by omega) hs (by omega) hi.e1 hm hc hf).mono ?_
      rintro e w' ⟨rfl, tV', xV', S, P⟩
      exact ⟨tV', xV', rfl, S, P⟩
    · rw [if_neg hf]
      refine (put_drop w base B ev every most T X gone eV tV xV t x h hbw hi.len (by omega) hs (by omega) hi.e1 hm hc (by omega) hi.m1 hg0 hg1 hev).mono ?_
      rintro e w' ⟨rfl, tV', xV', S, P⟩
      exact ⟨tV', xV', rfl, S, P⟩

theorem near_any (w : World) (base B : Nat) (ev : List Int) (every most : Int) (T X : List Int) (gone : Int) (eV tV xV : Value) (t : Int) (h : St w base B ev every most T X gone eV tV xV) (hi : Inv every most T X) :
    Calls Try.prog 11 #[.pointer (some ⟨B, 0, none⟩), .int .i64 t] w (NearSays w T X t) := by
  have hs : T.Pairwise (· ≤ ·) := hi.sorted.imp (fun h => Int.le_of_lt h)
  have hlen : T.length ≤ 64 := by have := hi.few; have := hi.m64; omega
  by_cases h0 : nb T t = 0
  · exact near_no w base B ev every most T X gone eV tV xV t h (by omega) hs h0
  · exact near_yes w base B ev every most T X gone eV tV xV t h hi.len (by omega) hs (by omega)

/-- What was put by time 0 stays. -/
def Zero (T X : List Int) : Prop := ∃ T' X', T = 0 :: T' ∧ X = 77 :: X'
theorem ins_cons {α : Type} (a : α) (l : List α) (i : Nat) (x : α) : ins (a :: l) (i + 1) x = a :: ins l i x := rfl
theorem del_cons {α : Type} (a : α) (l : List α) (j : Nat) : del (a :: l) (j + 1) = a :: del l j := rfl
theorem zero_put {every most : Int} {T X : List Int} (ev : List Int) (gone t x : Int) (h : Inv every most T X) (hz : Zero T X) : Zero (putS every most ev T X gone t x).2.1 (putS every most ev T X gone t x).2.2.1 := by
  obtain ⟨T', X', rfl, rfl⟩ := hz
  unfold putS
  by_cases h0 : t < 0 ∨ t % every ≠ 0 ∨ (0 :: T').contains t = true
  · rw [if_pos h0]; exact ⟨T', X', rfl, rfl⟩
  · rw [if_neg h0]
    have h1 : 0 < t := by
      have : t ≠ 0 := fun e => h0 (.inr (.inr (by rw [e]; simp)))
      omega
    have hc : (0 :: T').countP (· < t) = T'.countP (· < t) + 1 := List.countP_cons_of_pos (by simpa using h1)
    rw [hc, ins_cons, ins_cons]
    by_cases hf : ((0 :: T').length : Int) + 1 ≤ most
    · rw [if_pos hf]; exact ⟨_, _, rfl, rfl⟩
    · rw [if_neg hf]
      have hi : T'.countP (· < t) ≤ T'.length := List.countP_le_length
      have hd := (dropAt_lt (0 :: ins T' (T'.countP (· < t)) t) ev gone (by simp [ins_length _ _ _ hi])).1
      rw [show fromOf (0 :: ins T' (T'.countP (· < t)) t) = 1 from rfl] at hd
      generalize dropAt (0 :: ins T' (T'.countP (· < t)) t) ev gone = J at *
      obtain ⟨j, rfl⟩ : ∃ j, J = j + 1 := ⟨J - 1, by omega⟩
      rw [del_cons, del_cons]
      exact ⟨_, _, rfl, rfl⟩

theorem View.below {w w' : World} {v : Value} {l : List Int} (h : View w v l) (hb : Below w.heap.size w w') : View w' v l := by
  rcases h with h | ⟨b, off, c, rfl, hc⟩
  · exact .inl h
  · exact .inr ⟨b, off, c, rfl, fun j hj => (hb.cell (p := ⟨b, off + j, none⟩) (World.block_lt_of_cell? w _ (hc j hj))).trans (hc j hj)⟩
theorem View.slice {w : World} {v : Value} {l : List Int} (h : View w v l) : ∃ a c, v = .slice a l.length c ∧ (0 < l.length → ∃ b off, a = some ⟨b, off, none⟩ ∧ ∀ j, j < l.length → w.cell? ⟨b, off + j, none⟩ = some (.int .i64 (l.getD j 0))) := by
  rcases h with ⟨a, c, rfl, rfl⟩ | ⟨b, off, c, rfl, hc⟩
  · exact ⟨a, c, rfl, fun h => absurd h (by simp)⟩
  · exact ⟨_, c, rfl, fun _ => ⟨b, off, rfl, hc⟩⟩
end Go.Proofs.Ytkenbckagmjheaa
