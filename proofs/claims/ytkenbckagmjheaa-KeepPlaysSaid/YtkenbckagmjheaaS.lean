import Derived.Test.YtkenbckagmjheaaR
namespace Go.Proofs.Ytkenbckagmjheaa
open Go.RowKit

/-- A slice that reads as these numbers. -/
def View (w : World) (v : Value) (l : List Int) : Prop := (∃ a c, v = .slice a 0 c ∧ l = []) ∨
  ∃ b off c, v = .slice (some ⟨b, off, none⟩) l.length c ∧ (∀ j, j < l.length → w.cell? ⟨b, off + j, none⟩ = some (.int .i64 (l.getD j 0)))

theorem Row.view {w : World} {base : Nat} {v : Value} {l : List Int} (h : Row w base v l) : View w v l := by
  rcases h.form with ⟨h1, h2⟩ | ⟨g, cap, L, rfl, hbg, hg, hle, hm, hL, ht⟩
  · exact .inl ⟨none, 0, h1, h2⟩
  · refine .inr ⟨g, 0, cap, rfl, fun j hj => ?_⟩
    rw [Nat.zero_add, cell_of_row w g j L.toArray 3 (0, 0) hg]
    have : (l.map (Value.int .i64))[j]? = some (.int .i64 (l.getD j 0)) := by
      simp [List.getElem?_map, List.getElem?_eq_getElem hj]
    rw [← ht, List.getElem?_take, if_pos hj] at this
    simpa using this

theorem take_self {l : List Int} : l.take l.length = l := List.take_of_length_le (Nat.le_refl _)

theorem delete_any (base : Nat) (v : Value) (xs : List Int) (i : Nat) (w : World) (h : Row w base v xs) (hi : i < xs.length) :
    Calls Try.prog 27 #[v, .int .i64 i, .int .i64 ((i : Int) + 1)] w (Ins base v w (xs.take i ++ xs.drop (i + 1))) := by
  have hlen2 : (xs.take i ++ xs.drop (i + 1)).length = xs.length - 1 := by simp; omega
  have hvw := h.view
  rcases h.form with ⟨rfl, rfl⟩ | ⟨g, cap, L, rfl, hbg, hg, hle, hm, hL, ht⟩
  · simp at hi
  · rcases hvw with ⟨_, _, _, hv⟩ | ⟨b, off, c, hv, hc⟩
    · rw [hv] at hi; simp at hi
    · injection hv with e1 _ e3
      injection e1 with e1
      injection e1 with e1 e2
      subst e1 e2 e3
      have hI := Try.slices_Delete_int_cells g 0 xs.length cap i (i + 1) xs w (Nat.le_refl _) hle (by unfold maxLen at hm; omega) (by omega) (by omega) hc (fun j _ => by rw [Nat.zero_add]; exact frozen_of_row w g j L.toArray 3 hg)
      rw [take_self] at hI
      refine Calls.mono hI ?_
      rintro e w' ⟨rfl, q, rfl⟩
      rw [show i + 1 - i = 1 by omega]
      refine ⟨_, rfl, ?_, grown_trans (grown_drewN w q _) (grown_setCells g _ rfl _ _ _), .inl rfl⟩
      have a1 := heap_setCells_at g 3 ((xs.take i ++ xs.drop (i + 1) ++ List.replicate 1 0).map (Value.int .i64)) 0 (w.drewN q) L hg (by simp; omega)
      have hl0 : ((xs.take i ++ xs.drop (i + 1) ++ List.replicate 1 (0 : Int)).map (Value.int .i64)).length = xs.length := by simp; omega
      have := row_mk (base := base) (g := g) (cap := cap) (l := xs.take i ++ xs.drop (i + 1)) hbg a1 hm (by rw [hl0]; simp; omega) (by rw [hlen2]; omega) (by
        rw [List.take_zero, List.nil_append, List.map_append, List.append_assoc, List.take_left' (by simp)])
      rw [hlen2] at this
      exact this

theorem search_any (v : Value) (xs : List Int) (x : Int) (w : World) (h : View w v xs) (hlen : xs.length ≤ 1000) (hs : xs.Pairwise (· ≤ ·)) :
    Calls Try.prog 20 #[v, .int .i64 x] w fun e w' => e = .returned (.tuple #[.int .i64 (xs.countP (· < x) : Nat), .bool (xs.contains x)]) ∧ ∃ q, w' = w.drewN q := by
  rcases h with ⟨a, c, rfl, rfl⟩ | ⟨b, off, c, rfl, hc⟩
  · refine (Try.slices_BinarySearch_int_empty a c x w).mono ?_
    rintro e w' ⟨rfl, rfl⟩
    exact ⟨rfl, 0, rfl⟩
  · have hI := Try.slices_BinarySearch_int b off xs.length c xs x w (Nat.le_refl _) (by omega) hc (by rw [take_self]; exact hs)
    rw [take_self] at hI
    exact hI

theorem clone_any (v : Value) (xs : List Int) (w : World) (h : View w v xs) (hlen : xs.length * 8 ≤ 140737488355328) :
    Calls Try.prog 19 #[v] w fun e w' => ∃ v', e = .returned v' ∧ Row w' w.heap.size v' xs ∧ Below w.heap.size w w' := by
  rcases h with ⟨a, c, rfl, rfl⟩ | ⟨b, off, c, rfl, hc⟩
  · cases a with
    | none =>
      refine (Try.slices_Clone_int_nil 0 c w).mono ?_
      rintro e w' ⟨rfl, rfl⟩
      exact ⟨_, rfl, ⟨rfl, .inl ⟨rfl, rfl⟩⟩, Below.refl _ _⟩
    | some a =>
      refine (Try.slices_Clone_int_zero a c w).mono ?_
      rintro e w' ⟨v', rfl, ho, _, hb⟩
      exact ⟨v', rfl, ho, hb⟩
  · have hI := Try.slices_Clone_int b off xs.length c xs w (Nat.le_refl _) hlen hc
    rw [take_self] at hI
    refine hI.mono ?_
    rintro e w' ⟨v', rfl, ho, _, hb⟩
    exact ⟨v', rfl, ho, hb⟩
end Go.Proofs.Ytkenbckagmjheaa
