import Derived.Test.YtmcjkijnapmboaaF
namespace Go.Proofs.Ytmcjkijnapmboaa
open Go.RowKit

theorem read_no_any (s : ByteArray) (w : World) (h : s.size = 0 ∨ ∃ h : 0 < s.size, ¬ s[0] = 34) :
    Calls Try.prog 14 #[.string s] w (Ans ([], 0, false) w) := by
  rcases h with h | ⟨h, h34⟩
  · have e0 : s.toList.isEmpty = true := by
      rw [Lib.toList_data]
      cases hl : s.data.toList with
      | nil => rfl
      | cons => have : s.size = s.data.toList.length := by simp
                rw [hl] at this; simp at this; omega
    go_enter Try.func14, Try.ntmps14
    go_wp2_with fail
    go_step3
    go_wp2_with fail
    rw [Exit.noGoto_ret]
    go_ret3
    exact ⟨rfl, Below.refl _ _⟩
  · have e0 : s.toList.isEmpty = false := by
      rw [Lib.toList_data]
      cases hl : s.data.toList with
      | nil => have : s.size = 0 := by rw [← ByteArray.size_data, ← Array.length_toList, hl]; rfl
               omega
      | cons => rfl
    have b0 := s[0].toNat_lt
    have n34 : ((s[0].toNat : Int) != 34) = true := by
      have := ne_of (n := 34) (by omega) h34
      simp only [bne, Bool.not_eq_true']; exact this
    clear h34
    go_enter Try.func14, Try.ntmps14
    go_wp2_with fail
    go_step3
    go_wp2_with fail
    rw [Exit.noGoto_ret]
    go_ret3
    exact ⟨rfl, Below.refl _ _⟩

theorem read_any (s : ByteArray) (w : World) (hs : s.size ≤ 100000) : Calls Try.prog 14 #[.string s] w (Ans (read s.data.toList) w) := by
  rw [← left_all]
  by_cases h0 : 0 < s.size
  · by_cases h1 : s[0] = 34
    · exact read_yes_any s w hs h0 h1 _ (read_yes s h0 h1).symm
    · rw [read_no s (.inr ⟨h0, h1⟩)]
      exact read_no_any s w (.inr ⟨h0, h1⟩)
  · rw [read_no s (.inl (by omega))]
    exact read_no_any s w (.inl (by omega))
end Go.Proofs.Ytmcjkijnapmboaa
