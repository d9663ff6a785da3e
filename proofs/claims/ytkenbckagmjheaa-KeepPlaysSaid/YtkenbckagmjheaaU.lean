import Derived.Test.YtkenbckagmjheaaT
import Derived.Lib.SliceRun
import Derived.BigRegion
namespace Go.Proofs.Ytkenbckagmjheaa
open Go.RowKit

theorem Row.slice {w : World} {base : Nat} {v : Value} {l : List Int} (h : Row w base v l) : ∃ a n c, v = .slice a n c := by
  rcases h.form with ⟨rfl, _⟩ | ⟨g, cap, L, rfl, _⟩ <;> exact ⟨_, _, _, rfl⟩

def No (w : World) : Ending → World → Prop := fun e w' => e = .returned (.tuple #[.pointer none, .int .i64 1]) ∧ w = w'
theorem new_no (every most : Int) (v : Value) (w : World) (h : ¬ (1 ≤ every ∧ every ≤ 1048576 ∧ 1 ≤ most ∧ most ≤ 64)) : Calls Try.prog 7 #[.int .i64 every, .int .i64 most, v] w (No w) := by
  have hz : every < 1 ∨ (¬ every < 1 ∧ 1048576 < every) ∨ (¬ every < 1 ∧ ¬ 1048576 < every ∧ most < 1) ∨ (¬ every < 1 ∧ ¬ 1048576 < every ∧ ¬ most < 1 ∧ 64 < most) := by omega
  clear h
  rcases hz with h1 | ⟨h1, h2⟩ | ⟨h1, h2, h3⟩ | ⟨h1, h2, h3, h4⟩
  all_goals
    go_enter Try.func7, Try.ntmps7
    go_wp2_with fail
    go_ret2
    exact ⟨rfl, rfl⟩

theorem new_yes (every most : Int) (v : Value) (ev : List Int) (w : World) (h1 : 1 ≤ every) (h2 : every ≤ 1048576) (h3 : 1 ≤ most) (h4 : most ≤ 64) (hv : View w v ev) (hlen : ev.length * 8 ≤ 140737488355328) :
    Calls Try.prog 7 #[.int .i64 every, .int .i64 most, v] w fun e w' => ∃ B eV, e = .returned (.tuple #[.pointer (some ⟨B, 0, none⟩), .int .i64 0]) ∧ St w' w.heap.size B ev every most [] [] 0 eV (.slice none 0 0) (.slice none 0 0) ∧ Below w.heap.size w w' := by
  have n1 : ¬ every < 1 := by omega
  have n2 : ¬ 1048576 < every := by omega
  have n3 : ¬ most < 1 := by omega
  have n4 : ¬ 64 < most := by omega
  go_enter Try.func7, Try.ntmps7
  go_wp2_with fail
  refine (clone_any _ _ _ hv hlen).mono ?_
  rintro e w' ⟨eV, rfl, hr, hb⟩
  obtain ⟨a, n, c, rfl⟩ := hr.slice
  go_wp2_with fail
  go_ret2
  refine ⟨w'.heap.size, .slice a n c, rfl, ?_, hb.alloc hb.size _⟩
  refine ⟨heap_alloc_new w' _, hb.size, hr.alloc _, ⟨rfl, .inl ⟨rfl, rfl⟩⟩, ⟨rfl, .inl ⟨rfl, rfl⟩⟩, ?_, by simp [Off, Value.ownBlock], by simp [Off, Value.ownBlock], ?_, ?_, .inl rfl⟩
  · intro e
    have := (hr.lt _ e).2
    omega
  · by_cases h0 : (Value.slice a n c).ownBlock = none
    · exact .inl h0
    · exact .inr (fun e => h0 (e.trans rfl))
  · by_cases h0 : (Value.slice a n c).ownBlock = none
    · exact .inl h0
    · exact .inr (fun e => h0 (e.trans rfl))

/-- How many times are not above a time, as the code finds them. -/
def nb (T : List Int) (t : Int) : Nat := T.countP (· < t) + if T.contains t then 1 else 0
theorem nb_le (T : List Int) (t : Int) : nb T t ≤ T.length := by
  unfold nb
  split
  · rename_i h
    have h1 : T.countP (· < t) < T.length := by
      rw [List.countP_eq_length_filter]
      apply List.length_filter_lt_length_iff_exists.2
      exact ⟨t, by simpa using h, by simp⟩
    omega
  · have := List.countP_le_length (p := fun x => decide (x < t)) (l := T); omega

def NearSays (w : World) (T X : List Int) (t : Int) : Ending → World → Prop := fun e w' =>
  e = .returned (.tuple #[.int .i64 (if nb T t = 0 then 0 else T.getD (nb T t - 1) 0), .int .i64 (if nb T t = 0 then 0 else X.getD (nb T t - 1) 0), .bool (!decide (nb T t = 0))]) ∧ ∃ q, w' = w.drewN q

theorem near_nil (t : Int) (w : World) : Calls Try.prog 11 #[.pointer none, .int .i64 t] w fun e w' => e = .returned (.tuple #[.int .i64 0, .int .i64 0, .bool false]) ∧ w = w' := by
  go_enter Try.func11, Try.ntmps11
  go_wp2_with fail
  go_ret3
  exact ⟨rfl, rfl⟩

theorem Row.cell_at {w : World} {base : Nat} {v : Value} {l : List Int} (h : Row w base v l) (hl : 0 < l.length) : ∃ g cap, v = .slice (some ⟨g, 0, none⟩) l.length cap ∧ l.length ≤ cap ∧ (cap : Int) ≤ 9223372036854775807 ∧ ∀ j, j < l.length → w.cell? ⟨g, j, none⟩ = some (.int .i64 (l.getD j 0)) := by
  have hv := h.view
  rcases h.form with ⟨_, rfl⟩ | ⟨g, cap, L, rfl, hbg, hg, hle, hm, hL, ht⟩
  · simp at hl
  · rcases hv with ⟨_, _, _, hv⟩ | ⟨b, off, c, hv, hc⟩
    · rw [hv] at hl; simp at hl
    · injection hv with e1 _ e3
      injection e1 with e1
      injection e1 with e1 e2
      subst e1 e2 e3
      exact ⟨g, cap, rfl, hle, by unfold maxLen at hm; omega, fun j hj => by have := hc j hj; rwa [Nat.zero_add] at this⟩

theorem near_no (w : World) (base B : Nat) (ev : List Int) (every most : Int) (T X : List Int) (gone : Int) (eV tV xV : Value) (t : Int) (h : St w base B ev every most T X gone eV tV xV) (hlen : T.length ≤ 1000) (hs : T.Pairwise (· ≤ ·)) (h0 : nb T t = 0) :
    Calls Try.prog 11 #[.pointer (some ⟨B, 0, none⟩), .int .i64 t] w (NearSays w T X t) := by
  obtain ⟨_, _, _, c3, _⟩ := h.cells
  have hc := Lib.hid (search_any tV T t w h.rt.view hlen hs)
  have hh := Lib.hid h0
  unfold nb at h0
  have hct : T.contains t = false := by
    cases hq : T.contains t with
    | false => rfl
    | true => rw [hq, if_pos rfl] at h0; omega
  have hcp : T.countP (· < t) = 0 := by omega
  rw [hct, hcp] at hc
  clear h0 hct hcp h
  go_enter Try.func11, Try.ntmps11
  go_wp2_with fail
  refine hc.out.mono ?_
  rintro e w' ⟨rfl, q, rfl⟩
  go_wp2_with fail
  go_ret3
  exact ⟨by rw [hh.out]; rfl, q, rfl⟩

theorem near_yes (w : World) (base B : Nat) (ev : List Int) (every most : Int) (T X : List Int) (gone : Int) (eV tV xV : Value) (t : Int) (h : St w base B ev every most T X gone eV tV xV) (hX : X.length = T.length) (hlen : T.length ≤ 1000) (hs : T.Pairwise (· ≤ ·)) (h0 : 0 < nb T t) :
    Calls Try.prog 11 #[.pointer (some ⟨B, 0, none⟩), .int .i64 t] w (NearSays w T X t) := by
  obtain ⟨_, _, _, c3, c4, _⟩ := h.cells
  have hn := nb_le T t
  have hc := Lib.hid (search_any tV T t w h.rt.view hlen hs)
  have hh : Hid (nb T t = T.countP (· < t) + if T.contains t then 1 else 0) := rfl
  have hp : Hid (∀ w' q, w' = w.drewN q → NearSays w T X t (.returned (.tuple #[.int .i64 (T.getD (nb T t - 1) 0), .int .i64 (X.getD (nb T t - 1) 0), .bool true])) w') := fun w' q hq => by
    refine ⟨?_, q, hq⟩
    rw [if_neg (by omega), if_neg (by omega), decide_eq_false (by omega)]
    rfl
  obtain ⟨gt, ct, rfl, lt1, lt2, ht⟩ := h.rt.cell_at (by omega)
  obtain ⟨gx, cx, rfl, lx1, lx2, hx⟩ := h.rx.cell_at (by omega)
  have k1 := ht (nb T t - 1) (by omega)
  have k2 := hx (nb T t - 1) (by omega)
  generalize T.getD (nb T t - 1) 0 = a at *
  generalize X.getD (nb T t - 1) 0 = b at *
  generalize nb T t = n at *
  generalize T.length = lt at *
  generalize X.length = lx at *
  obtain ⟨m, rfl⟩ : ∃ m, n = m + 1 := ⟨n - 1, by omega⟩
  rw [Nat.add_sub_cancel] at k1 k2
  clear h ht hx h0 hlen hs
  have t1 : (0 : Int) ≤ (m : Int) := by omega
  have t2 : (m : Int) < (lt : Int) := by omega
  have t3 : (m : Int) < (lx : Int) := by omega
  have t4 : (lx : Int) = lt := by omega
  cases hq : T.contains t with
  | true =>
    rw [hq] at hc
    have hm := hh.out
    rw [hq, if_pos rfl] at hm
    obtain rfl : m = T.countP (· < t) := by omega
    generalize T.countP (· < t) = m at *
    clear hh hq hm t4
    go_enter Try.func11, Try.ntmps11
    go_wp2_with fail
    refine hc.out.mono ?_
    rintro e w' ⟨rfl, q, rfl⟩
    go_wp2_with fail
    go_quiet (fail)
    go_wp2_with fail
    go_ret3
    exact hp.out _ (q + nq) (World.drewN_drewN _ _ _)
  | false =>
    rw [hq] at hc
    have hm := hh.out
    rw [hq, if_neg (by decide)] at hm
    have hm : T.countP (· < t) = m + 1 := by omega
    rw [hm] at hc
    clear hh hq hm t4
    have hw : ((m + 1 : Nat) : Int) = (m : Int) + 1 := by omega
    rw [hw] at hc
    clear hw
    go_enter Try.func11, Try.ntmps11
    go_wp2_with fail
    refine hc.out.mono ?_
    rintro e w' ⟨rfl, q, rfl⟩
    go_wp2_with fail
    go_quiet (fail)
    go_wp2_with fail
    go_ret3
    exact hp.out _ (q + nq) (World.drewN_drewN _ _ _)
end Go.Proofs.Ytkenbckagmjheaa
