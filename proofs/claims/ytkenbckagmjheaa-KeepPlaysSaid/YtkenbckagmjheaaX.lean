import Derived.Test.YtkenbckagmjheaaW
namespace Go.Proofs.Ytkenbckagmjheaa
open Go.RowKit

def Yes (w : World) : Ending → World → Prop := fun e w' => e = .returned (.bool true) ∧ Below w.heap.size w w'

set_option maxHeartbeats 1000000 in
set_option maxRecDepth 100000 in
theorem awake_any (w : World) : Calls Try.prog 8 #[] w (Yes w) := by
  have cN := Lib.hid (new_yes 10 2 (.slice none 0 0) [] w (by decide) (by decide) (by decide) (by decide) (.inl ⟨none, 0, rfl, rfl⟩) (by decide))
  go_enter Try.func8, Try.ntmps8
  go_wp2_with fail
  refine cN.out.mono ?_
  rintro e w1 ⟨B, eV, rfl, S, hb⟩
  have hz := hb.size
  have hb := Lib.hid hb
  have cP := put_few w1 w.heap.size B [] 10 2 [] [] 0 eV _ _ 0 1 S hz rfl (by decide) List.Pairwise.nil (by decide) (by decide) (by decide) rfl (by decide)
  rw [show ins ([] : List Int) (([] : List Int).countP (· < 0)) 0 = [0] from rfl, show ins ([] : List Int) (([] : List Int).countP (· < 0)) 1 = [1] from rfl] at cP
  have cP := Lib.hid cP
  clear S cN
  go_wp2_with fail
  refine cP.out.mono ?_
  rintro e w2 ⟨rfl, t2, x2, S, P⟩
  have P := Lib.hid P
  have hz2 : w.heap.size ≤ w2.heap.size := Nat.le_trans hz P.out.size
  have cQ := put_few w2 w.heap.size B [] 10 2 [0] [1] 0 eV _ _ 10 2 S hz2 rfl (by decide) (by decide) (by decide) (by decide) (by decide) rfl (by decide)
  rw [show ins [(0 : Int)] ([(0 : Int)].countP (· < 10)) 10 = [0, 10] by decide, show ins [(1 : Int)] ([(0 : Int)].countP (· < 10)) 2 = [1, 2] by decide] at cQ
  have cQ := Lib.hid cQ
  clear S cP
  go_wp2_with fail
  refine cQ.out.mono ?_
  rintro e w3 ⟨rfl, t3, x3, S, P2⟩
  have P := Lib.hid (P.out.trans P2)
  have hz3 : w.heap.size ≤ w3.heap.size := Nat.le_trans hz P.out.size
  have cR := put_drop w3 w.heap.size B [] 10 2 [0, 10] [1, 2] 0 eV _ _ 20 3 S hz3 rfl (by decide) (by decide) (by decide) (by decide) (by decide) rfl (by decide) (by decide) (by decide) (by decide) (by decide)
  rw [show ins [(0 : Int), 10] ([(0 : Int), 10].countP (· < 20)) 20 = [0, 10, 20] by decide, show ins [(1 : Int), 2] ([(0 : Int), 10].countP (· < 20)) 3 = [1, 2, 3] by decide, show dropAt [0, 10, 20] [] 0 = 1 by decide] at cR
  have cR := Lib.hid cR
  clear S cQ P2
  go_wp2_with fail
  refine cR.out.mono ?_
  rintro e w4 ⟨rfl, t4, x4, S, P2⟩
  have P := Lib.hid (P.out.trans P2)
  have hz4 : w.heap.size ≤ w4.heap.size := Nat.le_trans hz P.out.size
  rw [show del [(0 : Int), 10, 20] 1 = [0, 20] from rfl, show del [(1 : Int), 2, 3] 1 = [1, 3] from rfl] at S
  have cT := Lib.hid (times_any w4 w.heap.size B [] 10 2 [0, 20] [1, 3] (0 + 1) eV t4 x4 S (by decide))
  have hS := Lib.hid S
  have hB1 := S.hB
  clear S cR P2
  go_wp2_with fail
  refine cT.out.mono ?_
  rintro e w5 ⟨v, rfl, hr, hb5⟩
  obtain ⟨g, cap, rfl, q1, q2, qc⟩ := hr.cell_at (by decide)
  have r0 := qc 0 (by decide)
  have r1 := qc 1 (by decide)
  have cG0 := Lib.hid (gone_any w5 w.heap.size B [] 10 2 [0, 20] [1, 3] (0 + 1) eV t4 x4 (hS.out.below hb5))
  have hb5 := Lib.hid hb5
  clear qc hr hS cT
  go_wp2_with fail
  refine cG0.out.mono ?_
  rintro e w6 ⟨rfl, rfl⟩
  go_wp2_with fail
  go_ret
  refine ⟨rfl, (hb.out.trans (P.out.below hz hB1 (fun k hk => by cases hk) (fun k hk => by cases hk))).trans (hb5.out.mono hz4)⟩

theorem behind_nil (t : Int) (w : World) : Calls Try.prog 14 #[.pointer none, .int .i64 t] w fun e w' => e = .returned (.tuple #[]) ∧ w = w' := by
  go_enter Try.func14, Try.ntmps14
  go_wp2_with fail
  (try simp only [Exit.inBlock, Exit.then])
  refine bodyPost_ret (results_none rfl _ _ _) rfl ?_
  exact ⟨rfl, rfl⟩

theorem nil_law (t x : Int) (w : World) : Calls Try.prog 6 #[.int .i64 t, .int .i64 x] w (Yes w) := by
  go_enter Try.func6, Try.ntmps6
  go_wp2_with fail
  refine (put_nil t x w).mono ?_
  rintro e w1 ⟨rfl, q, rfl⟩
  have hb : Below w.heap.size w (w.drewN q) := ⟨rfl, rfl, rfl, Nat.le_refl _, fun _ _ => rfl⟩
  generalize w.drewN q = w1 at *
  go_wp2_with fail
  refine (behind_nil t _).mono ?_
  rintro e w2 ⟨rfl, rfl⟩
  go_wp2_with fail
  refine (near_nil t _).mono ?_
  rintro e w2 ⟨rfl, rfl⟩
  go_wp2_with fail
  refine (times_nil _).mono ?_
  rintro e w2 ⟨rfl, rfl⟩
  go_wp2_with fail
  refine (gone_nil _).mono ?_
  rintro e w2 ⟨rfl, rfl⟩
  go_wp2_with fail
  refine (awake_any _).mono ?_
  rintro e w2 ⟨rfl, hb2⟩
  go_wp2_with fail
  go_ret
  exact ⟨rfl, hb.trans (hb2.mono hb.size)⟩
end Go.Proofs.Ytkenbckagmjheaa
