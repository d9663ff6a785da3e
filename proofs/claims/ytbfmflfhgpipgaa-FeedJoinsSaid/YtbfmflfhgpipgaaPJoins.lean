/-
  Whatever was seen, in both and in a third: joining agrees with the reference, is the same in any order, and what is believed of more is believed of less or nothing was: the law FeedJoins returns true for every input, and its arguments read afterwards as before. No condition.
-/
import Derived.Test.YtbfmflfhgpipgaaE
import Derived.Test.YtbfmflfhgpipgaaM3
import Derived.ProofKit
import Derived.OpenShut
import Derived.ShutString
import Derived.ChangeOld
import Derived.Lib.SmallJoins
namespace Go.Proofs.Ytbfmflfhgpipgaa.lawFeedJoins
open Go.ChangeShapes Go.WideShapes Go.ChangeAt Go.RowKit Go.Joins
set_option linter.unusedVariables false

theorem own : ownKnob Try.prog.godebug = none := by kernel_rfl
theorem laidOut : laidOutB Try.prog = true := by kernel_rfl
theorem cells23 : Try.prog.cellsOf 23 = 4 := by kernel_rfl

/-- A value of api.Seen that came in, written out. -/
theorem open_seen {H : Type} {enc : TypeId × Value → H} {W : World} {r : Reach} {b0 base : Nat} {spare : Nat → Bool} {held : Bool} {v : Value} {d : DataW H} {p : List MemPlace} (hv : Value.okWide Try.prog W r b0 23 v) (h : DataW.Trod enc Try.prog W base spare held 23 v d p) :
    ∃ l rr y n : Int, v = .agg #[.int .u8 l, .int .u8 rr, .int .i64 y, .int .i64 n] ∧ (Lit.int .u8 l).wf = true ∧ (Lit.int .u8 rr).wf = true ∧ (Lit.int .i64 y).wf = true ∧ (Lit.int .i64 n).wf = true := by
  obtain ⟨c0, c1, c2, c3, y0, y1, y2, y3, m, hv, _, _, hy0, hy1, hy2, hy3⟩ := open_agg4 Try.underlying23 (by kernel_rfl) cells23 hv h
  obtain ⟨a, e0, _, wa⟩ := DataW.trod_int Try.underlying5 hy0
  obtain ⟨b, e1, _, wb⟩ := DataW.trod_int Try.underlying5 hy1
  obtain ⟨c, e2, _, wc⟩ := DataW.trod_int Try.underlying3 hy2
  obtain ⟨e, e3, _, we⟩ := DataW.trod_int Try.underlying3 hy3
  simp at e0 e1 e2 e3
  subst e0 e1 e2 e3
  exact ⟨a, b, c, e, hv, wa, wb, wc, we⟩

theorem law_joins (al ar ay an el er ey en cl cr cy cn : Int) (w : World) (al0 : 0 ≤ al ∧ al ≤ 255) (ar0 : 0 ≤ ar ∧ ar ≤ 255) (el0 : 0 ≤ el ∧ el ≤ 255) (er0 : 0 ≤ er ∧ er ≤ 255) (cl0 : 0 ≤ cl ∧ cl ≤ 255) (cr0 : 0 ≤ cr ∧ cr ≤ 255) :
    Calls Try.prog 4 #[.agg #[.int .u8 al, .int .u8 ar, .int .i64 ay, .int .i64 an], .agg #[.int .u8 el, .int .u8 er, .int .i64 ey, .int .i64 en], .agg #[.int .u8 cl, .int .u8 cr, .int .i64 cy, .int .i64 cn]] w fun e w' => e = .returned (.bool true) ∧ Below w.heap.size w w' := by
  have xl := orv_bd al el al0.1 al0.2 el0.1 el0.2
  have xr := orv_bd ar er ar0.1 ar0.2 er0.1 er0.2
  have zl := orv_bd el cl el0.1 el0.2 cl0.1 cl0.2
  have zr := orv_bd er cr er0.1 er0.2 cr0.1 cr0.2
  refine law_core al ar ay an el er ey en cl cr cy cn (orv al el) (orv ar er) (sm ay ey) (sm an en) (orv (orv al el) cl) (orv (orv ar er) cr) (sm (sm ay ey) cy) (sm (sm an en) cn) (orv el cl) (orv er cr) (sm ey cy) (sm en cn)
    (kd (orv al el)) (kd (orv ar er)) (way (sm ay ey) (sm an en)) (kd al) (kd ar) (way ay an) w ?_ ?_ ?_ ?_ ?_ ?_ ?_ ?_ (kd_join al el al0.1 al0.2) (kd_join ar er ar0.1 ar0.2) (way_join ay ey an en)
  · exact fun w => join_any _ _ _ _ _ _ _ _ w al0.1 al0.2 ar0.1 ar0.2 el0.1 el0.2 er0.1 er0.2
  · exact fun w => join_ref _ _ _ _ _ _ _ _ w al0.1 al0.2 ar0.1 ar0.2 el0.1 el0.2 er0.1 er0.2
  · rw [orv_comm al, orv_comm ar, sm_comm ay, sm_comm an]
    exact fun w => join_any _ _ _ _ _ _ _ _ w el0.1 el0.2 er0.1 er0.2 al0.1 al0.2 ar0.1 ar0.2
  · exact fun w => join_any _ _ _ _ _ _ _ _ w xl.1 xl.2 xr.1 xr.2 cl0.1 cl0.2 cr0.1 cr0.2
  · exact fun w => join_any _ _ _ _ _ _ _ _ w el0.1 el0.2 er0.1 er0.2 cl0.1 cl0.2 cr0.1 cr0.2
  · rw [orv_assoc, orv_assoc, sm_assoc, sm_assoc]
    exact fun w => join_any _ _ _ _ _ _ _ _ w al0.1 al0.2 ar0.1 ar0.2 zl.1 zl.2 zr.1 zr.2
  · exact fun w => hint_sz _ _ _ _ w xl.1 xl.2 xr.1 xr.2
  · exact fun w => hint_sz _ _ _ _ w al0.1 al0.2 ar0.1 ar0.2

set_option maxRecDepth 100000 in
theorem lifted (os : Os) (started : os.Started) (H : Type) (enc : TypeId × Value → H) :
    ReturnsInHanded {} Try.checked os 4 .any (Rows.feedJoinsSpec.pre6 enc Try.prog Try.f4 Rows.feedJoinsRow.domain false) (Rows.feedJoinsSpec.post enc Try.prog Try.f4 false true false false) := by
  refine returnsInHanded_of_change (C := Try.checked) own started (by kernel_rfl) Try.func4
    (ChangeSpec.witness6 (enc := enc) (C := Try.checked) false ⟨#[], #[.agg #[.int .u8 0, .int .u8 0, .int .i64 0, .int .i64 0], .agg #[.int .u8 0, .int .u8 0, .int .i64 0, .int .i64 0], .agg #[.int .u8 0, .int .u8 0, .int .i64 0, .int .i64 0]], []⟩ 8 (by kernel_rfl) (by kernel_rfl) (by kernel_rfl) (by kernel_rfl)) ?_
  intro W base args ds gs before hval0 hW hcnd _
  have hval : ∀ (j : Nat) t v, Try.f4.params[j]? = some t → args[j]? = some v → Value.okWide Try.prog W .any base t v := hval0
  have hW' := hW
  obtain ⟨p, q, hA0, hV, rfl, hfz, hnd⟩ := hW
  have hA : DataW.TrodAll enc Try.prog W 0 (fun _ => true) true Try.f4.params.toList args.toList ds p := hA0
  rw [Try.params4] at hA hval
  obtain ⟨v0, vs0, d0, ds0, p0, q0, hargs, rfl, rfl, h0, r0⟩ := trodAll_cons hA
  obtain ⟨v1, vs1, d1, ds1, p1, q1, rfl, rfl, rfl, h1, r1⟩ := trodAll_cons r0
  obtain ⟨v2, vs2, d2, ds2, p2, q2, rfl, rfl, rfl, h2, r2⟩ := trodAll_cons r1
  obtain ⟨rfl, rfl, rfl⟩ := trodAll_nil r2
  obtain rfl : args = #[v0, v1, v2] := by cases args; simp_all
  obtain ⟨rfl, rfl⟩ := trodVars_none hV
  have lt0 : ∀ x ∈ p0, x.block < W.heap.size := by obtain ⟨m, hm⟩ := h0; exact DataW.trod_lt m _ _ _ hm
  have lt1 : ∀ x ∈ p1, x.block < W.heap.size := by obtain ⟨m, hm⟩ := h1; exact DataW.trod_lt m _ _ _ hm
  have lt2 : ∀ x ∈ p2, x.block < W.heap.size := by obtain ⟨m, hm⟩ := h2; exact DataW.trod_lt m _ _ _ hm
  obtain ⟨al, ar, ay, an, rfl, wal, war, _, _⟩ := open_seen (hval 0 23 v0 rfl rfl) h0
  obtain ⟨el, er, ey, en, rfl, wel, wer, _, _⟩ := open_seen (hval 1 23 v1 rfl rfl) h1
  obtain ⟨cl, cr, cy, cn, rfl, wcl, wcr, _, _⟩ := open_seen (hval 2 23 v2 rfl rfl) h2
  clear hA0 hval0
  refine (law_joins al ar ay an el er ey en cl cr cy cn W (bounds_u8 wal) (bounds_u8 war) (bounds_u8 wel) (bounds_u8 wer) (bounds_u8 wcl) (bounds_u8 wcr)).mono fun e W' ⟨he, bel⟩ => ?_
  subst he
  exact ⟨_, rfl, _, _, _, [], _, [], hW', trodAll_mk1 (shut_bool Try.underlying4 _), (trodAll_cons_mk (Below.trod laidOut (by kernel_rfl) (of_decide_eq_true (by kernel_rfl)) h0 bel lt0) (trodAll_cons_mk (Below.trod laidOut (by kernel_rfl) (of_decide_eq_true (by kernel_rfl)) h1 bel lt1) (trodAll_cons_mk (Below.trod laidOut (by kernel_rfl) (of_decide_eq_true (by kernel_rfl)) h2 bel lt2) trodAll_mk0))), rfl, bel.frame _, fun h => by cases h⟩

theorem over : Rows.feedJoinsRow.holds Try.pinned (OpenSpec.ofChange Rows.feedJoinsSpec) :=
  OpenClaim.holds_of_wide 4 Try.f4 rfl rfl rfl rfl rfl rfl rfl ⟨rfl, rfl, rfl, rfl, rfl⟩ rfl rfl rfl rfl rfl (by kernel_rfl) Try.func4 (by kernel_rfl)
    (of_decide_eq_true (by kernel_rfl)) (by unfold Func.isWrapper; first | (rw [if_pos (by decide +kernel)]; kernel_rfl) | (rw [if_neg (by decide +kernel)]; exact ⟨rfl, rfl⟩))
    (fun os started H enc _ => lifted os started H enc)

/-- THE STATEMENT. -/
theorem proved : Rows.FeedJoinsSaid := over
#print axioms proved
end Go.Proofs.Ytbfmflfhgpipgaa.lawFeedJoins
