/-
  The hints of a function's instructions, of whatever code and whatever was seen, or the error, are the reference's: the law FeedAll returns true for every input (slices nil or not, memory shared or not), and its arguments read afterwards as before. No condition.
-/
import Derived.Test.YtbfmflfhgpipgaaU
namespace Go.Proofs.Ytbfmflfhgpipgaa.lawFeedAll
open Go.ChangeShapes Go.WideShapes Go.ChangeAt Go.RowKit Go.Joins Go.Deep
set_option linter.unusedVariables false

theorem own : ownKnob Try.prog.godebug = none := by kernel_rfl
theorem laidOut : laidOutB Try.prog = true := by kernel_rfl

theorem law_all (ai af as' sa : Option Addr) (k1 k2 k3 k4 : Nat) (c : CodeD) (f : Int) (s : SeenD) (w : World) (hc : CodeAt w w.heap.size ai af as' c) (hs : SeenAt w w.heap.size sa k4 s) : LawAll ai af as' sa k1 k2 k3 k4 c f s w := by
  by_cases hg : GreatP c
  · exact law_all_great ai af as' sa k1 k2 k3 k4 c f s w hc hg
  by_cases hl : 1500 < s.n
  · exact law_all_long ai af as' sa k1 k2 k3 k4 c f s w hc hg hl
  by_cases ha : s.n ≠ c.ni ∨ ¬ MayP c
  · exact law_all_arg ai af as' sa k1 k2 k3 k4 c f s w hc hg (by omega) ha
  have hn : s.n = c.ni := Decidable.byContradiction fun h => ha (.inl h)
  have hm : MayP c := Classical.byContradiction fun h => ha (.inr h)
  by_cases hf : f < 0 ∨ (c.nf : Int) ≤ f
  · exact law_all_none ai af as' sa k1 k2 k3 k4 c f s w hc hg (by omega) hn hm hf
  obtain ⟨k, rfl⟩ := Int.eq_ofNat_of_zero_le (show 0 ≤ f by omega)
  exact law_all_ok ai af as' sa k1 k2 k3 k4 c s w hc hg hn hm hs k (by omega)

set_option maxRecDepth 100000 in
theorem lifted (os : Os) (started : os.Started) (H : Type) (enc : TypeId × Value → H) :
    ReturnsInHanded {} Try.checked os 6 .any (Rows.feedAllSpec.pre6 enc Try.prog Try.f6 Rows.feedAllRow.domain false) (Rows.feedAllSpec.post enc Try.prog Try.f6 false true false false) := by
  refine returnsInHanded_of_change (C := Try.checked) own started (by kernel_rfl) Try.func6
    (ChangeSpec.witness6 (enc := enc) (C := Try.checked) false ⟨#[], #[.agg #[.slice none 0 0, .slice none 0 0, .slice none 0 0], .int .i64 0, .slice none 0 0], []⟩ 8 (by kernel_rfl) (by kernel_rfl) (by kernel_rfl) (by kernel_rfl)) ?_
  intro W base args ds gs before hval0 hW hcnd _
  have hval : ∀ (j : Nat) t v, Try.f6.params[j]? = some t → args[j]? = some v → Value.okWide Try.prog W .any base t v := hval0
  have hW' := hW
  obtain ⟨p, q, hA0, hV, rfl, hfz, hnd⟩ := hW
  have hA : DataW.TrodAll enc Try.prog W 0 (fun _ => true) true Try.f6.params.toList args.toList ds p := hA0
  rw [Try.params6] at hA hval
  obtain ⟨v0, vs0, d0, ds0, p0, q0, hargs, rfl, rfl, h0, r0⟩ := trodAll_cons hA
  obtain ⟨v1, vs1, d1, ds1, p1, q1, rfl, rfl, rfl, h1, r1⟩ := trodAll_cons r0
  obtain ⟨v2, vs2, d2, ds2, p2, q2, rfl, rfl, rfl, h2, r2⟩ := trodAll_cons r1
  obtain ⟨rfl, rfl, rfl⟩ := trodAll_nil r2
  obtain rfl : args = #[v0, v1, v2] := by cases args; simp_all
  obtain ⟨rfl, rfl⟩ := trodVars_none hV
  have lt0 : ∀ x ∈ p0, x.block < W.heap.size := by obtain ⟨m, hm⟩ := h0; exact DataW.trod_lt m _ _ _ hm
  have lt2 : ∀ x ∈ p2, x.block < W.heap.size := by obtain ⟨m, hm⟩ := h2; exact DataW.trod_lt m _ _ _ hm
  obtain ⟨ai, af, as', k1, k2, k3, c, rfl, hc⟩ := open_code (hval 0 40 v0 rfl rfl) h0
  obtain ⟨f, rfl, rfl, rfl, wf⟩ := open_int Try.underlying3 (hval 1 3 v1 rfl rfl) h1
  obtain ⟨sa, sn, sk, rfl⟩ := okWide_slice Try.underlying41 (hval 2 41 v2 rfl rfl)
  have hs : ∃ (s : SeenD), s.n = sn ∧ SeenAt W W.heap.size sa sk s := by
    obtain ⟨m, hm⟩ := h2
    obtain ⟨sa', k', s, e, hs⟩ := open_seens hm
    simp [Value.cells] at e
    obtain ⟨rfl, rfl, rfl⟩ := e
    exact ⟨s, rfl, hs⟩
  obtain ⟨s, rfl, hs⟩ := hs
  clear hA0 hval0
  refine (law_all ai af as' sa k1 k2 k3 sk c f s W hc hs).mono fun e W' ⟨he, bel⟩ => ?_
  subst he
  exact ⟨_, rfl, _, _, _, [], _, [], hW', trodAll_mk1 (shut_bool Try.underlying4 _), (trodAll_cons_mk (Below.trod laidOut (by kernel_rfl) (of_decide_eq_true (by kernel_rfl)) h0 bel lt0) (trodAll_cons_mk (shut_int Try.underlying3 wf) (trodAll_cons_mk (Below.trod laidOut (by kernel_rfl) (of_decide_eq_true (by kernel_rfl)) h2 bel lt2) trodAll_mk0))), rfl, bel.frame _, fun h => by cases h⟩

theorem over : Rows.feedAllRow.holds Try.pinned (OpenSpec.ofChange Rows.feedAllSpec) :=
  OpenClaim.holds_of_wide 6 Try.f6 rfl rfl rfl rfl rfl rfl rfl ⟨rfl, rfl, rfl, rfl, rfl⟩ rfl rfl rfl rfl rfl (by kernel_rfl) Try.func6 (by kernel_rfl)
    (of_decide_eq_true (by kernel_rfl)) (by unfold Func.isWrapper; first | (rw [if_pos (by decide +kernel)]; kernel_rfl) | (rw [if_neg (by decide +kernel)]; exact ⟨rfl, rfl⟩))
    (fun os started H enc _ => lifted os started H enc)

/-- THE STATEMENT. -/
theorem proved : Rows.FeedAllSaid := over
#print axioms proved
end Go.Proofs.Ytbfmflfhgpipgaa.lawFeedAll
