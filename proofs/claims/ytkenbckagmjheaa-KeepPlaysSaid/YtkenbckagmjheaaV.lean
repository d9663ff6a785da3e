import Derived.Test.YtkenbckagmjheaaU
import Derived.Deep.DeepCutAuto
import Derived.Deep.DeepMust
namespace Go.Proofs.Ytkenbckagmjheaa
open Go.RowKit

/-- Which of the numbers is up. -/
def evAt (ev : List Int) (gone : Int) : Int := if ev.length = 0 then 0 else ev.getD (gone.toNat % ev.length) 0
def fromOf (T : List Int) : Nat := if T.getD 0 0 = 0 then 1 else 0
/-- The place that goes. -/
def dropAt (T ev : List Int) (gone : Int) : Nat := fromOf T + (evAt ev gone % ((T.length - fromOf T : Nat) : Int)).toNat
def del {α : Type} (l : List α) (j : Nat) : List α := l.take j ++ l.drop (j + 1)

theorem emod_cases (k n : Int) (hn : 0 < n) : k % n = if k.tmod n < 0 then k.tmod n + n else k.tmod n := by
  have h1 := Int.emod_nonneg k (by omega : n ≠ 0)
  have h2 := Int.emod_lt_of_pos k hn
  rw [Int.tmod_eq_emod]
  split <;> split <;> omega

/-- What a method leaves. -/
def Left (r : Value) (w : World) (base B : Nat) (ev : List Int) (every most : Int) (T X : List Int) (gone : Int) (eV tV xV : Value) : Ending → World → Prop := fun e w' =>
  e = .returned r ∧ ∃ tV' xV', St w' base B ev every most T X gone eV tV' xV' ∧ Step B tV xV tV' xV' w w'

theorem grown_cell {w w' : World} {row : Option Nat} (h : w.grownBy w' row) (B o : Nat) (hB : B < w.heap.size) (hn : row ≠ some B) : w'.cell? ⟨B, o, none⟩ = w.cell? ⟨B, o, none⟩ ∧ w'.frozen? ⟨B, o, none⟩ = w.frozen? ⟨B, o, none⟩ :=
  ⟨World.cell?_of_block (h.block B hB (fun e => hn e.symm)), World.frozen?_of_block (h.block B hB (fun e => hn e.symm))⟩

/-- The row of numbers, read at a place that is counted round. -/
theorem ev_cell {w : World} {base : Nat} {v : Value} {ev : List Int} {gone : Int} (h : Row w base v ev) (hg0 : 0 ≤ gone) (hl : 0 < ev.length) :
    ∃ g c m, v = .slice (some ⟨g, 0, none⟩) ev.length c ∧ ev.length ≤ c ∧ (c : Int) ≤ 9223372036854775807 ∧ m < ev.length ∧ gone.tmod (ev.length : Int) = (m : Int) ∧ gone % (ev.length : Int) = (m : Int) ∧ w.cell? ⟨g, m, none⟩ = some (.int .i64 (evAt ev gone)) := by
  obtain ⟨g, c, rfl, h1, h2, hc⟩ := h.cell_at hl
  have hlt := Nat.mod_lt gone.toNat hl
  obtain ⟨n, rfl⟩ : ∃ n : Nat, gone = (n : Int) := ⟨gone.toNat, by omega⟩
  rw [Int.toNat_natCast] at hlt
  refine ⟨g, c, n % ev.length, rfl, h1, h2, hlt, ?_, ?_, ?_⟩
  · rw [Int.tmod_eq_emod_of_nonneg hg0]; exact (Int.natCast_emod n ev.length).symm
  · exact (Int.natCast_emod n ev.length).symm
  · rw [hc _ hlt]; unfold evAt; rw [if_neg (by omega), Int.toNat_natCast]

theorem dropJ {K : Int} {L F J : Nat} (hF : F < L) (hd : J = F + (K % ((L - F : Nat) : Int)).toNat) : J < L ∧ ((F : Int) + (if K.tmod ((L : Int) - F) < 0 then K.tmod ((L : Int) - F) + ((L : Int) - F) else K.tmod ((L : Int) - F)) = (J : Int)) := by
  have e : ((L - F : Nat) : Int) = (L : Int) - F := by omega
  rw [e] at hd
  have h1 := Int.emod_nonneg K (by omega : (L : Int) - F ≠ 0)
  have h2 := Int.emod_lt_of_pos K (by omega : 0 < (L : Int) - F)
  rw [← emod_cases K _ (by omega)]
  omega

set_option maxHeartbeats 2000000 in
set_option maxRecDepth 100000 in
/-- The end of drop: both rows give up a place, the count goes up. -/
theorem drop_any (w : World) (base B : Nat) (ev : List Int) (every most : Int) (T X : List Int) (gone : Int) (eV tV xV : Value) (h : St w base B ev every most T X gone eV tV xV) (hX : X.length = T.length) (hT : 2 ≤ T.length) (hlen : T.length ≤ 1000) (hg0 : 0 ≤ gone) (hg1 : gone ≤ 1000000)
    (hev : ev.length ≤ 140737488355328) :
    Calls Try.prog 22 #[.pointer (some ⟨B, 0, none⟩)] w (Left (.tuple #[]) w base B ev every most (del T (dropAt T ev gone)) (del X (dropAt T ev gone)) (gone + 1) eV tV xV) := by
  obtain ⟨_, _, c2, c3, c4, c5, fz⟩ := h.cells
  obtain ⟨gt, ct, htV, lt1, lt2, ht⟩ := h.rt.cell_at (by omega)
  have k0 := ht 0 (by omega)
  have hf : Hid (fromOf T = if T.getD 0 0 = 0 then 1 else 0) := rfl
  have hf1 : fromOf T ≤ 1 := by unfold fromOf; split <;> omega
  have hd : Hid (dropAt T ev gone = fromOf T + (evAt ev gone % ((T.length - fromOf T : Nat) : Int)).toNat) := rfl
  have hlT : (2 : Int) ≤ (T.length : Int) := by omega
  have hlT2 : (T.length : Int) ≤ 1000 := by omega
  have hsT : Hid (w = w) := rfl
  subst htV
  generalize dropAt T ev gone = J at *
  generalize fromOf T = F at *
  have H := Lib.hid h
  have HX := Lib.hid hX
  clear ht hX hT hlen
  by_cases he : 0 < ev.length
  · obtain ⟨ge, ce, m, heV, le1, le2, hm, e1, e2, kc⟩ := ev_cell h.re hg0 he
    subst heV
    generalize evAt ev gone = K at *
    generalize T.getD 0 0 = t0 at *
    clear h
    have he' : (0 : Int) < (ev.length : Int) := by omega
    have m0 : (0 : Int) ≤ (m : Int) := by omega
    have m1 : (m : Int) < (ev.length : Int) := by omega
    go_enter Try.func22, Try.ntmps22
    go_upto_if 11 with fail
    go_cut [2] (fun s2 wx => s2 = .int .i64 (F : Int) ∧ wx = w)
    case first =>
      by_cases h0 : t0 = 0
      · have hF : F = 1 := by rw [hf.out, if_pos h0]
        subst hF h0
        go_wp2_with fail
        go_meet
        exact ⟨rfl, rfl⟩
      · have hF : F = 0 := by rw [hf.out, if_neg h0]
        subst hF
        have h0' : (t0 == 0) = false := beq_eq_false_iff_ne.2 h0
        clear h0
        go_wp2_with fail
        go_meet
        exact ⟨rfl, rfl⟩
    case rest =>
    obtain ⟨rfl, rfl⟩ := hcut
    obtain ⟨w0, hw0⟩ : ∃ w0, w0 = wc := ⟨_, rfl⟩
    subst hw0
    go_upto_if 17 with fail
    go_cut [3] (fun s3 wx => s3 = .int .i64 K ∧ ∃ q, wx = w0.drewN q)
    case first =>
      go_wp2_with fail
      go_quiet (fail)
      go_wp2_with fail
      go_meet
      exact ⟨rfl, _, rfl⟩
    case rest =>
      obtain ⟨rfl, q, rfl⟩ := hcut
      clear k0 e1 e2 kc hf
      have hFN : (F : Int) ≤ 1 := by omega
      have hF0 : (0 : Int) ≤ (F : Int) := by omega
      have b1 : -((T.length : Int) - F) < K.tmod ((T.length : Int) - F) := Int.lt_tmod_of_pos _ (by omega)
      have b2 : K.tmod ((T.length : Int) - F) < (T.length : Int) - F := Int.tmod_lt_of_pos _ (by omega)
      obtain ⟨hJ, hJ2⟩ := dropJ (by omega) hd.out
      clear hd
      have S0 := H.out.drewN q
      have HB := S0.lt
      clear H
      have hstep := Lib.hid (Step.drewN B (.slice (some ⟨gt, 0, none⟩) T.length ct) xV w0 q)
      generalize w0.drewN q = w1 at *
      have c3 := S0.cells.2.2.2.1
      have c4 := S0.cells.2.2.2.2.1
      have c5 := S0.cells.2.2.2.2.2.1
      have fz := S0.cells.2.2.2.2.2.2
      have HS := Lib.hid S0
      by_cases hk : K.tmod ((T.length : Int) - F) < 0
      · rw [if_pos hk] at hJ2
        have hJ3 := Lib.hid hJ2
        have cD := delete_any base _ T J w1 S0.rt hJ
        rw [← hJ2] at cD
        have cD := Lib.hid cD
        clear S0 hJ2
        go_wp2_with fail
        refine cD.out.mono ?_
        rintro e w2 ⟨v2, rfl, hr, hg, hn⟩
        obtain ⟨a2, n2, k2, rfl⟩ := hr.slice
        have S1 := HS.out.put_t hg hr hn
        have P1 := Lib.hid ((Step.grown_t (B := B) (xV := xV) hg hn).trans (Step.store B _ _ w2 3 (.slice a2 n2 k2)))
        have d3 := (grown_cell hg B 3 HB HS.out.ot).1.trans c3
        have f3 := (grown_cell hg B 3 HB HS.out.ot).2.trans (fz 3)
        have d4 := (grown_cell hg B 4 HB HS.out.ot).1.trans c4
        have HB1 := S1.lt
        have e4 := S1.cells.2.2.2.2.1
        have e5 := S1.cells.2.2.2.2.2.1
        have ef := S1.cells.2.2.2.2.2.2
        have HS1 := Lib.hid S1
        have cX := delete_any base _ X J _ S1.rx (by rw [HX.out]; exact hJ)
        rw [← hJ3.out] at cX
        have cX := Lib.hid cX
        clear S1 hr hg hn c3 c4 c5 fz HS cD
        go_wp2_with fail
        refine cX.out.mono ?_
        rintro e w4 ⟨v4, rfl, hr, hg, hn⟩
        obtain ⟨a4, n4, k4, rfl⟩ := hr.slice
        have S2 := (HS1.out.put_x hg hr hn).put_g (g' := gone + 1)
        have P2 := Lib.hid (P1.out.trans ((Step.grown_x (B := B) hg hn).trans ((Step.store B _ _ w4 4 (.slice a4 n4 k4)).trans (Step.store B _ _ _ 5 (.int .i64 (gone + 1))))))
        have g4 := (grown_cell hg B 4 HB1 HS1.out.ox).1.trans e4
        have g4f := (grown_cell hg B 4 HB1 HS1.out.ox).2.trans (ef 4)
        have g5 := (grown_cell hg B 5 HB1 HS1.out.ox).1.trans e5
        have g5f := (grown_cell hg B 5 HB1 HS1.out.ox).2.trans (ef 5)
        have HS2 := Lib.hid S2
        clear S2 hr hg hn e4 e5 ef HS1 cX P1 d3 f3 d4
        go_wp2_with fail
        go_end0
        exact ⟨rfl, _, _, HS2.out, hstep.out.trans P2.out⟩
      · rw [if_neg hk] at hJ2
        have hJ3 := Lib.hid hJ2
        have cD := delete_any base _ T J w1 S0.rt hJ
        rw [← hJ2] at cD
        have cD := Lib.hid cD
        clear S0 hJ2
        go_wp2_with fail
        refine cD.out.mono ?_
        rintro e w2 ⟨v2, rfl, hr, hg, hn⟩
        obtain ⟨a2, n2, k2, rfl⟩ := hr.slice
        have S1 := HS.out.put_t hg hr hn
        have P1 := Lib.hid ((Step.grown_t (B := B) (xV := xV) hg hn).trans (Step.store B _ _ w2 3 (.slice a2 n2 k2)))
        have d3 := (grown_cell hg B 3 HB HS.out.ot).1.trans c3
        have f3 := (grown_cell hg B 3 HB HS.out.ot).2.trans (fz 3)
        have d4 := (grown_cell hg B 4 HB HS.out.ot).1.trans c4
        have HB1 := S1.lt
        have e4 := S1.cells.2.2.2.2.1
        have e5 := S1.cells.2.2.2.2.2.1
        have ef := S1.cells.2.2.2.2.2.2
        have HS1 := Lib.hid S1
        have cX := delete_any base _ X J _ S1.rx (by rw [HX.out]; exact hJ)
        rw [← hJ3.out] at cX
        have cX := Lib.hid cX
        clear S1 hr hg hn c3 c4 c5 fz HS cD
        go_wp2_with fail
        refine cX.out.mono ?_
        rintro e w4 ⟨v4, rfl, hr, hg, hn⟩
        obtain ⟨a4, n4, k4, rfl⟩ := hr.slice
        have S2 := (HS1.out.put_x hg hr hn).put_g (g' := gone + 1)
        have P2 := Lib.hid (P1.out.trans ((Step.grown_x (B := B) hg hn).trans ((Step.store B _ _ w4 4 (.slice a4 n4 k4)).trans (Step.store B _ _ _ 5 (.int .i64 (gone + 1))))))
        have g4 := (grown_cell hg B 4 HB1 HS1.out.ox).1.trans e4
        have g4f := (grown_cell hg B 4 HB1 HS1.out.ox).2.trans (ef 4)
        have g5 := (grown_cell hg B 5 HB1 HS1.out.ox).1.trans e5
        have g5f := (grown_cell hg B 5 HB1 HS1.out.ox).2.trans (ef 5)
        have HS2 := Lib.hid S2
        clear S2 hr hg hn e4 e5 ef HS1 cX P1 d3 f3 d4
        go_wp2_with fail
        go_end0
        exact ⟨rfl, _, _, HS2.out, hstep.out.trans P2.out⟩
  · have he0 : ev.length = 0 := by omega
    have hK : evAt ev gone = 0 := by unfold evAt; rw [if_pos he0]
    rw [hK] at hd
    generalize T.getD 0 0 = t0 at *
    obtain ⟨ae, ce, heV⟩ : ∃ a c, eV = .slice a 0 c := by
      rcases h.re.form with ⟨rfl, _⟩ | ⟨g, cap, L, rfl, _⟩
      · exact ⟨none, 0, rfl⟩
      · exact ⟨some ⟨g, 0, none⟩, cap, by rw [he0]⟩
    subst heV
    clear h he he0 hev
    go_enter Try.func22, Try.ntmps22
    go_upto_if 11 with fail
    go_cut [2] (fun s2 wx => s2 = .int .i64 (F : Int) ∧ wx = w)
    case first =>
      by_cases h0 : t0 = 0
      · have hF : F = 1 := by rw [hf.out, if_pos h0]
        subst hF h0
        go_wp2_with fail
        go_meet
        exact ⟨rfl, rfl⟩
      · have hF : F = 0 := by rw [hf.out, if_neg h0]
        subst hF
        have h0' : (t0 == 0) = false := beq_eq_false_iff_ne.2 h0
        clear h0
        go_wp2_with fail
        go_meet
        exact ⟨rfl, rfl⟩
    case rest =>
    obtain ⟨rfl, rfl⟩ := hcut
    obtain ⟨w1, hw1⟩ : ∃ w1, w1 = wc := ⟨_, rfl⟩
    subst hw1
    clear k0 hf
    have hFN : (F : Int) ≤ 1 := by omega
    have hF0 : (0 : Int) ≤ (F : Int) := by omega
    have hJF : J = F := by rw [hd.out]; simp
    subst hJF
    have hJ : J < T.length := by omega
    clear hd
    have S0 := H.out
    have HB := S0.lt
    clear H
    have hstep := Lib.hid (Step.refl B (.slice (some ⟨gt, 0, none⟩) T.length ct) xV w1)
    have HS := Lib.hid S0
    have cD := Lib.hid (delete_any base _ T J w1 S0.rt hJ)
    clear S0
    go_wp2_with fail
    refine cD.out.mono ?_
    rintro e w2 ⟨v2, rfl, hr, hg, hn⟩
    obtain ⟨a2, n2, k2, rfl⟩ := hr.slice
    have S1 := HS.out.put_t hg hr hn
    have P1 := Lib.hid ((Step.grown_t (B := B) (xV := xV) hg hn).trans (Step.store B _ _ w2 3 (.slice a2 n2 k2)))
    have d3 := (grown_cell hg B 3 HB HS.out.ot).1.trans c3
    have f3 := (grown_cell hg B 3 HB HS.out.ot).2.trans (fz 3)
    have d4 := (grown_cell hg B 4 HB HS.out.ot).1.trans c4
    have HB1 := S1.lt
    have e4 := S1.cells.2.2.2.2.1
    have e5 := S1.cells.2.2.2.2.2.1
    have ef := S1.cells.2.2.2.2.2.2
    have HS1 := Lib.hid S1
    have cX := delete_any base _ X J _ S1.rx (by rw [HX.out]; exact hJ)
    have cX := Lib.hid cX
    clear S1 hr hg hn c3 c4 c5 fz HS cD
    go_wp2_with fail
    refine cX.out.mono ?_
    rintro e w4 ⟨v4, rfl, hr, hg, hn⟩
    obtain ⟨a4, n4, k4, rfl⟩ := hr.slice
    have S2 := (HS1.out.put_x hg hr hn).put_g (g' := gone + 1)
    have P2 := Lib.hid (P1.out.trans ((Step.grown_x (B := B) hg hn).trans ((Step.store B _ _ w4 4 (.slice a4 n4 k4)).trans (Step.store B _ _ _ 5 (.int .i64 (gone + 1))))))
    have g4 := (grown_cell hg B 4 HB1 HS1.out.ox).1.trans e4
    have g4f := (grown_cell hg B 4 HB1 HS1.out.ox).2.trans (ef 4)
    have g5 := (grown_cell hg B 5 HB1 HS1.out.ox).1.trans e5
    have g5f := (grown_cell hg B 5 HB1 HS1.out.ox).2.trans (ef 5)
    have HS2 := Lib.hid S2
    clear S2 hr hg hn e4 e5 ef HS1 cX P1 d3 f3 d4
    go_wp2_with fail
    go_end0
    exact ⟨rfl, _, _, HS2.out, hstep.out.trans P2.out⟩
end Go.Proofs.Ytkenbckagmjheaa
