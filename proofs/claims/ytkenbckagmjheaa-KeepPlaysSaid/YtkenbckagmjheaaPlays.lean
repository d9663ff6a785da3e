import Derived.Test.YtkenbckagmjheaaG
import Derived.Deep.CutBlock
namespace Go.Proofs.Ytkenbckagmjheaa
open Go.RowKit

/-- A list of operations, as it came in. -/
def OView (w : World) (v : Value) (l : List (Int × Int × Int)) : Prop := (∃ a c, v = .slice a 0 c ∧ l = []) ∨
  ∃ b off c, v = .slice (some ⟨b, off, none⟩) l.length c ∧ ∀ j, j < l.length → w.cell? ⟨b, off + j * 3, none⟩ = some (.int .i64 (l.getD j (0, 0, 0)).1) ∧ w.cell? ⟨b, off + j * 3 + 1, none⟩ = some (.int .i64 (l.getD j (0, 0, 0)).2.1) ∧ w.cell? ⟨b, off + j * 3 + 2, none⟩ = some (.int .i64 (l.getD j (0, 0, 0)).2.2)

theorem plays_no (every most : Int) (v2 v3 : Value) (w : World) (h : ¬ (1 ≤ every ∧ every ≤ 1048576 ∧ 1 ≤ most ∧ most ≤ 64)) : Calls Try.prog 5 #[.int .i64 every, .int .i64 most, v2, v3] w (Yes w) := by
  have cN := Lib.hid (new_no every most v2 w h)
  have cM := Lib.hid (fun w => may_any every most w)
  rw [decide_eq_false h] at cM
  clear h
  go_enter Try.func5, Try.ntmps5
  go_wp2_with fail
  refine cN.out.mono ?_
  rintro e w1 ⟨rfl, rfl⟩
  go_wp2_with fail
  refine (cM.out _).mono ?_
  rintro e w1 ⟨rfl, rfl⟩
  go_wp2_with fail
  refine (awake_any _).mono ?_
  rintro e w2 ⟨rfl, hb⟩
  go_wp2_with fail
  go_ret
  exact ⟨rfl, hb⟩

set_option maxRecDepth 100000 in
theorem plays_far (every most : Int) (a2 a3 : Option Addr) (n3 c2 c3 : Nat) (ev : List Int) (w : World) (h1 : 1 ≤ every) (h2 : every ≤ 1048576) (h3 : 1 ≤ most) (h4 : most ≤ 64) (hv : View w (.slice a2 ev.length c2) ev) (hlen : ev.length * 8 ≤ 140737488355328) (hf : 100 < n3 ∨ 100 < ev.length) :
    Calls Try.prog 5 #[.int .i64 every, .int .i64 most, .slice a2 ev.length c2, .slice a3 n3 c3] w (Yes w) := by
  have cN := Lib.hid (new_yes every most _ ev w h1 h2 h3 h4 hv hlen)
  have cM := Lib.hid (fun w => may_any every most w)
  rw [decide_eq_true ⟨h1, h2, h3, h4⟩] at cM
  have hz : 100 < (n3 : Int) ∨ (¬ 100 < (n3 : Int) ∧ 100 < (ev.length : Int)) := by omega
  clear hf h1 h2 h3 h4 hv hlen
  rcases hz with h | ⟨h, h'⟩
  all_goals
    go_enter Try.func5, Try.ntmps5
    go_wp2_with fail
    refine cN.out.mono ?_
    rintro e w1 ⟨B, eV, rfl, S, hb⟩
    clear S
    go_wp2_with fail
    refine (cM.out _).mono ?_
    rintro e w1 ⟨rfl, rfl⟩
    go_wp2_with fail
    refine (awake_any _).mono ?_
    rintro e w2 ⟨rfl, hb2⟩
    go_wp2_with fail
    go_ret
    exact ⟨rfl, hb.trans (hb2.mono hb.size)⟩

set_option maxHeartbeats 4000000 in
set_option maxRecDepth 100000 in
theorem plays_core (every most : Int) (a2 : Option Addr) (c2 c3 : Nat) (ev : List Int) (ops : List (Int × Int × Int)) (w : World) (h1 : 1 ≤ every) (h2 : every ≤ 1048576) (h3 : 1 ≤ most) (h4 : most ≤ 64) (hv : View w (.slice a2 ev.length c2) ev) (hev : ev.length ≤ 100) (hops : ops.length ≤ 100)
    (a3 : Option Addr) (ht : 0 < ops.length → ∃ b off, a3 = some ⟨b, off, none⟩ ∧ b < w.heap.size ∧ ∀ j, j < ops.length → w.cell? ⟨b, off + j * 3, none⟩ = some (.int .i64 (ops.getD j (0, 0, 0)).1) ∧ w.cell? ⟨b, off + j * 3 + 1, none⟩ = some (.int .i64 (ops.getD j (0, 0, 0)).2.1) ∧ w.cell? ⟨b, off + j * 3 + 2, none⟩ = some (.int .i64 (ops.getD j (0, 0, 0)).2.2)) :
    Calls Try.prog 5 #[.int .i64 every, .int .i64 most, .slice a2 ev.length c2, .slice a3 ops.length c3] w (Yes w) := by
  have cN := Lib.hid (new_yes every most _ ev w h1 h2 h3 h4 hv (by omega))
  have cM := Lib.hid (fun w => may_any every most w)
  rw [decide_eq_true ⟨h1, h2, h3, h4⟩] at cM
  have hI0 : Hid (Inv every most [] []) := ⟨List.Pairwise.nil, rfl, by simp; omega, by simp, h3, h4, h1⟩
  have hev1 : ¬ 100 < (ev.length : Int) := by omega
  have hops1 : ¬ 100 < (ops.length : Int) := by omega
  have HT := Lib.hid ht
  have HV := Lib.hid hv
  clear hv ht h1 h2 h3 h4
  go_enter Try.func5, Try.ntmps5
  go_wp2_with fail
  refine cN.out.mono ?_
  rintro e w1 ⟨B, eV, rfl, S, hb⟩
  have HS := Lib.hid S
  have HB := Lib.hid hb
  clear S hb cN
  go_wp2_with fail
  refine (cM.out _).mono ?_
  rintro e w1 ⟨rfl, rfl⟩
  clear cM
  have hP : Hid (∃ L gone tV xV lV, Pair w B w1.heap.size ev every most a2 c2 0 (w1.alloc (so every most (.slice a2 ev.length c2) (.slice none 0 0) 0)) L gone eV tV xV lV) := by
    refine ⟨[], 0, _, _, .slice none 0 0, HS.out.alloc _, hI0.out, by omega, by omega, HB.out.alloc HB.out.size _, heap_alloc_new w1 _, .inl ⟨none, 0, rfl, rfl⟩, HB.out.size, ?_, ?_, fun k hk => by cases hk⟩
    · intro hm
      have := Mine.lt HS.out _ hm
      omega
    · intro e
      have := HS.out.re.blt _ e
      omega
  clear HS HB hI0
  unfold so at hP
  go_wp2_with fail
  generalize w1.heap.size = Bm at *
  go_loopw [12, 13, 14, 15, 16, 17, 18, 19] (fun i _ _ _ _ _ _ _ wr => ∃ k : Nat, k ≤ ops.length ∧ i = .int .i64 k ∧ Hid (∃ L gone tV xV lV, Pair w B Bm ev every most a2 c2 k wr L gone eV tV xV lV)) (fun i _ _ _ _ _ _ _ _ => ops.length - (intOf i).toNat)
  case atStart => exact ⟨0, Nat.zero_le _, rfl, hP⟩
  case round =>
    clear hP
    obtain ⟨k, hk, rfl, hP⟩ := hrel
    by_cases hlt : k < ops.length
    · obtain ⟨b, off, rfl, hbw, hc⟩ := HT.out (by omega)
      obtain ⟨L, gone, tV, xV, lV, P⟩ := hP.out
      obtain ⟨hc1, hc2, hc3⟩ := hc k hlt
      have k1 := (P.bel.cell (p := ⟨b, off + k * 3, none⟩) hbw).trans hc1
      have k2 := (P.bel.cell (p := ⟨b, off + k * 3 + 1, none⟩) hbw).trans hc2
      have k3 := (P.bel.cell (p := ⟨b, off + k * 3 + 2, none⟩) hbw).trans hc3
      clear hc hc1 hc2 hc3 hP HT
      generalize ops.getD k (0, 0, 0) = o at *
      obtain ⟨kind, time, x⟩ := o
      simp only at k1 k2 k3
      have y1 : (0 : Int) ≤ (k : Int) := by omega
      have y2 : (k : Int) < (ops.length : Int) := by omega
      have hb0 : Below wr.heap.size wr (wr.alloc (.cells #[.int .i64 kind, .int .i64 time, .int .i64 x] 39)) := (Below.refl _ _).alloc (Nat.le_refl _) _
      have HP := Lib.hid (P.below hb0)
      have HO := Lib.hid (heap_alloc_new wr (.cells #[.int .i64 kind, .int .i64 time, .int .i64 x] 39))
      have HH : Hid (Bm ≠ wr.heap.size ∧ (∀ tV xV : Value, Mine B tV xV wr.heap.size → True)) := ⟨by have := P.lt; omega, fun _ _ _ => trivial⟩
      have HM : Hid (¬ Mine B tV xV wr.heap.size) := fun hm => by have := Mine.lt P.st _ hm; omega
      have HHl : Hid (wr.heap.size < (wr.alloc (.cells #[.int .i64 kind, .int .i64 time, .int .i64 x] 39)).heap.size) := by rw [Hid]; simp
      have kk : (k : Int) ≤ 100 := by omega
      clear P hb0
      go_upto_block 2 with fail
      generalize wr.alloc (.cells #[.int .i64 kind, .int .i64 time, .int .i64 x] 39) = w0 at *
      generalize wr.heap.size = H at *
      clear k1 k2 k3
      go_cut [14, 15] (fun _ _ wx => Hid (∃ L gone tV xV lV, Pair w B Bm ev every most a2 c2 (k + 1) wx L gone eV tV xV lV) ∧ Hid (wx.heap[H]? = some (.cells #[.int .i64 kind, .int .i64 time, .int .i64 x] 39 (0, 0))))
      case first =>
        obtain ⟨la, lc, hl, _⟩ := HP.out.view.slice
        subst hl
        have P := HP.out
        have hbox := P.box
        unfold so at hbox
        have m0 := cell_of_row w0 Bm 0 _ 37 (0, 0) hbox
        have m1 := cell_of_row w0 Bm 1 _ 37 (0, 0) hbox
        have m2 := cell_of_row w0 Bm 2 _ 37 (0, 0) hbox
        have m3 := cell_of_row w0 Bm 3 _ 37 (0, 0) hbox
        have m4 := cell_of_row w0 Bm 4 _ 37 (0, 0) hbox
        have mf := fun j => frozen_of_row w0 Bm j _ 37 hbox
        simp only [List.getElem?_toArray, List.getElem?_cons_succ, List.getElem?_cons_zero] at m0 m1 m2 m3 m4
        have q0 := cell_of_row w0 H 0 _ 39 (0, 0) HO.out
        have q1 := cell_of_row w0 H 1 _ 39 (0, 0) HO.out
        have q2 := cell_of_row w0 H 2 _ 39 (0, 0) HO.out
        simp only [List.getElem?_toArray, List.getElem?_cons_succ, List.getElem?_cons_zero] at q0 q1 q2
        by_cases hk0 : kind = 0
        · have z0 : (kind == 0) = true := beq_iff_eq.2 hk0
          have cR := rput_any every most gone time x a2 c2 (.slice la L.length lc) L ev w0 P.view (HV.out.below P.bel) P.inv P.g0 (by have := P.g1; omega)
          unfold sv at cR
          have I2 := inv_put ev gone time x P.inv
          have G2 := gone_put every most ev (L.map Prod.fst) (L.map Prod.snd) gone time x
          have hPS := putS_L every most ev L gone time x
          rw [hPS] at I2 G2
          have I2 := Lib.hid I2
          have G2 := Lib.hid G2
          have hPS := Lib.hid hPS
          generalize putL every most ev L gone time x = r at *
          obtain ⟨ok, L2, g2⟩ := r
          have I2 : Inv every most (L2.map Prod.fst) (L2.map Prod.snd) := I2.out
          have G2 : g2 = gone ∨ g2 = gone + 1 := G2.out
          have I2 := Lib.hid I2
          have G2 := Lib.hid G2
          have cR := Lib.hid cR
          clear hk0 hbox P
          go_wp2_with fail
          refine cR.out.mono ?_
          rintro e w2 ⟨v, rfl, hv, pv, hb⟩
          obtain ⟨va, vc, rfl, _⟩ := pv.slice
          unfold sv
          have P2 := HP.out.below hb
          have hbox2 := P2.box
          unfold so at hbox2
          have n0 := cell_of_row w2 Bm 0 _ 37 (0, 0) hbox2
          have n1 := cell_of_row w2 Bm 1 _ 37 (0, 0) hbox2
          have n2 := cell_of_row w2 Bm 2 _ 37 (0, 0) hbox2
          have n3 := cell_of_row w2 Bm 3 _ 37 (0, 0) hbox2
          have n4 := cell_of_row w2 Bm 4 _ 37 (0, 0) hbox2
          have nf := fun j => frozen_of_row w2 Bm j _ 37 hbox2
          simp only [List.getElem?_toArray, List.getElem?_cons_succ, List.getElem?_cons_zero] at n0 n1 n2 n3 n4
          have o2 := (hb.block H HHl.out).trans HO.out
          have q1 := cell_of_row w2 H 1 _ 39 (0, 0) o2
          have q2 := cell_of_row w2 H 2 _ 39 (0, 0) o2
          simp only [List.getElem?_toArray, List.getElem?_cons_succ, List.getElem?_cons_zero] at q1 q2
          have h3 : Below w2.heap.size w2 (w2.alloc (.cells #[.int .i64 every, .int .i64 most, .slice a2 ev.length c2, .slice va L2.length vc, .int .i64 g2] 37)) := (Below.refl _ _).alloc (Nat.le_refl _) _
          have kx3 := Lib.hid (heap_alloc_new w2 (.cells #[.int .i64 every, .int .i64 most, .slice a2 ev.length c2, .slice va L2.length vc, .int .i64 g2] 37))
          have kb3 := Lib.hid ((h3.block Bm P2.lt).trans hbox2)
          have hT := HP.out.turn (gone' := g2) hb hv pv h3
          have cP := put_any _ w.heap.size B ev every most (L.map Prod.fst) (L.map Prod.snd) gone eV tV xV time x hT.1 HP.out.inv hT.2.1.size HP.out.g0 (by have := HP.out.g1; omega) (by omega)
          rw [hPS.out] at cP
          have o3 : (five (w2.alloc (.cells #[.int .i64 every, .int .i64 most, .slice a2 ev.length c2, .slice va L2.length vc, .int .i64 g2] 37)) Bm (.int .i64 every) (.int .i64 most) (.slice a2 ev.length c2) (.slice va L2.length vc) (.int .i64 g2)).heap[H]? = some (.cells #[.int .i64 kind, .int .i64 time, .int .i64 x] 39 (0, 0)) := (five_other _ _ _ _ _ _ _ H (fun e => HH.out.1 e.symm)).trans ((h3.block H (Nat.lt_of_lt_of_le HHl.out hb.size)).trans o2)
          have hT := Lib.hid hT
          have O3 := Lib.hid o3
          have hH3 : H < (five (w2.alloc (.cells #[.int .i64 every, .int .i64 most, .slice a2 ev.length c2, .slice va L2.length vc, .int .i64 g2] 37)) Bm (.int .i64 every) (.int .i64 most) (.slice a2 ev.length c2) (.slice va L2.length vc) (.int .i64 g2)).heap.size := by
            rw [five_size]; have := HHl.out; have := hb.size; simp; omega
          have hH3 := Lib.hid hH3
          have Hp := Lib.hid (And.intro P2.bm (And.intro P2.am P2.ae))
          have g01 := HP.out.g0
          have g02 := HP.out.g1
          have cP := Lib.hid cP
          clear hbox2 P2 hb hv pv h3 o2 o3 m0 m1 m2 m3 m4 mf q0 cR
          go_upto_region 16 with fail
          clear n0 n1 n2 n3 n4 nf q1 q2
          generalize w2.alloc (.cells #[.int .i64 every, .int .i64 most, .slice a2 ev.length c2, .slice va L2.length vc, .int .i64 g2] 37) = W3 at *
          have kb3' := kb3.out
          have kx3' := kx3.out
          have n0 := cell_of_row W3 Bm 0 _ 37 (0, 0) kb3'
          have n1 := cell_of_row W3 Bm 1 _ 37 (0, 0) kb3'
          have n2 := cell_of_row W3 Bm 2 _ 37 (0, 0) kb3'
          have n3 := cell_of_row W3 Bm 3 _ 37 (0, 0) kb3'
          have n4 := cell_of_row W3 Bm 4 _ 37 (0, 0) kb3'
          have nf := fun j => frozen_of_row W3 Bm j _ 37 kb3'
          simp only [List.getElem?_toArray, List.getElem?_cons_succ, List.getElem?_cons_zero] at n0 n1 n2 n3 n4
          have x0 := cell_of_row W3 w2.heap.size 0 _ 37 (0, 0) kx3'
          have x1 := cell_of_row W3 w2.heap.size 1 _ 37 (0, 0) kx3'
          have x2 := cell_of_row W3 w2.heap.size 2 _ 37 (0, 0) kx3'
          have x3 := cell_of_row W3 w2.heap.size 3 _ 37 (0, 0) kx3'
          have x4 := cell_of_row W3 w2.heap.size 4 _ 37 (0, 0) kx3'
          simp only [List.getElem?_toArray, List.getElem?_cons_succ, List.getElem?_cons_zero] at x0 x1 x2 x3 x4
          clear kb3' kx3'
          go_upto_region 17 with fail
          clear n0 n1 n2 n3 n4 nf x0 x1 x2 x3 x4
          unfold five at hT O3 hH3 cP
          generalize ((((W3.setCell ⟨Bm, 0, none⟩ (.int .i64 every)).setCell ⟨Bm, 1, none⟩ (.int .i64 most)).setCell ⟨Bm, 2, none⟩ (.slice a2 ev.length c2)).setCell ⟨Bm, 3, none⟩ (.slice va L2.length vc)).setCell ⟨Bm, 4, none⟩ (.int .i64 g2) = X at *
          have q1 := cell_of_row X H 1 _ 39 (0, 0) O3.out
          have q2 := cell_of_row X H 2 _ 39 (0, 0) O3.out
          simp only [List.getElem?_toArray, List.getElem?_cons_succ, List.getElem?_cons_zero] at q1 q2
          go_wp2_with fail
          refine cP.out.mono ?_
          rintro e w5 ⟨t5, x5, rfl, S5, Q5⟩
          have S5 : St w5 w.heap.size B ev every most (L2.map Prod.fst) (L2.map Prod.snd) g2 eV t5 x5 := S5
          have hP5 : Pair w B Bm ev every most a2 c2 (k + 1) w5 L2 g2 eV t5 x5 (.slice va L2.length vc) := Pair.mk2 hT.out.1 hT.out.2.1 hT.out.2.2.1 hT.out.2.2.2.1 hT.out.2.2.2.2 Hp.out.1 Hp.out.2.1 Hp.out.2.2 Q5 S5 I2.out (by have := G2.out; omega) (by have := G2.out; omega)
          have o5 := (Q5.block H hH3.out HM.out).trans O3.out
          clear q1 q2
          have HP5 := Lib.hid hP5
          have HO5 := Lib.hid o5
          clear hP5 o5 S5 Q5 cP hT
          go_wp2_with fail
          go_meet
          exact ⟨⟨L2, g2, t5, x5, _, HP5.out⟩, HO5⟩
        have z0 : (kind == 0) = false := beq_eq_false_iff_ne.2 hk0
        by_cases hk1 : kind = 1
        · have z1 : (kind == 1) = true := beq_iff_eq.2 hk1
          have cB := Lib.hid (behind_any w0 w.heap.size B ev every most (L.map Prod.fst) (L.map Prod.snd) gone eV tV xV time P.st P.inv)
          clear hk0 hk1 hbox P
          go_wp2_with fail
          refine cB.out.mono ?_
          rintro e w5 ⟨rfl, t5, x5, S5, Q5⟩
          obtain ⟨b1, b2, b3, b4, b5⟩ := HP.out.step Q5
          unfold so at b2
          have n0 := cell_of_row w5 Bm 0 _ 37 (0, 0) b2
          have n1 := cell_of_row w5 Bm 1 _ 37 (0, 0) b2
          have n2 := cell_of_row w5 Bm 2 _ 37 (0, 0) b2
          have n3 := cell_of_row w5 Bm 3 _ 37 (0, 0) b2
          have n4 := cell_of_row w5 Bm 4 _ 37 (0, 0) b2
          have nf := fun j => frozen_of_row w5 Bm j _ 37 b2
          simp only [List.getElem?_toArray, List.getElem?_cons_succ, List.getElem?_cons_zero] at n0 n1 n2 n3 n4
          have o5 := (Q5.block H HHl.out HM.out).trans HO.out
          have q1 := cell_of_row w5 H 1 _ 39 (0, 0) o5
          simp only [List.getElem?_toArray, List.getElem?_cons_succ, List.getElem?_cons_zero] at q1
          have cR := rbehind_any every most gone time a2 ev.length c2 (.slice la L.length lc) L w5 b3 HP.out.inv.sorted (by have := HP.out.inv.few; have := HP.out.inv.m64; rw [List.length_map] at *; omega)
          unfold sv at cR
          have hm1 : Hid ((L.take (nb (L.map Prod.fst) time)).map Prod.fst = (L.map Prod.fst).take (nb (L.map Prod.fst) time)) := List.map_take
          have hm2 : Hid ((L.take (nb (L.map Prod.fst) time)).map Prod.snd = (L.map Prod.snd).take (nb (L.map Prod.fst) time)) := List.map_take
          generalize L.take (nb (L.map Prod.fst) time) = L2 at *
          have cR := Lib.hid cR
          have HS5 := Lib.hid S5
          have HQ5 := Lib.hid Q5
          have HO5 := Lib.hid o5
          have hH5 := Lib.hid (Nat.lt_of_lt_of_le HHl.out Q5.size)
          have hBm5 := Lib.hid (Nat.lt_of_lt_of_le HP.out.lt Q5.size)
          have hb2 := Lib.hid b2
          clear S5 Q5 o5 b1 b2 b3 b4 b5 m0 m1 m2 m3 m4 mf q0 q2 cB
          go_wp2_with fail
          refine cR.out.mono ?_
          rintro e w6 ⟨v, rfl, hr, hb⟩
          obtain ⟨va, vc, rfl⟩ := hr.slice
          unfold sv
          have bx6 := (hb.block Bm hBm5.out).trans hb2.out
          have r0 := cell_of_row w6 Bm 0 _ 37 (0, 0) bx6
          have r1 := cell_of_row w6 Bm 1 _ 37 (0, 0) bx6
          have r2 := cell_of_row w6 Bm 2 _ 37 (0, 0) bx6
          have r3 := cell_of_row w6 Bm 3 _ 37 (0, 0) bx6
          have r4 := cell_of_row w6 Bm 4 _ 37 (0, 0) bx6
          have rf := fun j => frozen_of_row w6 Bm j _ 37 bx6
          simp only [List.getElem?_toArray, List.getElem?_cons_succ, List.getElem?_cons_zero] at r0 r1 r2 r3 r4
          have P6 := HP.out.mk3 (L' := L2) HQ5.out (by rw [hm1.out, hm2.out]; exact HS5.out) (by rw [hm1.out, hm2.out]; exact inv_take HP.out.inv _) hb hr
          have o6 := (five_other w6 Bm (.int .i64 every) (.int .i64 most) (.slice a2 ev.length c2) (.slice va L2.length vc) (.int .i64 gone) H (fun e => HH.out.1 e.symm)).trans ((hb.block H hH5.out).trans HO5.out)
          have HP6 := Lib.hid P6
          have HO6 := Lib.hid o6
          unfold five at HP6 HO6
          clear P6 o6 bx6 hb hr n0 n1 n2 n3 n4 nf q1 cR
          go_wp2_with fail
          go_meet
          exact ⟨⟨_, _, _, _, _, HP6.out⟩, HO6⟩
        · have z1 : (kind == 1) = false := beq_eq_false_iff_ne.2 hk1
          have HPm := Lib.hid P.more
          clear hk0 hk1 hbox P
          go_wp2_with fail
          go_meet
          exact ⟨⟨_, _, _, _, _, HPm.out⟩, HO⟩
      case rest =>
      clear HP HO HH HM HHl
      obtain ⟨hP, hO⟩ := hcut
      obtain ⟨wx, hwx⟩ : ∃ wx, wx = wc := ⟨_, rfl⟩
      subst hwx
      obtain ⟨L, gone, tV, xV, lV, P⟩ := hP.out
      obtain ⟨la, lc, hl, _⟩ := P.view.slice
      subst hl
      have hLl : L.length ≤ 64 := by have := P.inv.few; have := P.inv.m64; rw [List.length_map] at *; omega
      have q1 := cell_of_row wx H 1 _ 39 (0, 0) hO.out
      simp only [List.getElem?_toArray, List.getElem?_cons_succ, List.getElem?_cons_zero] at q1
      have cN := near_any wx w.heap.size B ev every most (L.map Prod.fst) (L.map Prod.snd) gone eV tV xV time P.st P.inv
      unfold NearSays at cN
      have hnb := nb_le (L.map Prod.fst) time
      rw [List.length_map] at hnb
      clear hP
      by_cases h0 : nb (L.map Prod.fst) time = 0
      · simp only [h0, if_true, decide_true, Bool.not_true] at cN
        have cN := Lib.hid cN
        have cR := Lib.hid (fun q => rnear_any every most gone time a2 ev.length c2 (.slice la L.length lc) L (wx.drewN q) ((P.below (below_drewN _ wx q)).view) P.inv.sorted (by omega))
        rw [h0] at cR
        unfold sv at cR
        have HP := Lib.hid P
        clear P h0
        go_wp2_with fail
        refine cN.out.mono ?_
        rintro e w5 ⟨rfl, q, rfl⟩
        have P5 := HP.out.below (below_drewN _ wx q)
        have q1 : (wx.drewN q).cell? ⟨H, 1, none⟩ = _ := q1
        have cR := Lib.hid (cR.out q)
        have hO5 : Hid ((wx.drewN q).heap[H]? = some (.cells #[.int .i64 kind, .int .i64 time, .int .i64 x] 39 (0, 0))) := hO.out
        generalize wx.drewN q = w5 at *
        have hbox := P5.box
        unfold so at hbox
        have m0 := cell_of_row w5 Bm 0 _ 37 (0, 0) hbox
        have m1 := cell_of_row w5 Bm 1 _ 37 (0, 0) hbox
        have m2 := cell_of_row w5 Bm 2 _ 37 (0, 0) hbox
        have m3 := cell_of_row w5 Bm 3 _ 37 (0, 0) hbox
        have m4 := cell_of_row w5 Bm 4 _ 37 (0, 0) hbox
        simp only [List.getElem?_toArray, List.getElem?_cons_succ, List.getElem?_cons_zero] at m0 m1 m2 m3 m4
        have HP5 := Lib.hid P5
        clear P5 hbox
        go_wp2_with fail
        refine cR.out.mono ?_
        rintro e w6 ⟨rfl, hb6⟩
        have P6 := HP5.out.below hb6
        have hbox := P6.box
        unfold so at hbox
        have n0 := cell_of_row w6 Bm 0 _ 37 (0, 0) hbox
        have n1 := cell_of_row w6 Bm 1 _ 37 (0, 0) hbox
        have n2 := cell_of_row w6 Bm 2 _ 37 (0, 0) hbox
        have n3 := cell_of_row w6 Bm 3 _ 37 (0, 0) hbox
        have n4 := cell_of_row w6 Bm 4 _ 37 (0, 0) hbox
        simp only [List.getElem?_toArray, List.getElem?_cons_succ, List.getElem?_cons_zero] at n0 n1 n2 n3 n4
        have cS := same_any w6 w.heap.size B ev every most L gone eV tV xV a2 ev.length c2 (.slice la L.length lc) P6.st P6.view (by omega)
        unfold sv at cS
        have cS := Lib.hid cS
        have HP6 := Lib.hid P6
        clear P6 hbox m0 m1 m2 m3 m4 hb6
        go_wp2_with fail
        refine cS.out.mono ?_
        rintro e w7 ⟨rfl, hb7⟩
        have HP7 := Lib.hid (HP6.out.below hb7)
        go_wp2_with fail
        go_roundw
        case rel => exact ⟨k + 1, by omega, by go_num, _, _, _, _, _, HP7.out⟩
        case measure => simp [intOf]; omega
      · obtain ⟨mm, h0⟩ : ∃ mm, nb (L.map Prod.fst) time = mm + 1 := ⟨nb (L.map Prod.fst) time - 1, by omega⟩
        rw [h0, if_neg (by omega), if_neg (by omega), decide_eq_false (by omega), Nat.add_sub_cancel, getD_fst, getD_snd] at cN
        simp only [Bool.not_false] at cN
        have hmL : mm < L.length := by omega
        have hmm : ((mm + 1 : Nat) : Int) - 1 = (mm : Int) := by omega
        obtain ⟨tm, htm⟩ : ∃ tm, (L.getD mm (0, 0)).1 = tm := ⟨_, rfl⟩
        obtain ⟨xm, hxm⟩ : ∃ xm, (L.getD mm (0, 0)).2 = xm := ⟨_, rfl⟩
        rw [htm, hxm] at cN
        have Htm := Lib.hid htm
        have Hxm := Lib.hid hxm
        clear htm hxm
        have cN := Lib.hid cN
        have cR := Lib.hid (fun q => rnear_any every most gone time a2 ev.length c2 (.slice la L.length lc) L (wx.drewN q) ((P.below (below_drewN _ wx q)).view) P.inv.sorted (by omega))
        rw [h0, hmm] at cR
        unfold sv at cR
        have HP := Lib.hid P
        clear P h0
        go_wp2_with fail
        refine cN.out.mono ?_
        rintro e w5 ⟨rfl, q, rfl⟩
        have P5 := HP.out.below (below_drewN _ wx q)
        have q1 : (wx.drewN q).cell? ⟨H, 1, none⟩ = _ := q1
        have cR := Lib.hid (cR.out q)
        have hO5 : Hid ((wx.drewN q).heap[H]? = some (.cells #[.int .i64 kind, .int .i64 time, .int .i64 x] 39 (0, 0))) := hO.out
        generalize wx.drewN q = w5 at *
        have hbox := P5.box
        unfold so at hbox
        have m0 := cell_of_row w5 Bm 0 _ 37 (0, 0) hbox
        have m1 := cell_of_row w5 Bm 1 _ 37 (0, 0) hbox
        have m2 := cell_of_row w5 Bm 2 _ 37 (0, 0) hbox
        have m3 := cell_of_row w5 Bm 3 _ 37 (0, 0) hbox
        have m4 := cell_of_row w5 Bm 4 _ 37 (0, 0) hbox
        simp only [List.getElem?_toArray, List.getElem?_cons_succ, List.getElem?_cons_zero] at m0 m1 m2 m3 m4
        have HP5 := Lib.hid P5
        clear P5 hbox
        go_wp2_with fail
        refine cR.out.mono ?_
        rintro e w6 ⟨rfl, hb6⟩
        have P6 := HP5.out.below hb6
        have hbox := P6.box
        unfold so at hbox
        have n0 := cell_of_row w6 Bm 0 _ 37 (0, 0) hbox
        have n1 := cell_of_row w6 Bm 1 _ 37 (0, 0) hbox
        have n2 := cell_of_row w6 Bm 2 _ 37 (0, 0) hbox
        have n3 := cell_of_row w6 Bm 3 _ 37 (0, 0) hbox
        have n4 := cell_of_row w6 Bm 4 _ 37 (0, 0) hbox
        simp only [List.getElem?_toArray, List.getElem?_cons_succ, List.getElem?_cons_zero] at n0 n1 n2 n3 n4
        have cS := same_any w6 w.heap.size B ev every most L gone eV tV xV a2 ev.length c2 (.slice la L.length lc) P6.st P6.view (by omega)
        unfold sv at cS
        have cS := Lib.hid cS
        have HP6 := Lib.hid P6
        obtain ⟨la2, lc2, hl2, hcells⟩ := P6.view.slice
        injection hl2 with hl2 hl3 hl4
        subst hl2 hl4
        clear hl3
        obtain ⟨bl, ol, rfl, hbl, hcl⟩ := hcells (by omega)
        clear hbl
        have l1 := (hcl mm hmL).1
        have l2 := (hcl mm hmL).2
        rw [Htm.out] at l1
        rw [Hxm.out] at l2
        have v1 : (0 : Int) ≤ (mm : Int) := by omega
        have v2 : (mm : Int) < (L.length : Int) := by omega
        have v3 : decide ((0 : Int) ≤ (mm : Int)) = true := decide_eq_true v1
        clear hcl hcells
        clear P6 hbox m0 m1 m2 m3 m4 hb6
        go_wp2_with fail
        refine cS.out.mono ?_
        rintro e w7 ⟨rfl, hb7⟩
        have HP7 := Lib.hid (HP6.out.below hb7)
        go_wp2_with fail
        go_roundw
        case rel => exact ⟨k + 1, by omega, by go_num, _, _, _, _, _, HP7.out⟩
        case measure => simp [intOf]; omega
    · obtain rfl : k = ops.length := by omega
      obtain ⟨L, gone, tV, xV, lV, P⟩ := hP.out
      have hb := Lib.hid P.bel
      clear P hP HT
      go_wp2_with fail
      refine (awake_any _).mono ?_
      rintro e w2 ⟨rfl, hb2⟩
      go_wp2_with fail
      go_ret
      exact ⟨rfl, hb.out.trans (hb2.mono hb.out.size)⟩

theorem plays_any (every most : Int) (v2 v3 : Value) (ev : List Int) (ops : List (Int × Int × Int)) (w : World) (hv2 : View w v2 ev) (hv3 : OView w v3 ops) (hlen : ev.length * 8 ≤ 140737488355328) : Calls Try.prog 5 #[.int .i64 every, .int .i64 most, v2, v3] w (Yes w) := by
  by_cases h : 1 ≤ every ∧ every ≤ 1048576 ∧ 1 ≤ most ∧ most ≤ 64
  · obtain ⟨h1, h2, h3, h4⟩ := h
    obtain ⟨a2, c2, rfl, _⟩ := hv2.slice
    obtain ⟨a3, c3, rfl, ht⟩ : ∃ a c, v3 = .slice a ops.length c ∧ (0 < ops.length → ∃ b off, a = some ⟨b, off, none⟩ ∧ b < w.heap.size ∧ ∀ j, j < ops.length → w.cell? ⟨b, off + j * 3, none⟩ = some (.int .i64 (ops.getD j (0, 0, 0)).1) ∧ w.cell? ⟨b, off + j * 3 + 1, none⟩ = some (.int .i64 (ops.getD j (0, 0, 0)).2.1) ∧ w.cell? ⟨b, off + j * 3 + 2, none⟩ = some (.int .i64 (ops.getD j (0, 0, 0)).2.2)) := by
      rcases hv3 with ⟨a, c, rfl, rfl⟩ | ⟨b, off, c, rfl, hc⟩
      · exact ⟨a, c, rfl, fun h => absurd h (by simp)⟩
      · exact ⟨_, c, rfl, fun h0 => ⟨b, off, rfl, World.block_lt_of_cell? w _ (hc 0 h0).1, hc⟩⟩
    by_cases hf : 100 < ops.length ∨ 100 < ev.length
    · exact plays_far every most a2 a3 ops.length c2 c3 ev w h1 h2 h3 h4 hv2 hlen hf
    · exact plays_core every most a2 c2 c3 ev ops w h1 h2 h3 h4 hv2 (by omega) (by omega) a3 ht
  · exact plays_no every most v2 v3 w h
end Go.Proofs.Ytkenbckagmjheaa
