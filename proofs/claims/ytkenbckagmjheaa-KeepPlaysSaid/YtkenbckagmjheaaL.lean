import Derived.Test.YtkenbckagmjheaaY
namespace Go.Proofs.Ytkenbckagmjheaa
open Go.RowKit

theorem below_drewN (B : Nat) (w : World) (q : Nat) : Below B w (w.drewN q) := ⟨rfl, rfl, rfl, Nat.le_refl _, fun _ _ => rfl⟩

theorem most_no (every most : Int) (v2 v3 : Value) (w : World) (h : ¬ (1 ≤ every ∧ every ≤ 1048576 ∧ 1 ≤ most ∧ most ≤ 64)) : Calls Try.prog 3 #[.int .i64 every, .int .i64 most, v2, v3] w (Yes w) := by
  have cN := Lib.hid (new_no every most v2 w h)
  clear h
  go_enter Try.func3, Try.ntmps3
  go_wp2_with fail
  refine cN.out.mono ?_
  rintro e w1 ⟨rfl, rfl⟩
  go_wp2_with fail
  refine (awake_any _).mono ?_
  rintro e w2 ⟨rfl, hb⟩
  go_wp2_with fail
  go_ret
  exact ⟨rfl, hb⟩

theorem most_far (every most : Int) (a2 a3 : Option Addr) (n3 c2 c3 : Nat) (ev : List Int) (w : World) (h1 : 1 ≤ every) (h2 : every ≤ 1048576) (h3 : 1 ≤ most) (h4 : most ≤ 64) (hv : View w (.slice a2 ev.length c2) ev) (hlen : ev.length * 8 ≤ 140737488355328) (hf : 100 < n3 ∨ 100 < ev.length) :
    Calls Try.prog 3 #[.int .i64 every, .int .i64 most, .slice a2 ev.length c2, .slice a3 n3 c3] w (Yes w) := by
  have cN := Lib.hid (new_yes every most _ ev w h1 h2 h3 h4 hv hlen)
  have hz : 100 < (n3 : Int) ∨ (¬ 100 < (n3 : Int) ∧ 100 < (ev.length : Int)) := by omega
  clear hf h1 h2 h3 h4 hv hlen
  rcases hz with h | ⟨h, h'⟩
  all_goals
    go_enter Try.func3, Try.ntmps3
    go_wp2_with fail
    refine cN.out.mono ?_
    rintro e w1 ⟨B, eV, rfl, S, hb⟩
    clear S
    go_wp2_with fail
    refine (awake_any _).mono ?_
    rintro e w2 ⟨rfl, hb2⟩
    go_wp2_with fail
    go_ret
    exact ⟨rfl, hb.trans (hb2.mono hb.size)⟩

/-- What holds at the head of each round. -/
def MRel (w : World) (B : Nat) (ev : List Int) (every most : Int) (k : Nat) (wr : World) : Prop :=
  ∃ T X gone eV tV xV, St wr w.heap.size B ev every most T X gone eV tV xV ∧ Inv every most T X ∧ Zero T X ∧ 0 ≤ gone ∧ gone ≤ k ∧ Below w.heap.size w wr

theorem nb_zero {every most : Int} {T X : List Int} (h : Inv every most T X) (hz : Zero T X) : nb T 0 = 1 ∧ T.getD 0 0 = 0 ∧ X.getD 0 0 = 77 := by
  obtain ⟨T', X', rfl, rfl⟩ := hz
  refine ⟨?_, rfl, rfl⟩
  unfold nb
  have : (0 :: T').countP (· < 0) = 0 := by
    rw [List.countP_eq_zero]
    intro a ha
    have := (h.all a ha).1
    simp; omega
  rw [this]
  simp

theorem getD_mem {T : List Int} {j : Nat} (h : j < T.length) : T.getD j 0 ∈ T := by
  rw [List.getD_eq_getElem?_getD, List.getElem?_eq_getElem h]
  exact List.getElem_mem h
theorem sorted_at {T : List Int} (h : T.Pairwise (· < ·)) (i j : Nat) (hij : i < j) (hj : j < T.length) : T.getD i 0 < T.getD j 0 := by
  rw [List.getD_eq_getElem?_getD, List.getD_eq_getElem?_getD, List.getElem?_eq_getElem hj, List.getElem?_eq_getElem (by omega)]
  exact List.pairwise_iff_getElem.1 h i j (by omega) hj hij

set_option maxHeartbeats 4000000 in
set_option maxRecDepth 100000 in
theorem most_core (every most : Int) (a2 : Option Addr) (c2 c3 : Nat) (v3 : Value) (ev ts : List Int) (w : World) (h1 : 1 ≤ every) (h2 : every ≤ 1048576) (h3 : 1 ≤ most) (h4 : most ≤ 64) (hv : View w (.slice a2 ev.length c2) ev) (hev : ev.length ≤ 100) (hts : ts.length ≤ 100)
    (a3 : Option Addr) (hv3 : v3 = .slice a3 ts.length c3) (ht : 0 < ts.length → ∃ b off, a3 = some ⟨b, off, none⟩ ∧ ∀ j, j < ts.length → w.cell? ⟨b, off + j, none⟩ = some (.int .i64 (ts.getD j 0))) :
    Calls Try.prog 3 #[.int .i64 every, .int .i64 most, .slice a2 ev.length c2, v3] w (Yes w) := by
  subst hv3
  have cN := Lib.hid (new_yes every most _ ev w h1 h2 h3 h4 hv (by omega))
  have hI0 : Inv every most [] [] := ⟨List.Pairwise.nil, rfl, by simp; omega, by simp, h3, h4, h1⟩
  have hp0 : putS every most ev [] [] 0 0 77 = (true, [0], [77], 0) := by
    unfold putS
    rw [if_neg (by simp), if_pos (by simpa using h3)]
    rfl
  have hev1 : ¬ 100 < (ev.length : Int) := by omega
  have hts1 : ¬ 100 < (ts.length : Int) := by omega
  have HT := Lib.hid ht
  have hI1 : Hid (Inv every most [0] [77]) := ⟨List.pairwise_singleton _ _, rfl, by simpa using h3, by simp, h3, h4, h1⟩
  clear hv ht h2
  go_enter Try.func3, Try.ntmps3
  go_wp2_with fail
  refine cN.out.mono ?_
  rintro e w1 ⟨B, eV, rfl, S, hb⟩
  have cP := put_any w1 w.heap.size B ev every most [] [] 0 eV _ _ 0 77 S hI0 hb.size (by omega) (by omega) (by omega)
  rw [hp0] at cP
  have cP := Lib.hid cP
  have hB := S.hB
  have HB := Lib.hid hb
  clear S cN hI0 hp0 hb
  go_wp2_with fail
  refine cP.out.mono ?_
  rintro e w2 ⟨t2, x2, rfl, S, P⟩
  have hb2 : Hid (Below w.heap.size w w2) := HB.out.trans (P.below HB.out.size hB (fun k hk => by cases hk) (fun k hk => by cases hk))
  have hM : Hid (MRel w B ev every most 0 w2) := ⟨[0], [77], 0, eV, t2, x2, S, hI1.out, ⟨[], [], rfl, rfl⟩, by omega, by omega, hb2.out⟩
  clear S P cP HB hb2 hI1
  go_wp2_with fail
  go_loopw [11, 12, 13] (fun i _ _ wr => ∃ k : Nat, k ≤ ts.length ∧ i = .int .i64 k ∧ Hid (MRel w B ev every most k wr)) (fun i _ _ _ => ts.length - (intOf i).toNat)
  case atStart => exact ⟨0, Nat.zero_le _, rfl, hM⟩
  case round =>
    clear hM
    obtain ⟨k, hk, rfl, hM⟩ := hrel
    obtain ⟨wo, hwo⟩ : ∃ wo : World, wo = wr := ⟨_, rfl⟩
    subst hwo
    by_cases hlt : k < ts.length
    · obtain ⟨b, off, rfl, hc⟩ := HT.out (by omega)
      obtain ⟨T, X, gone, eV, tV, xV, S, I, Z, g0, g1, hb⟩ := hM.out
      have hck := (hb.cell (p := ⟨b, off + k, none⟩) (World.block_lt_of_cell? w _ (hc k hlt))).trans (hc k hlt)
      have cP := Lib.hid (put_any wo w.heap.size B ev every most T X gone eV tV xV (ts.getD k 0) k S I hb.size g0 (by omega) (by omega))
      have I2 := Lib.hid (inv_put ev gone (ts.getD k 0) k I)
      have Z2 := Lib.hid (zero_put ev gone (ts.getD k 0) k I Z)
      have G2 := Lib.hid (gone_put every most ev T X gone (ts.getD k 0) k)
      generalize putS every most ev T X gone (ts.getD k 0) k = r at *
      generalize ts.getD k 0 = t at *
      have HS := Lib.hid S
      have Hb := Lib.hid hb
      have kk : (k : Int) ≤ 100 := by omega
      clear hM hc S I Z hb HT
      go_wp2_with fail
      refine cP.out.mono ?_
      rintro e w3 ⟨t3, x3, rfl, S, P⟩
      obtain ⟨ok, T2, X2, g2⟩ := r
      have I2 : Inv every most T2 X2 := I2.out
      have Z2 : Zero T2 X2 := Z2.out
      have G2 : g2 = gone ∨ g2 = gone + 1 := G2.out
      have S : St w3 w.heap.size B ev every most T2 X2 g2 eV t3 x3 := S
      have Hb3 := Lib.hid (Hb.out.trans (P.below Hb.out.size HS.out.hB HS.out.rt.ge HS.out.rx.ge))
      have cT := Lib.hid (times_any w3 w.heap.size B ev every most T2 X2 g2 eV t3 x3 S (by have := I2.few; omega))
      have HS3 := Lib.hid S
      have I2 := Lib.hid I2
      have Z2 := Lib.hid Z2
      have G2 := Lib.hid G2
      clear S P cP HS Hb
      go_wp2_with fail
      refine cT.out.mono ?_
      rintro e w4 ⟨v, rfl, hr, hb4⟩
      have hl2 : 0 < T2.length := by obtain ⟨T', X', rfl, _⟩ := Z2.out; simp
      obtain ⟨g, cap, rfl, q1, q2, qc⟩ := hr.cell_at hl2
      have r0 := qc 0 hl2
      rw [(nb_zero I2.out Z2.out).2.1] at r0
      have hM2 : Hid (∀ q, MRel w B ev every most (k + 1) (w4.drewN q)) := fun q => ⟨T2, X2, g2, eV, t3, x3, (HS3.out.below hb4).drewN q, I2.out, Z2.out, by have := G2.out; omega, by have := G2.out; omega, (Hb3.out.trans (hb4.mono Hb3.out.size)).trans ⟨rfl, rfl, rfl, Nat.le_refl _, fun _ _ => rfl⟩⟩
      have hsort := Lib.hid (fun j => sorted_at I2.out.sorted j (j + 1) (by omega))
      have hmod := Lib.hid (fun j (hj : j < T2.length) => (I2.out.all _ (getD_mem hj)).2)
      have hQ := Lib.hid qc
      have hn1 : ¬ most < (T2.length : Int) := by have := I2.out.few; omega
      have hn2 : ¬ (T2.length : Int) < 1 := by omega
      have hn3 : T2.length ≤ 64 := by have := I2.out.few; omega
      clear qc hr hb4 cT HS3 Hb3 I2 Z2 G2 hck
      generalize T2.length = n2 at *
      go_wp2_with fail
      go_loopw [13] (fun kk wi => ∃ m q : Nat, kk = .int .i64 ((m : Int) + 1) ∧ m + 1 ≤ n2 ∧ wi = w4.drewN q) (fun kk _ => n2 - (intOf kk).toNat)
      case atStart => exact ⟨0, 0, rfl, by omega, rfl⟩
      case round =>
        clear r0 hn1 hn2
        obtain ⟨m, q, rfl, hm, rfl⟩ := hrel
        by_cases hin : m + 1 < n2
        · have k1 := hQ.out (m + 1) hin
          have k0 := hQ.out m (by omega)
          have s1 := hsort.out m hin
          have d1 := hmod.out (m + 1) hin
          generalize T2.getD (m + 1) 0 = a at *
          generalize T2.getD m 0 = c at *
          have z1 : decide (a ≤ c) = false := by simpa using s1
          have z2 : (a % every != 0) = false := by simpa using d1
          have z3 : (a.tmod every != 0) = false := by rw [bne_eq_false_iff_eq]; exact Int.tmod_eq_zero_of_dvd (Int.dvd_of_emod_eq_zero d1)
          have y1 : (0 : Int) ≤ (m : Int) + 1 := by omega
          have y2 : (m : Int) + 1 < (n2 : Int) := by omega
          have y3 : (0 : Int) ≤ (m : Int) := by omega
          have y4 : (m : Int) < (n2 : Int) := by omega
          have y5 : ((m : Int) + 1).toNat = m + 1 := by omega
          clear s1 d1
          go_wp2_with fail
          go_quiet (fail)
          go_wp2_with fail
          go_roundw
          case rel => exact ⟨m + 1, q + nq, by go_num, by omega, by simp⟩
          case measure => simp [intOf]; omega
        · have hin' : (m : Int) + 1 = (n2 : Int) := by omega
          have hin2 : ¬ (m : Int) + 1 < (n2 : Int) := by omega
          clear hin'
          go_wp2_with fail
          go_roundw
          case rel => exact ⟨k + 1, by omega, by go_num, Lib.hid (hM2.out q)⟩
          case measure => simp [intOf]; omega
    · obtain rfl : k = ts.length := by omega
      obtain ⟨T, X, gone, eV, tV, xV, S, I, Z, g0, g1, hb⟩ := hM.out
      have cN := near_any wo w.heap.size B ev every most T X gone eV tV xV 0 S I
      unfold NearSays at cN
      obtain ⟨z1, z2, z3⟩ := nb_zero I Z
      rw [z1, if_neg (by decide), if_neg (by decide), z2, z3] at cN
      have cN := Lib.hid cN
      have Hb := Lib.hid hb
      clear S I Z z1 z2 z3 hM hb HT
      go_wp2_with fail
      refine cN.out.mono ?_
      rintro e w3 ⟨rfl, q, rfl⟩
      go_wp2_with fail
      refine (awake_any _).mono ?_
      rintro e w4 ⟨rfl, hb4⟩
      go_wp2_with fail
      go_ret
      exact ⟨rfl, (Hb.out.trans (below_drewN _ wo q)).trans (hb4.mono Hb.out.size)⟩

theorem most_any (every most : Int) (v2 v3 : Value) (ev ts : List Int) (w : World) (hv2 : View w v2 ev) (hv3 : View w v3 ts) (hlen : ev.length * 8 ≤ 140737488355328) : Calls Try.prog 3 #[.int .i64 every, .int .i64 most, v2, v3] w (Yes w) := by
  by_cases h : 1 ≤ every ∧ every ≤ 1048576 ∧ 1 ≤ most ∧ most ≤ 64
  · obtain ⟨h1, h2, h3, h4⟩ := h
    obtain ⟨a2, c2, rfl, _⟩ := hv2.slice
    obtain ⟨a3, c3, rfl, ht⟩ := hv3.slice
    by_cases hf : 100 < ts.length ∨ 100 < ev.length
    · exact most_far every most a2 a3 ts.length c2 c3 ev w h1 h2 h3 h4 hv2 hlen hf
    · exact most_core every most a2 c2 c3 _ ev ts w h1 h2 h3 h4 hv2 (by omega) (by omega) a3 rfl ht
  · exact most_no every most v2 v3 w h
end Go.Proofs.Ytkenbckagmjheaa
