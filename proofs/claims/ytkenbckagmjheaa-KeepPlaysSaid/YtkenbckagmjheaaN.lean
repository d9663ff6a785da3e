import Derived.Test.YtkenbckagmjheaaL
import Derived.StillTailTactics
namespace Go.Proofs.Ytkenbckagmjheaa
open Go.RowKit

theorem putS_same (every most : Int) (ev T : List Int) (gone t : Int) : (putS every most ev T T gone t t).2.2.1 = (putS every most ev T T gone t t).2.1 := by
  unfold putS
  split
  · rfl
  · split <;> rfl

/-- The times not above a time are the first ones. -/
theorem nb_spec {T : List Int} (h : T.Pairwise (· < ·)) (t : Int) (i : Nat) (hi : i < T.length) : T.getD i 0 ≤ t ↔ i < nb T t := by
  obtain ⟨h1, h2⟩ := split_at T t h
  have hg : ∀ j, j < T.length → T.getD j 0 ∈ T := fun j hj => getD_mem hj
  have a1 : ∀ j, j < T.countP (· < t) → T.getD j 0 < t := fun j hj => by
    have hl : T.countP (· < t) ≤ T.length := List.countP_le_length
    refine h1 _ ?_
    rw [List.getD_eq_getElem?_getD, List.getElem?_eq_getElem (by omega)]
    exact List.mem_take_iff_getElem.2 ⟨j, by omega, rfl⟩
  have a2 : ∀ j, T.countP (· < t) ≤ j → j < T.length → t ≤ T.getD j 0 := fun j hj hl => by
    refine h2 _ ?_
    rw [List.getD_eq_getElem?_getD, List.getElem?_eq_getElem hl]
    refine List.mem_drop_iff_getElem.2 ⟨j - T.countP (· < t), by omega, ?_⟩
    simp only [Option.getD_some]
    congr 1
    omega
  unfold nb
  cases hc : T.contains t with
  | false =>
    rw [if_neg (by decide), Nat.add_zero]
    constructor
    · intro hle
      refine Decidable.byContradiction fun hn => ?_
      have := a2 i (by omega) hi
      have e : T.getD i 0 = t := by omega
      have hm := hg i hi
      rw [e] at hm
      have : T.contains t = true := by simpa using hm
      rw [this] at hc; cases hc
    · intro hlt
      have := a1 i hlt
      omega
  | true =>
    rw [if_pos rfl]
    have hm : t ∈ T := by simpa using hc
    obtain ⟨j, hj, hjt⟩ := List.mem_iff_getElem.1 hm
    have hjt' : T.getD j 0 = t := by rw [List.getD_eq_getElem?_getD, List.getElem?_eq_getElem hj]; exact hjt
    have hjc : j = T.countP (· < t) := by
      refine Nat.le_antisymm ?_ ?_
      · refine Nat.le_of_not_lt fun hn => ?_
        have := sorted_at h (T.countP (· < t)) j hn hj
        have := a2 (T.countP (· < t)) (Nat.le_refl _) (by omega)
        omega
      · refine Nat.le_of_not_lt fun hn => ?_
        have := a1 j hn
        omega
    constructor
    · intro hle
      refine Decidable.byContradiction fun hn => ?_
      have := sorted_at h j i (by omega) hi
      omega
    · intro hlt
      by_cases e : i = j
      · rw [e, hjt']; exact Int.le_refl _
      · have := a1 i (by omega)
        omega

theorem nearl_no (every most : Int) (v2 : Value) (t : Int) (w : World) (h : ¬ (1 ≤ every ∧ every ≤ 1048576 ∧ 1 ≤ most ∧ most ≤ 64)) : Calls Try.prog 4 #[.int .i64 every, .int .i64 most, v2, .int .i64 t] w (Yes w) := by
  have cN := Lib.hid (new_no every most (.slice none 0 0) w h)
  clear h
  go_enter Try.func4, Try.ntmps4
  go_wp2_with fail
  refine cN.out.mono ?_
  rintro e w1 ⟨rfl, rfl⟩
  go_wp2_with fail
  refine (awake_any _).mono ?_
  rintro e w2 ⟨rfl, hb⟩
  go_wp2_with fail
  go_ret
  exact ⟨rfl, hb⟩

theorem nearl_far (every most : Int) (a2 : Option Addr) (n2 c2 : Nat) (t : Int) (w : World) (h1 : 1 ≤ every) (h2 : every ≤ 1048576) (h3 : 1 ≤ most) (h4 : most ≤ 64) (hf : 100 < n2) :
    Calls Try.prog 4 #[.int .i64 every, .int .i64 most, .slice a2 n2 c2, .int .i64 t] w (Yes w) := by
  have cN := Lib.hid (new_yes every most (.slice none 0 0) [] w h1 h2 h3 h4 (.inl ⟨none, 0, rfl, rfl⟩) (by decide))
  have hz : 100 < (n2 : Int) := by omega
  clear hf h1 h2 h3 h4
  go_enter Try.func4, Try.ntmps4
  go_wp2_with fail
  refine cN.out.mono ?_
  rintro e w1 ⟨B, eV, rfl, S, hb⟩
  clear S
  go_wp2_with fail
  refine (awake_any _).mono ?_
  rintro e w2 ⟨rfl, hb2⟩
  go_wp2_with fail
  go_ret
  exact ⟨rfl, hb.trans (hb2.mono hb.size)⟩

/-- What holds at the head of each round. -/
def NRel (w : World) (B : Nat) (every most : Int) (k : Nat) (wr : World) : Prop :=
  ∃ T gone eV tV xV, St wr w.heap.size B [] every most T T gone eV tV xV ∧ Inv every most T T ∧ 0 ≤ gone ∧ gone ≤ k ∧ Below w.heap.size w wr

set_option maxHeartbeats 4000000 in
set_option maxRecDepth 100000 in
theorem nearl_core (every most : Int) (c2 : Nat) (ts : List Int) (at_ : Int) (w : World) (h1 : 1 ≤ every) (h2 : every ≤ 1048576) (h3 : 1 ≤ most) (h4 : most ≤ 64) (hts : ts.length ≤ 100)
    (a2 : Option Addr) (ht : 0 < ts.length → ∃ b off, a2 = some ⟨b, off, none⟩ ∧ ∀ j, j < ts.length → w.cell? ⟨b, off + j, none⟩ = some (.int .i64 (ts.getD j 0))) :
    Calls Try.prog 4 #[.int .i64 every, .int .i64 most, .slice a2 ts.length c2, .int .i64 at_] w (Yes w) := by
  have cN := Lib.hid (new_yes every most (.slice none 0 0) [] w h1 h2 h3 h4 (.inl ⟨none, 0, rfl, rfl⟩) (by decide))
  have hI0 : Hid (Inv every most [] []) := ⟨List.Pairwise.nil, rfl, by simp; omega, by simp, h3, h4, h1⟩
  have hts1 : ¬ 100 < (ts.length : Int) := by omega
  have HT := Lib.hid ht
  clear ht h1 h2 h3 h4
  go_enter Try.func4, Try.ntmps4
  go_wp2_with fail
  refine cN.out.mono ?_
  rintro e w1 ⟨B, eV, rfl, S, hb⟩
  have hM : Hid (NRel w B every most 0 w1) := ⟨[], 0, eV, _, _, S, hI0.out, by omega, by omega, hb⟩
  clear S cN hI0 hb
  go_wp2_with fail
  go_loopw [11] (fun i wr => ∃ k : Nat, k ≤ ts.length ∧ i = .int .i64 k ∧ Hid (NRel w B every most k wr)) (fun i _ => ts.length - (intOf i).toNat)
  case atStart => exact ⟨0, Nat.zero_le _, rfl, hM⟩
  case round =>
    clear hM
    obtain ⟨k, hk, rfl, hM⟩ := hrel
    obtain ⟨wo, hwo⟩ : ∃ wo : World, wo = wr := ⟨_, rfl⟩
    subst hwo
    by_cases hlt : k < ts.length
    · obtain ⟨b, off, rfl, hc⟩ := HT.out (by omega)
      obtain ⟨T, gone, eV, tV, xV, S, I, g0, g1, hb⟩ := hM.out
      have hck := (hb.cell (p := ⟨b, off + k, none⟩) (World.block_lt_of_cell? w _ (hc k hlt))).trans (hc k hlt)
      have cP := Lib.hid (put_any wo.drew w.heap.size B [] every most T T gone eV tV xV (ts.getD k 0) (ts.getD k 0) S.drew I hb.size g0 (by omega) (by simp))
      have I2 := Lib.hid (inv_put [] gone (ts.getD k 0) (ts.getD k 0) I)
      have Z2 := Lib.hid (putS_same every most [] T gone (ts.getD k 0))
      have G2 := Lib.hid (gone_put every most [] T T gone (ts.getD k 0) (ts.getD k 0))
      generalize putS every most [] T T gone (ts.getD k 0) (ts.getD k 0) = r at *
      generalize ts.getD k 0 = t at *
      have HS := Lib.hid S.drew
      have Hb : Hid (Below w.heap.size w wo.drew) := hb.drew
      have kk : (k : Int) ≤ 100 := by omega
      have y1 : (0 : Int) ≤ (k : Int) := by omega
      have y2 : (k : Int) < (ts.length : Int) := by omega
      clear hM hc S I hb HT
      go_wp2_with fail
      go_still_tail 9, (by kernel_rfl)
      change wpList _ _ _ _ _ wo.drew
      generalize wo.drew = wd at *
      go_wp2_with fail
      refine cP.out.mono ?_
      rintro e w3 ⟨t3, x3, rfl, S, P⟩
      obtain ⟨ok, T2, X2, g2⟩ := r
      have I2 : Inv every most T2 X2 := I2.out
      obtain rfl : X2 = T2 := Z2.out
      have G2 : g2 = gone ∨ g2 = gone + 1 := G2.out
      have S : St w3 w.heap.size B [] every most X2 X2 g2 eV t3 x3 := S
      have Hb3 := Hb.out.trans (P.below Hb.out.size HS.out.hB HS.out.rt.ge HS.out.rx.ge)
      have hM2 : Hid (NRel w B every most (k + 1) w3) := ⟨X2, g2, eV, t3, x3, S, I2, by omega, by omega, Hb3⟩
      clear S P cP HS Hb I2 Z2 G2 Hb3 hck
      go_wp2_with fail
      go_roundw
      case rel => exact ⟨k + 1, by omega, by go_num, hM2⟩
      case measure => simp [intOf]; omega
    · obtain rfl : k = ts.length := by omega
      obtain ⟨T, gone, eV, tV, xV, S, I, g0, g1, hb⟩ := hM.out
      have cN := near_any wo w.heap.size B [] every most T T gone eV tV xV at_ S I
      have cT := Lib.hid (fun q => times_any (wo.drewN q) w.heap.size B [] every most T T gone eV tV xV (S.drewN q) (by have := I.few; have := I.m64; omega))
      have Hb := Lib.hid hb
      have hsp := Lib.hid (fun i hi => nb_spec I.sorted at_ i hi)
      have hso := Lib.hid (sorted_at I.sorted)
      have hnl := nb_le T at_
      have hn64 : T.length ≤ 64 := by have := I.few; have := I.m64; omega
      unfold NearSays at cN
      clear S I hM hb HT
      by_cases h0 : nb T at_ = 0
      · simp only [h0, if_true, decide_true, Bool.not_true] at cN
        have cN := Lib.hid cN
        go_wp2_with fail
        refine cN.out.mono ?_
        rintro e w3 ⟨rfl, q, rfl⟩
        go_wp2_with fail
        refine (cT.out q).mono ?_
        rintro e w4 ⟨v, rfl, hr, hb4⟩
        have hrv := hr.view
        obtain ⟨av, cv, rfl, hvc⟩ := hrv.slice
        have Hb4 : Hid (Below w.heap.size w w4) := (Hb.out.trans (below_drewN _ wo q)).trans (hb4.mono Hb.out.size)
        have HV := Lib.hid hvc
        clear hr hrv hvc hb4 cT cN Hb
        go_wp2_with fail
        go_loopw [16] (fun kk wi => ∃ m : Nat, kk = .int .i64 m ∧ m ≤ T.length ∧ wi = w4) (fun kk _ => T.length - (intOf kk).toNat)
        case atStart => exact ⟨0, rfl, Nat.zero_le _, rfl⟩
        case round =>
          obtain ⟨m, rfl, hm, rfl⟩ := hrel
          by_cases hin : m < T.length
          · obtain ⟨bv, ov, rfl, hcv⟩ := HV.out (by omega)
            have k1 := hcv m hin
            have y1 : (0 : Int) ≤ (m : Int) := by omega
            have y2 : (m : Int) < (T.length : Int) := by omega
            have hle := hsp.out m hin
            have hgt : ¬ T.getD m 0 ≤ at_ := by rw [hle, h0]; omega
            generalize T.getD m 0 = a at *
            have z1 : decide (a ≤ at_) = false := decide_eq_false hgt
            clear hle hgt hcv h0
            go_wp2_with fail
            go_roundw
            case rel => exact ⟨m + 1, by go_num, by omega, trivial⟩
            case measure => simp [intOf]; omega
          · obtain rfl : m = T.length := by omega
            clear hsp hso
            go_wp2_with fail
            refine (awake_any _).mono ?_
            rintro e w5 ⟨rfl, hb5⟩
            go_wp2_with fail
            go_ret
            exact ⟨rfl, Hb4.out.trans (hb5.mono Hb4.out.size)⟩
      · simp only [if_neg h0, decide_eq_false h0, Bool.not_false] at cN
        have hx := hsp.out (nb T at_ - 1) (by omega)
        have hx : T.getD (nb T at_ - 1) 0 ≤ at_ := hx.2 (by omega)
        have hx' : decide (T.getD (nb T at_ - 1) 0 ≤ at_) = true := decide_eq_true hx
        have hord : Hid (∀ m, m < T.length → m < nb T at_ → T.getD m 0 ≤ T.getD (nb T at_ - 1) 0) := fun m _ hm => by
          by_cases e : m = nb T at_ - 1
          · rw [e]; exact Int.le_refl _
          · exact Int.le_of_lt (hso.out m (nb T at_ - 1) (by omega) (by omega))
        generalize T.getD (nb T at_ - 1) 0 = tt at *
        have cN := Lib.hid cN
        go_wp2_with fail
        refine cN.out.mono ?_
        rintro e w3 ⟨rfl, q, rfl⟩
        go_wp2_with fail
        refine (cT.out q).mono ?_
        rintro e w4 ⟨v, rfl, hr, hb4⟩
        have hrv := hr.view
        obtain ⟨av, cv, rfl, hvc⟩ := hrv.slice
        have Hb4 : Hid (Below w.heap.size w w4) := (Hb.out.trans (below_drewN _ wo q)).trans (hb4.mono Hb.out.size)
        have HV := Lib.hid hvc
        clear hr hrv hvc hb4 cT cN Hb
        go_wp2_with fail
        go_loopw [16] (fun kk wi => ∃ m : Nat, kk = .int .i64 m ∧ m ≤ T.length ∧ wi = w4) (fun kk _ => T.length - (intOf kk).toNat)
        case atStart => exact ⟨0, rfl, Nat.zero_le _, rfl⟩
        case round =>
          obtain ⟨m, rfl, hm, rfl⟩ := hrel
          by_cases hin : m < T.length
          · obtain ⟨bv, ov, rfl, hcv⟩ := HV.out (by omega)
            have k1 := hcv m hin
            have y1 : (0 : Int) ≤ (m : Int) := by omega
            have y2 : (m : Int) < (T.length : Int) := by omega
            have hle := hsp.out m hin
            by_cases hmc : m < nb T at_
            · have o1 := hord.out m hin hmc
              have o2 := hle.2 hmc
              generalize T.getD m 0 = a at *
              have z1 : decide (a ≤ at_) = true := decide_eq_true o2
              have z2 : decide (tt < a) = false := decide_eq_false (by omega)
              clear hle hcv h0 hx o1 o2
              go_wp2_with fail
              go_roundw
              case rel => exact ⟨m + 1, by go_num, by omega, trivial⟩
              case measure => simp [intOf]; omega
            · have o2 : ¬ T.getD m 0 ≤ at_ := fun e => hmc (hle.1 e)
              generalize T.getD m 0 = a at *
              have z1 : decide (a ≤ at_) = false := decide_eq_false o2
              clear hle hcv h0 hx o2
              go_wp2_with fail
              go_roundw
              case rel => exact ⟨m + 1, by go_num, by omega, trivial⟩
              case measure => simp [intOf]; omega
          · obtain rfl : m = T.length := by omega
            clear hsp hso
            go_wp2_with fail
            refine (awake_any _).mono ?_
            rintro e w5 ⟨rfl, hb5⟩
            go_wp2_with fail
            go_ret
            exact ⟨rfl, Hb4.out.trans (hb5.mono Hb4.out.size)⟩

theorem nearl_any (every most : Int) (v2 : Value) (ts : List Int) (t : Int) (w : World) (hv2 : View w v2 ts) : Calls Try.prog 4 #[.int .i64 every, .int .i64 most, v2, .int .i64 t] w (Yes w) := by
  by_cases h : 1 ≤ every ∧ every ≤ 1048576 ∧ 1 ≤ most ∧ most ≤ 64
  · obtain ⟨h1, h2, h3, h4⟩ := h
    obtain ⟨a2, c2, rfl, ht⟩ := hv2.slice
    by_cases hf : 100 < ts.length
    · exact nearl_far every most a2 ts.length c2 t w h1 h2 h3 h4 hf
    · exact nearl_core every most c2 ts t w h1 h2 h3 h4 (by omega) a2 ht
  · exact nearl_no every most v2 t w h
end Go.Proofs.Ytkenbckagmjheaa
