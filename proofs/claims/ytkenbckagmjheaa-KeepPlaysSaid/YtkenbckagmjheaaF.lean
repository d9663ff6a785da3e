import Derived.Test.YtkenbckagmjheaaA
namespace Go.Proofs.Ytkenbckagmjheaa
open Go.RowKit

set_option maxHeartbeats 2000000 in
set_option maxRecDepth 100000 in
theorem same_any (w : World) (base B : Nat) (ev : List Int) (every most : Int) (L : List (Int × Int)) (gone : Int) (eV tV xV : Value) (ea : Option Addr) (en ec : Nat) (lV : Value) (h : St w base B ev every most (L.map Prod.fst) (L.map Prod.snd) gone eV tV xV) (hl : PView w lV L) (hlen : L.length ≤ 100) :
    Calls Try.prog 17 #[.pointer (some ⟨B, 0, none⟩), sv every most (.slice ea en ec) lV gone] w (Yes w) := by
  obtain ⟨la, lc, rfl, hc⟩ := hl.slice
  have S1 := h.alloc (so every most (.slice ea en ec) (.slice la L.length lc) gone)
  have cT := Lib.hid (times_any _ base B ev every most (L.map Prod.fst) (L.map Prod.snd) gone eV tV xV S1 (by rw [List.length_map]; omega))
  have HS := Lib.hid S1
  have hB0 : Below w.heap.size w (w.alloc (so every most (.slice ea en ec) (.slice la L.length lc) gone)) := (Below.refl _ _).alloc (Nat.le_refl _) _
  have HB0 := Lib.hid hB0
  have kb := heap_alloc_new w (so every most (.slice ea en ec) (.slice la L.length lc) gone)
  have Hkb := Lib.hid kb
  have hz : w.heap.size < (w.alloc (so every most (.slice ea en ec) (.slice la L.length lc) gone)).heap.size := by simp
  have Hz := Lib.hid hz
  have HC := Lib.hid hc
  clear h hl hc S1 hB0 kb hz
  unfold sv
  unfold so at *
  go_enter Try.func17, Try.ntmps17
  go_wp2_with fail
  generalize w.alloc (.cells #[.int .i64 every, .int .i64 most, .slice ea en ec, .slice la L.length lc, .int .i64 gone] 37 (0, 0)) = w0 at *
  refine cT.out.mono ?_
  rintro e w1 ⟨v, rfl, hr, hb⟩
  obtain ⟨av, cv, rfl, hv⟩ := hr.view.slice
  rw [List.length_map] at hv
  have hlm : Hid ((L.map Prod.fst).length = L.length) := List.length_map _
  have HV := Lib.hid hv
  have hB1 := Lib.hid (HB0.out.trans (hb.mono HB0.out.size))
  have kb := (hb.block w.heap.size Hz.out).trans Hkb.out
  have c3 := cell_of_row w1 w.heap.size 3 _ 37 (0, 0) kb
  have c4 := cell_of_row w1 w.heap.size 4 _ 37 (0, 0) kb
  simp only [List.getElem?_toArray, List.getElem?_cons_succ, List.getElem?_cons_zero] at c3 c4
  have cG := Lib.hid (fun n => (gone_any (w1.drewN n) base B ev every most (L.map Prod.fst) (L.map Prod.snd) gone eV tV xV ((HS.out.below hb).drewN n)).mono (fun _ _ ⟨h1, h2⟩ => And.intro h1 h2.symm))
  rw [List.length_map]
  clear hr hv hb kb cT HS
  go_wp2_with fail
  go_quiet ((go_at_call 18; exact Calls.quiet_of_same (cG.out _)))
  go_wp2_with fail
  go_loopw [6] (fun i wr => ∃ k q : Nat, i = .int .i64 k ∧ k ≤ L.length ∧ wr = w1.drewN q) (fun i _ => L.length - (intOf i).toNat)
  case atStart => exact ⟨0, _, rfl, Nat.zero_le _, rfl⟩
  case round =>
    obtain ⟨k, q, rfl, hk, rfl⟩ := hrel
    by_cases hlt : k < L.length
    · obtain ⟨bv, ov, rfl, hcv⟩ := HV.out (by omega)
      obtain ⟨b, off, rfl, hbw, hcc⟩ := HC.out (by omega)
      have k1 := hcv k hlt
      rw [getD_fst] at k1
      have k2 := (hB1.out.cell (p := ⟨b, off + k * 2, none⟩) hbw).trans (hcc k hlt).1
      generalize (L.getD k (0, 0)).1 = tk at *
      have y1 : (0 : Int) ≤ (k : Int) := by omega
      have y2 : (k : Int) < (L.length : Int) := by omega
      clear hcv hcc HV HC
      go_wp2_with fail
      go_quiet (fail)
      go_wp2_with fail
      go_roundw
      case rel => exact ⟨k + 1, q + nq, by go_num, by omega, by simp⟩
      case measure => simp [intOf]; omega
    · obtain rfl : k = L.length := by omega
      go_wp2_with fail
      go_ret
      exact ⟨rfl, hB1.out.trans (below_drewN _ w1 q)⟩
end Go.Proofs.Ytkenbckagmjheaa
