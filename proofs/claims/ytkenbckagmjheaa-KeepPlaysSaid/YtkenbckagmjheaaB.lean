import Derived.Test.YtkenbckagmjheaaA
namespace Go.Proofs.Ytkenbckagmjheaa
open Go.RowKit

theorem info46 : (Try.prog.info? 46).map (fun i => (i.zero, i.size, i.bytes)) = some (some (.agg #[.int .i64 0, .int .i64 0]), 2, 16) := by kernel_rfl

theorem PRow.none (w : World) (base : Nat) (hb : base ≤ w.heap.size) : PRow (w.alloc (.cells #[] 46)) base (.slice (some ⟨w.heap.size, 0, none⟩) 0 0) [] :=
  ⟨rfl, .inr ⟨w.heap.size, 0, #[], rfl, hb, heap_alloc_new w _, Nat.le_refl _, by unfold maxLen; omega, rfl, rfl⟩⟩
theorem PRow.cast {w : World} {base : Nat} {v : Value} {n : Nat} {L : List (Int × Int)} {p : Int × Int} (h : w.ownsRow base 46 2 v n (flat L ++ [.int .i64 p.1, .int .i64 p.2])) (hn : n = L.length + 1) : PRow w base v (L ++ [p]) := by
  unfold PRow
  rw [flat_append, List.length_append, List.length_singleton, ← hn]
  exact h
theorem PRow.slice {w : World} {base : Nat} {v : Value} {L : List (Int × Int)} (h : PRow w base v L) : ∃ a c, v = .slice a L.length c := by
  obtain ⟨a, c, e, _⟩ := h.view.slice
  exact ⟨a, c, e⟩
theorem PRow.ge {w : World} {base : Nat} {v : Value} {L : List (Int × Int)} (h : PRow w base v L) : ∀ k, v.ownBlock = some k → base ≤ k := fun k hk => (h.lt k hk).1
theorem PRow.blt {w : World} {base : Nat} {v : Value} {L : List (Int × Int)} (h : PRow w base v L) : ∀ k, v.ownBlock = some k → k < w.heap.size := fun k hk => (h.lt k hk).2

theorem PRow.move {w w' : World} {b b' : Nat} {v : Value} {L : List (Int × Int)} (h : PRow w b v L) (hb : b' ≤ b) (hs : ∀ k, v.ownBlock = some k → w'.heap[k]? = w.heap[k]?) : PRow w' b' v L := by
  refine ⟨h.1, ?_⟩
  rcases h.2 with hn | ⟨g, cap, cur, hv, hb2, hg, r⟩
  · exact .inl hn
  · exact .inr ⟨g, cap, cur, hv, by omega, (hs g (by rw [hv]; rfl)).trans hg, r⟩

/-- What the reference's methods leave: a store's value, its row new or as it was. -/
def RBehind (every most gone : Int) (eV : Value) (L : List (Int × Int)) (w : World) : Ending → World → Prop := fun e w' =>
  ∃ v, e = .returned (sv every most eV v gone) ∧ PRow w' w.heap.size v L ∧ Below w.heap.size w w'

set_option maxHeartbeats 2000000 in
theorem rbehind_any (every most gone t : Int) (ea : Option Addr) (en ec : Nat) (lV : Value) (L : List (Int × Int)) (w : World) (h : PView w lV L) (hs : (L.map Prod.fst).Pairwise (· < ·)) (hlen : L.length ≤ 1000) :
    Calls Try.prog 15 #[sv every most (.slice ea en ec) lV gone, .int .i64 t] w (RBehind every most gone (.slice ea en ec) (L.take (nb (L.map Prod.fst) t)) w) := by
  obtain ⟨i0, hi, hz0, hz1, hz2⟩ := info_parts info46
  have hsp := Lib.hid (fun i hi => nb_spec hs t i hi)
  have hn := nb_le (L.map Prod.fst) t
  rw [List.length_map] at hn
  obtain ⟨la, lc, rfl, hc⟩ := h.slice
  have HC := Lib.hid hc
  clear h hs hc
  generalize nb (L.map Prod.fst) t = c at *
  unfold sv
  go_enter Try.func15, Try.ntmps15
  go_wp2_with fail
  have hW0 : ((w.alloc (so every most (.slice ea en ec) (.slice la L.length lc) gone)).alloc (so 0 0 (.slice none 0 0) (.slice none 0 0) 0)).heap.size = w.heap.size + 1 + 1 := by simp
  have K1 : ((w.alloc (so every most (.slice ea en ec) (.slice la L.length lc) gone)).alloc (so 0 0 (.slice none 0 0) (.slice none 0 0) 0)).heap[w.heap.size]? = some (so every most (.slice ea en ec) (.slice la L.length lc) gone) := (Below.heap_alloc _ _ _ (by simp)).trans (heap_alloc_new w _)
  have K2 : ((w.alloc (so every most (.slice ea en ec) (.slice la L.length lc) gone)).alloc (so 0 0 (.slice none 0 0) (.slice none 0 0) 0)).heap[w.heap.size + 1]? = some (so 0 0 (.slice none 0 0) (.slice none 0 0) 0) := by
    have := heap_alloc_new (w.alloc (so every most (.slice ea en ec) (.slice la L.length lc) gone)) (so 0 0 (.slice none 0 0) (.slice none 0 0) 0)
    simpa using this
  have KB : Below w.heap.size w ((w.alloc (so every most (.slice ea en ec) (.slice la L.length lc) gone)).alloc (so 0 0 (.slice none 0 0) (.slice none 0 0) 0)) := ((Below.refl _ _).alloc (Nat.le_refl _) _).alloc (by simp) _
  unfold so at hW0 K1 K2 KB
  generalize (w.alloc (.cells #[.int .i64 every, .int .i64 most, .slice ea en ec, .slice la L.length lc, .int .i64 gone] 37 (0, 0))).alloc (.cells #[.int .i64 0, .int .i64 0, .slice none 0 0, .slice none 0 0, .int .i64 0] 37 (0, 0)) = W0 at *
  have o1 := Lib.hid (PRow.none W0 W0.heap.size (Nat.le_refl _))
  have b1 : Hid (Below W0.heap.size W0 (W0.alloc (.cells #[] 46))) := (Below.refl _ _).alloc (Nat.le_refl _) _
  rw [hW0] at o1 b1
  have HW := Lib.hid hW0
  have HK1 := Lib.hid K1
  have HK2 := Lib.hid K2
  have HKB := Lib.hid KB
  clear hW0 K1 K2 KB
  go_loopw [11, 5, 6] (fun ix v _ wr => ∃ k : Nat, k ≤ L.length ∧ ix = .int .i64 k ∧ Hid (PRow wr (w.heap.size + 1 + 1) v (L.take (min k c))) ∧ Hid (Below (w.heap.size + 1 + 1) W0 wr)) (fun ix _ _ _ => L.length - (intOf ix).toNat)
  case atStart => exact ⟨0, Nat.zero_le _, rfl, by rw [Nat.zero_min]; exact o1, b1⟩
  case round =>
    clear o1 b1
    obtain ⟨k, hk, rfl, ho, hb⟩ := hrel
    have hw1 : w.heap.size + 1 + 1 ≤ wr.heap.size := by have := hb.out.size; have := HW.out; omega
    have kb := (hb.out.block w.heap.size (by omega)).trans HK1.out
    have c3 := cell_of_row wr w.heap.size 3 _ 37 (0, 0) kb
    simp only [List.getElem?_toArray, List.getElem?_cons_succ, List.getElem?_cons_zero] at c3
    by_cases hlt : k < L.length
    · obtain ⟨b, off, rfl, hbw, hcc⟩ := HC.out (by omega)
      have hbw2 : b < w.heap.size + 1 + 1 := by omega
      have e0 : wr.heap[b]? = w.heap[b]? := (hb.out.block b hbw2).trans (HKB.out.block b hbw)
      have k1 := (World.cell?_of_block (w := w) (w' := wr) (a := ⟨b, off + k * 2, none⟩) e0).trans (hcc k hlt).1
      have k2 := (World.cell?_of_block (w := w) (w' := wr) (a := ⟨b, off + k * 2 + 1, none⟩) e0).trans (hcc k hlt).2
      have hle := hsp.out k (by rw [List.length_map]; exact hlt)
      rw [getD_fst] at hle
      have htk : Hid (L.take (k + 1) = L.take k ++ [L.getD k (0, 0)]) := by
        rw [Hid, List.take_succ_eq_append_getElem hlt, List.getD_eq_getElem?_getD, List.getElem?_eq_getElem hlt]; rfl
      have hll : (L.take k).length ≤ 1000 := by simp; omega
      clear hcc HC
      generalize L.getD k (0, 0) = pk at *
      obtain ⟨tk, xk⟩ := pk
      simp only at k1 k2 hle
      have y1 : (0 : Int) ≤ (k : Int) := by omega
      have y2 : (k : Int) < (L.length : Int) := by omega
      clear hsp kb e0
      by_cases hc : k < c
      · have z1 : decide (tk ≤ t) = true := decide_eq_true (hle.2 hc)
        have hm : Hid (L.take (min (k + 1) c) = L.take k ++ [(tk, xk)]) := by rw [Hid, Nat.min_eq_left (by omega)]; exact htk.out
        rw [Nat.min_eq_left (by omega : k ≤ c)] at ho
        generalize L.take k = A at *
        clear hle htk
        go_wp2_with (at_builtin; refine Classical.byContradiction fun hnot => ?_)
        refine hnot ?_
        clear hnot
        refine wpList_append_own _ rfl (.tmp 22) (.tmp 28) 35 rfl (w.heap.size + 1 + 1) 46 i0 _ 2 16 Try.underlying35 hi hz0 hz1 hz2 rfl (by decide) _ A.length (flat A) rfl (ho.out.alloc _) ⟨wr.heap.size, 0, none⟩ 1 1 [.int .i64 tk, .int .i64 xk] rfl rfl ?_ ?_ ?_ ?_ ?_ ?_
        · exact World.news_of_block (cs := #[.int .i64 tk, .int .i64 xk]) (t := 46) (fr := (0, 0)) (heap_alloc_new wr _)
        · intro u hu
          simp only [List.mem_cons, List.not_mem_nil, or_false] at hu
          rcases hu with rfl | rfl <;> rfl
        · unfold maxLen; omega
        · omega
        · simp; omega
        · intro v' wq hown' hgr _
          have ho' := Lib.hid (PRow.cast (p := (tk, xk)) hown' rfl)
          have hb' : Hid (Below (w.heap.size + 1 + 1) W0 wq) := (hb.out.alloc hw1 _).grown hgr (by simp; omega) (fun k hk => (ho.out.lt k hk).1)
          clear hown' hgr ho hb
          rw [← hm.out] at ho'
          go_wp2_with fail
          go_roundw
          case rel => exact ⟨k + 1, by omega, by go_num, ho', hb'⟩
          case measure => simp [intOf]; omega
      · have z1 : decide (tk ≤ t) = false := decide_eq_false (fun e => hc (hle.1 e))
        have hm : Hid (min (k + 1) c = min k c) := by rw [Hid, Nat.min_eq_right (by omega), Nat.min_eq_right (by omega)]
        rw [← hm.out] at ho
        clear hle htk
        go_wp2_with fail
        go_roundw
        case rel => exact ⟨k + 1, by omega, by go_num, ho, hb⟩
        case measure => simp [intOf]; omega
    · obtain rfl : k = L.length := by omega
      rw [Nat.min_eq_right hn] at ho
      obtain ⟨va, vc, rfl⟩ := ho.out.slice
      have hlc : (L.take c).length = c := by simp; omega
      rw [hlc] at ho
      clear hlc
      have kr := (hb.out.block (w.heap.size + 1) (by omega)).trans HK2.out
      have b0 := cell_of_row wr w.heap.size 0 _ 37 (0, 0) kb
      have b1 := cell_of_row wr w.heap.size 1 _ 37 (0, 0) kb
      have b2 := cell_of_row wr w.heap.size 2 _ 37 (0, 0) kb
      have b4 := cell_of_row wr w.heap.size 4 _ 37 (0, 0) kb
      have fb := fun j => frozen_of_row wr w.heap.size j _ 37 kb
      have r0 := cell_of_row wr (w.heap.size + 1) 0 _ 37 (0, 0) kr
      have r1 := cell_of_row wr (w.heap.size + 1) 1 _ 37 (0, 0) kr
      have r2 := cell_of_row wr (w.heap.size + 1) 2 _ 37 (0, 0) kr
      have r3 := cell_of_row wr (w.heap.size + 1) 3 _ 37 (0, 0) kr
      have r4 := cell_of_row wr (w.heap.size + 1) 4 _ 37 (0, 0) kr
      have fr := fun j => frozen_of_row wr (w.heap.size + 1) j _ 37 kr
      simp only [List.getElem?_toArray, List.getElem?_cons_succ, List.getElem?_cons_zero] at b0 b1 b2 b4 r0 r1 r2 r3 r4
      clear kb kr HC hsp
      go_wp2_with fail
      (try simp only [Exit.inBlock, Exit.then])
      refine bodyPost_ret (v := .agg #[.int .i64 every, .int .i64 most, .slice ea en ec, .slice va c vc, .int .i64 gone]) (by simp (maxDischargeDepth := 9) [results, Try.results15, go_sem, r0, r1, r2, r3, r4, World.cell?_setCell_other]) rfl ?_
      refine ⟨_, rfl, ho.out.move (by omega) (fun k hk => ?_), ?_⟩
      · have h1 := ho.out.ge k hk
        have hk1 : k ≠ w.heap.size := by omega
        have hk2 : k ≠ w.heap.size + 1 := by omega
        rw [heap_setCell_other _ _ _ _ hk2, heap_setCell_other _ _ _ _ hk2, heap_setCell_other _ _ _ _ hk2, heap_setCell_other _ _ _ _ hk2, heap_setCell_other _ _ _ _ hk2, heap_setCell_other _ _ _ _ hk1]
      · refine HKB.out.trans ?_
        have h1 : w.heap.size ≤ w.heap.size + 1 := by omega
        have hb2 := hb.out.mono (show w.heap.size ≤ w.heap.size + 1 + 1 by omega)
        exact ((((((hb2).setCell (Nat.le_refl _) _).setCell h1 _).setCell h1 _).setCell h1 _).setCell h1 _).setCell h1 _
end Go.Proofs.Ytkenbckagmjheaa
