import Derived.Test.YtkenbckagmjheaaB
namespace Go.Proofs.Ytkenbckagmjheaa
open Go.RowKit

theorem lt_spec {T : List Int} (h : T.Pairwise (· < ·)) (t : Int) (i : Nat) (hi : i < T.length) : T.getD i 0 < t ↔ i < T.countP (· < t) := by
  obtain ⟨h1, h2⟩ := split_at T t h
  constructor
  · intro hlt
    refine Decidable.byContradiction fun hn => ?_
    have : t ≤ T.getD i 0 := by
      refine h2 _ ?_
      rw [List.getD_eq_getElem?_getD, List.getElem?_eq_getElem hi]
      refine List.mem_drop_iff_getElem.2 ⟨i - T.countP (· < t), by omega, ?_⟩
      simp only [Option.getD_some]
      congr 1
      omega
    omega
  · intro hlt
    refine h1 _ ?_
    rw [List.getD_eq_getElem?_getD, List.getElem?_eq_getElem hi]
    exact List.mem_take_iff_getElem.2 ⟨i, by omega, rfl⟩

/-- What the first loop has made. -/
def acc1 (L : List (Int × Int)) (i0 : Nat) (p : Int × Int) (k : Nat) : List (Int × Int) := if i0 < k then ins (L.take k) i0 p else L.take k
theorem take_snocP (L : List (Int × Int)) (k : Nat) (h : k < L.length) : L.take (k + 1) = L.take k ++ [L.getD k (0, 0)] := by
  rw [List.take_succ_eq_append_getElem h, List.getD_eq_getElem?_getD, List.getElem?_eq_getElem h]; rfl
theorem acc1_low (L : List (Int × Int)) (i0 : Nat) (p : Int × Int) (k : Nat) (h : k < L.length) (hk : k < i0) : acc1 L i0 p (k + 1) = acc1 L i0 p k ++ [L.getD k (0, 0)] := by
  unfold acc1
  rw [if_neg (by omega), if_neg (by omega), take_snocP L k h]
theorem acc1_at (L : List (Int × Int)) (i0 : Nat) (p : Int × Int) (h : i0 < L.length) : acc1 L i0 p (i0 + 1) = acc1 L i0 p i0 ++ [p] ++ [L.getD i0 (0, 0)] := by
  unfold acc1
  rw [if_pos (by omega), if_neg (by omega), take_snocP L i0 h]
  unfold ins
  rw [List.take_left' (by simp; omega), List.drop_left' (by simp; omega)]
  simp
theorem acc1_high (L : List (Int × Int)) (i0 : Nat) (p : Int × Int) (k : Nat) (h : k < L.length) (hk : i0 < k) : acc1 L i0 p (k + 1) = acc1 L i0 p k ++ [L.getD k (0, 0)] := by
  unfold acc1
  rw [if_pos (by omega), if_pos hk, take_snocP L k h]
  unfold ins
  have hl : i0 ≤ (L.take k).length := by simp; omega
  rw [List.take_append_of_le_length hl, List.drop_append_of_le_length hl]
  simp
theorem acc1_length (L : List (Int × Int)) (i0 : Nat) (p : Int × Int) (k : Nat) : (acc1 L i0 p k).length ≤ L.length + 1 := by
  unfold acc1
  split
  · unfold ins; simp; omega
  · simp; omega
theorem acc1_end (L : List (Int × Int)) (i0 : Nat) (p : Int × Int) (h : i0 < L.length) : acc1 L i0 p L.length = ins L i0 p := by
  unfold acc1
  rw [if_pos h, List.take_length]
theorem acc1_end2 (L : List (Int × Int)) (p : Int × Int) : acc1 L L.length p L.length ++ [p] = ins L L.length p := by
  unfold acc1 ins
  rw [if_neg (by omega), List.take_length, List.drop_length]

/-- What the reference's Put leaves: its row is the one that was there or a new one. -/
def RPut (b : Bool) (every most gone : Int) (eV lV : Value) (L : List (Int × Int)) (w : World) : Ending → World → Prop := fun e w' =>
  ∃ v, e = .returned (.tuple #[.bool b, sv every most eV v gone]) ∧ (v = lV ∨ ∀ k, v.ownBlock = some k → w.heap.size ≤ k ∧ k < w'.heap.size) ∧ PView w' v L ∧ Below w.heap.size w w'

theorem box_keep {w W : World} {b : Nat} (h : Below w.heap.size w W) (hb : w.heap.size ≤ b) (v0 v1 v2 v3 v4 : Value) : Below w.heap.size w (((((W.setCell ⟨b, 0, none⟩ v0).setCell ⟨b, 1, none⟩ v1).setCell ⟨b, 2, none⟩ v2).setCell ⟨b, 3, none⟩ v3).setCell ⟨b, 4, none⟩ v4) :=
  ((((h.setCell hb _).setCell hb _).setCell hb _).setCell hb _).setCell hb _

set_option maxHeartbeats 1000000 in
set_option maxRecDepth 100000 in
theorem rput_no (every most gone t x : Int) (ea : Option Addr) (en ec : Nat) (lV : Value) (L : List (Int × Int)) (w : World) (h : PView w lV L) (he : 1 ≤ every) (ht : t < 0 ∨ (0 ≤ t ∧ (t % every != 0) = true)) :
    Calls Try.prog 13 #[sv every most (.slice ea en ec) lV gone, .int .i64 t, .int .i64 x] w (RPut false every most gone (.slice ea en ec) lV L w) := by
  obtain ⟨la, lc, rfl, _⟩ := h.slice
  have PV := Lib.hid h
  clear h
  unfold sv
  rcases ht with ht | ⟨h0, hm⟩
  · go_enter Try.func13, Try.ntmps13
    go_wp2_with fail
    have hW0 : ((w.alloc (so every most (.slice ea en ec) (.slice la L.length lc) gone)).alloc (so 0 0 (.slice none 0 0) (.slice none 0 0) 0)).heap.size = w.heap.size + 1 + 1 := by simp
    have K1 : ((w.alloc (so every most (.slice ea en ec) (.slice la L.length lc) gone)).alloc (so 0 0 (.slice none 0 0) (.slice none 0 0) 0)).heap[w.heap.size]? = some (so every most (.slice ea en ec) (.slice la L.length lc) gone) := (Below.heap_alloc _ _ _ (by simp)).trans (heap_alloc_new w _)
    have K2 : ((w.alloc (so every most (.slice ea en ec) (.slice la L.length lc) gone)).alloc (so 0 0 (.slice none 0 0) (.slice none 0 0) 0)).heap[w.heap.size + 1]? = some (so 0 0 (.slice none 0 0) (.slice none 0 0) 0) := by
      have := heap_alloc_new (w.alloc (so every most (.slice ea en ec) (.slice la L.length lc) gone)) (so 0 0 (.slice none 0 0) (.slice none 0 0) 0)
      simpa using this
    have KB : Below w.heap.size w ((w.alloc (so every most (.slice ea en ec) (.slice la L.length lc) gone)).alloc (so 0 0 (.slice none 0 0) (.slice none 0 0) 0)) := ((Below.refl _ _).alloc (Nat.le_refl _) _).alloc (by simp) _
    unfold so at hW0 K1 K2 KB
    generalize (w.alloc (.cells #[.int .i64 every, .int .i64 most, .slice ea en ec, .slice la L.length lc, .int .i64 gone] 37 (0, 0))).alloc (.cells #[.int .i64 0, .int .i64 0, .slice none 0 0, .slice none 0 0, .int .i64 0] 37 (0, 0)) = W0 at *
    have b0 := cell_of_row W0 w.heap.size 0 _ 37 (0, 0) K1
    have b1 := cell_of_row W0 w.heap.size 1 _ 37 (0, 0) K1
    have b2 := cell_of_row W0 w.heap.size 2 _ 37 (0, 0) K1
    have b3 := cell_of_row W0 w.heap.size 3 _ 37 (0, 0) K1
    have b4 := cell_of_row W0 w.heap.size 4 _ 37 (0, 0) K1
    have fb := fun j => frozen_of_row W0 w.heap.size j _ 37 K1
    simp only [List.getElem?_toArray, List.getElem?_cons_succ, List.getElem?_cons_zero] at b0 b1 b2 b3 b4
    have r0 := cell_of_row W0 (w.heap.size + 1) 0 _ 37 (0, 0) K2
    have r1 := cell_of_row W0 (w.heap.size + 1) 1 _ 37 (0, 0) K2
    have r2 := cell_of_row W0 (w.heap.size + 1) 2 _ 37 (0, 0) K2
    have r3 := cell_of_row W0 (w.heap.size + 1) 3 _ 37 (0, 0) K2
    have r4 := cell_of_row W0 (w.heap.size + 1) 4 _ 37 (0, 0) K2
    have fr := fun j => frozen_of_row W0 (w.heap.size + 1) j _ 37 K2
    simp only [List.getElem?_toArray, List.getElem?_cons_succ, List.getElem?_cons_zero] at r0 r1 r2 r3 r4
    have HKB := Lib.hid KB
    clear hW0 K1 K2 KB
    go_region
    all_goals
      go_wp2_with fail
      (try simp only [Exit.inBlock, Exit.then])
      refine bodyPost_ret (v := .tuple #[.bool false, .agg #[.int .i64 every, .int .i64 most, .slice ea en ec, .slice la L.length lc, .int .i64 gone]]) (by simp (maxDischargeDepth := 9) [results, Try.results13, go_sem, r0, r1, r2, r3, r4, World.cell?_setCell_other]) rfl ?_
      have hB := (box_keep (b := w.heap.size + 1) HKB.out (by omega) (.int .i64 every) (.int .i64 most) (.slice ea en ec) (.slice la L.length lc) (.int .i64 gone)).drew
      exact ⟨_, rfl, .inl rfl, PV.out.below hB, hB⟩
  · have h0' : ¬ t < 0 := by omega
    go_enter Try.func13, Try.ntmps13
    go_wp2_with fail
    have hW0 : ((w.alloc (so every most (.slice ea en ec) (.slice la L.length lc) gone)).alloc (so 0 0 (.slice none 0 0) (.slice none 0 0) 0)).heap.size = w.heap.size + 1 + 1 := by simp
    have K1 : ((w.alloc (so every most (.slice ea en ec) (.slice la L.length lc) gone)).alloc (so 0 0 (.slice none 0 0) (.slice none 0 0) 0)).heap[w.heap.size]? = some (so every most (.slice ea en ec) (.slice la L.length lc) gone) := (Below.heap_alloc _ _ _ (by simp)).trans (heap_alloc_new w _)
    have K2 : ((w.alloc (so every most (.slice ea en ec) (.slice la L.length lc) gone)).alloc (so 0 0 (.slice none 0 0) (.slice none 0 0) 0)).heap[w.heap.size + 1]? = some (so 0 0 (.slice none 0 0) (.slice none 0 0) 0) := by
      have := heap_alloc_new (w.alloc (so every most (.slice ea en ec) (.slice la L.length lc) gone)) (so 0 0 (.slice none 0 0) (.slice none 0 0) 0)
      simpa using this
    have KB : Below w.heap.size w ((w.alloc (so every most (.slice ea en ec) (.slice la L.length lc) gone)).alloc (so 0 0 (.slice none 0 0) (.slice none 0 0) 0)) := ((Below.refl _ _).alloc (Nat.le_refl _) _).alloc (by simp) _
    unfold so at hW0 K1 K2 KB
    generalize (w.alloc (.cells #[.int .i64 every, .int .i64 most, .slice ea en ec, .slice la L.length lc, .int .i64 gone] 37 (0, 0))).alloc (.cells #[.int .i64 0, .int .i64 0, .slice none 0 0, .slice none 0 0, .int .i64 0] 37 (0, 0)) = W0 at *
    have b0 := cell_of_row W0 w.heap.size 0 _ 37 (0, 0) K1
    have b1 := cell_of_row W0 w.heap.size 1 _ 37 (0, 0) K1
    have b2 := cell_of_row W0 w.heap.size 2 _ 37 (0, 0) K1
    have b3 := cell_of_row W0 w.heap.size 3 _ 37 (0, 0) K1
    have b4 := cell_of_row W0 w.heap.size 4 _ 37 (0, 0) K1
    have fb := fun j => frozen_of_row W0 w.heap.size j _ 37 K1
    simp only [List.getElem?_toArray, List.getElem?_cons_succ, List.getElem?_cons_zero] at b0 b1 b2 b3 b4
    have r0 := cell_of_row W0 (w.heap.size + 1) 0 _ 37 (0, 0) K2
    have r1 := cell_of_row W0 (w.heap.size + 1) 1 _ 37 (0, 0) K2
    have r2 := cell_of_row W0 (w.heap.size + 1) 2 _ 37 (0, 0) K2
    have r3 := cell_of_row W0 (w.heap.size + 1) 3 _ 37 (0, 0) K2
    have r4 := cell_of_row W0 (w.heap.size + 1) 4 _ 37 (0, 0) K2
    have fr := fun j => frozen_of_row W0 (w.heap.size + 1) j _ 37 K2
    simp only [List.getElem?_toArray, List.getElem?_cons_succ, List.getElem?_cons_zero] at r0 r1 r2 r3 r4
    have HKB := Lib.hid KB
    clear hW0 K1 K2 KB
    go_region
    all_goals
      go_wp2_with fail
      (try simp only [Exit.inBlock, Exit.then])
      refine bodyPost_ret (v := .tuple #[.bool false, .agg #[.int .i64 every, .int .i64 most, .slice ea en ec, .slice la L.length lc, .int .i64 gone]]) (by simp (maxDischargeDepth := 9) [results, Try.results13, go_sem, r0, r1, r2, r3, r4, World.cell?_setCell_other]) rfl ?_
      have hB := (box_keep (b := w.heap.size + 1) HKB.out (by omega) (.int .i64 every) (.int .i64 most) (.slice ea en ec) (.slice la L.length lc) (.int .i64 gone)).drew
      exact ⟨_, rfl, .inl rfl, PV.out.below hB, hB⟩
theorem lt_of_there {T : List Int} (h : T.Pairwise (· < ·)) (t : Int) (hc : T.contains t = true) : T.countP (· < t) < T.length ∧ T.getD (T.countP (· < t)) 0 = t := by
  have hm : t ∈ T := by simpa using hc
  obtain ⟨j, hj, hjt⟩ := List.mem_iff_getElem.1 hm
  have hjt' : T.getD j 0 = t := by rw [List.getD_eq_getElem?_getD, List.getElem?_eq_getElem hj]; exact hjt
  have h1 := lt_spec h t j hj
  have hle : T.countP (· < t) ≤ j := Nat.le_of_not_lt (fun e => by have := h1.2 e; omega)
  have h2 := lt_spec h t (T.countP (· < t)) (by omega)
  have : T.countP (· < t) = j := by
    refine Decidable.byContradiction fun hn => ?_
    have h3 := sorted_at h (T.countP (· < t)) j (by omega) hj
    rw [hjt'] at h3
    have := h2.1 h3
    omega
  rw [this]
  exact ⟨hj, hjt'⟩

set_option maxHeartbeats 2000000 in
set_option maxRecDepth 100000 in
theorem rput_there (every most gone t x : Int) (ea : Option Addr) (en ec : Nat) (lV : Value) (L : List (Int × Int)) (w : World) (h : PView w lV L) (he : 1 ≤ every) (h0 : 0 ≤ t) (hm : (t % every != 0) = false) (hs : (L.map Prod.fst).Pairwise (· < ·)) (hlen : L.length ≤ 900) (hct : (L.map Prod.fst).contains t = true) :
    Calls Try.prog 13 #[sv every most (.slice ea en ec) lV gone, .int .i64 t, .int .i64 x] w (RPut false every most gone (.slice ea en ec) lV L w) := by
  obtain ⟨inf, hif, hz0, hz1, hz2⟩ := info_parts info46
  obtain ⟨la, lc, rfl, hc⟩ := h.slice
  have PV := Lib.hid h
  have HC := Lib.hid hc
  have h0' : ¬ t < 0 := by omega
  have hlt1 := Lib.hid (fun i hi => lt_spec hs t i hi)
  obtain ⟨hi0, hit⟩ := lt_of_there hs t hct
  rw [List.length_map] at hi0
  generalize (L.map Prod.fst).countP (· < t) = i0 at *
  rw [getD_fst] at hit
  have HIT := Lib.hid hit
  clear h hs hc hct hit
  unfold sv
  go_enter Try.func13, Try.ntmps13
  go_wp2_with fail
  have hW0 : ((w.alloc (so every most (.slice ea en ec) (.slice la L.length lc) gone)).alloc (so 0 0 (.slice none 0 0) (.slice none 0 0) 0)).heap.size = w.heap.size + 1 + 1 := by simp
  have K1 : ((w.alloc (so every most (.slice ea en ec) (.slice la L.length lc) gone)).alloc (so 0 0 (.slice none 0 0) (.slice none 0 0) 0)).heap[w.heap.size]? = some (so every most (.slice ea en ec) (.slice la L.length lc) gone) := (Below.heap_alloc _ _ _ (by simp)).trans (heap_alloc_new w _)
  have K2 : ((w.alloc (so every most (.slice ea en ec) (.slice la L.length lc) gone)).alloc (so 0 0 (.slice none 0 0) (.slice none 0 0) 0)).heap[w.heap.size + 1]? = some (so 0 0 (.slice none 0 0) (.slice none 0 0) 0) := by
    have := heap_alloc_new (w.alloc (so every most (.slice ea en ec) (.slice la L.length lc) gone)) (so 0 0 (.slice none 0 0) (.slice none 0 0) 0)
    simpa using this
  have KB : Below w.heap.size w ((w.alloc (so every most (.slice ea en ec) (.slice la L.length lc) gone)).alloc (so 0 0 (.slice none 0 0) (.slice none 0 0) 0)) := ((Below.refl _ _).alloc (Nat.le_refl _) _).alloc (by simp) _
  unfold so at hW0 K1 K2 KB
  generalize (w.alloc (.cells #[.int .i64 every, .int .i64 most, .slice ea en ec, .slice la L.length lc, .int .i64 gone] 37 (0, 0))).alloc (.cells #[.int .i64 0, .int .i64 0, .slice none 0 0, .slice none 0 0, .int .i64 0] 37 (0, 0)) = W0 at *
  have o1 := Lib.hid (PRow.none W0 W0.heap.size (Nat.le_refl _))
  have b1 : Hid (Below W0.heap.size W0 (W0.alloc (.cells #[] 46))) := (Below.refl _ _).alloc (Nat.le_refl _) _
  rw [hW0] at o1 b1
  have HW := Lib.hid hW0
  have HK1 := Lib.hid K1
  have HK2 := Lib.hid K2
  have HKB := Lib.hid KB
  clear hW0 K1 K2 KB
  go_loopw [30, 8, 9, 10] (fun ix v d _ wr => ∃ (k : Nat) (b : Bool) (A : List (Int × Int)), k ≤ L.length ∧ k ≤ i0 ∧ ix = .int .i64 k ∧ d = .bool b ∧ Hid (b = decide (i0 < k)) ∧ Hid (A = acc1 L i0 (t, x) k) ∧ A.length ≤ 1001 ∧ Hid (PRow wr (w.heap.size + 1 + 1) v A) ∧ Hid (Below (w.heap.size + 1 + 1) W0 wr)) (fun ix _ _ _ _ => L.length - (intOf ix).toNat)
  case atStart => exact ⟨0, false, [], Nat.zero_le _, Nat.zero_le _, rfl, rfl, rfl, by simp [Hid, acc1], by simp, o1, b1⟩
  case round =>
    clear o1 b1
    obtain ⟨k, bd, A, hk, hk0, rfl, rfl, hbd, hA, hAl, ho, hb⟩ := hrel
    have hw1 : w.heap.size + 1 + 1 ≤ wr.heap.size := by have := hb.out.size; have := HW.out; omega
    have kb := (hb.out.block w.heap.size (by omega)).trans HK1.out
    have hlt : k < L.length := by omega
    by_cases hki : k < i0
    · obtain ⟨b, off, rfl, hbw, hcc⟩ := HC.out (by omega)
      have c3 := cell_of_row wr w.heap.size 3 _ 37 (0, 0) kb
      simp only [List.getElem?_toArray, List.getElem?_cons_succ, List.getElem?_cons_zero] at c3
      have hbw2 : b < w.heap.size + 1 + 1 := by omega
      have e0 : wr.heap[b]? = w.heap[b]? := (hb.out.block b hbw2).trans (HKB.out.block b hbw)
      have k1 := (World.cell?_of_block (w := w) (w' := wr) (a := ⟨b, off + k * 2, none⟩) e0).trans (hcc k hlt).1
      have k2 := (World.cell?_of_block (w := w) (w' := wr) (a := ⟨b, off + k * 2 + 1, none⟩) e0).trans (hcc k hlt).2
      have y1 : (0 : Int) ≤ (k : Int) := by omega
      have y2 : (k : Int) < (L.length : Int) := by omega
      have hlo := acc1_low L i0 (t, x) k hlt
      have hat := acc1_at L i0 (t, x)
      have hhi := acc1_high L i0 (t, x) k hlt
      have hls := hlt1.out k (by rw [List.length_map]; exact hlt)
      rw [getD_fst] at hls
      clear kb e0 hcc HC hlt1
      obtain rfl : bd = false := by rw [hbd.out]; exact decide_eq_false (by omega)
      have hA2 := Lib.hid (hlo hki)
      rw [← hA.out] at hA2
      generalize L.getD k (0, 0) = pk at *
      obtain ⟨tk, xk⟩ := pk
      simp only at k1 k2 hls
      have z1 : (tk == t) = false := beq_eq_false_iff_ne.2 (fun e => by have := hls.2 hki; omega)
      have z2 : decide (t < tk) = false := decide_eq_false (fun e => by have := hls.2 hki; omega)
      have hbd2 : Hid (false = decide (i0 < k + 1)) := by rw [Hid]; exact (decide_eq_false (by omega)).symm
      clear hls hlo hat hhi hbd hA
      go_wp2_with (at_builtin; refine Classical.byContradiction fun hnot => ?_)
      refine hnot ?_
      clear hnot
      refine wpList_append_own _ rfl (.tmp 60) (.tmp 66) 35 rfl (w.heap.size + 1 + 1) 46 inf _ 2 16 Try.underlying35 hif hz0 hz1 hz2 rfl (by decide) _ A.length (flat A) rfl (ho.out.alloc _) ⟨wr.heap.size, 0, none⟩ 1 1 [.int .i64 tk, .int .i64 xk] rfl rfl ?_ ?_ ?_ ?_ ?_ ?_
      · exact World.news_of_block (cs := #[.int .i64 tk, .int .i64 xk]) (t := 46) (fr := (0, 0)) (heap_alloc_new wr _)
      · intro u hu
        simp only [List.mem_cons, List.not_mem_nil, or_false] at hu
        rcases hu with rfl | rfl <;> rfl
      · unfold maxLen; omega
      · omega
      · simp; omega
      intro v wq hown' hgr _
      have ho' := Lib.hid (PRow.cast (p := (tk, xk)) hown' rfl)
      have hb' : Hid (Below (w.heap.size + 1 + 1) W0 wq) := (hb.out.alloc hw1 _).grown hgr (by simp; omega) (fun k hk => (ho.out.lt k hk).1)
      clear hown' hgr ho hb
      go_wp2_with fail
      go_roundw
      case rel => exact ⟨k + 1, false, A ++ [(tk, xk)], by omega, by omega, by go_num, rfl, hbd2, hA2.out.symm, by rw [List.length_append, List.length_singleton]; have := congrArg List.length hA2.out; have := acc1_length L i0 (t, x) (k + 1); simp at *; omega, ho', hb'⟩
      case measure => simp [intOf]; omega
    · obtain rfl : k = i0 := by omega
      have kr := (hb.out.block (w.heap.size + 1) (by omega)).trans HK2.out
      have b0 := cell_of_row wr w.heap.size 0 _ 37 (0, 0) kb
      have b1 := cell_of_row wr w.heap.size 1 _ 37 (0, 0) kb
      have b2 := cell_of_row wr w.heap.size 2 _ 37 (0, 0) kb
      have b3 := cell_of_row wr w.heap.size 3 _ 37 (0, 0) kb
      have b4 := cell_of_row wr w.heap.size 4 _ 37 (0, 0) kb
      have fb := fun j => frozen_of_row wr w.heap.size j _ 37 kb
      simp only [List.getElem?_toArray, List.getElem?_cons_succ, List.getElem?_cons_zero] at b0 b1 b2 b3 b4
      have r0 := cell_of_row wr (w.heap.size + 1) 0 _ 37 (0, 0) kr
      have r1 := cell_of_row wr (w.heap.size + 1) 1 _ 37 (0, 0) kr
      have r2 := cell_of_row wr (w.heap.size + 1) 2 _ 37 (0, 0) kr
      have r3 := cell_of_row wr (w.heap.size + 1) 3 _ 37 (0, 0) kr
      have r4 := cell_of_row wr (w.heap.size + 1) 4 _ 37 (0, 0) kr
      have fr := fun j => frozen_of_row wr (w.heap.size + 1) j _ 37 kr
      simp only [List.getElem?_toArray, List.getElem?_cons_succ, List.getElem?_cons_zero] at r0 r1 r2 r3 r4
      obtain ⟨b, off, rfl, hbw, hcc⟩ := HC.out (by omega)
      have c3 := cell_of_row wr w.heap.size 3 _ 37 (0, 0) kb
      simp only [List.getElem?_toArray, List.getElem?_cons_succ, List.getElem?_cons_zero] at c3
      have hbw2 : b < w.heap.size + 1 + 1 := by omega
      have e0 : wr.heap[b]? = w.heap[b]? := (hb.out.block b hbw2).trans (HKB.out.block b hbw)
      have k1 := (World.cell?_of_block (w := w) (w' := wr) (a := ⟨b, off + k * 2, none⟩) e0).trans (hcc k hlt).1
      have k2 := (World.cell?_of_block (w := w) (w' := wr) (a := ⟨b, off + k * 2 + 1, none⟩) e0).trans (hcc k hlt).2
      have y1 : (0 : Int) ≤ (k : Int) := by omega
      have y2 : (k : Int) < (L.length : Int) := by omega
      have hlo := acc1_low L k (t, x) k hlt
      have hat := acc1_at L k (t, x)
      have hhi := acc1_high L k (t, x) k hlt
      have hls := hlt1.out k (by rw [List.length_map]; exact hlt)
      rw [getD_fst] at hls
      clear kb e0 hcc HC hlt1
      have hit := HIT.out
      generalize L.getD k (0, 0) = pk at *
      obtain ⟨tk, xk⟩ := pk
      simp only at k1 k2 hls hit
      subst hit
      clear hls hlo hat hhi hbd hA
      go_wp2_with fail
      go_region
      all_goals
        go_wp2_with fail
        (try simp only [Exit.inBlock, Exit.then])
        refine bodyPost_ret (v := .tuple #[.bool false, .agg #[.int .i64 every, .int .i64 most, .slice ea en ec, .slice (some ⟨b, off, none⟩) L.length lc, .int .i64 gone]]) (by simp (maxDischargeDepth := 9) [results, Try.results13, go_sem, r0, r1, r2, r3, r4, World.cell?_setCell_other]) rfl ?_
        have hB := (box_keep (b := w.heap.size + 1) (HKB.out.trans (hb.out.mono (show w.heap.size ≤ w.heap.size + 1 + 1 by omega))) (by omega) (.int .i64 every) (.int .i64 most) (.slice ea en ec) (.slice (some ⟨b, off, none⟩) L.length lc) (.int .i64 gone)).drew
        exact ⟨_, rfl, .inl rfl, PV.out.below hB, hB⟩
end Go.Proofs.Ytkenbckagmjheaa
