import Derived.Test.YtkenbckagmjheaaC
namespace Go.Proofs.Ytkenbckagmjheaa
open Go.RowKit

/-- The row of numbers, read at a place that is counted round. -/
theorem ev_view {w : World} {v : Value} {ev : List Int} {gone : Int} (h : View w v ev) (hg0 : 0 ≤ gone) (hl : 0 < ev.length) :
    ∃ g off c m, v = .slice (some ⟨g, off, none⟩) ev.length c ∧ m < ev.length ∧ gone.tmod (ev.length : Int) = (m : Int) ∧ gone % (ev.length : Int) = (m : Int) ∧ w.cell? ⟨g, off + m, none⟩ = some (.int .i64 (evAt ev gone)) := by
  rcases h with ⟨_, _, _, rfl⟩ | ⟨g, off, c, rfl, hc⟩
  · simp at hl
  have hlt := Nat.mod_lt gone.toNat hl
  obtain ⟨n, rfl⟩ : ∃ n : Nat, gone = (n : Int) := ⟨gone.toNat, by omega⟩
  rw [Int.toNat_natCast] at hlt
  refine ⟨g, off, c, n % ev.length, rfl, hlt, ?_, ?_, ?_⟩
  · rw [Int.tmod_eq_emod_of_nonneg hg0]; exact (Int.natCast_emod n ev.length).symm
  · exact (Int.natCast_emod n ev.length).symm
  · rw [hc _ hlt]; unfold evAt; rw [if_neg (by omega), Int.toNat_natCast]

theorem zero_spec {T : List Int} (h : T.Pairwise (· < ·)) (h0 : ∀ a ∈ T, 0 ≤ a) (j : Nat) (hj : j < T.length) : T.getD j 0 = 0 ↔ j < fromOf T := by
  unfold fromOf
  by_cases hz : T.getD 0 0 = 0
  · rw [if_pos hz]
    constructor
    · intro e
      refine Decidable.byContradiction fun hn => ?_
      have := sorted_at h 0 j (by omega) hj
      omega
    · intro hlt
      rw [show j = 0 by omega]
      exact hz
  · rw [if_neg hz]
    refine ⟨fun e => ?_, fun e => by omega⟩
    by_cases hj0 : j = 0
    · rw [hj0] at e; exact absurd e hz
    · have h1 := sorted_at h 0 j (by omega) hj
      have h2 := h0 _ (getD_mem (show 0 < T.length by omega))
      omega
theorem drop_take_succ {α : Type} (A : List (Int × Int)) (j F : Nat) (hj : j < A.length) (hF : F ≤ j) (_ : α → True) : (A.take (j + 1)).drop F = (A.take j).drop F ++ [A.getD j (0, 0)] := by
  rw [take_snocP A j hj, List.drop_append_of_le_length (by simp; omega)]
theorem del_take_succ (A : List (Int × Int)) (j J : Nat) (hj : j < A.length) (hne : j ≠ J) : del (A.take (j + 1)) J = del (A.take j) J ++ [A.getD j (0, 0)] := by
  unfold del
  rw [take_snocP A j hj]
  by_cases h : j < J
  · have l1 : (A.take j ++ [A.getD j (0, 0)]).length ≤ J := by simp; omega
    have l2 : (A.take j).length ≤ J := by simp; omega
    rw [List.take_of_length_le l1, List.drop_of_length_le (Nat.le_succ_of_le l1), List.take_of_length_le l2, List.drop_of_length_le (Nat.le_succ_of_le l2)]
    simp
  · rw [List.take_append_of_le_length (by simp; omega), List.drop_append_of_le_length (by simp; omega), List.append_assoc]
theorem del_take_at (A : List (Int × Int)) (J : Nat) (hj : J < A.length) : del (A.take (J + 1)) J = del (A.take J) J := by
  unfold del
  rw [take_snocP A J hj, List.take_append_of_le_length (by simp; omega), List.drop_of_length_le (by simp; omega), List.drop_of_length_le (by simp; omega)]
theorem map_ins {α β : Type} (f : α → β) (l : List α) (i : Nat) (x : α) : (ins l i x).map f = ins (l.map f) i (f x) := by
  unfold ins; simp
theorem map_del {α β : Type} (f : α → β) (l : List α) (j : Nat) : (del l j).map f = del (l.map f) j := by
  unfold del; simp

set_option maxHeartbeats 8000000 in
set_option maxRecDepth 100000 in
theorem rput_new (every most gone t x : Int) (ea : Option Addr) (en ec : Nat) (lV : Value) (L : List (Int × Int)) (ev : List Int) (w : World) (h : PView w lV L) (hev : View w (.slice ea en ec) ev) (he : 1 ≤ every) (h0 : 0 ≤ t) (hm : (t % every != 0) = false) (hs : (L.map Prod.fst).Pairwise (· < ·)) (hpos : ∀ a ∈ L.map Prod.fst, 0 ≤ a) (hlen : L.length ≤ 900) (hct : (L.map Prod.fst).contains t = false) (hm1 : 1 ≤ most) (hg0 : 0 ≤ gone) (hg1 : gone ≤ 1000000) :
    Calls Try.prog 13 #[sv every most (.slice ea en ec) lV gone, .int .i64 t, .int .i64 x] w (if (L.length : Int) + 1 ≤ most then RPut true every most gone (.slice ea en ec) lV (ins L ((L.map Prod.fst).countP (· < t)) (t, x)) w
      else RPut true every most (gone + 1) (.slice ea en ec) lV (del (ins L ((L.map Prod.fst).countP (· < t)) (t, x)) (dropAt ((ins L ((L.map Prod.fst).countP (· < t)) (t, x)).map Prod.fst) ev gone)) w) := by
  obtain ⟨inf, hif, hz0, hz1, hz2⟩ := info_parts info46
  obtain ⟨la, lc, rfl, hc⟩ := h.slice
  have PV := Lib.hid h
  have HC := Lib.hid hc
  have h0' : ¬ t < 0 := by omega
  have hlt1 := Lib.hid (fun i hi => lt_spec hs t i hi)
  have hi0 : (L.map Prod.fst).countP (· < t) ≤ L.length := by have := List.countP_le_length (p := fun a => decide (a < t)) (l := L.map Prod.fst); rwa [List.length_map] at this
  have hneq : Hid (∀ k, k < (L.map Prod.fst).length → (L.map Prod.fst).getD k 0 ≠ t) := fun k hk e => by
    have := getD_mem hk
    rw [e] at this
    have : (L.map Prod.fst).contains t = true := by simpa using this
    rw [hct] at this; cases this
  obtain rfl : en = ev.length := by
    obtain ⟨_, _, e, _⟩ := hev.slice
    injection e
  have HEV : Hid (∀ W', Below w.heap.size w W' → 0 < ev.length → ∃ g off m, ea = some ⟨g, off, none⟩ ∧ m < ev.length ∧ gone.tmod (ev.length : Int) = (m : Int) ∧ gone % (ev.length : Int) = (m : Int) ∧ W'.cell? ⟨g, off + m, none⟩ = some (.int .i64 (evAt ev gone))) := fun W' hW hl => by
    obtain ⟨g, off, c, m, e, h1, h2, h3, h4⟩ := ev_view (hev.below hW) hg0 hl
    injection e with e
    exact ⟨g, off, m, e, h1, h2, h3, h4⟩
  have hK0 : Hid (ev.length = 0 → evAt ev gone = 0) := fun e => by unfold evAt; rw [if_pos e]
  have hA1s : Hid (((ins L ((L.map Prod.fst).countP (· < t)) (t, x)).map Prod.fst).Pairwise (· < ·)) := by
    rw [Hid, map_ins]; exact ins_sorted _ _ hs hct
  have hA1p : Hid (∀ a ∈ (ins L ((L.map Prod.fst).countP (· < t)) (t, x)).map Prod.fst, 0 ≤ a) := fun a ha => by
    rw [map_ins] at ha
    rcases mem_ins ha with rfl | ha
    · exact h0
    · exact hpos a ha
  generalize (L.map Prod.fst).countP (· < t) = i0 at *
  have hA1l := ins_length L i0 (t, x) hi0
  have hE1 : Hid (i0 < L.length → acc1 L i0 (t, x) L.length = ins L i0 (t, x)) := fun h => acc1_end L i0 (t, x) h
  have hE2 : Hid (i0 = L.length → acc1 L L.length (t, x) L.length ++ [(t, x)] = ins L i0 (t, x)) := fun h => by rw [h]; exact acc1_end2 L (t, x)
  generalize ins L i0 (t, x) = A1 at *
  have hA1a : A1.length ≤ L.length + 1 := by omega
  have hA1b : L.length + 1 ≤ A1.length := by omega
  clear hA1l
  have hF1 := fromOf_le (A1.map Prod.fst)
  have HZ : Hid (∀ j, j < A1.length → ((A1.getD j (0, 0)).1 = 0 ↔ j < fromOf (A1.map Prod.fst))) := fun j hj => by
    rw [← getD_fst]
    exact zero_spec hA1s.out hA1p.out j (by rw [List.length_map]; exact hj)
  have HD : Hid (∀ i j, i < A1.length → j < A1.length → i ≠ j → (A1.getD i (0, 0)).1 ≠ (A1.getD j (0, 0)).1) := fun i j hi hj hn e => by
    rw [← getD_fst, ← getD_fst] at e
    rcases Nat.lt_or_ge i j with h | h
    · have := sorted_at hA1s.out i j h (by rw [List.length_map]; exact hj); omega
    · have := sorted_at hA1s.out j i (by omega) (by rw [List.length_map]; exact hi); omega
  have hJe : Hid (dropAt (A1.map Prod.fst) ev gone = fromOf (A1.map Prod.fst) + (evAt ev gone % ((A1.length - fromOf (A1.map Prod.fst) : Nat) : Int)).toNat) := by
    rw [Hid, dropAt, List.length_map]
  generalize dropAt (A1.map Prod.fst) ev gone = J at *
  generalize evAt ev gone = K at *
  generalize fromOf (A1.map Prod.fst) = F at *
  clear h hs hc hct hpos hev hA1s hA1p
  unfold sv
  go_enter Try.func13, Try.ntmps13
  go_wp2_with fail
  have hW0 : ((w.alloc (so every most (.slice ea ev.length ec) (.slice la L.length lc) gone)).alloc (so 0 0 (.slice none 0 0) (.slice none 0 0) 0)).heap.size = w.heap.size + 1 + 1 := by simp
  have K1 : ((w.alloc (so every most (.slice ea ev.length ec) (.slice la L.length lc) gone)).alloc (so 0 0 (.slice none 0 0) (.slice none 0 0) 0)).heap[w.heap.size]? = some (so every most (.slice ea ev.length ec) (.slice la L.length lc) gone) := (Below.heap_alloc _ _ _ (by simp)).trans (heap_alloc_new w _)
  have K2 : ((w.alloc (so every most (.slice ea ev.length ec) (.slice la L.length lc) gone)).alloc (so 0 0 (.slice none 0 0) (.slice none 0 0) 0)).heap[w.heap.size + 1]? = some (so 0 0 (.slice none 0 0) (.slice none 0 0) 0) := by
    have := heap_alloc_new (w.alloc (so every most (.slice ea ev.length ec) (.slice la L.length lc) gone)) (so 0 0 (.slice none 0 0) (.slice none 0 0) 0)
    simpa using this
  have KB : Below w.heap.size w ((w.alloc (so every most (.slice ea ev.length ec) (.slice la L.length lc) gone)).alloc (so 0 0 (.slice none 0 0) (.slice none 0 0) 0)) := ((Below.refl _ _).alloc (Nat.le_refl _) _).alloc (by simp) _
  unfold so at hW0 K1 K2 KB
  generalize (w.alloc (.cells #[.int .i64 every, .int .i64 most, .slice ea ev.length ec, .slice la L.length lc, .int .i64 gone] 37 (0, 0))).alloc (.cells #[.int .i64 0, .int .i64 0, .slice none 0 0, .slice none 0 0, .int .i64 0] 37 (0, 0)) = W0 at *
  have o1 := Lib.hid (PRow.none W0 W0.heap.size (Nat.le_refl _))
  have b1 : Hid (Below W0.heap.size W0 (W0.alloc (.cells #[] 46))) := (Below.refl _ _).alloc (Nat.le_refl _) _
  rw [hW0] at o1 b1
  have HW := Lib.hid hW0
  have HK1 := Lib.hid K1
  have HK2 := Lib.hid K2
  have HKB := Lib.hid KB
  clear hW0 K1 K2 KB
  go_loopw [30, 8, 9, 10] (fun ix v d _ wr => ∃ (k : Nat) (b : Bool) (A : List (Int × Int)), k ≤ L.length ∧ k ≤ L.length ∧ ix = .int .i64 k ∧ d = .bool b ∧ Hid (b = decide (i0 < k)) ∧ Hid (A = acc1 L i0 (t, x) k) ∧ A.length ≤ 1001 ∧ Hid (PRow wr (w.heap.size + 1 + 1) v A) ∧ Hid (Below (w.heap.size + 1 + 1) W0 wr)) (fun ix _ _ _ _ => L.length - (intOf ix).toNat)
  case atStart => exact ⟨0, false, [], Nat.zero_le _, Nat.zero_le _, rfl, rfl, rfl, by simp [Hid, acc1], by simp, o1, b1⟩
  case round =>
    clear o1 b1
    obtain ⟨k, bd, A, hk, hk0, rfl, rfl, hbd, hA, hAl, ho, hb⟩ := hrel
    have hw1 : w.heap.size + 1 + 1 ≤ wr.heap.size := by have := hb.out.size; have := HW.out; omega
    have kb := (hb.out.block w.heap.size (by omega)).trans HK1.out
    by_cases hlt : k < L.length
    · have hkk : True := trivial
      by_cases hki : k < i0
      · obtain ⟨b, off, rfl, hbw, hcc⟩ := HC.out (by omega)
        have c3 := cell_of_row wr w.heap.size 3 _ 37 (0, 0) kb
        simp only [List.getElem?_toArray, List.getElem?_cons_succ, List.getElem?_cons_zero] at c3
        have hbw2 : b < w.heap.size + 1 + 1 := by omega
        have e0 : wr.heap[b]? = w.heap[b]? := (hb.out.block b hbw2).trans (HKB.out.block b hbw)
        have k1 := (World.cell?_of_block (w := w) (w' := wr) (a := ⟨b, off + k * 2, none⟩) e0).trans (hcc k hlt).1
        have k2 := (World.cell?_of_block (w := w) (w' := wr) (a := ⟨b, off + k * 2 + 1, none⟩) e0).trans (hcc k hlt).2
        have y1 : (0 : Int) ≤ (k : Int) := by omega
        have y2 : (k : Int) < (L.length : Int) := by omega
        have hlo := acc1_low L i0 (t, x) k hlt
        have hat := acc1_at L i0 (t, x)
        have hhi := acc1_high L i0 (t, x) k hlt
        have hls := hlt1.out k (by rw [List.length_map]; exact hlt)
        have hne := hneq.out k (by rw [List.length_map]; exact hlt)
        rw [getD_fst] at hls hne
        clear kb e0 hcc HC hlt1 hneq
        obtain rfl : bd = false := by rw [hbd.out]; exact decide_eq_false (by omega)
        have hA2 := Lib.hid (hlo hki)
        rw [← hA.out] at hA2
        generalize L.getD k (0, 0) = pk at *
        obtain ⟨tk, xk⟩ := pk
        simp only at k1 k2 hls hne
        have z1 : (tk == t) = false := beq_eq_false_iff_ne.2 (fun e => by have := hls.2 hki; omega)
        have z2 : decide (t < tk) = false := decide_eq_false (fun e => by have := hls.2 hki; omega)
        have hbd2 : Hid (false = decide (i0 < k + 1)) := by rw [Hid]; exact (decide_eq_false (by omega)).symm
        clear hls hlo hat hhi hbd hA hne
        go_wp2_with (at_builtin; refine Classical.byContradiction fun hnot => ?_)
        refine hnot ?_
        clear hnot
        refine wpList_append_own _ rfl (.tmp 60) (.tmp 66) 35 rfl (w.heap.size + 1 + 1) 46 inf _ 2 16 Try.underlying35 hif hz0 hz1 hz2 rfl (by decide) _ A.length (flat A) rfl (ho.out.alloc _) ⟨wr.heap.size, 0, none⟩ 1 1 [.int .i64 tk, .int .i64 xk] rfl rfl ?_ ?_ ?_ ?_ ?_ ?_
        · exact World.news_of_block (cs := #[.int .i64 tk, .int .i64 xk]) (t := 46) (fr := (0, 0)) (heap_alloc_new wr _)
        · intro u hu
          simp only [List.mem_cons, List.not_mem_nil, or_false] at hu
          rcases hu with rfl | rfl <;> rfl
        · unfold maxLen; omega
        · omega
        · simp; omega
        intro v wq hown' hgr _
        have ho' := Lib.hid (PRow.cast (p := (tk, xk)) hown' rfl)
        have hb' : Hid (Below (w.heap.size + 1 + 1) W0 wq) := (hb.out.alloc hw1 _).grown hgr (by simp; omega) (fun k hk => (ho.out.lt k hk).1)
        clear hown' hgr ho hb
        go_wp2_with fail
        go_roundw
        case rel => exact ⟨k + 1, false, A ++ [(tk, xk)], by omega, by omega, by go_num, rfl, hbd2, hA2.out.symm, by rw [List.length_append, List.length_singleton]; have := congrArg List.length hA2.out; have := acc1_length L i0 (t, x) (k + 1); simp at *; omega, ho', hb'⟩
        case measure => simp [intOf]; omega
      by_cases hke : k = i0
      · subst hke
        have hcell := HC.out (by omega)
        obtain ⟨b, off, rfl, hbw, hcc⟩ := HC.out (by omega)
        have c3 := cell_of_row wr w.heap.size 3 _ 37 (0, 0) kb
        simp only [List.getElem?_toArray, List.getElem?_cons_succ, List.getElem?_cons_zero] at c3
        have hbw2 : b < w.heap.size + 1 + 1 := by omega
        have e0 : wr.heap[b]? = w.heap[b]? := (hb.out.block b hbw2).trans (HKB.out.block b hbw)
        have k1 := (World.cell?_of_block (w := w) (w' := wr) (a := ⟨b, off + k * 2, none⟩) e0).trans (hcc k hlt).1
        have k2 := (World.cell?_of_block (w := w) (w' := wr) (a := ⟨b, off + k * 2 + 1, none⟩) e0).trans (hcc k hlt).2
        have y1 : (0 : Int) ≤ (k : Int) := by omega
        have y2 : (k : Int) < (L.length : Int) := by omega
        have hlo := acc1_low L k (t, x) k hlt
        have hat := acc1_at L k (t, x)
        have hhi := acc1_high L k (t, x) k hlt
        have hls := hlt1.out k (by rw [List.length_map]; exact hlt)
        have hne := hneq.out k (by rw [List.length_map]; exact hlt)
        rw [getD_fst] at hls hne
        clear kb e0 hcc HC hlt1 hneq
        obtain ⟨_, _, hbe, _, hcc⟩ := hcell
        injection hbe with hbe
        injection hbe with hbe1 hbe2
        subst hbe1 hbe2
        have hre := Lib.hid (fun (W' : World) (e : W'.heap[b]? = w.heap[b]?) => And.intro ((World.cell?_of_block (w := w) (w' := W') (a := ⟨b, off + k * 2, none⟩) e).trans (hcc k hlt).1) ((World.cell?_of_block (w := w) (w' := W') (a := ⟨b, off + k * 2 + 1, none⟩) e).trans (hcc k hlt).2))
        clear hcc
        obtain rfl : bd = false := by rw [hbd.out]; exact decide_eq_false (by omega)
        have hA2 := Lib.hid (hat hlt)
        rw [← hA.out] at hA2
        generalize L.getD k (0, 0) = pk at *
        obtain ⟨tk, xk⟩ := pk
        simp only at k1 k2 hls hne
        have hre := Lib.hid (fun (W' : World) (e : W'.heap[b]? = w.heap[b]?) => hre.out W' e)
        have z1 : (tk == t) = false := beq_eq_false_iff_ne.2 hne
        have z2 : decide (t < tk) = true := decide_eq_true (by have h1 : ¬ tk < t := fun e => by have := hls.1 e; omega
                                                               omega)
        have hbd2 : Hid (true = decide (k < k + 1)) := by rw [Hid]; exact (decide_eq_true (by omega)).symm
        clear hls hne hlo hat hhi hbd hA
        go_wp2_with (at_builtin; refine Classical.byContradiction fun hnot => ?_)
        refine hnot ?_
        clear hnot
        refine wpList_append_own _ rfl (.tmp 54) (.tmp 58) 35 rfl (w.heap.size + 1 + 1) 46 inf _ 2 16 Try.underlying35 hif hz0 hz1 hz2 rfl (by decide) _ A.length (flat A) rfl (ho.out.alloc _) ⟨wr.heap.size, 0, none⟩ 1 1 [.int .i64 t, .int .i64 x] rfl rfl ?_ ?_ ?_ ?_ ?_ ?_
        · exact World.news_of_block (cs := #[.int .i64 t, .int .i64 x]) (t := 46) (fr := (0, 0)) (heap_alloc_new wr _)
        · intro u hu
          simp only [List.mem_cons, List.not_mem_nil, or_false] at hu
          rcases hu with rfl | rfl <;> rfl
        · unfold maxLen; omega
        · omega
        · simp; omega
        intro v1 wq1 hown' hgr _
        have ho1' := Lib.hid (PRow.cast (p := (t, x)) hown' rfl)
        have hb1' : Hid (Below (w.heap.size + 1 + 1) W0 wq1) := (hb.out.alloc hw1 _).grown hgr (by simp; omega) (fun k hk => (ho.out.lt k hk).1)
        clear hown' hgr ho hb
        have hw1 : w.heap.size + 1 + 1 ≤ wq1.heap.size := by have := hb1'.out.size; have := HW.out; omega
        have e0q : wq1.heap[b]? = w.heap[b]? := (hb1'.out.block b hbw2).trans (HKB.out.block b hbw)
        have k1 := (hre.out wq1 e0q).1
        have k2 := (hre.out wq1 e0q).2
        have kbq := (hb1'.out.block w.heap.size (by omega)).trans HK1.out
        have c3 := cell_of_row wq1 w.heap.size 3 _ 37 (0, 0) kbq
        simp only [List.getElem?_toArray, List.getElem?_cons_succ, List.getElem?_cons_zero] at c3 k1 k2
        have hAl1 : (A ++ [(t, x)]).length ≤ 1000 := by have := congrArg List.length hA2.out; have := acc1_length L k (t, x) (k + 1); simp at *; omega
        generalize A ++ [(t, x)] = Aq at *
        clear e0q kbq hre
        go_wp2_with (at_builtin; refine Classical.byContradiction fun hnot => ?_)
        refine hnot ?_
        clear hnot
        refine wpList_append_own _ rfl (.tmp 60) (.tmp 66) 35 rfl (w.heap.size + 1 + 1) 46 inf _ 2 16 Try.underlying35 hif hz0 hz1 hz2 rfl (by decide) _ Aq.length (flat Aq) rfl (ho1'.out.alloc _) ⟨wq1.heap.size, 0, none⟩ 1 1 [.int .i64 tk, .int .i64 xk] rfl rfl ?_ ?_ ?_ ?_ ?_ ?_
        · exact World.news_of_block (cs := #[.int .i64 tk, .int .i64 xk]) (t := 46) (fr := (0, 0)) (heap_alloc_new wq1 _)
        · intro u hu
          simp only [List.mem_cons, List.not_mem_nil, or_false] at hu
          rcases hu with rfl | rfl <;> rfl
        · unfold maxLen; omega
        · omega
        · simp; omega
        intro v2 wq2 hown' hgr _
        have ho2' := Lib.hid (PRow.cast (p := (tk, xk)) hown' rfl)
        have hb2' : Hid (Below (w.heap.size + 1 + 1) W0 wq2) := (hb1'.out.alloc hw1 _).grown hgr (by simp; omega) (fun k hk => (ho1'.out.lt k hk).1)
        clear hown' hgr ho1' hb1'
        go_wp2_with fail
        go_roundw
        case rel => exact ⟨k + 1, true, Aq ++ [(tk, xk)], by omega, by omega, by go_num, rfl, hbd2, hA2.out.symm, by simp; omega, ho2', hb2'⟩
        case measure => simp [intOf]; omega
      · obtain ⟨b, off, rfl, hbw, hcc⟩ := HC.out (by omega)
        have c3 := cell_of_row wr w.heap.size 3 _ 37 (0, 0) kb
        simp only [List.getElem?_toArray, List.getElem?_cons_succ, List.getElem?_cons_zero] at c3
        have hbw2 : b < w.heap.size + 1 + 1 := by omega
        have e0 : wr.heap[b]? = w.heap[b]? := (hb.out.block b hbw2).trans (HKB.out.block b hbw)
        have k1 := (World.cell?_of_block (w := w) (w' := wr) (a := ⟨b, off + k * 2, none⟩) e0).trans (hcc k hlt).1
        have k2 := (World.cell?_of_block (w := w) (w' := wr) (a := ⟨b, off + k * 2 + 1, none⟩) e0).trans (hcc k hlt).2
        have y1 : (0 : Int) ≤ (k : Int) := by omega
        have y2 : (k : Int) < (L.length : Int) := by omega
        have hlo := acc1_low L i0 (t, x) k hlt
        have hat := acc1_at L i0 (t, x)
        have hhi := acc1_high L i0 (t, x) k hlt
        have hls := hlt1.out k (by rw [List.length_map]; exact hlt)
        have hne := hneq.out k (by rw [List.length_map]; exact hlt)
        rw [getD_fst] at hls hne
        clear kb e0 hcc HC hlt1 hneq
        obtain rfl : bd = true := by rw [hbd.out]; exact decide_eq_true (by omega)
        have hA2 := Lib.hid (hhi (by omega))
        rw [← hA.out] at hA2
        generalize L.getD k (0, 0) = pk at *
        obtain ⟨tk, xk⟩ := pk
        simp only at k1 k2 hls hne
        have z1 : (tk == t) = false := beq_eq_false_iff_ne.2 hne
        have hbd2 : Hid (true = decide (i0 < k + 1)) := by rw [Hid]; exact (decide_eq_true (by omega)).symm
        clear hls hne hlo hat hhi hbd hA
        go_wp2_with (at_builtin; refine Classical.byContradiction fun hnot => ?_)
        refine hnot ?_
        clear hnot
        refine wpList_append_own _ rfl (.tmp 60) (.tmp 66) 35 rfl (w.heap.size + 1 + 1) 46 inf _ 2 16 Try.underlying35 hif hz0 hz1 hz2 rfl (by decide) _ A.length (flat A) rfl (ho.out.alloc _) ⟨wr.heap.size, 0, none⟩ 1 1 [.int .i64 tk, .int .i64 xk] rfl rfl ?_ ?_ ?_ ?_ ?_ ?_
        · exact World.news_of_block (cs := #[.int .i64 tk, .int .i64 xk]) (t := 46) (fr := (0, 0)) (heap_alloc_new wr _)
        · intro u hu
          simp only [List.mem_cons, List.not_mem_nil, or_false] at hu
          rcases hu with rfl | rfl <;> rfl
        · unfold maxLen; omega
        · omega
        · simp; omega
        intro v wq hown' hgr _
        have ho' := Lib.hid (PRow.cast (p := (tk, xk)) hown' rfl)
        have hb' : Hid (Below (w.heap.size + 1 + 1) W0 wq) := (hb.out.alloc hw1 _).grown hgr (by simp; omega) (fun k hk => (ho.out.lt k hk).1)
        clear hown' hgr ho hb
        go_wp2_with fail
        go_roundw
        case rel => exact ⟨k + 1, true, A ++ [(tk, xk)], by omega, by omega, by go_num, rfl, hbd2, hA2.out.symm, by rw [List.length_append, List.length_singleton]; have := congrArg List.length hA2.out; have := acc1_length L i0 (t, x) (k + 1); simp at *; omega, ho', hb'⟩
        case measure => simp [intOf]; omega
    · obtain rfl : k = L.length := by omega
      clear hlt1 hneq HC
      go_upto_if 70 with fail
      go_cut [8] (fun v wx => Hid (PRow wx (w.heap.size + 1 + 1) v A1) ∧ Hid (Below (w.heap.size + 1 + 1) W0 wx))
      case first =>
        by_cases hin : i0 < L.length
        · obtain rfl : bd = true := by rw [hbd.out]; exact decide_eq_true hin
          have hA2 := hA.out
          rw [hE1.out hin] at hA2
          rw [hA2] at ho
          clear hbd hA hA2
          go_wp2_with fail
          go_meet
          exact ⟨ho, hb⟩
        · obtain rfl : bd = false := by rw [hbd.out]; exact decide_eq_false hin
          have hin2 : i0 = L.length := by omega
          have hA2 := Lib.hid (hE2.out hin2)
          rw [hin2] at hA
          rw [← hA.out] at hA2
          clear hbd hA
          go_wp2_with (at_builtin; refine Classical.byContradiction fun hnot => ?_)
          refine hnot ?_
          clear hnot
          refine wpList_append_own _ rfl (.tmp 71) (.tmp 75) 35 rfl (w.heap.size + 1 + 1) 46 inf _ 2 16 Try.underlying35 hif hz0 hz1 hz2 rfl (by decide) _ A.length (flat A) rfl (ho.out.alloc _) ⟨wr.heap.size, 0, none⟩ 1 1 [.int .i64 t, .int .i64 x] rfl rfl ?_ ?_ ?_ ?_ ?_ ?_
          · exact World.news_of_block (cs := #[.int .i64 t, .int .i64 x]) (t := 46) (fr := (0, 0)) (heap_alloc_new wr _)
          · intro u hu
            simp only [List.mem_cons, List.not_mem_nil, or_false] at hu
            rcases hu with rfl | rfl <;> rfl
          · unfold maxLen; omega
          · omega
          · simp; omega
          intro v wq hown' hgr _
          have ho' := Lib.hid (PRow.cast (p := (t, x)) hown' rfl)
          have hb' : Hid (Below (w.heap.size + 1 + 1) W0 wq) := (hb.out.alloc hw1 _).grown hgr (by simp; omega) (fun k hk => (ho.out.lt k hk).1)
          clear hown' hgr ho hb
          go_wp2_with fail
          go_meet
          exact ⟨by rw [← hA2.out]; exact ho', hb'⟩
      case rest =>
      clear kb hbd hA ho hb hw1 hAl hE1 hE2
      obtain ⟨ho, hb⟩ := hcut
      obtain ⟨wx, hwx⟩ : ∃ wx, wx = wc := ⟨_, rfl⟩
      subst hwx
      obtain ⟨va, vc, rfl⟩ := ho.out.slice
      have hw1 : w.heap.size + 1 + 1 ≤ wx.heap.size := by have := hb.out.size; have := HW.out; omega
      have kb := (hb.out.block w.heap.size (by omega)).trans HK1.out
      have kr := (hb.out.block (w.heap.size + 1) (by omega)).trans HK2.out
      have b0 := cell_of_row wx w.heap.size 0 _ 37 (0, 0) kb
      have b1 := cell_of_row wx w.heap.size 1 _ 37 (0, 0) kb
      have b2 := cell_of_row wx w.heap.size 2 _ 37 (0, 0) kb
      have b3 := cell_of_row wx w.heap.size 3 _ 37 (0, 0) kb
      have b4 := cell_of_row wx w.heap.size 4 _ 37 (0, 0) kb
      have fb := fun j => frozen_of_row wx w.heap.size j _ 37 kb
      simp only [List.getElem?_toArray, List.getElem?_cons_succ, List.getElem?_cons_zero] at b0 b1 b2 b3 b4
      have kb2 : (wx.setCell ⟨w.heap.size, 3, none⟩ (.slice va A1.length vc)).heap[w.heap.size]? = some (.cells #[.int .i64 every, .int .i64 most, .slice ea ev.length ec, .slice va A1.length vc, .int .i64 gone] 37 (0, 0)) := heap_setCell_same wx _ 3 _ 37 _ kb
      have kr2 := (heap_setCell_other wx ⟨w.heap.size, 3, none⟩ (w.heap.size + 1) (.slice va A1.length vc) (by show w.heap.size + 1 ≠ w.heap.size; omega)).trans kr
      have row2 := ho.out.move (w' := wx.setCell ⟨w.heap.size, 3, none⟩ (.slice va A1.length vc)) (Nat.le_refl _) (fun k hk => heap_setCell_other wx _ k _ (by have := ho.out.ge k hk; show k ≠ w.heap.size; omega))
      have hB2 := (HKB.out.trans (hb.out.mono (show w.heap.size ≤ w.heap.size + 1 + 1 by omega))).setCell (p := ⟨w.heap.size, 3, none⟩) (Nat.le_refl _) (.slice va A1.length vc)
      have hsz2 : w.heap.size + 1 + 1 ≤ (wx.setCell ⟨w.heap.size, 3, none⟩ (.slice va A1.length vc)).heap.size := by simp [World.setCell]; omega
      clear kb kr ho hb hw1
      have Hkb2 := Lib.hid kb2
      have Hkr2 := Lib.hid kr2
      have Hrow2 := Lib.hid row2
      have HB2 := Lib.hid hB2
      have Hsz2 := Lib.hid hsz2
      clear kb2 kr2 row2 hB2 hsz2
      by_cases hfew : (L.length : Int) + 1 ≤ most
      · have z1 : decide ((A1.length : Int) ≤ most) = true := decide_eq_true (by omega)
        go_wp2_with fail
        generalize wx.setCell ⟨w.heap.size, 3, none⟩ (.slice va A1.length vc) = W2 at *
        clear b0 b1 b2 b3 b4 fb
        have kb2 := Hkb2.out
        have kr2 := Hkr2.out
        have b0 := cell_of_row W2 w.heap.size 0 _ 37 (0, 0) kb2
        have b1 := cell_of_row W2 w.heap.size 1 _ 37 (0, 0) kb2
        have b2 := cell_of_row W2 w.heap.size 2 _ 37 (0, 0) kb2
        have b3 := cell_of_row W2 w.heap.size 3 _ 37 (0, 0) kb2
        have b4 := cell_of_row W2 w.heap.size 4 _ 37 (0, 0) kb2
        have fb := fun j => frozen_of_row W2 w.heap.size j _ 37 kb2
        simp only [List.getElem?_toArray, List.getElem?_cons_succ, List.getElem?_cons_zero] at b0 b1 b2 b3 b4
        have r0 := cell_of_row W2 (w.heap.size + 1) 0 _ 37 (0, 0) kr2
        have r1 := cell_of_row W2 (w.heap.size + 1) 1 _ 37 (0, 0) kr2
        have r2 := cell_of_row W2 (w.heap.size + 1) 2 _ 37 (0, 0) kr2
        have r3 := cell_of_row W2 (w.heap.size + 1) 3 _ 37 (0, 0) kr2
        have r4 := cell_of_row W2 (w.heap.size + 1) 4 _ 37 (0, 0) kr2
        have fr := fun j => frozen_of_row W2 (w.heap.size + 1) j _ 37 kr2
        simp only [List.getElem?_toArray, List.getElem?_cons_succ, List.getElem?_cons_zero] at r0 r1 r2 r3 r4
        clear kb2 kr2
        go_region
        all_goals
          go_wp2_with fail
          (try simp only [Exit.inBlock, Exit.then])
          refine bodyPost_ret (v := .tuple #[.bool true, .agg #[.int .i64 every, .int .i64 most, .slice ea ev.length ec, .slice va A1.length vc, .int .i64 gone]]) (by simp (maxDischargeDepth := 9) [results, Try.results13, go_sem, r0, r1, r2, r3, r4, World.cell?_setCell_other]) rfl ?_
          have hB := (box_keep (b := w.heap.size + 1) HB2.out (by omega) (.int .i64 every) (.int .i64 most) (.slice ea ev.length ec) (.slice va A1.length vc) (.int .i64 gone)).drew
          refine ⟨_, rfl, .inr (fun k hk => ⟨by have := Hrow2.out.ge k hk; omega, Nat.lt_of_lt_of_le (Hrow2.out.blt k hk) (by simp [World.setCell])⟩), (Hrow2.out.move (Nat.le_refl _) (fun k hk => ?_)).view, hB⟩
          have hk2 : k ≠ w.heap.size + 1 := by have := Hrow2.out.ge k hk; omega
          refine Eq.trans (b := (((((W2.setCell ⟨w.heap.size + 1, 0, none⟩ (.int .i64 every)).setCell ⟨w.heap.size + 1, 1, none⟩ (.int .i64 most)).setCell ⟨w.heap.size + 1, 2, none⟩ (.slice ea ev.length ec)).setCell ⟨w.heap.size + 1, 3, none⟩ (.slice va A1.length vc)).setCell ⟨w.heap.size + 1, 4, none⟩ (.int .i64 gone)).heap[k]?) rfl ?_
          rw [heap_setCell_other _ _ _ _ hk2, heap_setCell_other _ _ _ _ hk2, heap_setCell_other _ _ _ _ hk2, heap_setCell_other _ _ _ _ hk2, heap_setCell_other _ _ _ _ hk2]
      · have z1 : decide ((A1.length : Int) ≤ most) = false := decide_eq_false (by omega)
        go_upto_if 88 with fail
        generalize wx.setCell ⟨w.heap.size, 3, none⟩ (.slice va A1.length vc) = W2 at *
        clear b0 b1 b2 b3 b4 fb
        have kb2 := Hkb2.out
        have b0 := cell_of_row W2 w.heap.size 0 _ 37 (0, 0) kb2
        have b1 := cell_of_row W2 w.heap.size 1 _ 37 (0, 0) kb2
        have b2 := cell_of_row W2 w.heap.size 2 _ 37 (0, 0) kb2
        have b3 := cell_of_row W2 w.heap.size 3 _ 37 (0, 0) kb2
        have b4 := cell_of_row W2 w.heap.size 4 _ 37 (0, 0) kb2
        have fb := fun j => frozen_of_row W2 w.heap.size j _ 37 kb2
        simp only [List.getElem?_toArray, List.getElem?_cons_succ, List.getElem?_cons_zero] at b0 b1 b2 b3 b4
        clear kb2
        go_cut [11] (fun s wy => s = .int .i64 K ∧ ∃ q, wy = W2.drewN q)
        case first =>
          by_cases hevl : 0 < ev.length
          · obtain ⟨ge, oe, m, rfl, hml, e1, e2, kc⟩ := HEV.out W2 HB2.out hevl
            have he' : (0 : Int) < (ev.length : Int) := by omega
            have m0 : (0 : Int) ≤ (m : Int) := by omega
            have m1 : (m : Int) < (ev.length : Int) := by omega
            clear HEV
            go_wp2_with fail
            go_quiet (fail)
            go_wp2_with fail
            go_meet
            exact ⟨rfl, _, rfl⟩
          · have hevz : ev.length = 0 := by omega
            have hKz := hK0.out hevz
            have he' : decide ((0 : Int) < (ev.length : Int)) = false := decide_eq_false (by omega)
            subst hKz
            clear hevz
            go_wp2_with fail
            go_meet
            exact ⟨rfl, 0, rfl⟩
        case rest =>
        obtain ⟨rfl, q, rfl⟩ := hcut
        clear b0 b1 b2 b3 b4 fb HEV hK0
        have kb3 : (W2.drewN q).heap[w.heap.size]? = _ := Hkb2.out
        have kr3 : (W2.drewN q).heap[w.heap.size + 1]? = _ := Hkr2.out
        have row3 := Hrow2.out.move (w' := W2.drewN q) (Nat.le_refl _) (fun _ _ => rfl)
        have hB3 := HB2.out.trans (below_drewN _ W2 q)
        have hsz3 : w.heap.size + 1 + 1 ≤ (W2.drewN q).heap.size := Hsz2.out
        clear Hkb2 Hkr2 Hrow2 HB2 Hsz2
        generalize W2.drewN q = W3 at *
        have b0 := cell_of_row W3 w.heap.size 0 _ 37 (0, 0) kb3
        have b1 := cell_of_row W3 w.heap.size 1 _ 37 (0, 0) kb3
        have b2 := cell_of_row W3 w.heap.size 2 _ 37 (0, 0) kb3
        have b3 := cell_of_row W3 w.heap.size 3 _ 37 (0, 0) kb3
        have b4 := cell_of_row W3 w.heap.size 4 _ 37 (0, 0) kb3
        have fb := fun j => frozen_of_row W3 w.heap.size j _ 37 kb3
        simp only [List.getElem?_toArray, List.getElem?_cons_succ, List.getElem?_cons_zero] at b0 b1 b2 b3 b4
        have kb4 : (W3.setCell ⟨w.heap.size, 4, none⟩ (.int .i64 (gone + 1))).heap[w.heap.size]? = some (.cells #[.int .i64 every, .int .i64 most, .slice ea ev.length ec, .slice va A1.length vc, .int .i64 (gone + 1)] 37 (0, 0)) := heap_setCell_same W3 _ 4 _ 37 _ kb3
        have kr4 := (heap_setCell_other W3 ⟨w.heap.size, 4, none⟩ (w.heap.size + 1) (.int .i64 (gone + 1)) (by show w.heap.size + 1 ≠ w.heap.size; omega)).trans kr3
        have row4 := row3.move (w' := W3.setCell ⟨w.heap.size, 4, none⟩ (.int .i64 (gone + 1))) (Nat.le_refl _) (fun k hk => heap_setCell_other W3 _ k _ (by have := row3.ge k hk; show k ≠ w.heap.size; omega))
        have hB4 := hB3.setCell (p := ⟨w.heap.size, 4, none⟩) (Nat.le_refl _) (.int .i64 (gone + 1))
        have hsz4 : w.heap.size + 1 + 1 ≤ (W3.setCell ⟨w.heap.size, 4, none⟩ (.int .i64 (gone + 1))).heap.size := by simp [World.setCell]; omega
        have Hkb4 := Lib.hid kb4
        have Hkr4 := Lib.hid kr4
        have Hrow4 := Lib.hid row4
        have HB4 := Lib.hid hB4
        have Hsz4 := Lib.hid hsz4
        have Hw43 : Hid ((W3.setCell ⟨w.heap.size, 4, none⟩ (.int .i64 (gone + 1))).heap.size = W3.heap.size) := by rw [Hid]; simp [World.setCell]
        clear kb3 kr3 row3 hB3 hsz3 kb4 kr4 row4 hB4 hsz4
        go_wp2_with fail
        generalize W3.setCell ⟨w.heap.size, 4, none⟩ (.int .i64 (gone + 1)) = W4 at *
        clear b0 b1 b2 b3 b4 fb
        have o1 : Hid (PRow (W4.alloc (.cells #[] 46)) W4.heap.size (.slice (some ⟨W3.heap.size, 0, none⟩) 0 0) []) := by
          have := PRow.none W4 W4.heap.size (Nat.le_refl _)
          rw [Hid, ← Hw43.out]
          exact this
        have b1 : Hid (Below W4.heap.size W4 (W4.alloc (.cells #[] 46))) := (Below.refl _ _).alloc (Nat.le_refl _) _
        obtain ⟨bA, oA, hva, hbA, hcA⟩ : ∃ b off, va = some ⟨b, off, none⟩ ∧ b < W4.heap.size ∧ ∀ j, j < A1.length → W4.cell? ⟨b, off + j * 2, none⟩ = some (.int .i64 (A1.getD j (0, 0)).1) ∧ W4.cell? ⟨b, off + j * 2 + 1, none⟩ = some (.int .i64 (A1.getD j (0, 0)).2) := by
          obtain ⟨a, c, e, hh⟩ := Hrow4.out.view.slice
          injection e with e _ _
          subst e
          exact hh (by omega)
        subst hva
        have HCA := Lib.hid hcA
        clear hcA
        go_loopw [106, 12, 13] (fun ix v _ wr => ∃ (j : Nat) (Z : List (Int × Int)), j ≤ A1.length ∧ ix = .int .i64 j ∧ Hid (Z = (A1.take j).drop F) ∧ Z.length ≤ 1000 ∧ Hid (PRow wr W4.heap.size v Z) ∧ Hid (Below W4.heap.size W4 wr)) (fun ix _ _ _ => A1.length - (intOf ix).toNat)
        case atStart => exact ⟨0, [], Nat.zero_le _, rfl, by simp [Hid], by simp, o1, b1⟩
        case round =>
          clear o1 b1
          obtain ⟨j, Z, hj, rfl, hZ, hZl, ho, hb⟩ := hrel
          have hw1 : W4.heap.size ≤ wr.heap.size := hb.out.size
          by_cases hlt : j < A1.length
          · have e0 := hb.out.block bA hbA
            have k1 := (World.cell?_of_block (w := W4) (w' := wr) (a := ⟨bA, oA + j * 2, none⟩) e0).trans (HCA.out j hlt).1
            have k2 := (World.cell?_of_block (w := W4) (w' := wr) (a := ⟨bA, oA + j * 2 + 1, none⟩) e0).trans (HCA.out j hlt).2
            have hz := HZ.out j hlt
            have hds := drop_take_succ (α := Nat) A1 j F hlt
            have y1 : (0 : Int) ≤ (j : Int) := by omega
            have y2 : (j : Int) < (A1.length : Int) := by omega
            have hZl2 : Z.length ≤ j := by have := congrArg List.length hZ.out; simp at this; omega
            clear e0 HCA HZ HD
            generalize A1.getD j (0, 0) = pk at *
            obtain ⟨tk, xk⟩ := pk
            simp only at k1 k2 hz
            by_cases hjF : j < F
            · have z1 : (tk != 0) = false := by rw [hz.2 hjF]; rfl
              have hZ2 : Hid (Z = (A1.take (j + 1)).drop F) := by
                rw [Hid, hZ.out, List.drop_of_length_le (by simp; omega), List.drop_of_length_le (by simp; omega)]
              clear hz hds hZ
              go_wp2_with fail
              go_roundw
              case rel => exact ⟨j + 1, Z, by omega, by go_num, hZ2, hZl, ho, hb⟩
              case measure => simp [intOf]; omega
            · have z1 : (tk != 0) = true := bne_iff_ne.2 (fun e => hjF (hz.1 e))
              have hZ2 : Hid (Z ++ [(tk, xk)] = (A1.take (j + 1)).drop F) := by
                rw [Hid, hds (by omega) (fun _ => trivial), hZ.out]
              clear hz hds hZ
              go_wp2_with (at_builtin; refine Classical.byContradiction fun hnot => ?_)
              refine hnot ?_
              clear hnot
              refine wpList_append_own _ rfl (.tmp 115) (.tmp 120) 35 rfl (W4.heap.size) 46 inf _ 2 16 Try.underlying35 hif hz0 hz1 hz2 rfl (by decide) _ Z.length (flat Z) rfl (ho.out.alloc _) ⟨wr.heap.size, 0, none⟩ 1 1 [.int .i64 tk, .int .i64 xk] rfl rfl ?_ ?_ ?_ ?_ ?_ ?_
              · exact World.news_of_block (cs := #[.int .i64 tk, .int .i64 xk]) (t := 46) (fr := (0, 0)) (heap_alloc_new wr _)
              · intro u hu
                simp only [List.mem_cons, List.not_mem_nil, or_false] at hu
                rcases hu with rfl | rfl <;> rfl
              · unfold maxLen; omega
              · omega
              · simp; omega
              intro v wq hown' hgr _
              have ho' := Lib.hid (PRow.cast (p := (tk, xk)) hown' rfl)
              have hb' : Hid (Below (W4.heap.size) W4 wq) := (hb.out.alloc hw1 _).grown hgr (by simp; omega) (fun k hk => (ho.out.lt k hk).1)
              clear hown' hgr ho hb
              go_wp2_with fail
              go_roundw
              case rel => exact ⟨j + 1, Z ++ [(tk, xk)], by omega, by go_num, hZ2, by simp; omega, ho', hb'⟩
              case measure => simp [intOf]; omega
          · obtain rfl : j = A1.length := by omega
            have hSM : Hid (Z = A1.drop F) := by rw [Hid, hZ.out, List.take_length]
            have hSl : Z.length = A1.length - F := by rw [hSM.out, List.length_drop]
            obtain ⟨vs, cs, rfl⟩ := ho.out.slice
            obtain ⟨hJ, hJ2⟩ := dropJ (K := K) (L := A1.length) (F := F) (J := J) (by omega) hJe.out
            have hsI : ((Z.length : Nat) : Int) = (A1.length : Int) - F := by omega
            rw [← hsI] at hJ2
            have hS0 : (0 : Int) < (Z.length : Int) := by omega
            have t1 : -((Z.length : Nat) : Int) < K.tmod (Z.length : Int) := Int.lt_tmod_of_pos _ hS0
            have t2 : K.tmod (Z.length : Int) < (Z.length : Int) := Int.tmod_lt_of_pos _ hS0
            have hZ1000 : (Z.length : Int) ≤ 1000 := by omega
            have hA1000 : A1.length ≤ 901 := by omega
            obtain ⟨kk, hkk⟩ : ∃ kk : Nat, J = F + kk := ⟨J - F, by have := hJe.out; omega⟩
            have hJ3 := Lib.hid hJ2
            have hSmI := Lib.hid hsI
            have hSml := Lib.hid hSl
            clear hZ HZ hJ2 hsI hSl hJe
            go_upto_if 128 with fail
            go_cut [11] (fun s wy => s = .int .i64 (kk : Int) ∧ wy = wr)
            case first =>
              by_cases hsg : K.tmod (Z.length : Int) < 0
              · go_wp2_with fail
                go_meet
                refine ⟨?_, rfl⟩
                have := hJ3.out
                rw [if_pos (by omega)] at this
                congr 1
                omega
              · have hsg' : decide (K.tmod (Z.length : Int) < 0) = false := decide_eq_false hsg
                go_wp2_with fail
                go_meet
                refine ⟨?_, rfl⟩
                have := hJ3.out
                rw [if_neg (by omega)] at this
                congr 1
                omega
            case rest =>
            obtain ⟨rfl, hwr⟩ := hcut
            subst hwr
            obtain ⟨W5, hW5⟩ : ∃ W5, W5 = wc := ⟨_, rfl⟩
            subst hW5
            clear hw1 hlt hj t1 t2 hJ3 hS0 hZ1000
            have hw5 : w.heap.size + 1 + 1 ≤ W5.heap.size := by have := hb.out.size; have := Hsz4.out; omega
            have Hkb5 := Lib.hid ((hb.out.block w.heap.size (by have := Hsz4.out; omega)).trans Hkb4.out)
            have Hkr5 := Lib.hid ((hb.out.block (w.heap.size + 1) (by have := Hsz4.out; omega)).trans Hkr4.out)
            have hw54 : W4.heap.size ≤ W5.heap.size := hb.out.size
            have HB5 := Lib.hid (HB4.out.trans (hb.out.mono (show w.heap.size ≤ W4.heap.size by have := Hsz4.out; omega)))
            have e5 := hb.out.block bA hbA
            have HCA5 : Hid (∀ j, j < A1.length → W5.cell? ⟨bA, oA + j * 2, none⟩ = some (.int .i64 (A1.getD j (0, 0)).1) ∧ W5.cell? ⟨bA, oA + j * 2 + 1, none⟩ = some (.int .i64 (A1.getD j (0, 0)).2)) := fun j hj =>
              ⟨(World.cell?_of_block (w := W4) (w' := W5) (a := ⟨bA, oA + j * 2, none⟩) e5).trans (HCA.out j hj).1, (World.cell?_of_block (w := W4) (w' := W5) (a := ⟨bA, oA + j * 2 + 1, none⟩) e5).trans (HCA.out j hj).2⟩
            have hkZ : kk < Z.length := by have := hSml.out; omega
            obtain ⟨bS, oS, hvs, hbS, hcS⟩ : ∃ b off, vs = some ⟨b, off, none⟩ ∧ b < W5.heap.size ∧ ∀ j, j < Z.length → W5.cell? ⟨b, off + j * 2, none⟩ = some (.int .i64 (Z.getD j (0, 0)).1) ∧ W5.cell? ⟨b, off + j * 2 + 1, none⟩ = some (.int .i64 (Z.getD j (0, 0)).2) := by
              obtain ⟨a, c, e, hh⟩ := ho.out.view.slice
              injection e with e _ _
              subst e
              exact hh (by omega)
            subst hvs
            have sJ := (hcS kk hkZ).1
            have hgd : Z.getD kk (0, 0) = A1.getD J (0, 0) := by
              rw [hSM.out, List.getD_eq_getElem?_getD, List.getD_eq_getElem?_getD, List.getElem?_drop, hkk]
            rw [hgd] at sJ
            have HDJ : Hid (∀ j, j < A1.length → ((A1.getD j (0, 0)).1 ≠ (A1.getD J (0, 0)).1 ↔ j ≠ J)) := fun j hj =>
              ⟨fun h e => h (by rw [e]), fun h => HD.out j J hj hJ h⟩
            have hbA5 : bA < W5.heap.size := by omega
            have HSJ := Lib.hid sJ
            have y3 : (0 : Int) ≤ (kk : Int) := by omega
            have y4 : (kk : Int) < (Z.length : Int) := by omega
            have HKJ := Lib.hid hkk
            clear hb Hkb4 Hkr4 Hrow4 HB4 Hsz4 HCA e5 hcS hgd HD ho sJ hSM hSmI hSml hkk hZl Hw43
            generalize (A1.getD J (0, 0)).1 = tJ at *
            go_wp2_with fail
            have o1 := Lib.hid (PRow.none W5 W5.heap.size (Nat.le_refl _))
            have b1 : Hid (Below W5.heap.size W5 (W5.alloc (.cells #[] 46))) := (Below.refl _ _).alloc (Nat.le_refl _) _
            go_loopw [136, 14, 15] (fun ix v _ wr => ∃ (j : Nat) (Y : List (Int × Int)), j ≤ A1.length ∧ ix = .int .i64 j ∧ Hid (Y = del (A1.take j) J) ∧ Y.length ≤ 1000 ∧ Hid (PRow wr W5.heap.size v Y) ∧ Hid (Below W5.heap.size W5 wr)) (fun ix _ _ _ => A1.length - (intOf ix).toNat)
            case atStart => exact ⟨0, [], Nat.zero_le _, rfl, by simp [Hid, del], by simp, o1, b1⟩
            case round =>
              clear o1 b1
              obtain ⟨j, Y, hj, rfl, hY, hYl, ho, hb⟩ := hrel
              by_cases hlt : j < A1.length
              · have e0 := hb.out.block bA hbA5
                have eS := hb.out.block bS hbS
                have k1 := (World.cell?_of_block (w := W5) (w' := wr) (a := ⟨bA, oA + j * 2, none⟩) e0).trans (HCA5.out j hlt).1
                have k2 := (World.cell?_of_block (w := W5) (w' := wr) (a := ⟨bA, oA + j * 2 + 1, none⟩) e0).trans (HCA5.out j hlt).2
                have s1 := (World.cell?_of_block (w := W5) (w' := wr) (a := ⟨bS, oS + kk * 2, none⟩) eS).trans HSJ.out
                have hd := HDJ.out j hlt
                have hds := del_take_succ A1 j J hlt
                have hda := del_take_at A1 J hJ
                have hYl2 : Y.length ≤ j := by have := congrArg List.length hY.out; unfold del at this; simp at this; omega
                have y1 : (0 : Int) ≤ (j : Int) := by omega
                have y2 : (j : Int) < (A1.length : Int) := by omega
                clear e0 eS HCA5 HDJ HSJ
                generalize A1.getD j (0, 0) = pk at *
                obtain ⟨tk, xk⟩ := pk
                simp only at k1 k2 hd
                by_cases hjJ : j = J
                · have z1 : (tk != tJ) = false := by
                    cases hq : (tk != tJ) with
                    | false => rfl
                    | true => exact absurd hjJ (hd.1 (bne_iff_ne.1 hq))
                  have hY2 : Hid (Y = del (A1.take (j + 1)) J) := by rw [Hid, hjJ, hda, hY.out, hjJ]
                  clear hd hds hda hY hjJ
                  go_wp2_with fail
                  go_quiet (fail)
                  go_wp2_with fail
                  have ho' := Lib.hid (ho.out.move (w' := wr.drewN nq) (Nat.le_refl _) (fun _ _ => rfl))
                  have hb' := Lib.hid (hb.out.trans (below_drewN _ wr nq))
                  go_roundw
                  case rel => exact ⟨j + 1, Y, by omega, by go_num, hY2, hYl, ho', hb'⟩
                  case measure => simp [intOf]; omega
                · have z1 : (tk != tJ) = true := bne_iff_ne.2 (hd.2 hjJ)
                  have hY2 : Hid (Y ++ [(tk, xk)] = del (A1.take (j + 1)) J) := by rw [Hid, hds hjJ, hY.out]
                  clear hd hds hda hY
                  go_wp2_with fail
                  go_quiet (fail)
                  have ho0 := Lib.hid (ho.out.move (w' := wr.drewN nq) (Nat.le_refl _) (fun _ _ => rfl))
                  have hb0 := Lib.hid (hb.out.trans (below_drewN _ wr nq))
                  have k1' : (wr.drewN nq).cell? ⟨bA, oA + j * 2, none⟩ = _ := k1
                  have k2' : (wr.drewN nq).cell? ⟨bA, oA + j * 2 + 1, none⟩ = _ := k2
                  clear k1 k2 s1 ho hb
                  generalize wr.drewN nq = wd at *
                  have hw1 : W5.heap.size ≤ wd.heap.size := hb0.out.size
                  go_wp2_with (at_builtin; refine Classical.byContradiction fun hnot => ?_)
                  refine hnot ?_
                  clear hnot
                  refine wpList_append_own _ rfl (.tmp 150) (.tmp 155) 35 rfl (W5.heap.size) 46 inf _ 2 16 Try.underlying35 hif hz0 hz1 hz2 rfl (by decide) _ Y.length (flat Y) rfl (ho0.out.alloc _) ⟨wd.heap.size, 0, none⟩ 1 1 [.int .i64 tk, .int .i64 xk] rfl rfl ?_ ?_ ?_ ?_ ?_ ?_
                  · exact World.news_of_block (cs := #[.int .i64 tk, .int .i64 xk]) (t := 46) (fr := (0, 0)) (heap_alloc_new wd _)
                  · intro u hu
                    simp only [List.mem_cons, List.not_mem_nil, or_false] at hu
                    rcases hu with rfl | rfl <;> rfl
                  · unfold maxLen; omega
                  · omega
                  · simp; omega
                  intro v wq hown' hgr _
                  have ho' := Lib.hid (PRow.cast (p := (tk, xk)) hown' rfl)
                  have hb' : Hid (Below (W5.heap.size) W5 wq) := (hb0.out.alloc hw1 _).grown hgr (by simp; omega) (fun k hk => (ho0.out.lt k hk).1)
                  clear hown' hgr ho0 hb0
                  go_wp2_with fail
                  go_roundw
                  case rel => exact ⟨j + 1, Y ++ [(tk, xk)], by omega, by go_num, hY2, by simp; omega, ho', hb'⟩
                  case measure => simp [intOf]; omega
              · obtain rfl : j = A1.length := by omega
                have hYe : Hid (Y = del A1 J) := by rw [Hid, hY.out, List.take_length]
                obtain ⟨vy, cy, rfl⟩ := ho.out.slice
                have kb := (hb.out.block w.heap.size (by omega)).trans Hkb5.out
                have kr := (hb.out.block (w.heap.size + 1) (by omega)).trans Hkr5.out
                have b0 := cell_of_row wr w.heap.size 0 _ 37 (0, 0) kb
                have b1 := cell_of_row wr w.heap.size 1 _ 37 (0, 0) kb
                have b2 := cell_of_row wr w.heap.size 2 _ 37 (0, 0) kb
                have b3 := cell_of_row wr w.heap.size 3 _ 37 (0, 0) kb
                have b4 := cell_of_row wr w.heap.size 4 _ 37 (0, 0) kb
                have fb := fun j => frozen_of_row wr w.heap.size j _ 37 kb
                simp only [List.getElem?_toArray, List.getElem?_cons_succ, List.getElem?_cons_zero] at b0 b1 b2 b3 b4
                have kb2 : (wr.setCell ⟨w.heap.size, 3, none⟩ (.slice vy Y.length cy)).heap[w.heap.size]? = some (.cells #[.int .i64 every, .int .i64 most, .slice ea ev.length ec, .slice vy Y.length cy, .int .i64 (gone + 1)] 37 (0, 0)) := heap_setCell_same wr _ 3 _ 37 _ kb
                have kr2 := (heap_setCell_other wr ⟨w.heap.size, 3, none⟩ (w.heap.size + 1) (.slice vy Y.length cy) (by show w.heap.size + 1 ≠ w.heap.size; omega)).trans kr
                have row2 := ho.out.move (w' := wr.setCell ⟨w.heap.size, 3, none⟩ (.slice vy Y.length cy)) (Nat.le_refl _) (fun k hk => heap_setCell_other wr _ k _ (by have := ho.out.ge k hk; show k ≠ w.heap.size; omega))
                have hB2 := (HB5.out.trans (hb.out.mono (show w.heap.size ≤ W5.heap.size by omega))).setCell (p := ⟨w.heap.size, 3, none⟩) (Nat.le_refl _) (.slice vy Y.length cy)
                have Hkb2 := Lib.hid kb2
                have Hkr2 := Lib.hid kr2
                have Hrow2 := Lib.hid row2
                have HB2 := Lib.hid hB2
                clear kb kr kb2 kr2 row2 hB2 hY HCA5 HDJ HSJ ho hb
                go_wp2_with fail
                generalize wr.setCell ⟨w.heap.size, 3, none⟩ (.slice vy Y.length cy) = W7 at *
                clear b0 b1 b2 b3 b4 fb
                have kb2 := Hkb2.out
                have kr2 := Hkr2.out
                have b0 := cell_of_row W7 w.heap.size 0 _ 37 (0, 0) kb2
                have b1 := cell_of_row W7 w.heap.size 1 _ 37 (0, 0) kb2
                have b2 := cell_of_row W7 w.heap.size 2 _ 37 (0, 0) kb2
                have b3 := cell_of_row W7 w.heap.size 3 _ 37 (0, 0) kb2
                have b4 := cell_of_row W7 w.heap.size 4 _ 37 (0, 0) kb2
                have fb := fun j => frozen_of_row W7 w.heap.size j _ 37 kb2
                simp only [List.getElem?_toArray, List.getElem?_cons_succ, List.getElem?_cons_zero] at b0 b1 b2 b3 b4
                have r0 := cell_of_row W7 (w.heap.size + 1) 0 _ 37 (0, 0) kr2
                have r1 := cell_of_row W7 (w.heap.size + 1) 1 _ 37 (0, 0) kr2
                have r2 := cell_of_row W7 (w.heap.size + 1) 2 _ 37 (0, 0) kr2
                have r3 := cell_of_row W7 (w.heap.size + 1) 3 _ 37 (0, 0) kr2
                have r4 := cell_of_row W7 (w.heap.size + 1) 4 _ 37 (0, 0) kr2
                have fr := fun j => frozen_of_row W7 (w.heap.size + 1) j _ 37 kr2
                simp only [List.getElem?_toArray, List.getElem?_cons_succ, List.getElem?_cons_zero] at r0 r1 r2 r3 r4
                clear kb2 kr2
                go_region
                all_goals
                  go_wp2_with fail
                  (try simp only [Exit.inBlock, Exit.then])
                  refine bodyPost_ret (v := .tuple #[.bool true, .agg #[.int .i64 every, .int .i64 most, .slice ea ev.length ec, .slice vy Y.length cy, .int .i64 (gone + 1)]]) (by simp (maxDischargeDepth := 9) [results, Try.results13, go_sem, r0, r1, r2, r3, r4, World.cell?_setCell_other]) rfl ?_
                  (try rw [if_neg hfew])
                  have hB := (box_keep (b := w.heap.size + 1) HB2.out (by omega) (.int .i64 every) (.int .i64 most) (.slice ea ev.length ec) (.slice vy Y.length cy) (.int .i64 (gone + 1))).drew
                  refine ⟨_, rfl, .inr (fun k hk => ⟨by have := Hrow2.out.ge k hk; omega, Nat.lt_of_lt_of_le (Hrow2.out.blt k hk) (by simp [World.setCell])⟩), ?_, hB⟩
                  rw [← hYe.out]
                  refine (Hrow2.out.move (Nat.le_refl _) (fun k hk => ?_)).view
                  have hk2 : k ≠ w.heap.size + 1 := by have := Hrow2.out.ge k hk; omega
                  refine Eq.trans (b := (((((W7.setCell ⟨w.heap.size + 1, 0, none⟩ (.int .i64 every)).setCell ⟨w.heap.size + 1, 1, none⟩ (.int .i64 most)).setCell ⟨w.heap.size + 1, 2, none⟩ (.slice ea ev.length ec)).setCell ⟨w.heap.size + 1, 3, none⟩ (.slice vy Y.length cy)).setCell ⟨w.heap.size + 1, 4, none⟩ (.int .i64 (gone + 1))).heap[k]?) rfl ?_
                  rw [heap_setCell_other _ _ _ _ hk2, heap_setCell_other _ _ _ _ hk2, heap_setCell_other _ _ _ _ hk2, heap_setCell_other _ _ _ _ hk2, heap_setCell_other _ _ _ _ hk2]
end Go.Proofs.Ytkenbckagmjheaa
