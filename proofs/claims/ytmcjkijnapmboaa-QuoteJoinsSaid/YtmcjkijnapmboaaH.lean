import Derived.Test.YtmcjkijnapmboaaG
import Derived.Deep.RegionHeld3
import Derived.Deep.AppendLies
namespace Go.Proofs.Ytmcjkijnapmboaa
open Go.RowKit

/-- '[]byte' to string, of a row of the call's own, the empty one too. -/
theorem conv_own0 {w : World} {base : Nat} {a : Option Addr} {n k : Nat} {l : List UInt8} (h : Own w base (.slice a n k) l) : (convert 34 9 (.slice a n k)).run Try.prog w = .ok (.string ⟨l.toArray⟩) w := by
  have hf := h.2
  rcases hf with ⟨hv, h0⟩ | ⟨g, cap, cur, hv, _⟩
  · injection hv with e1 e2 e3
    subst e1
    have : l = [] := List.eq_nil_of_length_eq_zero h0
    subst this
    exact run_convert_bytes_nil (P := Try.prog) w 34 5 Try.underlying34 Try.underlying5 n k 9 Try.underlying9
  · injection hv with e1 e2 e3
    subst e1 e2 e3
    have := run_convert_bytes_arg (P := Try.prog) w 34 5 Try.underlying34 Try.underlying5 g 0 l.length k (l.map fun c => (c.toNat : Int)) (by simp) (by
      intro i hi
      have hc := h.cellAt i (by omega)
      rw [Nat.zero_add, hc]
      unfold Lib.byteCells
      simp [hi]) 9 Try.underlying9
    rw [this, str_of]

theorem Own.none (w : World) (base : Nat) (hb : base ≤ w.heap.size) : Own (w.alloc (.cells #[] 5)) base (.slice (some ⟨w.heap.size, 0, none⟩) 0 0) [] :=
  ⟨rfl, .inr ⟨w.heap.size, 0, #[], rfl, hb, heap_alloc_new w _, Nat.le_refl _, by unfold maxLen; omega, rfl, rfl⟩⟩

set_option maxHeartbeats 4000000 in
set_option maxRecDepth 100000 in
theorem read_ref_yes (s : ByteArray) (w : World) (hs : s.size ≤ 100000) (h0 : 0 < s.size) (h1 : s[0] = 34) (R : List UInt8 × Nat × Bool) (hR : Hid (rd (left s 1) [] 1 = R)) :
    Calls Try.prog 10 #[.string s] w (Ans R w) := by
  have n0 : ((s[0].toNat : Int) != 34) = false := by rw [h1]; rfl
  clear h1
  have e0 : ((s.size : Int) == 0) = false := beq_eq_false_iff_ne.2 (by omega)
  obtain ⟨i0, hi, hz0, hz1, hz2⟩ := info_parts info5
  go_enter Try.func10, Try.ntmps10
  go_wp2_with fail
  have o1 := Lib.hid (Own.none w w.heap.size (Nat.le_refl _))
  have b1 : Below w.heap.size w (w.alloc (.cells #[] 5)) := (Below.refl _ _).alloc (Nat.le_refl _) _
  go_loopw [5, 6, 7, 8] (fun v i _ _ wr => ∃ (k : Nat) (l : List UInt8), k ≤ s.size ∧ i = .int .i64 k ∧ Hid (rd (left s k) l k = R) ∧ Hid (Own wr w.heap.size v l) ∧ l.length ≤ k ∧ Below w.heap.size w wr) (fun _ i _ _ _ => s.size - (intOf i).toNat)
  case atStart => exact ⟨1, [], h0, rfl, hR, o1, Nat.zero_le _, b1⟩
  case round =>
    obtain ⟨i, l, hik, rfl, hacc, ho, hl4, hb⟩ := hrel
    clear hR n0 e0 o1 b1
    by_cases hlt : i < s.size
    · have b0 := s[i].toNat_lt
      by_cases hbad : s[i] < 32 ∨ 126 < s[i]
      · have hR2 := Lib.hid (hacc.out.symm.trans (rd_bad s l i hlt hbad))
        have hz : (s[i].toNat : Int) < 32 ∨ (¬ (s[i].toNat : Int) < 32 ∧ 126 < (s[i].toNat : Int)) := by
          have hz : (s[i].toNat : Int) < 32 ∨ 126 < (s[i].toNat : Int) := by
            rcases hbad with h | h
            · left; have := UInt8.lt_iff_toNat_lt.1 h; simp at this; omega
            · right; have := UInt8.lt_iff_toNat_lt.1 h; simp at this; omega
          omega
        clear hbad hacc
        rcases hz with h | ⟨h, h2⟩
        · go_wp2_with fail
          go_ret3
          exact ⟨by rw [hR2.out]; rfl, hb⟩
        · go_wp2_with fail
          go_ret3
          exact ⟨by rw [hR2.out]; rfl, hb⟩
      have g1 : ¬ (s[i].toNat : Int) < 32 := fun e => hbad (.inl (UInt8.lt_iff_toNat_lt.2 (by simpa using (by omega : s[i].toNat < 32))))
      have g2 : ¬ 126 < (s[i].toNat : Int) := fun e => hbad (.inr (UInt8.lt_iff_toNat_lt.2 (by simpa using (by omega : 126 < s[i].toNat))))
      by_cases hq : s[i] = 34
      · have hR2 := Lib.hid (hacc.out.symm.trans (rd_quote s l i hlt hq))
        have n34 : ((s[i].toNat : Int) == 34) = true := by rw [hq]; rfl
        clear hbad hacc hq
        obtain ⟨b, n, g, rfl⟩ : ∃ b n g, u5 = .slice b n g := by
          rcases ho.out.2 with ⟨h, _⟩ | ⟨_, _, _, h, _⟩ <;> exact ⟨_, _, _, h⟩
        have hcv := conv_own0 ho.out
        go_wp2_with fail
        go_ret3
        exact ⟨by rw [hR2.out]; rfl, hb⟩
      have n34 : ((s[i].toNat : Int) == 34) = false := ne_of (n := 34) (by omega) hq
      by_cases hsl : s[i] = 92
      · have n92 : ((s[i].toNat : Int) != 92) = false := by rw [hsl]; rfl
        clear hbad hq
        by_cases hl1 : i + 1 < s.size
        · have b1 := s[i + 1].toNat_lt
          by_cases e1 : s[i + 1] = 34 ∨ s[i + 1] = 92
          · have hR2 := Lib.hid ((rd_esc s l i hl1 hsl e1).symm.trans hacc.out)
            have m34 : (((s[i + 1].toNat : Int) == 34) = true ∨ (((s[i + 1].toNat : Int) == 34) = false ∧ ((s[i + 1].toNat : Int) == 92) = true)) := by
              rcases e1 with h | h
              · left; rw [h]; rfl
              · right; rw [h]; exact ⟨rfl, rfl⟩
            clear e1 hacc hsl
            rcases m34 with h | ⟨h, h2⟩
            · go_wp2_with (at_builtin; refine Classical.byContradiction fun hnot => ?_)
              refine hnot ?_
              clear hnot
              refine wpList_append_own _ rfl (.tmp 60) (.tmp 64) 34 rfl w.heap.size 5 i0 _ 1 1 Try.underlying34 hi hz0 hz1 hz2 rfl (by decide) _ l.length (Lib.byteCells l) rfl (ho.out.alloc _) ⟨wr.heap.size, 0, none⟩ 1 1 [.int .u8 (s[i + 1].toNat : Int)] rfl rfl ?_ ?_ ?_ ?_ ?_ ?_
              · intro i u hu
                rcases i with _ | i
                · simp at hu; subst hu; simp [Addr.add, go_sem]
                · simp at hu
              · intro u hu
                simp only [List.mem_cons, List.not_mem_nil, or_false] at hu
                subst hu; rfl
              · unfold maxLen; omega
              · omega
              · have := hb.size; simp; omega
              · intro v' wq hown' hgr _
                have ho' := Lib.hid (Own.cast (l := l) (m := [s[i + 1]]) hown' rfl)
                have hb' : Below w.heap.size w wq := (hb.alloc hb.size _).grown hgr (by have := hb.size; simp; omega) (fun k hk => (ho.out.lt k hk).1)
                clear hown' hgr ho hb
                go_wp2_with fail
                go_roundw
                case rel => exact ⟨i + 2, l ++ [s[i + 1]], by omega, by go_num, hR2, ho', by simp; omega, hb'⟩
                case measure => simp [intOf]; omega
            · go_wp2_with (at_builtin; refine Classical.byContradiction fun hnot => ?_)
              refine hnot ?_
              clear hnot
              refine wpList_append_own _ rfl (.tmp 60) (.tmp 64) 34 rfl w.heap.size 5 i0 _ 1 1 Try.underlying34 hi hz0 hz1 hz2 rfl (by decide) _ l.length (Lib.byteCells l) rfl (ho.out.alloc _) ⟨wr.heap.size, 0, none⟩ 1 1 [.int .u8 (s[i + 1].toNat : Int)] rfl rfl ?_ ?_ ?_ ?_ ?_ ?_
              · intro i u hu
                rcases i with _ | i
                · simp at hu; subst hu; simp [Addr.add, go_sem]
                · simp at hu
              · intro u hu
                simp only [List.mem_cons, List.not_mem_nil, or_false] at hu
                subst hu; rfl
              · unfold maxLen; omega
              · omega
              · have := hb.size; simp; omega
              · intro v' wq hown' hgr _
                have ho' := Lib.hid (Own.cast (l := l) (m := [s[i + 1]]) hown' rfl)
                have hb' : Below w.heap.size w wq := (hb.alloc hb.size _).grown hgr (by have := hb.size; simp; omega) (fun k hk => (ho.out.lt k hk).1)
                clear hown' hgr ho hb
                go_wp2_with fail
                go_roundw
                case rel => exact ⟨i + 2, l ++ [s[i + 1]], by omega, by go_num, hR2, ho', by simp; omega, hb'⟩
                case measure => simp [intOf]; omega
          have m34 : ((s[i + 1].toNat : Int) == 34) = false := ne_of (n := 34) (by omega) (fun e => e1 (.inl e))
          have m92 : ((s[i + 1].toNat : Int) == 92) = false := ne_of (n := 92) (by omega) (fun e => e1 (.inr e))
          by_cases e2 : s[i + 1] = 110
          · have hR2 := Lib.hid ((rd_esc_n s l i hl1 hsl e2).symm.trans hacc.out)
            have m110 : ((s[i + 1].toNat : Int) == 110) = true := by rw [e2]; rfl
            clear e1 e2 hacc hsl
            go_wp2_with (at_builtin; refine Classical.byContradiction fun hnot => ?_)
            refine hnot ?_
            clear hnot
            refine wpList_append_own _ rfl (.tmp 68) (.tmp 69) 34 rfl w.heap.size 5 i0 _ 1 1 Try.underlying34 hi hz0 hz1 hz2 rfl (by decide) _ l.length (Lib.byteCells l) rfl (ho.out.alloc _) ⟨wr.heap.size, 0, none⟩ 1 1 [.int .u8 10] rfl rfl ?_ ?_ ?_ ?_ ?_ ?_
            · intro i u hu
              rcases i with _ | i
              · simp at hu; subst hu; simp [Addr.add, go_sem]
              · simp at hu
            · intro u hu
              simp only [List.mem_cons, List.not_mem_nil, or_false] at hu
              subst hu; rfl
            · unfold maxLen; omega
            · omega
            · have := hb.size; simp; omega
            · intro v' wq hown' hgr _
              have ho' := Lib.hid (Own.cast (l := l) (m := [10]) hown' rfl)
              have hb' : Below w.heap.size w wq := (hb.alloc hb.size _).grown hgr (by have := hb.size; simp; omega) (fun k hk => (ho.out.lt k hk).1)
              clear hown' hgr ho hb
              go_wp2_with fail
              go_roundw
              case rel => exact ⟨i + 2, l ++ [10], by omega, by go_num, hR2, ho', by simp; omega, hb'⟩
              case measure => simp [intOf]; omega
          have m110 : ((s[i + 1].toNat : Int) == 110) = false := ne_of (n := 110) (by omega) e2
          by_cases e3 : s[i + 1] = 116
          · have hR2 := Lib.hid ((rd_esc_t s l i hl1 hsl e3).symm.trans hacc.out)
            have m116 : ((s[i + 1].toNat : Int) == 116) = true := by rw [e3]; rfl
            clear e1 e2 e3 hacc hsl
            go_wp2_with (at_builtin; refine Classical.byContradiction fun hnot => ?_)
            refine hnot ?_
            clear hnot
            refine wpList_append_own _ rfl (.tmp 73) (.tmp 74) 34 rfl w.heap.size 5 i0 _ 1 1 Try.underlying34 hi hz0 hz1 hz2 rfl (by decide) _ l.length (Lib.byteCells l) rfl (ho.out.alloc _) ⟨wr.heap.size, 0, none⟩ 1 1 [.int .u8 9] rfl rfl ?_ ?_ ?_ ?_ ?_ ?_
            · intro i u hu
              rcases i with _ | i
              · simp at hu; subst hu; simp [Addr.add, go_sem]
              · simp at hu
            · intro u hu
              simp only [List.mem_cons, List.not_mem_nil, or_false] at hu
              subst hu; rfl
            · unfold maxLen; omega
            · omega
            · have := hb.size; simp; omega
            · intro v' wq hown' hgr _
              have ho' := Lib.hid (Own.cast (l := l) (m := [9]) hown' rfl)
              have hb' : Below w.heap.size w wq := (hb.alloc hb.size _).grown hgr (by have := hb.size; simp; omega) (fun k hk => (ho.out.lt k hk).1)
              clear hown' hgr ho hb
              go_wp2_with fail
              go_roundw
              case rel => exact ⟨i + 2, l ++ [9], by omega, by go_num, hR2, ho', by simp; omega, hb'⟩
              case measure => simp [intOf]; omega
          have m116 : ((s[i + 1].toNat : Int) == 116) = false := ne_of (n := 116) (by omega) e3
          by_cases e4 : s[i + 1] = 120
          · have m120 : ((s[i + 1].toNat : Int) == 120) = true := by rw [e4]; rfl
            by_cases hl2 : i + 2 < s.size
            · by_cases ha : dg s[i + 2] = 16
              · have hR2 := Lib.hid (hacc.out.symm.trans (rd_x1 s l i hl2 hsl e4 ha))
                have cA : Hid (∀ w, Calls Try.prog 15 #[.int .u8 (s[i + 2].toNat : Int)] w fun e w' => e = .returned (.int .i64 (-1)) ∧ w = w') := fun w => by
                  have := value_any s[i + 2] w
                  unfold dgi at this
                  rwa [if_pos ha] at this
                clear e1 e2 e3 e4 hacc hsl ha
                go_wp2_with fail
                refine wp_loop_rounds 2 ?_
                rw [rounds_succ]
                go_wp2_with fail
                refine (cA.out _).mono ?_
                rintro e w5 ⟨rfl, rfl⟩
                go_wp2_with fail
                go_ret3
                exact ⟨by rw [hR2.out]; rfl, hb⟩
              have hda : dg s[i + 2] ≤ 15 := by have := dg_le s[i + 2]; omega
              have cA : Hid (∀ w, Calls Try.prog 15 #[.int .u8 (s[i + 2].toNat : Int)] w fun e w' => e = .returned (.int .i64 (dg s[i + 2] : Nat)) ∧ w = w') := fun w => by
                have := value_any s[i + 2] w
                unfold dgi at this
                rwa [if_neg ha] at this
              by_cases hl3 : i + 3 < s.size
              · by_cases hb3 : dg s[i + 3] = 16
                · have hR2 := Lib.hid (hacc.out.symm.trans (rd_x3 s l i hl3 hsl e4 ha hb3))
                  have cB : Hid (∀ w, Calls Try.prog 15 #[.int .u8 (s[i + 3].toNat : Int)] w fun e w' => e = .returned (.int .i64 (-1)) ∧ w = w') := fun w => by
                    have := value_any s[i + 3] w
                    unfold dgi at this
                    rwa [if_pos hb3] at this
                  clear e1 e2 e3 e4 hacc hsl ha hb3
                  generalize dg s[i + 2] = d1 at *
                  have z1 : decide ((d1 : Int) < 0) = false := by simp
                  go_wp2_with fail
                  refine wp_loop_rounds 2 ?_
                  rw [rounds_succ]
                  go_wp2_with fail
                  refine (cA.out _).mono ?_
                  rintro e w5 ⟨rfl, rfl⟩
                  go_wp2_with fail
                  rw [rounds_succ]
                  go_wp2_with fail
                  refine (cB.out _).mono ?_
                  rintro e w5 ⟨rfl, rfl⟩
                  go_wp2_with fail
                  go_ret3
                  exact ⟨by rw [hR2.out]; rfl, hb⟩
                have hdb : dg s[i + 3] ≤ 15 := by have := dg_le s[i + 3]; omega
                have hR2 := Lib.hid ((rd_x4 s l i hl3 hsl e4 ha hb3).symm.trans hacc.out)
                have cB : Hid (∀ w, Calls Try.prog 15 #[.int .u8 (s[i + 3].toNat : Int)] w fun e w' => e = .returned (.int .i64 (dg s[i + 3] : Nat)) ∧ w = w') := fun w => by
                  have := value_any s[i + 3] w
                  unfold dgi at this
                  rwa [if_neg hb3] at this
                clear e1 e2 e3 e4 hacc hsl ha hb3
                generalize dg s[i + 2] = d1 at *
                have z1 : decide ((d1 : Int) < 0) = false := by simp
                generalize dg s[i + 3] = d2 at *
                have z2 : decide ((d2 : Int) < 0) = false := by simp
                go_wp2_with fail
                refine wp_loop_rounds 3 ?_
                rw [rounds_succ]
                go_wp2_with fail
                refine (cA.out _).mono ?_
                rintro e w5 ⟨rfl, rfl⟩
                go_wp2_with fail
                rw [rounds_succ]
                go_wp2_with fail
                refine (cB.out _).mono ?_
                rintro e w5 ⟨rfl, rfl⟩
                go_wp2_with fail
                rw [rounds_succ]
                go_wp2_with fail
                have hx : Hid (IntKind.u8.wrap ((d1 : Int) * 16 + (d2 : Int)) = ((UInt8.ofNat (16 * d1 + d2)).toNat : Int)) := by
                  rw [Hid, IntWalk.u8_in _ ⟨by omega, by omega⟩]; simp; omega
                have s1 : IntKind.i64.wrap ((i : Int) + 1 + 1) = (i : Int) + 1 + 1 := IntWalk.i64_in _ (by omega)
                have s2 : IntKind.i64.wrap ((i : Int) + 1 + 2) = (i : Int) + 1 + 2 := IntWalk.i64_in _ (by omega)
                have s3 : IntKind.i64.wrap ((d1 : Int) * 16) = (d1 : Int) * 16 := IntWalk.i64_in _ (by omega)
                have s4 : IntKind.i64.wrap ((d1 : Int) * 16 + (d2 : Int)) = (d1 : Int) * 16 + (d2 : Int) := IntWalk.i64_in _ (by omega)
                have t1 : (0 : Int) ≤ (i : Int) + 1 + 1 := by omega
                have t2 : (i : Int) + 1 + 1 < (s.size : Int) := by omega
                have t3 : ((i : Int) + 1 + 1).toNat = i + 1 + 1 := by omega
                have t4 : (0 : Int) ≤ (i : Int) + 1 + 2 := by omega
                have t5 : (i : Int) + 1 + 2 < (s.size : Int) := by omega
                have t6 : ((i : Int) + 1 + 2).toNat = i + 1 + 2 := by omega
                have q1 : l.length + 1 ≤ maxLen := by unfold maxLen; omega
                have q2 : (l.length + 1) * 1 ≤ 140737488355328 := by omega
                have q3 : w.heap.size ≤ wr.heap.size + 1 := by have := hb.size; omega
                go_region_held3 (fun _ => True) (trivial) (first | (go_at_call 15; (with_reducible refine (cA.out _).mono ?_); rintro e w5 ⟨rfl, rfl⟩) | (go_at_call 15; (with_reducible refine (cB.out _).mono ?_); rintro e w5 ⟨rfl, rfl⟩) | ((show (if Region.wanted ({ dst := some 115, op := _, type := _, pos := _, after := _, guard := _ } : Oper) _ = true then _ else _)); (refine step_append_lies _ (by rfl) (.tmp 100) (.tmp 114) 34 (by rfl) w.heap.size 5 i0 _ 1 1 Try.underlying34 hi hz0 hz1 hz2 (by rfl) (by decide) u5 l.length (Lib.byteCells l) (by rfl) ((ho.out.alloc _).drew) ⟨wr.heap.size, 0, none⟩ 1 1 [.int .u8 (IntKind.u8.wrap ((d1 : Int) * 16 + (d2 : Int)))] (by rfl) (by rfl) (World.news_of_block (cs := #[.int .u8 (IntKind.u8.wrap ((d1 : Int) * 16 + (d2 : Int)))]) (t := 5) (fr := (0, 0)) (heap_alloc_new wr _)) (by simp [Value.oneCell']) (by omega) q1 q2 (by simp; omega) (wr.heap.size + 1) (by simp) ?_; intro gg cap w1 hown' hgr hat hlt')))
                all_goals
                  rw [hx.out] at hown'
                  have ho' := Lib.hid (Own.cast (l := l) (m := [UInt8.ofNat (16 * d1 + d2)]) hown' rfl)
                  have hb' : Below w.heap.size w w1 := ((hb.alloc hb.size _).drew).grown hgr (by have := hb.size; simp; omega) (fun k hk => (ho.out.lt k hk).1)
                  clear hown' hgr ho hb hat hlt' s1 s2 s3 s4
                  go_wp2_with fail
                  go_roundw
                  case rel => exact ⟨i + 4, l ++ [UInt8.ofNat (16 * d1 + d2)], by omega, by go_num, hR2, ho', by simp; omega, hb'⟩
                  case measure => simp [intOf]; omega
              · have hR2 := Lib.hid (hacc.out.symm.trans (rd_x2 s l i hl2 hsl e4 ha (by omega)))
                clear e1 e2 e3 e4 hacc hsl ha
                generalize dg s[i + 2] = d1 at *
                have z1 : decide ((d1 : Int) < 0) = false := by simp
                go_wp2_with fail
                refine wp_loop_rounds 2 ?_
                rw [rounds_succ]
                go_wp2_with fail
                refine (cA.out _).mono ?_
                rintro e w5 ⟨rfl, rfl⟩
                go_wp2_with fail
                rw [rounds_succ]
                go_wp2_with fail
                go_ret3
                exact ⟨by rw [hR2.out]; rfl, hb⟩
            · have hR2 := Lib.hid (hacc.out.symm.trans (rd_x0 s l i hl1 hsl e4 (by omega)))
              clear e1 e2 e3 e4 hacc hsl
              go_wp2_with fail
              refine wp_loop_rounds 2 ?_
              rw [rounds_succ]
              go_wp2_with fail
              go_ret3
              exact ⟨by rw [hR2.out]; rfl, hb⟩
          · have hR2 := Lib.hid (hacc.out.symm.trans (rd_esc_no s l i hl1 hsl e1 e2 e3 e4))
            have m120 : ((s[i + 1].toNat : Int) == 120) = false := ne_of (n := 120) (by omega) e4
            clear e1 e2 e3 e4 hacc hsl
            go_wp2_with fail
            go_ret3
            exact ⟨by rw [hR2.out]; rfl, hb⟩
        · have hR2 := Lib.hid (hacc.out.symm.trans (rd_slash_end s l i hlt hsl (by omega)))
          clear hacc hsl
          go_wp2_with fail
          go_ret3
          exact ⟨by rw [hR2.out]; rfl, hb⟩
      · have hR2 := Lib.hid ((rd_plain s l i hlt hbad hq hsl).symm.trans hacc.out)
        have n92 : ((s[i].toNat : Int) != 92) = true := by
          have := ne_of (n := 92) (by omega) hsl
          simp only [bne, Bool.not_eq_true']; exact this
        clear hbad hacc hq hsl
        go_wp2_with (at_builtin; refine Classical.byContradiction fun hnot => ?_)
        refine hnot ?_
        clear hnot
        refine wpList_append_own _ rfl (.tmp 42) (.tmp 44) 34 rfl w.heap.size 5 i0 _ 1 1 Try.underlying34 hi hz0 hz1 hz2 rfl (by decide) _ l.length (Lib.byteCells l) rfl (ho.out.alloc _) ⟨wr.heap.size, 0, none⟩ 1 1 [.int .u8 (s[i].toNat : Int)] rfl rfl ?_ ?_ ?_ ?_ ?_ ?_
        · intro i u hu
          rcases i with _ | i
          · simp at hu; subst hu; simp [Addr.add, go_sem]
          · simp at hu
        · intro u hu
          simp only [List.mem_cons, List.not_mem_nil, or_false] at hu
          subst hu; rfl
        · unfold maxLen; omega
        · omega
        · have := hb.size; simp; omega
        · intro v' wq hown' hgr _
          have ho' := Lib.hid (Own.cast (l := l) (m := [s[i]]) hown' rfl)
          have hb' : Below w.heap.size w wq := (hb.alloc hb.size _).grown hgr (by have := hb.size; simp; omega) (fun k hk => (ho.out.lt k hk).1)
          clear hown' hgr ho hb
          go_wp2_with fail
          go_roundw
          case rel => exact ⟨i + 1, l ++ [s[i]], by omega, by go_num, hR2, ho', by simp; omega, hb'⟩
          case measure => simp [intOf]; omega
    · obtain rfl : i = s.size := by omega
      have hR2 := Lib.hid (hacc.out.symm.trans (rd_end s l))
      go_wp2_with fail
      go_ret3
      exact ⟨by rw [hR2.out]; rfl, hb⟩

theorem read_ref_no (s : ByteArray) (w : World) (h : s.size = 0 ∨ ∃ h : 0 < s.size, ¬ s[0] = 34) :
    Calls Try.prog 10 #[.string s] w (Ans ([], 0, false) w) := by
  rcases h with h | ⟨h, h34⟩
  · have e0 : ((s.size : Int) == 0) = true := beq_iff_eq.2 (by omega)
    go_enter Try.func10, Try.ntmps10
    go_wp2_with fail
    go_ret3
    exact ⟨rfl, Below.refl _ _⟩
  · have e0 : ((s.size : Int) == 0) = false := beq_eq_false_iff_ne.2 (by omega)
    have b0 := s[0].toNat_lt
    have n34 : ((s[0].toNat : Int) != 34) = true := by
      have := ne_of (n := 34) (by omega) h34
      simp only [bne, Bool.not_eq_true']; exact this
    clear h34
    go_enter Try.func10, Try.ntmps10
    go_wp2_with fail
    go_ret3
    exact ⟨rfl, Below.refl _ _⟩

theorem read_ref (s : ByteArray) (w : World) (hs : s.size ≤ 100000) : Calls Try.prog 10 #[.string s] w (Ans (read s.data.toList) w) := by
  rw [← left_all]
  by_cases h0 : 0 < s.size
  · by_cases h1 : s[0] = 34
    · exact read_ref_yes s w hs h0 h1 _ (read_yes s h0 h1).symm
    · rw [read_no s (.inr ⟨h0, h1⟩)]
      exact read_ref_no s w (.inr ⟨h0, h1⟩)
  · rw [read_no s (.inl (by omega))]
    exact read_ref_no s w (.inl (by omega))
end Go.Proofs.Ytmcjkijnapmboaa
