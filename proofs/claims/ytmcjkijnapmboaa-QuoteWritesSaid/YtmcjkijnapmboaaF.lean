import Derived.Test.YtmcjkijnapmboaaE
import Derived.Test.YtmcjkijnapmboaaM2
import Derived.ScopeJumps
namespace Go.Proofs.Ytmcjkijnapmboaa
open Go.RowKit

theorem scope_jumps {P : Program} {a : Act} {w : World} {Q : Exit → Act → World → Prop} {c rest : Code} (l : Nat) (J : Act → World → Prop) (μ : Act → World → Nat) (hf : findLabel c l = some (Code.skip.seq rest))
    (pass : ∀ a w, J a w → rest.wp P (Exit.jump l (fun a' w' => J a' w' ∧ μ a' w' < μ a w) Q) a w)
    (first : (∀ a w, J a w → rest.wp P (Exit.jump l J Q) a w) → c.wp P (Exit.jump l J Q) a w) : (Code.scope c).wp P Q a w :=
  wp_scope_jumps l J μ hf (first fun a w h => Code.wp_mono (fun e a' w' q => by
    cases e with
    | goto l' => exact ⟨q.1, q.2.1⟩
    | normal => exact q
    | exit id => exact q
    | ret => exact q
    | panic ch => exact q
    | outgrown => exact q) (pass a w h)) fun a w h => wp_seq (wp_skip (pass a w h))

/-- What reading answers. -/
def Ans (R : List UInt8 × Nat × Bool) (w : World) : Ending → World → Prop := fun e w' => e = .returned (.tuple #[.string ⟨R.1.toArray⟩, .int .i64 R.2.1, .bool R.2.2]) ∧ Below w.heap.size w w'


/-- The frame at the label. -/
def fr (s : ByteArray) (w : World) (i : Nat) (u : Nat → Value) : Act := { tmps := #[.string s, undef, .string ⟨#[]⟩, .int .i64 0, .bool false, .pointer (some ⟨w.heap.size, 0, none⟩), .int .i64 i, u 7, u 8, u 9, u 10, u 11, u 12, u 13, u 14, u 15, u 16, u 17, u 18, u 19, u 20, u 21, u 22, u 23, u 24, u 25, u 26, u 27, u 28, u 29, u 30, u 31, u 32, u 33, u 34, u 35, u 36, u 37, u 38, u 39, u 40, u 41, u 42, u 43, u 44, u 45, u 46, u 47, u 48, u 49, u 50, u 51, u 52, u 53, u 54, u 55, u 56, u 57, u 58, u 59, u 60, u 61, u 62, u 63, u 64, u 65, u 66, u 67, u 68, u 69, u 70, u 71, u 72, u 73, u 74, u 75, u 76, u 77, u 78, u 79, u 80, u 81, u 82, u 83, u 84, u 85, u 86, u 87, u 88, u 89, u 90, u 91, u 92, u 93, u 94, u 95, u 96, u 97, u 98, u 99, u 100, u 101, u 102, u 103], defers := [] }
def Jr (s : ByteArray) (w : World) (R : List UInt8 × Nat × Bool) : Act → World → Prop := fun a' w' => ∃ (i : Nat) (acc : List UInt8) (u : Nat → Value), a' = fr s w i u ∧ i ≤ s.size ∧ Hid (rd (left s i) acc i = R) ∧ Hid (Lib.IsBuilder 38 5 w.heap.size w.heap.size (Lib.byteCells acc) w') ∧ acc.length ≤ i ∧ Below w.heap.size w w'
def mu (s : ByteArray) : Act → World → Nat := fun a' _ => s.size - (intOf (a'.tmps.getD 6 undef)).toNat

theorem Jr.mk {s : ByteArray} {w : World} {R : List UInt8 × Nat × Bool} {a' : Act} {w' : World} (i : Nat) (acc : List UInt8) (h : a' = fr s w i (fun n => a'.tmps.getD n undef)) (hi : i ≤ s.size) (hR : Hid (rd (left s i) acc i = R)) (hbu : Hid (Lib.IsBuilder 38 5 w.heap.size w.heap.size (Lib.byteCells acc) w')) (hl : acc.length ≤ i) (hb : Below w.heap.size w w') : Jr s w R a' w' := ⟨i, acc, _, h, hi, hR, hbu, hl, hb⟩

theorem builder_snoc {w' : World} {B b : Nat} {acc : List UInt8} (c : UInt8) (h : Lib.BuilderAt 38 5 B b (.pointer (some ⟨b, 0, none⟩)) (Lib.byteCells acc ++ [.int .u8 (c.toNat : Int)]) w') : Lib.IsBuilder 38 5 B b (Lib.byteCells (acc ++ [c])) w' := by
  rw [Lib.byteCells_append]; exact .inr h

set_option maxHeartbeats 4000000 in
set_option maxRecDepth 1000000 in
theorem read_yes_any (s : ByteArray) (w : World) (hs : s.size ≤ 100000) (h0 : 0 < s.size) (h1 : s[0] = 34) (R : List UInt8 × Nat × Bool) (hR : Hid (rd (left s 1) [] 1 = R)) :
    Calls Try.prog 14 #[.string s] w (Ans R w) := by
  have n0 : ((s[0].toNat : Int) != 34) = false := by rw [h1]; rfl
  clear h1
  have e0 : s.toList.isEmpty = false := by
    rw [Lib.toList_data]
    cases hl : s.data.toList with
    | nil => have : s.size = 0 := by rw [← ByteArray.size_data, ← Array.length_toList, hl]; rfl
             omega
    | cons => rfl
  go_enter Try.func14, Try.ntmps14
  go_wp2_with fail
  refine scope_jumps 0 (Jr s w R) (mu s) rfl ?_ ?_
  · rintro a' w' ⟨i, acc, u, rfl, hi, hacc, hbu, hal, hb⟩
    clear hR n0 e0
    unfold fr
    by_cases hlt : i < s.size
    · have b0 := s[i].toNat_lt
      by_cases hbad : s[i] < 32 ∨ 126 < s[i]
      · have hR2 := Lib.hid (hacc.out.symm.trans (rd_bad s acc i hlt hbad))
        have hz : (s[i].toNat : Int) < 32 ∨ (¬ (s[i].toNat : Int) < 32 ∧ 126 < (s[i].toNat : Int)) := by
          have hz : (s[i].toNat : Int) < 32 ∨ 126 < (s[i].toNat : Int) := by
            rcases hbad with h | h
            · left; have := UInt8.lt_iff_toNat_lt.1 h; simp at this; omega
            · right; have := UInt8.lt_iff_toNat_lt.1 h; simp at this; omega
          omega
        clear hbad hacc
        rcases hz with h | ⟨h, h2⟩
        · go_wp2_with fail
          simp only [Exit.jump]
          go_ret3
          exact ⟨by rw [hR2.out]; rfl, hb⟩
        · go_wp2_with fail
          simp only [Exit.jump]
          go_ret3
          exact ⟨by rw [hR2.out]; rfl, hb⟩
      have g1 : ¬ (s[i].toNat : Int) < 32 := fun e => hbad (.inl (UInt8.lt_iff_toNat_lt.2 (by simpa using (by omega : s[i].toNat < 32))))
      have g2 : ¬ 126 < (s[i].toNat : Int) := fun e => hbad (.inr (UInt8.lt_iff_toNat_lt.2 (by simpa using (by omega : 126 < s[i].toNat))))
      by_cases hq : s[i] = 34
      · have hR2 := Lib.hid (hacc.out.symm.trans (rd_quote s acc i hlt hq))
        have n34 : ((s[i].toNat : Int) == 34) = true := by rw [hq]; rfl
        clear hbad hacc hq
        go_wp2_with fail
        refine (Try.Builder_String_any _ _ _ _ hbu.out hb.size).mono ?_
        rintro e w5 ⟨rfl, b5⟩
        go_wp2_with fail
        simp only [Exit.jump]
        go_ret3
        exact ⟨by rw [hR2.out]; rfl, hb.trans b5⟩
      have n34 : ((s[i].toNat : Int) == 34) = false := ne_of (n := 34) (by omega) hq
      by_cases hsl : s[i] = 92
      · have n92 : ((s[i].toNat : Int) != 92) = false := by rw [hsl]; rfl
        clear hbad hq
        by_cases hl1 : i + 1 < s.size
        · have b1 := s[i + 1].toNat_lt
          by_cases e1 : s[i + 1] = 34 ∨ s[i + 1] = 92
          · have hR2 := Lib.hid ((rd_esc s acc i hl1 hsl e1).symm.trans hacc.out)
            have m34 : (((s[i + 1].toNat : Int) == 34) = true ∨ (((s[i + 1].toNat : Int) == 34) = false ∧ ((s[i + 1].toNat : Int) == 92) = true)) := by
              rcases e1 with h | h
              · left; rw [h]; rfl
              · right; rw [h]; exact ⟨rfl, rfl⟩
            clear e1 hacc hsl
            rcases m34 with h | ⟨h, h2⟩
            · go_wp2_with fail
              refine (Try.Builder_WriteByte _ _ _ _ _ hbu.out (by rw [Lib.byteCells_length]; omega) hb.size).mono ?_
              rintro e w5 ⟨rfl, h5, b5⟩
              go_wp2_with fail
              go_step3
              refine ⟨rfl, ?_, ?_⟩
              · exact Jr.mk (i + 2) (acc ++ [s[i + 1]]) rfl (by omega) hR2 (Lib.hid (builder_snoc _ h5)) (by simp; omega) (hb.trans b5)
              · simp [mu, intOf]; omega
            · go_wp2_with fail
              refine (Try.Builder_WriteByte _ _ _ _ _ hbu.out (by rw [Lib.byteCells_length]; omega) hb.size).mono ?_
              rintro e w5 ⟨rfl, h5, b5⟩
              go_wp2_with fail
              go_step3
              refine ⟨rfl, ?_, ?_⟩
              · exact Jr.mk (i + 2) (acc ++ [s[i + 1]]) rfl (by omega) hR2 (Lib.hid (builder_snoc _ h5)) (by simp; omega) (hb.trans b5)
              · simp [mu, intOf]; omega
          have m34 : ((s[i + 1].toNat : Int) == 34) = false := ne_of (n := 34) (by omega) (fun e => e1 (.inl e))
          have m92 : ((s[i + 1].toNat : Int) == 92) = false := ne_of (n := 92) (by omega) (fun e => e1 (.inr e))
          by_cases e2 : s[i + 1] = 110
          · have hR2 := Lib.hid ((rd_esc_n s acc i hl1 hsl e2).symm.trans hacc.out)
            have m110 : ((s[i + 1].toNat : Int) == 110) = true := by rw [e2]; rfl
            clear e1 e2 hacc hsl
            go_wp2_with fail
            refine (Try.Builder_WriteByte _ _ _ _ _ hbu.out (by rw [Lib.byteCells_length]; omega) hb.size).mono ?_
            rintro e w5 ⟨rfl, h5, b5⟩
            go_wp2_with fail
            go_step3
            refine ⟨rfl, ?_, ?_⟩
            · exact Jr.mk (i + 2) (acc ++ [10]) rfl (by omega) hR2 (Lib.hid (builder_snoc _ h5)) (by simp; omega) (hb.trans b5)
            · simp [mu, intOf]; omega
          have m110 : ((s[i + 1].toNat : Int) == 110) = false := ne_of (n := 110) (by omega) e2
          by_cases e3 : s[i + 1] = 116
          · have hR2 := Lib.hid ((rd_esc_t s acc i hl1 hsl e3).symm.trans hacc.out)
            have m116 : ((s[i + 1].toNat : Int) == 116) = true := by rw [e3]; rfl
            clear e1 e2 e3 hacc hsl
            go_wp2_with fail
            refine (Try.Builder_WriteByte _ _ _ _ _ hbu.out (by rw [Lib.byteCells_length]; omega) hb.size).mono ?_
            rintro e w5 ⟨rfl, h5, b5⟩
            go_wp2_with fail
            go_step3
            refine ⟨rfl, ?_, ?_⟩
            · exact Jr.mk (i + 2) (acc ++ [9]) rfl (by omega) hR2 (Lib.hid (builder_snoc _ h5)) (by simp; omega) (hb.trans b5)
            · simp [mu, intOf]; omega
          have m116 : ((s[i + 1].toNat : Int) == 116) = false := ne_of (n := 116) (by omega) e3
          by_cases e4 : s[i + 1] = 120
          · have m120 : ((s[i + 1].toNat : Int) == 120) = true := by rw [e4]; rfl
            by_cases hl2 : i + 2 < s.size
            · by_cases ha : dg s[i + 2] = 16
              · have hR2 := Lib.hid (hacc.out.symm.trans (rd_x1 s acc i hl2 hsl e4 ha))
                have cA : Hid (∀ w, Calls Try.prog 21 #[.int .u8 (s[i + 2].toNat : Int)] w fun e w' => e = .returned (.int .i64 (-1)) ∧ w = w') := fun w => by
                  have := digit_any s[i + 2] w
                  unfold dgi at this
                  rwa [if_pos ha] at this
                clear e1 e2 e3 e4 hacc hsl ha
                go_wp2_with fail
                refine wp_loop_rounds 2 ?_
                rw [rounds_succ]
                go_wp2_with fail
                refine (cA.out _).mono ?_
                rintro e w5 ⟨rfl, rfl⟩
                go_wp2_with fail
                simp only [Exit.jump]
                go_ret3
                exact ⟨by rw [hR2.out]; rfl, hb⟩
              have hda : dg s[i + 2] ≤ 15 := by have := dg_le s[i + 2]; omega
              have cA : Hid (∀ w, Calls Try.prog 21 #[.int .u8 (s[i + 2].toNat : Int)] w fun e w' => e = .returned (.int .i64 (dg s[i + 2] : Nat)) ∧ w = w') := fun w => by
                have := digit_any s[i + 2] w
                unfold dgi at this
                rwa [if_neg ha] at this
              by_cases hl3 : i + 3 < s.size
              · by_cases hb3 : dg s[i + 3] = 16
                · have hR2 := Lib.hid (hacc.out.symm.trans (rd_x3 s acc i hl3 hsl e4 ha hb3))
                  have cB : Hid (∀ w, Calls Try.prog 21 #[.int .u8 (s[i + 3].toNat : Int)] w fun e w' => e = .returned (.int .i64 (-1)) ∧ w = w') := fun w => by
                    have := digit_any s[i + 3] w
                    unfold dgi at this
                    rwa [if_pos hb3] at this
                  clear e1 e2 e3 e4 hacc hsl ha hb3
                  generalize dg s[i + 2] = d1 at *
                  have z1 : decide ((d1 : Int) < 0) = false := by simp
                  go_wp2_with fail
                  refine wp_loop_rounds 2 ?_
                  rw [rounds_succ]
                  go_wp2_with fail
                  refine (cA.out _).mono ?_
                  rintro e w5 ⟨rfl, rfl⟩
                  go_wp2_with fail
                  refine (cA.out _).mono ?_
                  rintro e w5 ⟨rfl, rfl⟩
                  go_wp2_with fail
                  rw [rounds_succ]
                  go_wp2_with fail
                  refine (cB.out _).mono ?_
                  rintro e w5 ⟨rfl, rfl⟩
                  go_wp2_with fail
                  simp only [Exit.jump]
                  go_ret3
                  exact ⟨by rw [hR2.out]; rfl, hb⟩
                have hdb : dg s[i + 3] ≤ 15 := by have := dg_le s[i + 3]; omega
                have hR2 := Lib.hid ((rd_x4 s acc i hl3 hsl e4 ha hb3).symm.trans hacc.out)
                have cB : Hid (∀ w, Calls Try.prog 21 #[.int .u8 (s[i + 3].toNat : Int)] w fun e w' => e = .returned (.int .i64 (dg s[i + 3] : Nat)) ∧ w = w') := fun w => by
                  have := digit_any s[i + 3] w
                  unfold dgi at this
                  rwa [if_neg hb3] at this
                clear e1 e2 e3 e4 hacc hsl ha hb3
                generalize dg s[i + 2] = d1 at *
                have z1 : decide ((d1 : Int) < 0) = false := by simp
                generalize dg s[i + 3] = d2 at *
                have z2 : decide ((d2 : Int) < 0) = false := by simp
                go_wp2_with fail
                refine wp_loop_rounds 3 ?_
                rw [rounds_succ]
                go_wp2_with fail
                refine (cA.out _).mono ?_
                rintro e w5 ⟨rfl, rfl⟩
                go_wp2_with fail
                refine (cA.out _).mono ?_
                rintro e w5 ⟨rfl, rfl⟩
                go_wp2_with fail
                rw [rounds_succ]
                go_wp2_with fail
                refine (cB.out _).mono ?_
                rintro e w5 ⟨rfl, rfl⟩
                go_wp2_with fail
                refine (cB.out _).mono ?_
                rintro e w5 ⟨rfl, rfl⟩
                go_wp2_with fail
                rw [rounds_succ]
                go_wp2_with fail
                refine (Try.Builder_WriteByte _ _ _ _ _ hbu.out (by rw [Lib.byteCells_length]; omega) hb.size).mono ?_
                rintro e w5 ⟨rfl, h5, b5⟩
                have hx : (16 * (d1 : Int) + (d2 : Int)) = ((UInt8.ofNat (16 * d1 + d2)).toNat : Int) := by simp; omega
                have h6 : Lib.IsBuilder 38 5 w.heap.size w.heap.size (Lib.byteCells (acc ++ [UInt8.ofNat (16 * d1 + d2)])) w5 := by
                  rw [hx] at h5
                  exact builder_snoc _ h5
                clear h5 hx
                go_wp2_with fail
                go_step3
                refine ⟨rfl, ?_, ?_⟩
                · exact Jr.mk (i + 4) (acc ++ [UInt8.ofNat (16 * d1 + d2)]) rfl (by omega) hR2 (Lib.hid h6) (by simp; omega) (hb.trans b5)
                · simp [mu, intOf]; omega
              · have hR2 := Lib.hid (hacc.out.symm.trans (rd_x2 s acc i hl2 hsl e4 ha (by omega)))
                have hz : ((i : Int) + 1 + 1 + 1 == (s.size : Int)) = true := by simp; omega
                clear e1 e2 e3 e4 hacc hsl ha
                generalize dg s[i + 2] = d1 at *
                have z1 : decide ((d1 : Int) < 0) = false := by simp
                go_wp2_with fail
                refine wp_loop_rounds 2 ?_
                rw [rounds_succ]
                go_wp2_with fail
                refine (cA.out _).mono ?_
                rintro e w5 ⟨rfl, rfl⟩
                go_wp2_with fail
                refine (cA.out _).mono ?_
                rintro e w5 ⟨rfl, rfl⟩
                go_wp2_with fail
                rw [rounds_succ]
                go_wp2_with fail
                simp only [Exit.jump]
                go_ret3
                exact ⟨by rw [hR2.out]; rfl, hb⟩
            · have hR2 := Lib.hid (hacc.out.symm.trans (rd_x0 s acc i hl1 hsl e4 (by omega)))
              have hz : ((i : Int) + 1 + 1 == (s.size : Int)) = true := by simp; omega
              clear e1 e2 e3 e4 hacc hsl
              go_wp2_with fail
              refine wp_loop_rounds 2 ?_
              rw [rounds_succ]
              go_wp2_with fail
              simp only [Exit.jump]
              go_ret3
              exact ⟨by rw [hR2.out]; rfl, hb⟩
          · have hR2 := Lib.hid (hacc.out.symm.trans (rd_esc_no s acc i hl1 hsl e1 e2 e3 e4))
            have m120 : ((s[i + 1].toNat : Int) == 120) = false := ne_of (n := 120) (by omega) e4
            clear e1 e2 e3 e4 hacc hsl
            go_wp2_with fail
            simp only [Exit.jump]
            go_ret3
            exact ⟨by rw [hR2.out]; rfl, hb⟩
        · have hR2 := Lib.hid (hacc.out.symm.trans (rd_slash_end s acc i hlt hsl (by omega)))
          have hz : ((i : Int) + 1 == (s.size : Int)) = true := by simp; omega
          clear hacc hsl
          go_wp2_with fail
          simp only [Exit.jump]
          go_ret3
          exact ⟨by rw [hR2.out]; rfl, hb⟩
      · have hR2 := Lib.hid ((rd_plain s acc i hlt hbad hq hsl).symm.trans hacc.out)
        have n92 : ((s[i].toNat : Int) != 92) = true := by
          have := ne_of (n := 92) (by omega) hsl
          simp only [bne, Bool.not_eq_true']; exact this
        clear hbad hacc hq hsl
        go_wp2_with fail
        refine (Try.Builder_WriteByte _ _ _ _ _ hbu.out (by rw [Lib.byteCells_length]; omega) hb.size).mono ?_
        rintro e w5 ⟨rfl, h5, b5⟩
        go_wp2_with fail
        go_step3
        refine ⟨rfl, ?_, ?_⟩
        · exact Jr.mk (i + 1) (acc ++ [s[i]]) rfl (by omega) hR2 (Lib.hid (builder_snoc _ h5)) (by simp; omega) (hb.trans b5)
        · simp [mu, intOf]; omega
    · obtain rfl : i = s.size := by omega
      have hR2 := Lib.hid (hacc.out.symm.trans (rd_end s acc))
      go_wp2_with fail
      simp only [Exit.jump]
      go_ret3
      exact ⟨by rw [hR2.out]; rfl, hb⟩
  · intro hpass
    go_wp2_with fail
    go_step3
    simp only [Exit.then]
    rename_i K hK
    refine hK _ _ (hpass _ _ ?_)
    refine Jr.mk 1 [] rfl h0 hR ?_ (Nat.zero_le _) ?_
    · exact builder_new w
    · exact (Below.refl _ _).alloc (Nat.le_refl _) _
end Go.Proofs.Ytmcjkijnapmboaa
