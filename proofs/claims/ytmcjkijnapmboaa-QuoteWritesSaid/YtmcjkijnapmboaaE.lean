import Derived.Test.YtmcjkijnapmboaaD
import Derived.Lib.AppendStr
namespace Go.Proofs.Ytmcjkijnapmboaa
open Go.RowKit

theorem info5 : (Try.prog.info? 5).map (fun i => (i.zero, i.size, i.bytes)) = some (some (.int .u8 0), 1, 1) := by kernel_rfl

/-- A row of the call's own that holds these bytes. -/
def Own (w : World) (base : Nat) (v : Value) (l : List UInt8) : Prop := w.ownsRow base 5 1 v l.length (Lib.byteCells l)

theorem Own.new (w : World) (base : Nat) (c : UInt8) (hb : base ≤ w.heap.size) : Own (w.alloc (.cells #[.int .u8 (c.toNat : Int)] 5)) base (.slice (some ⟨w.heap.size, 0, none⟩) 1 1) [c] :=
  ⟨rfl, .inr ⟨w.heap.size, 1, #[.int .u8 (c.toNat : Int)], rfl, hb, heap_alloc_new w _, Nat.le_refl _, by unfold maxLen; omega, rfl, rfl⟩⟩

theorem Own.cast {w : World} {base : Nat} {v : Value} {n : Nat} {l m : List UInt8} (h : w.ownsRow base 5 1 v n (Lib.byteCells l ++ Lib.byteCells m)) (hn : n = l.length + m.length) : Own w base v (l ++ m) := by
  unfold Own
  rw [Lib.byteCells_append, List.length_append, ← hn]
  exact h

/-- '[]byte' to string, of a row of the call's own. -/
theorem conv_own {w : World} {base : Nat} {a : Option Addr} {n k : Nat} {l : List UInt8} (h : Own w base (.slice a n k) l) (hl : 0 < l.length) : (convert 34 9 (.slice a n k)).run Try.prog w = .ok (.string ⟨l.toArray⟩) w := by
  have hf := h.2
  rcases hf with ⟨_, h0⟩ | ⟨g, cap, cur, hv, _⟩
  · omega
  · injection hv with e1 e2 e3
    subst e1 e2 e3
    have := run_convert_bytes_arg (P := Try.prog) w 34 5 Try.underlying34 Try.underlying5 g 0 l.length k (l.map fun c => (c.toNat : Int)) (by simp) (by
      intro i hi
      have hc := h.cellAt i (by omega)
      rw [Nat.zero_add, hc]
      unfold Lib.byteCells
      simp [hi]) 9 Try.underlying9
    rw [this, str_of]

set_option maxHeartbeats 4000000 in
theorem quote_ref (s : ByteArray) (w : World) (hs : s.size ≤ 100000) :
    Calls Try.prog 12 #[.string s] w (Bytes (quote s.data.toList) w) := by
  obtain ⟨i0, hi, hz0, hz1, hz2⟩ := info_parts info5
  go_enter Try.func12, Try.ntmps12
  go_wp2_with fail
  have o1 := Lib.hid (Own.new w w.heap.size 34 (Nat.le_refl _))
  have b1 : Below w.heap.size w (w.alloc (.cells #[.int .u8 34] 5)) := (Below.refl _ _).alloc (Nat.le_refl _) _
  go_loopw [3, 4, 5] (fun v i _ wr => ∃ (k : Nat) (l : List UInt8), k ≤ s.size ∧ i = .int .i64 k ∧ Hid (Own wr w.heap.size v l) ∧ Hid (l = 34 :: (s.data.toList.take k).flatMap one) ∧ l.length ≤ 1 + 4 * k ∧ Below w.heap.size w wr) (fun _ i _ _ => s.size - (intOf i).toNat)
  case atStart => exact ⟨0, [34], Nat.zero_le _, rfl, o1, rfl, by simp, b1⟩
  case round =>
    obtain ⟨k, l, hk, rfl, ho, hl, hl4, hb⟩ := hrel
    clear o1 b1
    by_cases hlt : k < s.size
    · have e1 : Hid (34 :: (s.data.toList.take (k + 1)).flatMap one = l ++ one s[k]) := by
        rw [take_snoc' s k hlt, List.flatMap_append, Hid, hl.out]; simp
      have hone := Lib.hid (one.eq_def s[k])
      clear hl
      have b0 := s[k].toNat_lt
      by_cases h1 : s[k] = 34 ∨ s[k] = 92
      · have e2 : Hid (l ++ [92, s[k]] = 34 :: (s.data.toList.take (k + 1)).flatMap one) := by
          rw [Hid, e1.out, hone.out, if_pos h1]
        have n34 : (((s[k].toNat : Int) == 34) = true ∨ (((s[k].toNat : Int) == 34) = false ∧ ((s[k].toNat : Int) == 92) = true)) := by
          rcases h1 with h | h
          · left; rw [h]; rfl
          · right; rw [h]; exact ⟨rfl, rfl⟩
        clear h1 e1 hone
        rcases n34 with h | ⟨h1, h2⟩
        · go_wp2_with (at_builtin; refine Classical.byContradiction fun hnot => ?_)
          refine hnot ?_
          clear hnot
          refine wpList_append_own _ rfl (.tmp 27) (.tmp 29) 34 rfl w.heap.size 5 i0 _ 1 1 Try.underlying34 hi hz0 hz1 hz2 rfl (by decide) _ l.length (Lib.byteCells l) rfl (ho.out.alloc _) ⟨wr.heap.size, 0, none⟩ 2 2 [.int .u8 92, .int .u8 (s[k].toNat : Int)] rfl rfl ?_ ?_ ?_ ?_ ?_ ?_
          · intro i u hu
            rcases i with _ | _ | i
            · simp at hu; subst hu; simp [Addr.add, go_sem]
            · simp at hu; subst hu; simp [Addr.add, go_sem]
            · simp at hu
          · intro u hu
            simp only [List.mem_cons, List.not_mem_nil, or_false] at hu
            rcases hu with rfl | rfl <;> rfl
          · unfold maxLen; omega
          · omega
          · have := hb.size; simp; omega
          · intro v' wq hown' hgr _
            have ho' := Lib.hid (Own.cast (l := l) (m := [92, s[k]]) hown' rfl)
            have hb' : Below w.heap.size w wq := (hb.alloc hb.size _).grown hgr (by have := hb.size; simp; omega) (fun k hk => (ho.out.lt k hk).1)
            clear hown' hgr ho hb
            go_wp2_with fail
            go_roundw
            case rel => exact ⟨k + 1, l ++ [92, s[k]], by omega, by go_num, ho', e2, by simp; omega, hb'⟩
            case measure => simp [intOf]; omega
        · go_wp2_with (at_builtin; refine Classical.byContradiction fun hnot => ?_)
          refine hnot ?_
          clear hnot
          refine wpList_append_own _ rfl (.tmp 27) (.tmp 29) 34 rfl w.heap.size 5 i0 _ 1 1 Try.underlying34 hi hz0 hz1 hz2 rfl (by decide) _ l.length (Lib.byteCells l) rfl (ho.out.alloc _) ⟨wr.heap.size, 0, none⟩ 2 2 [.int .u8 92, .int .u8 (s[k].toNat : Int)] rfl rfl ?_ ?_ ?_ ?_ ?_ ?_
          · intro i u hu
            rcases i with _ | _ | i
            · simp at hu; subst hu; simp [Addr.add, go_sem]
            · simp at hu; subst hu; simp [Addr.add, go_sem]
            · simp at hu
          · intro u hu
            simp only [List.mem_cons, List.not_mem_nil, or_false] at hu
            rcases hu with rfl | rfl <;> rfl
          · unfold maxLen; omega
          · omega
          · have := hb.size; simp; omega
          · intro v' wq hown' hgr _
            have ho' := Lib.hid (Own.cast (l := l) (m := [92, s[k]]) hown' rfl)
            have hb' : Below w.heap.size w wq := (hb.alloc hb.size _).grown hgr (by have := hb.size; simp; omega) (fun k hk => (ho.out.lt k hk).1)
            clear hown' hgr ho hb
            go_wp2_with fail
            go_roundw
            case rel => exact ⟨k + 1, l ++ [92, s[k]], by omega, by go_num, ho', e2, by simp; omega, hb'⟩
            case measure => simp [intOf]; omega
      have n34 : ((s[k].toNat : Int) == 34) = false := ne_of (n := 34) (by omega) (fun e => h1 (.inl e))
      have n92 : ((s[k].toNat : Int) == 92) = false := ne_of (n := 92) (by omega) (fun e => h1 (.inr e))
      by_cases h2 : s[k] = 10
      · have e2 : Hid (l ++ [92, 110] = 34 :: (s.data.toList.take (k + 1)).flatMap one) := by
          rw [Hid, e1.out, hone.out, if_neg h1, if_pos h2]
        have n10 : ((s[k].toNat : Int) == 10) = true := by rw [h2]; rfl
        clear h1 e1 hone h2
        go_wp2_with (at_builtin; refine Classical.byContradiction fun hnot => ?_)
        refine hnot ?_
        clear hnot
        refine wpList_append_own _ rfl (.tmp 34) (.tmp 35) 34 rfl w.heap.size 5 i0 _ 1 1 Try.underlying34 hi hz0 hz1 hz2 rfl (by decide) _ l.length (Lib.byteCells l) rfl (ho.out.alloc _) ⟨wr.heap.size, 0, none⟩ 2 2 [.int .u8 92, .int .u8 110] rfl rfl ?_ ?_ ?_ ?_ ?_ ?_
        · intro i u hu
          rcases i with _ | _ | i
          · simp at hu; subst hu; simp [Addr.add, go_sem]
          · simp at hu; subst hu; simp [Addr.add, go_sem]
          · simp at hu
        · intro u hu
          simp only [List.mem_cons, List.not_mem_nil, or_false] at hu
          rcases hu with rfl | rfl <;> rfl
        · unfold maxLen; omega
        · omega
        · have := hb.size; simp; omega
        · intro v' wq hown' hgr _
          have ho' := Lib.hid (Own.cast (l := l) (m := [92, 110]) hown' rfl)
          have hb' : Below w.heap.size w wq := (hb.alloc hb.size _).grown hgr (by have := hb.size; simp; omega) (fun k hk => (ho.out.lt k hk).1)
          clear hown' hgr ho hb
          go_wp2_with fail
          go_roundw
          case rel => exact ⟨k + 1, l ++ [92, 110], by omega, by go_num, ho', e2, by simp; omega, hb'⟩
          case measure => simp [intOf]; omega
      have n10 : ((s[k].toNat : Int) == 10) = false := ne_of (n := 10) (by omega) h2
      by_cases h3 : s[k] = 9
      · have e2 : Hid (l ++ [92, 116] = 34 :: (s.data.toList.take (k + 1)).flatMap one) := by
          rw [Hid, e1.out, hone.out, if_neg h1, if_neg h2, if_pos h3]
        have n9 : ((s[k].toNat : Int) == 9) = true := by rw [h3]; rfl
        clear h1 e1 hone h2 h3
        go_wp2_with (at_builtin; refine Classical.byContradiction fun hnot => ?_)
        refine hnot ?_
        clear hnot
        refine wpList_append_own _ rfl (.tmp 40) (.tmp 41) 34 rfl w.heap.size 5 i0 _ 1 1 Try.underlying34 hi hz0 hz1 hz2 rfl (by decide) _ l.length (Lib.byteCells l) rfl (ho.out.alloc _) ⟨wr.heap.size, 0, none⟩ 2 2 [.int .u8 92, .int .u8 116] rfl rfl ?_ ?_ ?_ ?_ ?_ ?_
        · intro i u hu
          rcases i with _ | _ | i
          · simp at hu; subst hu; simp [Addr.add, go_sem]
          · simp at hu; subst hu; simp [Addr.add, go_sem]
          · simp at hu
        · intro u hu
          simp only [List.mem_cons, List.not_mem_nil, or_false] at hu
          rcases hu with rfl | rfl <;> rfl
        · unfold maxLen; omega
        · omega
        · have := hb.size; simp; omega
        · intro v' wq hown' hgr _
          have ho' := Lib.hid (Own.cast (l := l) (m := [92, 116]) hown' rfl)
          have hb' : Below w.heap.size w wq := (hb.alloc hb.size _).grown hgr (by have := hb.size; simp; omega) (fun k hk => (ho.out.lt k hk).1)
          clear hown' hgr ho hb
          go_wp2_with fail
          go_roundw
          case rel => exact ⟨k + 1, l ++ [92, 116], by omega, by go_num, ho', e2, by simp; omega, hb'⟩
          case measure => simp [intOf]; omega
      have n9 : ((s[k].toNat : Int) == 9) = false := ne_of (n := 9) (by omega) h3
      by_cases h4 : s[k] < 32 ∨ 126 < s[k]
      · have e2 : Hid (l ++ [92, 120] ++ [hexd (s[k] / 16)] ++ [hexd (s[k] % 16)] = 34 :: (s.data.toList.take (k + 1)).flatMap one) := by
          rw [Hid, e1.out, hone.out, if_neg h1, if_neg h2, if_neg h3, if_pos h4]; simp
        have hh : (((s[k].toNat : Int) < 32) ∨ (¬ ((s[k].toNat : Int) < 32) ∧ (126 < (s[k].toNat : Int)))) := by
          have hz : (s[k].toNat : Int) < 32 ∨ 126 < (s[k].toNat : Int) := by
            rcases h4 with h | h
            · left; have := UInt8.lt_iff_toNat_lt.1 h; simp at this; omega
            · right; have := UInt8.lt_iff_toNat_lt.1 h; simp at this; omega
          omega
        have q1 : ((s[k].toNat / 16 : Nat) : Int) = (s[k].toNat : Int) / 16 := rfl
        have q2 : ((s[k].toNat % 16 : Nat) : Int) = (s[k].toNat : Int) % 16 := rfl
        have x1 : hexd (UInt8.ofNat (s[k].toNat / 16)) = hexd (s[k] / 16) := congrArg hexd (by apply UInt8.toNat_inj.1; simp; omega)
        have x2 : hexd (UInt8.ofNat (s[k].toNat % 16)) = hexd (s[k] % 16) := congrArg hexd (by apply UInt8.toNat_inj.1; simp; omega)
        have cA : Hid (∀ w, Calls Try.prog 20 #[.int .i64 ((s[k].toNat : Int) / 16)] w fun e w' => e = .returned (.string ⟨#[hexd (s[k] / 16)]⟩) ∧ w = w') := fun w => by rw [← x1, ← q1]; exact hex_any _ (by omega) w
        have cB : Hid (∀ w, Calls Try.prog 20 #[.int .i64 ((s[k].toNat : Int) % 16)] w fun e w' => e = .returned (.string ⟨#[hexd (s[k] % 16)]⟩) ∧ w = w') := fun w => by rw [← x2, ← q2]; exact hex_any _ (by omega) w
        clear h1 e1 hone h2 h3 h4 q1 q2 x1 x2
        generalize hexd (s[k] / 16) = A at *
        generalize hexd (s[k] % 16) = B at *
        have hdiv : (s[k].toNat : Int) / 16 ≤ 15 := by omega
        have hmod : (s[k].toNat : Int) % 16 ≤ 15 := by omega
        rcases hh with h | ⟨h5, h6⟩
        · go_wp2_with (at_builtin; refine Classical.byContradiction fun hnot => ?_)
          refine hnot ?_
          clear hnot
          refine wpList_append_own _ rfl (.tmp 50) (.tmp 51) 34 rfl w.heap.size 5 i0 _ 1 1 Try.underlying34 hi hz0 hz1 hz2 rfl (by decide) _ l.length (Lib.byteCells l) rfl (ho.out.alloc _) ⟨wr.heap.size, 0, none⟩ 2 2 [.int .u8 92, .int .u8 120] rfl rfl ?_ ?_ ?_ ?_ ?_ ?_
          · intro i u hu
            rcases i with _ | _ | i
            · simp at hu; subst hu; simp [Addr.add, go_sem]
            · simp at hu; subst hu; simp [Addr.add, go_sem]
            · simp at hu
          · intro u hu
            simp only [List.mem_cons, List.not_mem_nil, or_false] at hu
            rcases hu with rfl | rfl <;> rfl
          · unfold maxLen; omega
          · omega
          · have := hb.size; simp; omega
          · intro v' wq hown' hgr _
            have ho' := Lib.hid (Own.cast (l := l) (m := [92, 120]) hown' rfl)
            have hb' : Below w.heap.size w wq := (hb.alloc hb.size _).grown hgr (by have := hb.size; simp; omega) (fun k hk => (ho.out.lt k hk).1)
            clear hown' hgr ho hb
            go_wp2_with fail
            refine (cA.out _).mono ?_
            rintro e w1 ⟨rfl, rfl⟩
            have ll : (l ++ [92, 120]).length = l.length + 2 := by simp
            generalize l ++ [92, 120] = l2 at *
            go_wp2_with (at_builtin; refine Classical.byContradiction fun hnot => ?_)
            refine hnot ?_
            clear hnot
            refine Lib.wpList_append_own_string _ rfl (.tmp 53) (.tmp 57) 34 9 rfl w.heap.size 5 i0 Try.underlying34 Try.underlying9 hi hz0 hz1 hz2 _ l2.length (Lib.byteCells l2) rfl ho'.out ⟨#[A]⟩ rfl ?_ ?_ hb'.size ?_
            · rw [show (ByteArray.mk #[A]).size = 1 from rfl]; unfold maxLen; omega
            · rw [show (ByteArray.mk #[A]).size = 1 from rfl]; omega
            intro v2 w2 hown2 hgr2 _
            have ho2 := Lib.hid (Own.cast (l := l2) (m := [A]) hown2 rfl)
            have hb2 : Below w.heap.size w w2 := hb'.grown hgr2 hb'.size (fun k hk => (ho'.out.lt k hk).1)
            clear hown2 hgr2 ho' hb'
            go_wp2_with fail
            refine (cB.out _).mono ?_
            rintro e w1 ⟨rfl, rfl⟩
            have ll2 : (l2 ++ [A]).length = l2.length + 1 := by simp
            generalize l2 ++ [A] = l3 at *
            go_wp2_with (at_builtin; refine Classical.byContradiction fun hnot => ?_)
            refine hnot ?_
            clear hnot
            refine Lib.wpList_append_own_string _ rfl (.tmp 59) (.tmp 63) 34 9 rfl w.heap.size 5 i0 Try.underlying34 Try.underlying9 hi hz0 hz1 hz2 _ l3.length (Lib.byteCells l3) rfl ho2.out ⟨#[B]⟩ rfl ?_ ?_ hb2.size ?_
            · rw [show (ByteArray.mk #[B]).size = 1 from rfl]; unfold maxLen; omega
            · rw [show (ByteArray.mk #[B]).size = 1 from rfl]; omega
            intro v3 w3 hown3 hgr3 _
            have ho3 := Lib.hid (Own.cast (l := l3) (m := [B]) hown3 rfl)
            have hb3 : Below w.heap.size w w3 := hb2.grown hgr3 hb2.size (fun k hk => (ho2.out.lt k hk).1)
            clear hown3 hgr3 ho2 hb2
            go_wp2_with fail
            go_roundw
            case rel => exact ⟨k + 1, l3 ++ [B], by omega, by go_num, ho3, e2, by simp; omega, hb3⟩
            case measure => simp [intOf]; omega
        · go_wp2_with (at_builtin; refine Classical.byContradiction fun hnot => ?_)
          refine hnot ?_
          clear hnot
          refine wpList_append_own _ rfl (.tmp 50) (.tmp 51) 34 rfl w.heap.size 5 i0 _ 1 1 Try.underlying34 hi hz0 hz1 hz2 rfl (by decide) _ l.length (Lib.byteCells l) rfl (ho.out.alloc _) ⟨wr.heap.size, 0, none⟩ 2 2 [.int .u8 92, .int .u8 120] rfl rfl ?_ ?_ ?_ ?_ ?_ ?_
          · intro i u hu
            rcases i with _ | _ | i
            · simp at hu; subst hu; simp [Addr.add, go_sem]
            · simp at hu; subst hu; simp [Addr.add, go_sem]
            · simp at hu
          · intro u hu
            simp only [List.mem_cons, List.not_mem_nil, or_false] at hu
            rcases hu with rfl | rfl <;> rfl
          · unfold maxLen; omega
          · omega
          · have := hb.size; simp; omega
          · intro v' wq hown' hgr _
            have ho' := Lib.hid (Own.cast (l := l) (m := [92, 120]) hown' rfl)
            have hb' : Below w.heap.size w wq := (hb.alloc hb.size _).grown hgr (by have := hb.size; simp; omega) (fun k hk => (ho.out.lt k hk).1)
            clear hown' hgr ho hb
            go_wp2_with fail
            refine (cA.out _).mono ?_
            rintro e w1 ⟨rfl, rfl⟩
            have ll : (l ++ [92, 120]).length = l.length + 2 := by simp
            generalize l ++ [92, 120] = l2 at *
            go_wp2_with (at_builtin; refine Classical.byContradiction fun hnot => ?_)
            refine hnot ?_
            clear hnot
            refine Lib.wpList_append_own_string _ rfl (.tmp 53) (.tmp 57) 34 9 rfl w.heap.size 5 i0 Try.underlying34 Try.underlying9 hi hz0 hz1 hz2 _ l2.length (Lib.byteCells l2) rfl ho'.out ⟨#[A]⟩ rfl ?_ ?_ hb'.size ?_
            · rw [show (ByteArray.mk #[A]).size = 1 from rfl]; unfold maxLen; omega
            · rw [show (ByteArray.mk #[A]).size = 1 from rfl]; omega
            intro v2 w2 hown2 hgr2 _
            have ho2 := Lib.hid (Own.cast (l := l2) (m := [A]) hown2 rfl)
            have hb2 : Below w.heap.size w w2 := hb'.grown hgr2 hb'.size (fun k hk => (ho'.out.lt k hk).1)
            clear hown2 hgr2 ho' hb'
            go_wp2_with fail
            refine (cB.out _).mono ?_
            rintro e w1 ⟨rfl, rfl⟩
            have ll2 : (l2 ++ [A]).length = l2.length + 1 := by simp
            generalize l2 ++ [A] = l3 at *
            go_wp2_with (at_builtin; refine Classical.byContradiction fun hnot => ?_)
            refine hnot ?_
            clear hnot
            refine Lib.wpList_append_own_string _ rfl (.tmp 59) (.tmp 63) 34 9 rfl w.heap.size 5 i0 Try.underlying34 Try.underlying9 hi hz0 hz1 hz2 _ l3.length (Lib.byteCells l3) rfl ho2.out ⟨#[B]⟩ rfl ?_ ?_ hb2.size ?_
            · rw [show (ByteArray.mk #[B]).size = 1 from rfl]; unfold maxLen; omega
            · rw [show (ByteArray.mk #[B]).size = 1 from rfl]; omega
            intro v3 w3 hown3 hgr3 _
            have ho3 := Lib.hid (Own.cast (l := l3) (m := [B]) hown3 rfl)
            have hb3 : Below w.heap.size w w3 := hb2.grown hgr3 hb2.size (fun k hk => (ho2.out.lt k hk).1)
            clear hown3 hgr3 ho2 hb2
            go_wp2_with fail
            go_roundw
            case rel => exact ⟨k + 1, l3 ++ [B], by omega, by go_num, ho3, e2, by simp; omega, hb3⟩
            case measure => simp [intOf]; omega
      · have e2 : Hid (l ++ [s[k]] = 34 :: (s.data.toList.take (k + 1)).flatMap one) := by
          rw [Hid, e1.out, hone.out, if_neg h1, if_neg h2, if_neg h3, if_neg h4]
        have hh1 : 32 ≤ (s[k].toNat : Int) := by
          have : ¬ s[k].toNat < 32 := fun e => h4 (.inl (UInt8.lt_iff_toNat_lt.2 (by simpa using e)))
          omega
        have hh2 : (s[k].toNat : Int) ≤ 126 := by
          have : ¬ 126 < s[k].toNat := fun e => h4 (.inr (UInt8.lt_iff_toNat_lt.2 (by simpa using e)))
          omega
        clear h1 e1 hone h2 h3 h4
        go_wp2_with (at_builtin; refine Classical.byContradiction fun hnot => ?_)
        refine hnot ?_
        clear hnot
        refine wpList_append_own _ rfl (.tmp 16) (.tmp 18) 34 rfl w.heap.size 5 i0 _ 1 1 Try.underlying34 hi hz0 hz1 hz2 rfl (by decide) _ l.length (Lib.byteCells l) rfl (ho.out.alloc _) ⟨wr.heap.size, 0, none⟩ 1 1 [.int .u8 (s[k].toNat : Int)] rfl rfl ?_ ?_ ?_ ?_ ?_ ?_
        · intro i u hu
          rcases i with _ | i
          · simp at hu; subst hu; simp [Addr.add, go_sem]
          · simp at hu
        · intro u hu
          simp only [List.mem_cons, List.not_mem_nil, or_false] at hu
          subst hu; rfl
        · unfold maxLen; omega
        · omega
        · have := hb.size; simp; omega
        · intro v' wq hown' hgr _
          have ho' := Lib.hid (Own.cast (l := l) (m := [s[k]]) hown' rfl)
          have hb' : Below w.heap.size w wq := (hb.alloc hb.size _).grown hgr (by have := hb.size; simp; omega) (fun k hk => (ho.out.lt k hk).1)
          clear hown' hgr ho hb
          go_wp2_with fail
          go_roundw
          case rel => exact ⟨k + 1, l ++ [s[k]], by omega, by go_num, ho', e2, by simp; omega, hb'⟩
          case measure => simp [intOf]; omega
    · obtain rfl : k = s.size := by omega
      have e : s.data.toList.take s.size = s.data.toList := List.take_of_length_le (by simp)
      rw [e] at hl
      have hq : Hid (l ++ [34] = quote s.data.toList) := by rw [Hid, hl.out]; rfl
      clear hl e
      go_wp2_with (at_builtin; refine Classical.byContradiction fun hnot => ?_)
      refine hnot ?_
      clear hnot
      refine wpList_append_own _ rfl (.tmp 65) (.tmp 66) 34 rfl w.heap.size 5 i0 _ 1 1 Try.underlying34 hi hz0 hz1 hz2 rfl (by decide) _ l.length (Lib.byteCells l) rfl (ho.out.alloc _) ⟨wr.heap.size, 0, none⟩ 1 1 [.int .u8 34] rfl rfl ?_ ?_ ?_ ?_ ?_ ?_
      · intro i u hu
        rcases i with _ | i
        · simp at hu; subst hu; simp [Addr.add, go_sem]
        · simp at hu
      · intro u hu
        simp only [List.mem_cons, List.not_mem_nil, or_false] at hu
        subst hu; rfl
      · unfold maxLen; omega
      · omega
      · have := hb.size; simp; omega
      · intro v' wq hown' hgr _
        have ho' := Lib.hid (Own.cast (l := l) (m := [34]) hown' rfl)
        have hb' : Below w.heap.size w wq := (hb.alloc hb.size _).grown hgr (by have := hb.size; simp; omega) (fun k hk => (ho.out.lt k hk).1)
        clear hown' hgr ho hb
        rw [hq.out] at ho'
        have ql := (quote_len s.data.toList).1
        obtain ⟨b, n, g, rfl⟩ : ∃ b n g, v' = .slice b n g := by
          rcases ho'.out.2 with ⟨h, _⟩ | ⟨_, _, _, h, _⟩ <;> exact ⟨_, _, _, h⟩
        have hcv := conv_own ho'.out (by omega)
        go_wp2_with fail
        go_ret
        exact ⟨rfl, hb'⟩
end Go.Proofs.Ytmcjkijnapmboaa
