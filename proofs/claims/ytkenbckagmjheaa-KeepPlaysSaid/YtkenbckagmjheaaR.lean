import Derived.Test.YtkenbckagmjheaaRows
import Derived.Test.YtkenbckagmjheaaShelf
import Derived.WalkKit
import Derived.WalkSpells
import Derived.WalkLawsBesides
import Derived.Lib.Walk
import Derived.Lib.Hide
import Derived.Deep.RegionHeld3
import Derived.Deep.QuietTactic
import Derived.BigQuiet
import Derived.Lib.SmallJoins
import Derived.Laws.Rows
namespace Go.Proofs.Ytkenbckagmjheaa
open Go.RowKit

/-- A row of the call's own that holds these numbers. -/
def Row (w : World) (base : Nat) (v : Value) (l : List Int) : Prop := w.ownsRow base 3 1 v l.length (l.map (Value.int .i64))

theorem heap_setCells_at (b : Nat) (t : TypeId) : ∀ (vs : List Value) (o : Nat) (w : World) (L : List Value), w.heap[b]? = some (.cells L.toArray t (0, 0)) → o + vs.length ≤ L.length →
    (w.setCells b o vs).heap[b]? = some (.cells (L.take o ++ vs ++ L.drop (o + vs.length)).toArray t (0, 0))
  | [], o, w, L, h, _ => by simpa [World.setCells] using h
  | v :: r, o, w, L, h, hl => by
    simp only [List.length_cons] at hl
    have h1 := heap_setCell_same w b o L.toArray t v h
    have h2 := heap_setCells_at b t r (o + 1) (w.setCell ⟨b, o, none⟩ v) (L.set o v) (by simpa using h1) (by simp; omega)
    rw [World.setCells, h2]
    have e1 : (L.set o v).take (o + 1) = L.take o ++ [v] := by
      rw [List.take_succ_eq_append_getElem (by simp; omega), List.take_set_of_le (Nat.le_refl _), List.getElem_set_self]
    have e2 : (L.set o v).drop (o + 1 + r.length) = L.drop (o + 1 + r.length) := List.drop_set_of_lt (by omega)
    rw [e1, e2]
    simp [Nat.add_assoc, Nat.add_comm 1]

theorem grown_refl (w : World) (row : Option Nat) : w.grownBy w row := ⟨rfl, rfl, rfl, Nat.le_refl _, fun _ _ _ => rfl⟩
theorem grown_trans {w w1 w2 : World} {row : Option Nat} (h : w.grownBy w1 row) (k : w1.grownBy w2 row) : w.grownBy w2 row :=
  ⟨k.os.trans h.os, k.tape.trans h.tape, k.output.trans h.output, Nat.le_trans h.size k.size, fun i hi hn => (k.block i (Nat.lt_of_lt_of_le hi h.size) hn).trans (h.block i hi hn)⟩
theorem grown_drew (w : World) (row : Option Nat) : w.grownBy w.drew row := ⟨rfl, rfl, rfl, Nat.le_refl _, fun _ _ _ => rfl⟩
theorem grown_drewN (w : World) (q : Nat) (row : Option Nat) : w.grownBy (w.drewN q) row := ⟨rfl, rfl, rfl, Nat.le_refl _, fun _ _ _ => rfl⟩
theorem grown_alloc (w : World) (o : Obj) (row : Option Nat) : w.grownBy (w.alloc o) row := World.grownBy_alloc w o row
theorem grown_setCell (w : World) (b o : Nat) (v : Value) (row : Option Nat) (h : row = some b) : w.grownBy (w.setCell ⟨b, o, none⟩ v) row :=
  ⟨rfl, rfl, rfl, by simp [World.setCell], fun k _ hn => heap_setCell_other w _ k v (fun e => hn (by rw [h, e]))⟩
theorem grown_setCells (b : Nat) (row : Option Nat) (h : row = some b) : ∀ (vs : List Value) (o : Nat) (w : World), w.grownBy (w.setCells b o vs) row
  | [], _, w => grown_refl w _
  | v :: r, o, w => grown_trans (grown_setCell w b o v row h) (grown_setCells b row h r (o + 1) _)
/-- Writing into a block that was not there. -/
theorem grown_new {w w1 : World} {row : Option Nat} (h : w.grownBy w1 row) (b o : Nat) (vs : List Value) (hb : w.heap.size ≤ b) : w.grownBy (w1.setCells b o vs) row := by
  have g := grown_setCells b (some b) rfl vs o w1
  exact ⟨g.os.trans h.os, g.tape.trans h.tape, g.output.trans h.output, Nat.le_trans h.size g.size, fun k hk hn => (g.block k (Nat.lt_of_lt_of_le hk h.size) (fun e => by injection e with e; omega)).trans (h.block k hk hn)⟩

theorem row_mk {w : World} {base g cap : Nat} {L : List Value} {l : List Int} (hb : base ≤ g) (hg : w.heap[g]? = some (.cells L.toArray 3 (0, 0))) (hm : cap ≤ maxLen) (hL : L.length = cap) (hl : l.length ≤ cap) (ht : L.take l.length = l.map (Value.int .i64)) :
    Row w base (.slice (some ⟨g, 0, none⟩) l.length cap) l :=
  ⟨by simp, .inr ⟨g, cap, L.toArray, rfl, hb, hg, hl, hm, by simp [hL], by simpa using ht⟩⟩
/-- What a row looks like. -/
theorem Row.form {w : World} {base : Nat} {v : Value} {l : List Int} (h : Row w base v l) : (v = .slice none 0 0 ∧ l = []) ∨
    ∃ (g cap : Nat) (L : List Value), v = .slice (some ⟨g, 0, none⟩) l.length cap ∧ base ≤ g ∧ w.heap[g]? = some (.cells L.toArray 3 (0, 0)) ∧ l.length ≤ cap ∧ cap ≤ maxLen ∧ L.length = cap ∧ L.take l.length = l.map (Value.int .i64) := by
  rcases h.2 with ⟨hv, h0⟩ | ⟨g, cap, cur, hv, hb, hg, hle, hm, hs, ht⟩
  · exact .inl ⟨hv, List.eq_nil_of_length_eq_zero h0⟩
  · exact .inr ⟨g, cap, cur.toList, hv, hb, by simpa using hg, hle, hm, by simpa using hs, by simpa using ht⟩

theorem oneCell_ints (l : List Int) : ∀ u ∈ l.map (Value.int .i64), u.oneCell' = true := by
  intro u hu
  obtain ⟨x, _, rfl⟩ := List.mem_map.1 hu
  rfl

/-- How what Insert leaves stands to what was. -/
def Ins (base : Nat) (v : Value) (w : World) (l : List Int) : Ending → World → Prop := fun e w' => ∃ v', e = .returned v' ∧ Row w' base v' l ∧ w.grownBy w' v.ownBlock ∧ (v'.ownBlock = v.ownBlock ∨ v'.ownBlock = some w.heap.size)

theorem one_cell (g : Nat) (w : World) (y : Int) (h : w.heap[g]? = some (.cells #[.int .i64 y] 3 (0, 0))) : ∀ j v, [Value.int .i64 y][j]? = some v → w.cell? ⟨g, 0 + j, none⟩ = some v := by
  intro j v hv
  rw [Nat.zero_add, cell_of_row w g j _ 3 (0, 0) h]
  simpa using hv

theorem zc_len (n : Nat) : (Builtin.zeroCells (Value.int .i64 0).cells n).toList.length = n := by
  rw [Array.length_toList, size_zeroCells]; simp [Value.cells]

theorem shift_list {α : Type} (L cs : List α) (x : α) (i n : Nat) (hi : i < n) (hn : n < L.length) (hcs : L.take n = cs) :
    let L1 := L.take (i + 1) ++ cs.drop i ++ L.drop (i + 1 + (cs.drop i).length)
    (L1.take i ++ [x] ++ L1.drop (i + 1)).take (n + 1) = cs.take i ++ x :: cs.drop i ∧ (L1.take i ++ [x] ++ L1.drop (i + 1)).length = L.length ∧ L1.length = L.length := by
  intro L1
  have hc : cs.length = n := by rw [← hcs]; simp; omega
  have hd : (cs.drop i).length = n - i := by simp [hc]
  have e1 : L1.take i = cs.take i := by
    show (L.take (i + 1) ++ cs.drop i ++ L.drop (i + 1 + (cs.drop i).length)).take i = _
    rw [List.append_assoc, List.take_append_of_le_length (by simp; omega), List.take_take, ← hcs, List.take_take]
    congr 1; omega
  have e2 : L1.drop (i + 1) = cs.drop i ++ L.drop (i + 1 + (cs.drop i).length) := by
    show (L.take (i + 1) ++ cs.drop i ++ L.drop (i + 1 + (cs.drop i).length)).drop (i + 1) = _
    rw [List.append_assoc, List.drop_left' (by simp; omega)]
  have el : L1.length = L.length := by
    show (L.take (i + 1) ++ cs.drop i ++ L.drop (i + 1 + (cs.drop i).length)).length = _
    simp [hc]; omega
  refine ⟨?_, ?_, el⟩
  · rw [e1, e2, ← List.append_assoc, List.take_left' (by simp [hc]; omega)]
    simp
  · rw [e1, e2]; simp [hc]; omega

theorem grow_list {α : Type} (cs Z : List α) (x : α) (i n : Nat) (hi : i < n) (hcs : cs.length = n) (hZ : n + 1 ≤ i + Z.length) :
    let L0 := cs.take i ++ Z
    let L1 := L0.take i ++ [x] ++ L0.drop (i + 1)
    let L2 := L1.take (i + 1) ++ cs.drop i ++ L1.drop (i + 1 + (cs.drop i).length)
    L2.take (n + 1) = cs.take i ++ x :: cs.drop i ∧ L2.length = i + Z.length ∧ L1.length = i + Z.length := by
  intro L0 L1 L2
  have h0 : L0.length = i + Z.length := by show (cs.take i ++ Z).length = _; simp [hcs]; omega
  have e0 : L0.take i = cs.take i := List.take_left' (by simp [hcs]; omega)
  have h1 : L1.length = i + Z.length := by
    show (L0.take i ++ [x] ++ L0.drop (i + 1)).length = _
    simp [h0]; omega
  have e1 : L1.take (i + 1) = cs.take i ++ [x] := by
    show (L0.take i ++ [x] ++ L0.drop (i + 1)).take (i + 1) = _
    rw [e0, List.take_left' (by simp [hcs]; omega)]
  refine ⟨?_, ?_, h1⟩
  · show (L1.take (i + 1) ++ cs.drop i ++ L1.drop (i + 1 + (cs.drop i).length)).take (n + 1) = _
    rw [e1, List.take_left' (by simp [hcs]; omega)]
    simp
  · show (L1.take (i + 1) ++ cs.drop i ++ L1.drop (i + 1 + (cs.drop i).length)).length = _
    rw [e1]; simp [hcs, h1]; omega

theorem insert_any (base : Nat) (v : Value) (xs : List Int) (i : Nat) (x : Int) (vb : Nat) (w : World) (h : Row w base v xs) (hi : i ≤ xs.length) (hlen : xs.length ≤ 1000) (hb : base ≤ w.heap.size)
    (hvb : w.heap[vb]? = some (.cells #[.int .i64 x] 3 (0, 0))) (hne : v.ownBlock ≠ some vb) :
    Calls Try.prog 21 #[v, .int .i64 i, .slice (some ⟨vb, 0, none⟩) 1 1] w (Ins base v w (xs.take i ++ x :: xs.drop i)) := by
  have hvc := one_cell vb w x hvb
  have h1v : ∀ u ∈ [Value.int .i64 x], u.oneCell' = true := oneCell_ints [x]
  have hgm : ∀ n c, n ≤ 1001 → grownCap w n c 3 ≤ maxLen := fun n c hn => grownCap_le_maxLen w n c 3 (by unfold maxLen; omega)
  have hlen2 : (xs.take i ++ x :: xs.drop i).length = xs.length + 1 := by simp; omega
  have rf : Try.lays21_ren.f 21 = 21 := rfl
  have rt : Try.lays21_ren.t 3 = 3 := rfl
  rcases h.form with ⟨rfl, rfl⟩ | ⟨g, cap, L, rfl, hbg, hg, hle, hm, hL, ht⟩
  · obtain rfl : i = 0 := by simpa using hi
    have hI := Any2.slices_Insert_int_end_grow Try.lays21 none 0 0 vb 0 1 1 [] [.int .i64 x] w (by omega) (by omega) (by omega) (by omega) rfl rfl (fun _ => rfl) (fun a ha => by cases ha) hvc h1v
    have hge := grownCap_ge w (0 + 1) 0 3
    rw [rf, rt] at hI
    refine Calls.mono hI ?_
    rintro e w' ⟨rfl, rfl⟩
    refine ⟨_, rfl, ?_, grown_trans (grown_drew w _) (grown_alloc _ _ _), .inr rfl⟩
    have hz := zc_len (grownCap w (0 + 1) 0 3 - (0 + 1))
    refine row_mk (L := [Value.int .i64 x] ++ (Builtin.zeroCells (Value.int .i64 0).cells (grownCap w (0 + 1) 0 3 - (0 + 1))).toList) (l := [x]) hb ?_ (hgm (0 + 1) 0 (by omega)) (by simp only [List.length_append, hz, List.length_singleton]; omega) hge (by simp)
    refine (heap_alloc_new w.drew _).trans ?_
    simp
  · have hce := fun j => cell_of_row w g j L.toArray 3 (0, 0) hg
    have hfr := fun j => frozen_of_row w g j L.toArray 3 hg
    have hcs : ∀ j v, (xs.map (Value.int .i64))[j]? = some v → w.cell? ⟨g, 0 + j, none⟩ = some v := by
      intro j v hj
      rw [Nat.zero_add, hce]
      have hjl : j < xs.length := by
        rcases Nat.lt_or_ge j xs.length with h | h
        · exact h
        · rw [List.getElem?_eq_none (by simpa using h)] at hj; cases hj
      rw [← ht, List.getElem?_take, if_pos hjl] at hj
      simpa using hj
    have hsp : ∀ j, j < cap → (w.cell? ⟨g, 0 + j, none⟩).isSome = true := by
      intro j hj
      rw [Nat.zero_add, hce]
      simp [hL, hj]
    have hfz : ∀ j, w.frozen? ⟨g, 0 + j, none⟩ = false := fun j => by rw [Nat.zero_add]; exact hfr j
    have hcl : (xs.map (Value.int .i64)).length = xs.length := by simp
    have h1c := oneCell_ints xs
    have hm63 : cap ≤ 9223372036854775807 := by unfold maxLen at hm; omega
    have hgb : vb ≠ g := fun e => hne (by rw [e]; rfl)
    have hglt : g < w.heap.size := by
      rcases Nat.lt_or_ge g w.heap.size with h | h
      · exact h
      · rw [Array.getElem?_eq_none h] at hg; cases hg
    by_cases hin : i = xs.length
    · subst hin
      have hxs : xs.take xs.length ++ x :: xs.drop xs.length = xs ++ [x] := by simp
      rw [hxs]
      by_cases hc : cap < xs.length + 1
      · have hI := Any2.slices_Insert_int_end_grow Try.lays21 (some ⟨g, 0, none⟩) xs.length cap vb 0 1 1 (xs.map (Value.int .i64)) [.int .i64 x] w (by omega) hle hc (by omega) hcl rfl (fun h => by cases h) (fun a ha => by
          cases ha
          exact fun j u hj => h.cells rfl j u hj) hvc h1v
        have hge := grownCap_ge w (xs.length + 1) cap 3
        rw [rf, rt] at hI
        refine Calls.mono hI ?_
        rintro e w' ⟨rfl, rfl⟩
        refine ⟨_, rfl, ?_, grown_trans (grown_drew w _) (grown_alloc _ _ _), .inr rfl⟩
        have hz := zc_len (grownCap w (xs.length + 1) cap 3 - (xs.length + 1))
        have := row_mk (w := w.drew.alloc (.cells ((xs.map (Value.int .i64) ++ [Value.int .i64 x]).toArray ++ Builtin.zeroCells (Value.int .i64 0).cells (grownCap w (xs.length + 1) cap 3 - (xs.length + 1))) 3)) (base := base) (g := w.heap.size) (cap := grownCap w (xs.length + 1) cap 3) (L := (xs.map (Value.int .i64) ++ [Value.int .i64 x]) ++ (Builtin.zeroCells (Value.int .i64 0).cells (grownCap w (xs.length + 1) cap 3 - (xs.length + 1))).toList) (l := xs ++ [x]) hb (by
          refine (heap_alloc_new w.drew _).trans ?_
          simp) (hgm _ cap (by omega)) (by simp only [List.length_append, hz, List.length_singleton, List.length_map]; omega) (by simp; exact hge) (by
          rw [List.take_left' (by simp)]; simp)
        rw [show (xs ++ [x]).length = xs.length + 1 by simp] at this
        exact this
      · have hI := Any2.slices_Insert_int_end_room Try.lays21 g 0 xs.length cap vb 0 1 1 [.int .i64 x] w (by omega) (by omega) hm63 rfl (fun j hj => by rw [Nat.add_assoc]; exact hsp _ (by omega)) (fun j hj => by rw [Nat.add_assoc]; exact hfz _) hvc h1v
        rw [rf] at hI
        refine Calls.mono hI ?_
        rintro e w' ⟨rfl, rfl⟩
        refine ⟨_, rfl, ?_, grown_setCells g _ rfl _ _ _, .inl rfl⟩
        have hh := heap_setCells_at g 3 [.int .i64 x] xs.length w L hg (by simp; omega)
        rw [Nat.zero_add]
        have := row_mk (w := w.setCells g xs.length [.int .i64 x]) (base := base) (g := g) (cap := cap) (l := xs ++ [x]) hbg hh hm (by simp; omega) (by simp; omega) (by
          rw [List.take_left' (by simp; omega), ht]; simp)
        rw [show (xs ++ [x]).length = xs.length + 1 by simp] at this
        exact this
    · have hi' : i < xs.length := by omega
      by_cases hc : cap < xs.length + 1
      · have hI := Any2.slices_Insert_int_grow Try.lays21 g 0 xs.length cap i vb 0 1 1 (xs.map (Value.int .i64)) [.int .i64 x] w hi' (by omega) hle hc (by omega) hcl rfl hcs hvc h1c h1v
        have hge := grownCap_ge w (xs.length + 1) cap 3
        rw [rf, rt] at hI
        refine Calls.mono hI ?_
        rintro e w' ⟨rfl, rfl⟩
        have hz1 := zc_len (xs.length + 1 - i)
        have hz2 := zc_len (grownCap w (xs.length + 1) cap 3 - (xs.length + 1))
        have hgm1 := hgm (xs.length + 1) cap (by omega)
        generalize grownCap w (xs.length + 1) cap 3 = G at *
        generalize Builtin.zeroCells (Value.int .i64 0).cells (xs.length + 1 - i) = Z1 at *
        generalize Builtin.zeroCells (Value.int .i64 0).cells (G - (xs.length + 1)) = Z2 at *
        have hZ : (Z1.toList ++ Z2.toList).length = G - i := by rw [List.length_append, hz1, hz2]; omega
        have hl := grow_list (xs.map (Value.int .i64)) (Z1.toList ++ Z2.toList) (Value.int .i64 x) i xs.length hi' hcl (by rw [hZ]; omega)
        simp only at hl
        obtain ⟨l1, l2, l3⟩ := hl
        rw [hZ] at l2 l3
        refine ⟨_, rfl, ?_, ?_, .inr rfl⟩
        · have a0 : (w.alloc (.cells (((xs.map (Value.int .i64)).take i).toArray ++ Z1 ++ Z2) 3)).drew.heap[w.heap.size]? = some (.cells ((xs.map (Value.int .i64)).take i ++ (Z1.toList ++ Z2.toList)).toArray 3 (0, 0)) := by
            refine (heap_alloc_new w _).trans ?_
            simp
          have a1 := heap_setCells_at w.heap.size 3 [.int .i64 x] i _ _ a0 (by rw [List.length_append, hZ, List.length_take, hcl, List.length_singleton]; omega)
          rw [show [Value.int .i64 x].length = 1 from rfl] at a1
          have a2 := heap_setCells_at w.heap.size 3 ((xs.map (Value.int .i64)).drop i) (i + 1) (((w.alloc (.cells (((xs.map (Value.int .i64)).take i).toArray ++ Z1 ++ Z2) 3)).drew.setCells w.heap.size i [.int .i64 x]).drew) _ a1 (by rw [l3, List.length_drop, hcl]; omega)
          have := row_mk (base := base) (g := w.heap.size) (cap := G) (l := xs.take i ++ x :: xs.drop i) hb a2 hgm1 (by rw [l2]; omega) (by rw [hlen2]; exact hge) (by
            rw [hlen2, l1]; simp)
          rw [hlen2] at this
          exact this
        · refine grown_new ?_ _ _ _ (Nat.le_refl _)
          refine grown_trans (grown_new ?_ _ _ _ (Nat.le_refl _)) (grown_drew _ _)
          exact grown_trans (grown_alloc _ _ _) (grown_drew _ _)
      · have hI := Any2.slices_Insert_int_shift Try.lays21 g 0 xs.length cap i vb 0 1 1 (xs.map (Value.int .i64)) [.int .i64 x] w hi' (by omega) (by omega) hm63 hgb hcl rfl hcs (fun j hj => hsp _ (by omega)) (fun j hj => hfz _) hvc h1c h1v 3 3 1 cap (by unfold World.shape?; rw [hvb]; rfl) (by unfold World.shape?; rw [hg]; simp [hL]) (by omega) (frozen_of_row w vb 0 _ 3 hvb) (frozen_of_row w vb 1 _ 3 hvb)
        rw [rf] at hI
        refine Calls.mono hI ?_
        rintro e w' ⟨rfl, rfl⟩
        have hl := shift_list L (xs.map (Value.int .i64)) (Value.int .i64 x) i xs.length hi' (by omega) ht
        simp only at hl
        obtain ⟨l1, l2, l3⟩ := hl
        refine ⟨_, rfl, ?_, ?_, .inl rfl⟩
        · rw [Nat.zero_add, Nat.zero_add]
          have a1 := heap_setCells_at g 3 ((xs.map (Value.int .i64)).drop i) (i + 1) w.drew L hg (by simp; omega)
          have a2 := heap_setCells_at g 3 [.int .i64 x] i _ _ a1 (by rw [l3]; simp; omega)
          have := row_mk (base := base) (g := g) (cap := cap) (l := xs.take i ++ x :: xs.drop i) hbg a2 hm (by rw [List.length_singleton, l2]; exact hL) (by rw [hlen2]; omega) (by
            rw [hlen2, List.length_singleton, l1]; simp)
          rw [hlen2] at this
          exact this
        · exact grown_trans (grown_trans (grown_drew w _) (grown_setCells g _ rfl _ _ _)) (grown_setCells g _ rfl _ _ _)
end Go.Proofs.Ytkenbckagmjheaa
