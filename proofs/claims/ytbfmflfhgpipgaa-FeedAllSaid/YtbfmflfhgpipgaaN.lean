import Derived.Test.YtbfmflfhgpipgaaK
import Derived.Test.YtbfmflfhgpipgaaL
import Derived.Test.YtbfmflfhgpipgaaE
namespace Go.Proofs.Ytbfmflfhgpipgaa
open Go.RowKit

/-- What the walk is told of what was seen: each element's four cells. -/
structure SeenD where
  n : Nat
  l : Nat → Int
  r : Nat → Int
  y : Nat → Int
  no : Nat → Int

structure SeenAt (w : World) (N : Nat) (a : Option Addr) (k : Nat) (s : SeenD) : Prop where
  cells : ∀ j, j < s.n → ∃ b off, a = some ⟨b, off, none⟩ ∧ b < N ∧ w.cell? ⟨b, off + j * 4, none⟩ = some (.int .u8 (s.l j)) ∧ w.cell? ⟨b, off + j * 4 + 1, none⟩ = some (.int .u8 (s.r j)) ∧ w.cell? ⟨b, off + j * 4 + 2, none⟩ = some (.int .i64 (s.y j)) ∧ w.cell? ⟨b, off + j * 4 + 3, none⟩ = some (.int .i64 (s.no j)) ∧ (0 ≤ s.l j ∧ s.l j ≤ 255) ∧ 0 ≤ s.r j ∧ s.r j ≤ 255
  cap : s.n ≤ k
  big : k ≤ 9223372036854775807
theorem SeenAt.below {w w' : World} {N k : Nat} {a : Option Addr} {s : SeenD} (h : SeenAt w N a k s) (hb : Below N w w') : SeenAt w' N a k s where
  cells := fun j hj => by
    obtain ⟨b, off, e, hN, h1, h2, h3, h4, h5⟩ := h.cells j hj
    exact ⟨b, off, e, hN, (hb.cell (p := ⟨b, _, none⟩) hN).trans h1, (hb.cell (p := ⟨b, _, none⟩) hN).trans h2, (hb.cell (p := ⟨b, _, none⟩) hN).trans h3, (hb.cell (p := ⟨b, _, none⟩) hN).trans h4, h5⟩
  cap := h.cap
  big := h.big

theorem CodeAt.more {w : World} {N N' : Nat} {ai af as' : Option Addr} {c : CodeD} (h : CodeAt w N ai af as' c) (hN : N ≤ N') : CodeAt w N' ai af as' c where
  ins := fun j hj => by
    obtain ⟨b, off, e, h1, h2⟩ := h.ins j hj
    exact ⟨b, off, e, by omega, h2⟩
  fns := fun j hj => by
    obtain ⟨b, off, e, h1, h2⟩ := h.fns j hj
    exact ⟨b, off, e, by omega, h2⟩
  strs := fun j hj => by
    obtain ⟨b, off, s, e, h1, h2⟩ := h.strs j hj
    exact ⟨b, off, s, e, by omega, h2⟩
  bi := h.bi
  bf := h.bf
  bs := h.bs
theorem CodeAt.up {w w' : World} {ai af as' : Option Addr} {c : CodeD} (h : CodeAt w w.heap.size ai af as' c) (hb : Below w.heap.size w w') : CodeAt w' w'.heap.size ai af as' c := (h.below hb).more hb.size

/-- The contract of code.May at both answers. -/
theorem may_yes (ai af as' : Option Addr) (k1 k2 k3 : Nat) (c : CodeD) (w : World) (hc : Hid (CodeAt w w.heap.size ai af as' c)) (hg : Hid (¬ GreatP c)) (h : MayP c) :
    Calls Try.prog 23 #[.agg #[.slice ai c.ni k1, .slice af c.nf k2, .slice as' c.ns k3]] w fun e w' => e = .returned (.bool true) ∧ Below w.heap.size w w' :=
  (may_any ai af as' k1 k2 k3 c w hc hg).mono fun e w' ⟨t, he, ht, hb⟩ => ⟨by rw [he, ht.2 h], hb⟩
theorem may_no (ai af as' : Option Addr) (k1 k2 k3 : Nat) (c : CodeD) (w : World) (hc : Hid (CodeAt w w.heap.size ai af as' c)) (hg : Hid (¬ GreatP c)) (h : ¬ MayP c) :
    Calls Try.prog 23 #[.agg #[.slice ai c.ni k1, .slice af c.nf k2, .slice as' c.ns k3]] w fun e w' => e = .returned (.bool false) ∧ Below w.heap.size w w' :=
  (may_any ai af as' k1 k2 k3 c w hc hg).mono fun e w' ⟨t, he, ht, hb⟩ => ⟨by
    cases t with
    | true => exact absurd (ht.1 rfl) h
    | false => exact he, hb⟩

set_option maxHeartbeats 2000000 in
theorem hints_arg (ai af as' sa : Option Addr) (k1 k2 k3 k4 : Nat) (c : CodeD) (f : Int) (s : SeenD) (w : World) (hc : Hid (CodeAt w w.heap.size ai af as' c)) (hg : Hid (¬ GreatP c)) (h : s.n ≠ c.ni ∨ ¬ MayP c) (_hs : s.n ≤ 9223372036854775807) :
    Calls Try.prog 15 #[.agg #[.slice ai c.ni k1, .slice af c.nf k2, .slice as' c.ns k3], .int .i64 f, .slice sa s.n k4] w fun e w' => e = .returned (.tuple #[.slice none 0 0, .int .i64 1]) ∧ Below w.heap.size w w' := by
  have bi := hc.out.bi
  by_cases hn : s.n = c.ni
  · have hm : Hid (¬ MayP c) := h.resolve_left (fun h => h hn)
    have hn1 : ((s.n : Int) != (c.ni : Int)) = false := by simp [hn]
    have cm : Hid (∀ o, Calls Try.prog 23 #[.agg #[.slice ai c.ni k1, .slice af c.nf k2, .slice as' c.ns k3]] (w.alloc o) fun e w' => e = .returned (.bool false) ∧ Below (w.alloc o).heap.size (w.alloc o) w') := fun o =>
      may_no ai af as' k1 k2 k3 c (w.alloc o) (hc.out.up ((Below.refl _ _).alloc (Nat.le_refl _) _)) hg hm.out
    clear h hn
    generalize s.n = sn at *
    go_enter Try.func15, Try.ntmps15
    go_wp2_with fail
    refine (cm.out _).mono ?_
    rintro e w1 ⟨rfl, hb⟩
    go_wp2
    go_ret2
    exact ⟨rfl, ((Below.refl _ _).alloc (Nat.le_refl _) _).trans (hb.mono (by simp))⟩
  · have hn1 : ((s.n : Int) != (c.ni : Int)) = true := by simp; omega
    clear h hn
    generalize s.n = sn at *
    go_enter Try.func15, Try.ntmps15
    go_wp2
    go_ret2
    exact ⟨rfl, (Below.refl _ _).alloc (Nat.le_refl _) _⟩

set_option maxHeartbeats 2000000 in
theorem hints_none (ai af as' sa : Option Addr) (k1 k2 k3 k4 : Nat) (c : CodeD) (f : Int) (s : SeenD) (w : World) (hc : Hid (CodeAt w w.heap.size ai af as' c)) (hg : Hid (¬ GreatP c)) (hn : s.n = c.ni) (hm : MayP c) (_hs : s.n ≤ 9223372036854775807) (hf : f < 0 ∨ (c.nf : Int) ≤ f) :
    Calls Try.prog 15 #[.agg #[.slice ai c.ni k1, .slice af c.nf k2, .slice as' c.ns k3], .int .i64 f, .slice sa s.n k4] w fun e w' => e = .returned (.tuple #[.slice none 0 0, .int .i64 20]) ∧ Below w.heap.size w w' := by
  have bi := hc.out.bi
  have bf := hc.out.bf
  have hn1 : ((s.n : Int) != (c.ni : Int)) = false := by simp [hn]
  have cm : Hid (∀ o, Calls Try.prog 23 #[.agg #[.slice ai c.ni k1, .slice af c.nf k2, .slice as' c.ns k3]] (w.alloc o) fun e w' => e = .returned (.bool true) ∧ Below (w.alloc o).heap.size (w.alloc o) w') := fun o =>
    may_yes ai af as' k1 k2 k3 c (w.alloc o) (hc.out.up ((Below.refl _ _).alloc (Nat.le_refl _) _)) hg hm
  clear hn hm
  generalize s.n = sn at *
  by_cases hf0 : f < 0
  · clear hf
    go_enter Try.func15, Try.ntmps15
    go_wp2_with fail
    refine (cm.out _).mono ?_
    rintro e w1 ⟨rfl, hb⟩
    go_wp2
    go_ret2
    exact ⟨rfl, ((Below.refl _ _).alloc (Nat.le_refl _) _).trans (hb.mono (by simp))⟩
  · have hf1 : (c.nf : Int) ≤ f := by omega
    clear hf
    go_enter Try.func15, Try.ntmps15
    go_wp2_with fail
    refine (cm.out _).mono ?_
    rintro e w1 ⟨rfl, hb⟩
    obtain ⟨hx, hy⟩ := bcell hb
    go_wp2
    go_ret2
    exact ⟨rfl, ((Below.refl _ _).alloc (Nat.le_refl _) _).trans (hb.mono (by simp))⟩

/-- A hint's three cells. -/
def hcell (s : SeenD) (j : Nat) : List Value := [.int .u8 (kd (s.l j)), .int .u8 (kd (s.r j)), .int .i64 (way (s.y j) (s.no j))]
/-- The first n hints from the place p on. -/
def hcells (s : SeenD) (p n : Nat) : List Value := (List.range n).flatMap fun i => hcell s (p + i)
theorem hcells_succ (s : SeenD) (p n : Nat) : hcells s p (n + 1) = hcells s p n ++ hcell s (p + n) := by
  unfold hcells
  rw [List.range_succ, List.flatMap_append]
  simp
theorem info25 : (Try.prog.info? 25).map (fun i => (i.zero, i.size, i.bytes)) = some (some (.agg #[.int .u8 0, .int .u8 0, .int .i64 0]), 3, 16) := by kernel_rfl

def HintsOk (s : SeenD) (p n : Nat) (w : World) : Ending → World → Prop := fun e w' => ∃ v base, e = .returned (.tuple #[v, .int .i64 0]) ∧ w.heap.size ≤ base ∧ w'.ownsRow base 25 3 v n (hcells s p n) ∧ Below w.heap.size w w'

theorem ownsRow_below {w w' : World} {base : Nat} {e : TypeId} {size : Nat} {v : Value} {n : Nat} {xs : List Value} (h : w.ownsRow base e size v n xs) (hb : Below w.heap.size w w') : w'.ownsRow base e size v n xs :=
  h.kept (row := none) ⟨hb.os, hb.tape, hb.output, hb.size, fun k hk _ => hb.block k hk⟩ (by cases v.ownBlock <;> simp)

set_option maxHeartbeats 4000000 in
theorem hints_ok (ai af as' sa : Option Addr) (k1 k2 k3 k4 : Nat) (c : CodeD) (f : Nat) (s : SeenD) (w : World) (hc : Hid (CodeAt w w.heap.size ai af as' c)) (hg : Hid (¬ GreatP c)) (hn : s.n = c.ni) (hm : MayP c) (hs : Hid (SeenAt w w.heap.size sa k4 s)) (hf : f < c.nf) (p n : Nat) (hp : c.at' f = p) (hl : c.len f = n) (hpn : p + n ≤ s.n) :
    Calls Try.prog 15 #[.agg #[.slice ai c.ni k1, .slice af c.nf k2, .slice as' c.ns k3], .int .i64 f, .slice sa s.n k4] w (HintsOk s p n w) := by
  have bi := hc.out.bi
  have bf := hc.out.bf
  have hn1 : ((s.n : Int) != (c.ni : Int)) = false := by simp [hn]
  have hcap := hs.out.cap
  have hbig := hs.out.big
  have hni : c.ni ≤ 1500 := by have := hg.out; unfold GreatP at this; omega
  have cm : Hid (∀ o, Calls Try.prog 23 #[.agg #[.slice ai c.ni k1, .slice af c.nf k2, .slice as' c.ns k3]] (w.alloc o) fun e w' => e = .returned (.bool true) ∧ Below (w.alloc o).heap.size (w.alloc o) w') := fun o =>
    may_yes ai af as' k1 k2 k3 c (w.alloc o) (hc.out.up ((Below.refl _ _).alloc (Nat.le_refl _) _)) hg hm
  have hsn : s.n ≤ 1500 := by omega
  clear hm
  have Hn := Lib.hid hn
  clear hn
  obtain ⟨i0, hi, hz0, hz1, hz2⟩ := info_parts info25
  have e1 : decide ((f : Int) < 0) = false := by simp
  have e2 : decide (c.nf ≤ f) = false := by simp; omega
  go_enter Try.func15, Try.ntmps15
  go_wp2_with fail
  refine (cm.out _).mono ?_
  rintro e w1 ⟨rfl, hb⟩
  have hbw : Below w.heap.size w w1 := ((Below.refl _ _).alloc (Nat.le_refl _) _).trans (hb.mono (by simp))
  have z1 : w.heap.size < w1.heap.size := by have := hb.size; simp at this; omega
  have q0 : w1.cell? ⟨w.heap.size, 0, none⟩ = some (.slice ai c.ni k1) := (hb.cell (p := ⟨w.heap.size, 0, none⟩) (by simp)).trans (by go_simp)
  have q1 : w1.cell? ⟨w.heap.size, 1, none⟩ = some (.slice af c.nf k2) := (hb.cell (p := ⟨w.heap.size, 1, none⟩) (by simp)).trans (by go_simp)
  obtain ⟨b, off, rfl, hbN, c0, c1, c2, c3, c4⟩ := (hc.out.below hbw).fns f hf
  rw [hp] at c0
  rw [hl] at c1
  clear cm hb hp hl
  by_cases h0 : n = 0
  · subst h0
    clear hs
    cases sa with
    | none =>
      go_wp2_with fail
      all_goals
        refine wp_loop_rounds 1 ?_
        rw [rounds_succ]
        go_wp2_with fail
        go_ret2
        exact ⟨_, w.heap.size, rfl, Nat.le_refl _, ⟨rfl, .inl ⟨rfl, rfl⟩⟩, hbw.alloc hbw.size _⟩
    | some x =>
      go_wp2_with fail
      all_goals
        refine wp_loop_rounds 1 ?_
        rw [rounds_succ]
        go_wp2_with fail
        go_ret2
        exact ⟨_, w.heap.size, rfl, Nat.le_refl _, ⟨rfl, .inl ⟨rfl, rfl⟩⟩, hbw.alloc hbw.size _⟩
  · obtain ⟨b', off', rfl, _⟩ := hs.out.cells p (by omega)
    have hne : ¬ k4 = p := by omega
    go_wp2_with fail
    have hb2 : Below w.heap.size w (w1.alloc (.cells #[.int .i64 p, .int .i64 n, .int .i64 (c.par f), .int .i64 (c.slo f), .int .i64 (c.res f)] 48)) := hbw.alloc hbw.size _
    generalize w1.alloc (.cells #[.int .i64 p, .int .i64 n, .int .i64 (c.par f), .int .i64 (c.slo f), .int .i64 (c.res f)] 48) = w2 at *
    clear hbw c0 c1 c2 c3 c4 q0 q1
    simp only [Nat.add_sub_cancel_left]
    go_loopw [8, 11, 49] (fun v _ i wr => ∃ j : Nat, j ≤ n ∧ i = .int .i64 j ∧ wr.ownsRow w2.heap.size 25 3 v j (hcells s p j) ∧ Below w2.heap.size w2 wr) (fun _ _ i _ => n - (intOf i).toNat)
    case atStart => exact ⟨0, Nat.zero_le _, rfl, ⟨rfl, .inl ⟨rfl, rfl⟩⟩, Below.refl _ _⟩
    case round =>
      obtain ⟨j, hj, rfl, hown, hbr⟩ := hrel
      have hbz : Below w.heap.size w wr := hb2.trans (hbr.mono hb2.size)
      by_cases hjn : j < n
      · obtain ⟨b2, off2, he, hbN2, d0, d1, d2, d3, ⟨l0, l1⟩, r0, r1⟩ := (hs.out.below hbz).cells (p + j) (by omega)
        injection he with he
        injection he with he1 he2
        subst he1 he2
        rw [show off' + (p + j) * 4 = off' + p * 4 + j * 4 by omega] at d0 d1 d2 d3
        have hsucc := Lib.hid (hcells_succ s p j)
        have hh : Hid (hcell s (p + j) = [.int .u8 (kd (s.l (p + j))), .int .u8 (kd (s.r (p + j))), .int .i64 (way (s.y (p + j)) (s.no (p + j)))]) := rfl
        have cH : Hid (∀ w, Calls Try.prog 7 #[.agg #[.int .u8 (s.l (p + j)), .int .u8 (s.r (p + j)), .int .i64 (s.y (p + j)), .int .i64 (s.no (p + j))]] w fun e w' => e = .returned (.agg #[.int .u8 (kd (s.l (p + j))), .int .u8 (kd (s.r (p + j))), .int .i64 (way (s.y (p + j)) (s.no (p + j)))]) ∧ Below w.heap.size w w') := fun w => hint_any _ _ _ _ w l0 l1 r0 r1
        generalize hxs : hcells s p j = xs at *
        clear hxs
        generalize hcell s (p + j) = hc1 at *
        generalize kd (s.l (p + j)) = K at *
        generalize kd (s.r (p + j)) = R at *
        generalize way (s.y (p + j)) (s.no (p + j)) = Y at *
        generalize s.l (p + j) = L0 at *
        generalize s.r (p + j) = R0 at *
        generalize s.y (p + j) = Y0 at *
        generalize s.no (p + j) = N0 at *
        go_wp2_with fail
        with_reducible refine (cH.out _).mono ?_
        rintro e w3 ⟨rfl, hb3⟩
        have hown3 := ownsRow_below (hown.alloc _) hb3
        have hs3 := hb3.size
        simp at hs3
        have hb3' : Below w2.heap.size w2 w3 := (hbr.alloc hbr.size _).trans (hb3.mono (by have := hbr.size; simp; omega))
        go_wp2_with (at_builtin; refine wpList_append_own _ rfl (.tmp 53) (.tmp 56) 43 rfl (w2.heap.size) 25 i0 _ 3 16 Try.underlying43 hi hz0 hz1 hz2 rfl (by decide) _ j xs rfl (hown3.alloc _) ⟨w3.heap.size, 0, none⟩ 1 1 [.int .u8 K, .int .u8 R, .int .i64 Y] rfl rfl ?c1 ?c2 ?c3 ?c4 ?c5 ?c6)
        case c1 =>
          intro i u hu
          rcases i with _ | _ | _ | i
          · simp at hu; subst hu; simp [Addr.add, go_sem]
          · simp at hu; subst hu; simp [Addr.add, go_sem]
          · simp at hu; subst hu; simp [Addr.add, go_sem]
          · simp at hu
        case c2 =>
          intro u hu
          simp only [List.mem_cons, List.not_mem_nil, or_false] at hu
          rcases hu with rfl | rfl | rfl <;> rfl
        case c3 => unfold maxLen; omega
        case c4 => omega
        case c5 => have := hbr.size; simp; omega
        case c6 =>
          intro v' wq hown' hgr _
          have hbq : Below w2.heap.size w2 wq := (hb3'.alloc hb3'.size _).grown hgr (by have := hbr.size; simp; omega) (fun k hk => (hown.lt k hk).1)
          rw [← hh.out, ← hsucc.out] at hown'
          clear hgr hb3' hown3 hown hb3 hs3
          go_wp2_with fail
          go_roundw
          case rel => exact ⟨j + 1, by omega, by go_num, hown', hbq⟩
          case measure => simp [intOf]; omega
      · obtain rfl : j = n := by omega
        go_wp2_with fail
        go_ret2
        exact ⟨_, _, rfl, hb2.size, hown, hbz⟩
end Go.Proofs.Ytbfmflfhgpipgaa
