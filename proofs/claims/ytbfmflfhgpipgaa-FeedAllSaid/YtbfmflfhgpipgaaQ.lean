import Derived.Test.YtbfmflfhgpipgaaO
namespace Go.Proofs.Ytbfmflfhgpipgaa
open Go.RowKit

/-- The j-th hint's cells in a row of hints. -/
theorem hcells_at (s : SeenD) (p : Nat) : ∀ (n j : Nat), j < n → (hcells s p n)[j * 3]? = some (.int .u8 (kd (s.l (p + j)))) ∧ (hcells s p n)[j * 3 + 1]? = some (.int .u8 (kd (s.r (p + j)))) ∧ (hcells s p n)[j * 3 + 2]? = some (.int .i64 (way (s.y (p + j)) (s.no (p + j))))
  | 0, j, h => by omega
  | n + 1, j, h => by
    have hl : (hcells s p n).length = n * 3 := by
      unfold hcells
      rw [List.length_flatMap]
      simp [hcell, List.map_const', List.sum_replicate_nat]
    rw [hcells_succ]
    by_cases e : j < n
    · have ih := hcells_at s p n j e
      rw [List.getElem?_append_left (by omega), List.getElem?_append_left (by omega), List.getElem?_append_left (by omega)]
      exact ih
    · obtain rfl : j = n := by omega
      rw [List.getElem?_append_right (by omega), List.getElem?_append_right (by omega), List.getElem?_append_right (by omega), hl]
      rw [show j * 3 - j * 3 = 0 by omega, show j * 3 + 1 - j * 3 = 1 by omega, show j * 3 + 2 - j * 3 = 2 by omega]
      exact ⟨rfl, rfl, rfl⟩

section
variable (ai af as' sa : Option Addr) (k1 k2 k3 k4 : Nat) (c : CodeD) (s : SeenD) (w : World)

theorem SeenAt.more {w : World} {N N' k : Nat} {a : Option Addr} {s : SeenD} (h : SeenAt w N a k s) (hN : N ≤ N') : SeenAt w N' a k s where
  cells := fun j hj => by
    obtain ⟨b, off, e, h1, h2⟩ := h.cells j hj
    exact ⟨b, off, e, by omega, h2⟩
  cap := h.cap
  big := h.big

theorem keepAll {w wX : World} {b0 b1 b2 : Nat} {c0 c1 c2 c3 c4 c5 c6 c7 : Option Value} {o0 o1 o2 o3 o4 o5 o6 o7 : Nat}
    (h0 : w.cell? ⟨b0, o0, none⟩ = c0) (h1 : w.cell? ⟨b0, o1, none⟩ = c1) (h2 : w.cell? ⟨b0, o2, none⟩ = c2)
    (h3 : w.cell? ⟨b1, o3, none⟩ = c3) (h4 : w.cell? ⟨b1, o4, none⟩ = c4) (h5 : w.cell? ⟨b1, o5, none⟩ = c5) (h6 : w.cell? ⟨b1, o6, none⟩ = c6)
    (h7 : w.cell? ⟨b2, o7, none⟩ = c7) (l0 : b0 < w.heap.size) (l1 : b1 < w.heap.size) (l2 : b2 < w.heap.size) (hb : Below w.heap.size w wX) :
    wX.cell? ⟨b0, o0, none⟩ = c0 ∧ wX.cell? ⟨b0, o1, none⟩ = c1 ∧ wX.cell? ⟨b0, o2, none⟩ = c2 ∧ wX.cell? ⟨b1, o3, none⟩ = c3 ∧ wX.cell? ⟨b1, o4, none⟩ = c4 ∧ wX.cell? ⟨b1, o5, none⟩ = c5 ∧ wX.cell? ⟨b1, o6, none⟩ = c6 ∧ wX.cell? ⟨b2, o7, none⟩ = c7 ∧ Below w.heap.size w wX :=
  ⟨(hb.cell (p := ⟨b0, o0, none⟩) l0).trans h0, (hb.cell (p := ⟨b0, o1, none⟩) l0).trans h1, (hb.cell (p := ⟨b0, o2, none⟩) l0).trans h2, (hb.cell (p := ⟨b1, o3, none⟩) l1).trans h3, (hb.cell (p := ⟨b1, o4, none⟩) l1).trans h4, (hb.cell (p := ⟨b1, o5, none⟩) l1).trans h5, (hb.cell (p := ⟨b1, o6, none⟩) l1).trans h6, (hb.cell (p := ⟨b2, o7, none⟩) l2).trans h7, hb⟩

set_option maxRecDepth 100000 in
set_option maxHeartbeats 8000000 in
theorem law_all_ok (hc : Hid (CodeAt w w.heap.size ai af as' c)) (hg : Hid (¬ GreatP c)) (hn : s.n = c.ni) (hm : MayP c) (hs : Hid (SeenAt w w.heap.size sa k4 s)) (f : Nat) (hf : f < c.nf) : LawAll ai af as' sa k1 k2 k3 k4 c f s w := by
  have bi : c.ni ≤ 1500 := by have := hg.out; unfold GreatP at this; omega
  have bf := hc.out.bf
  obtain ⟨m1, m2, m3, m4⟩ := hm
  obtain ⟨a1, a2, a3, _⟩ := m2 f hf
  have sl := sum_ok c f (fun k hk => m2 k (by omega))
  obtain ⟨p, hp⟩ : ∃ p : Nat, c.at' f = p := ⟨(c.at' f).toNat, by omega⟩
  obtain ⟨n, hl⟩ : ∃ n : Nat, c.len f = n := ⟨(c.len f).toNat, by omega⟩
  have hpn : p + n ≤ s.n := by omega
  have cg : Hid (∀ o, Calls Try.prog 14 #[.agg #[.slice ai c.ni k1, .slice af c.nf k2, .slice as' c.ns k3]] (w.alloc o) fun e w' => e = .returned (.bool false) ∧ Below (w.alloc o).heap.size (w.alloc o) w') := fun o =>
    says_no (great_any ai af as' k1 k2 k3 c (w.alloc o) (hc.out.up ((Below.refl _ _).alloc (Nat.le_refl _) _))) hg
  have ch : Hid (∀ w', Below w.heap.size w w' → Calls Try.prog 15 #[.agg #[.slice ai c.ni k1, .slice af c.nf k2, .slice as' c.ns k3], .int .i64 f, .slice sa s.n k4] w' (HintsOk s p n w')) := fun w' hb =>
    hints_ok ai af as' sa k1 k2 k3 k4 c f s w' (hc.out.up hb) hg hn ⟨m1, m2, m3, m4⟩ ((hs.out.below hb).more hb.size) hf p n hp hl hpn
  have cr : Hid (∀ w', Below w.heap.size w w' → Calls Try.prog 16 #[.agg #[.slice ai c.ni k1, .slice af c.nf k2, .slice as' c.ns k3]] w' fun e w'' => e = .returned (.bool true) ∧ Below w'.heap.size w' w'') := fun w' hb =>
    says_yes (may_ref_any ai af as' k1 k2 k3 c w' (hc.out.up hb) hg) ⟨m1, m2, m3, m4⟩
  have hn1 : ((s.n : Int) != (c.ni : Int)) = false := by simp [hn]
  have hcap := hs.out.cap
  have hbig := hs.out.big
  have e1 : decide ((f : Int) < 0) = false := by simp
  have e2 : decide (c.nf ≤ f) = false := by simp; omega
  have hsn : s.n ≤ 1500 := by omega
  clear m1 m2 m3 m4 a1 a2 a3 sl hn
  unfold LawAll
  go_enter Try.func6, Try.ntmps6
  go_wp2_with fail
  refine (cg.out _).mono ?_
  rintro e w1 ⟨rfl, hb⟩
  obtain ⟨q0, q1, q2, z1, hw1⟩ := box3 (b := w.heap.size) (c0 := some (.slice ai c.ni k1)) (c1 := some (.slice af c.nf k2)) (c2 := some (.slice as' c.ns k3)) hb ((Below.refl _ _).alloc (Nat.le_refl _) _) (by simp) (by go_simp) (by go_simp) (by go_simp)
  clear hb cg
  go_wp2_with fail
  refine (ch.out _ hw1).mono ?_
  rintro e w2 ⟨v, base, rfl, hbase, hown, hb⟩
  obtain ⟨q0, q1, q2, z1, hw2⟩ := box3 hb hw1 z1 q0 q1 q2
  clear hb ch hw1
  go_wp2_with fail
  refine (cr.out _ hw2).mono ?_
  rintro e w3 ⟨rfl, hb⟩
  obtain ⟨q0, q1, q2, z1, hw3⟩ := box3 hb hw2 z1 q0 q1 q2
  have hown := ownsRow_below hown hb
  clear hb cr hw2
  obtain ⟨b, off, rfl, hbN, c0, c1, c2, c3, c4⟩ := (hc.out.below hw3).fns f hf
  rw [hp] at c0
  rw [hl] at c1
  clear hp hl hc
  rcases hown.2 with ⟨rfl, rfl⟩ | ⟨g, cap, cur, rfl, hbg, hcur, hnc, hcm, hsz, htake⟩
  · go_wp2_with fail
    refine wp_loop_rounds 1 ?_
    rw [rounds_succ]
    go_wp2_with fail
    refine (awake_any _).mono ?_
    rintro e w5 ⟨rfl, hb2⟩
    go_wp2
    go_ret
    exact ⟨rfl, (hw3.alloc hw3.size _).trans (hb2.mono (by have := hw3.size; simp; omega))⟩
  · go_wp2_with fail
    have hb4 : Below w3.heap.size w3 (w3.alloc (.cells #[.int .i64 p, .int .i64 n, .int .i64 (c.par f), .int .i64 (c.slo f), .int .i64 (c.res f)] 48)) := (Below.refl _ _).alloc (Nat.le_refl _) _
    have y0 : (w3.alloc (.cells #[.int .i64 p, .int .i64 n, .int .i64 (c.par f), .int .i64 (c.slo f), .int .i64 (c.res f)] 48)).cell? ⟨w3.heap.size, 0, none⟩ = some (.int .i64 p) := by go_simp
    have y1 : (w3.alloc (.cells #[.int .i64 p, .int .i64 n, .int .i64 (c.par f), .int .i64 (c.slo f), .int .i64 (c.res f)] 48)).cell? ⟨w3.heap.size, 1, none⟩ = some (.int .i64 n) := by go_simp
    have z4 : w3.heap.size < (w3.alloc (.cells #[.int .i64 p, .int .i64 n, .int .i64 (c.par f), .int .i64 (c.slo f), .int .i64 (c.res f)] 48)).heap.size := by simp
    generalize w3.alloc (.cells #[.int .i64 p, .int .i64 n, .int .i64 (c.par f), .int .i64 (c.slo f), .int .i64 (c.res f)] 48) = w4 at *
    have hw4 : Below w.heap.size w w4 := hw3.trans (hb4.mono hw3.size)
    have Hown := Lib.hid hown
    have hgl : g < w3.heap.size := (hown.lt g rfl).2
    clear hown c0 c1 c2 c3 c4 q0 q1 q2 hcur hsz htake
    go_loopw [10] (fun i wr => ∃ j : Nat, j ≤ n ∧ i = .int .i64 j ∧ Below w4.heap.size w4 wr) (fun i _ => n - (intOf i).toNat)
    case atStart => exact ⟨0, Nat.zero_le _, rfl, Below.refl _ _⟩
    case round =>
      obtain ⟨j, hj, rfl, hbr⟩ := hrel
      have u0 := (hbr.cell (p := ⟨w3.heap.size, 0, none⟩) z4).trans y0
      have u1 := (hbr.cell (p := ⟨w3.heap.size, 1, none⟩) z4).trans y1
      have zr : w3.heap.size < wr.heap.size := by have := hbr.size; omega
      have hw5 : Below w.heap.size w wr := hw4.trans (hbr.mono hw4.size)
      clear y0 y1
      by_cases hjn : j < n
      · obtain ⟨b2, off2, rfl, hbN2, d0, d1, d2, d3, ⟨l0, l1⟩, r0, r1⟩ := (hs.out.below hw5).cells (p + j) (by omega)
        obtain ⟨g0, g1, g2⟩ := hcells_at s p n j hjn
        have hb5 : Below w3.heap.size w3 wr := hb4.trans (hbr.mono hb4.size)
        have t0 := (hb5.cell (p := ⟨g, j * 3, none⟩) hgl).trans ((Hown.out.cellAt (j * 3) (by omega)).trans g0)
        have t1 := (hb5.cell (p := ⟨g, j * 3 + 1, none⟩) hgl).trans ((Hown.out.cellAt (j * 3 + 1) (by omega)).trans g1)
        have t2 := (hb5.cell (p := ⟨g, j * 3 + 2, none⟩) hgl).trans ((Hown.out.cellAt (j * 3 + 2) (by omega)).trans g2)
        have zb2 : b2 < wr.heap.size := by have := hw5.size; omega
        have zg : g < wr.heap.size := by omega
        have cH : Hid (∀ w, Calls Try.prog 8 #[.agg #[.int .u8 (s.l (p + j)), .int .u8 (s.r (p + j)), .int .i64 (s.y (p + j)), .int .i64 (s.no (p + j))]] w fun e w' => e = .returned (.agg #[.int .u8 (kd (s.l (p + j))), .int .u8 (kd (s.r (p + j))), .int .i64 (way (s.y (p + j)) (s.no (p + j)))]) ∧ Below w.heap.size w w') := fun w => hint_ref _ _ _ _ w l0 l1 r0 r1
        clear g0 g1 g2 hb5 l0 l1 r0 r1
        generalize kd (s.l (p + j)) = K at *
        generalize kd (s.r (p + j)) = R at *
        generalize way (s.y (p + j)) (s.no (p + j)) = Y at *
        generalize s.l (p + j) = L0 at *
        generalize s.r (p + j) = R0 at *
        generalize s.y (p + j) = Y0 at *
        generalize s.no (p + j) = N0 at *
        have i1 : (j : Int) < (n : Int) := by omega
        have i2 : (0 : Int) ≤ (p : Int) + (j : Int) := by omega
        have i3 : (p : Int) + (j : Int) < (s.n : Int) := by omega
        have i4 : ((p : Int) + (j : Int)).toNat = p + j := by omega
        have i5 : IntKind.i64.wrap ((p : Int) + (j : Int)) = (p : Int) + (j : Int) := IntWalk.i64_in _ (by omega)
        go_wp2_with fail
        go_region_held3 (fun w' => w'.cell? ⟨g, j * 3, none⟩ = some (.int .u8 K) ∧ w'.cell? ⟨g, j * 3 + 1, none⟩ = some (.int .u8 R) ∧ w'.cell? ⟨g, j * 3 + 2, none⟩ = some (.int .i64 Y) ∧ w'.cell? ⟨b2, off2 + (p + j) * 4, none⟩ = some (.int .u8 L0) ∧ w'.cell? ⟨b2, off2 + (p + j) * 4 + 1, none⟩ = some (.int .u8 R0) ∧ w'.cell? ⟨b2, off2 + (p + j) * 4 + 2, none⟩ = some (.int .i64 Y0) ∧ w'.cell? ⟨b2, off2 + (p + j) * 4 + 3, none⟩ = some (.int .i64 N0) ∧ w'.cell? ⟨w3.heap.size, 0, none⟩ = some (.int .i64 p) ∧ Below wr.heap.size wr w')
          (first | exact keepAll t0 t1 t2 d0 d1 d2 d3 u0 zg zb2 zr (Below.refl _ _).drew | exact keepAll t0 t1 t2 d0 d1 d2 d3 u0 zg zb2 zr ((Below.refl _ _).drew.trans (by assumption)))
          (first | (go_at_call 8; (with_reducible refine (cH.out _).mono ?_); rintro e w' ⟨rfl, hb⟩))
        rename_i hS
        have hbS := hS.2.2.2.2.2.2.2.2
        clear hS i5 i4 i3 i2
        go_wp2_with fail
        go_roundw
        case rel => exact ⟨j + 1, by omega, by go_num, hbr.trans (hbS.mono hbr.size)⟩
        case measure => simp [intOf]; omega
      · go_wp2_with fail
        refine (awake_any _).mono ?_
        rintro e w5 ⟨rfl, hb2⟩
        go_wp2
        go_ret
        exact ⟨rfl, hw5.trans (hb2.mono hw5.size)⟩
end
end Go.Proofs.Ytbfmflfhgpipgaa
