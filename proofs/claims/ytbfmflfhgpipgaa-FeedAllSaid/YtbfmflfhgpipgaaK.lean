import Derived.Test.YtbfmflfhgpipgaaJ
namespace Go.Proofs.Ytbfmflfhgpipgaa
open Go.RowKit

set_option maxRecDepth 100000 in
set_option maxHeartbeats 8000000 in
theorem may_any (ai af as' : Option Addr) (k1 k2 k3 : Nat) (c : CodeD) (w : World) (hc : Hid (CodeAt w w.heap.size ai af as' c)) (hg : Hid (¬ GreatP c)) :
    Calls Try.prog 23 #[.agg #[.slice ai c.ni k1, .slice af c.nf k2, .slice as' c.ns k3]] w (Says (MayP c) w.heap.size w) := by
  have bi : c.ni ≤ 1500 := by have := hg.out; unfold GreatP at this; omega
  have bf : c.nf ≤ 150 := by have := hg.out; unfold GreatP at this; omega
  have bs : c.ns ≤ 200 := by have := hg.out; unfold GreatP at this; omega
  by_cases h1 : 100 < c.nf
  · go_enter Try.func23, Try.ntmps23
    go_wp2
    go_ret
    exact ⟨false, rfl, iff_of_false (by simp) (fun h => by have := h.1; omega), (Below.refl _ _).alloc (Nat.le_refl _) _⟩
  have h1' : decide (100 < (c.nf : Int)) = false := by simp; omega
  go_enter Try.func23, Try.ntmps23
  go_wp2_with fail
  have hb0 : Below w.heap.size w (w.alloc (.cells #[.slice ai c.ni k1, .slice af c.nf k2, .slice as' c.ns k3] 40)) := (Below.refl _ _).alloc (Nat.le_refl _) _
  have g0 : (w.alloc (.cells #[.slice ai c.ni k1, .slice af c.nf k2, .slice as' c.ns k3] 40)).cell? ⟨w.heap.size, 0, none⟩ = some (.slice ai c.ni k1) := by go_simp
  have g1 : (w.alloc (.cells #[.slice ai c.ni k1, .slice af c.nf k2, .slice as' c.ns k3] 40)).cell? ⟨w.heap.size, 1, none⟩ = some (.slice af c.nf k2) := by go_simp
  have g2 : (w.alloc (.cells #[.slice ai c.ni k1, .slice af c.nf k2, .slice as' c.ns k3] 40)).cell? ⟨w.heap.size, 2, none⟩ = some (.slice as' c.ns k3) := by go_simp
  have gs : (w.alloc (.cells #[.slice ai c.ni k1, .slice af c.nf k2, .slice as' c.ns k3] 40)).heap.size = w.heap.size + 1 := by simp
  generalize w.alloc (.cells #[.slice ai c.ni k1, .slice af c.nf k2, .slice as' c.ns k3] 40) = w1 at *
  have Gs := Lib.hid gs
  have zw : w.heap.size < w1.heap.size := by omega
  clear gs
  go_loopw [3, 5, 30] (fun a _ i wr => ∃ k : Nat, k ≤ c.nf ∧ i = .int .i64 k ∧ a = .int .i64 (c.sum k) ∧ Hid (∀ j, j < k → FnOk c j) ∧ Below w1.heap.size w1 wr) (fun _ _ i _ => c.nf - (intOf i).toNat)
  case atStart => exact ⟨0, Nat.zero_le _, rfl, rfl, fun j hj => absurd hj (Nat.not_lt_zero _), Below.refl _ _⟩
  case round =>
    obtain ⟨k, hk, rfl, rfl, hall, hb⟩ := hrel
    have r0 := (hb.cell (p := ⟨w.heap.size, 0, none⟩) zw).trans g0
    have r1 := (hb.cell (p := ⟨w.heap.size, 1, none⟩) zw).trans g1
    have r2 := (hb.cell (p := ⟨w.heap.size, 2, none⟩) zw).trans g2
    have zr : w.heap.size < wr.heap.size := by have := hb.size; omega
    obtain ⟨sl, sh⟩ := sum_ok c k hall.out
    by_cases hlt : k < c.nf
    · have hcr := hc.out.below (hb0.trans (hb.mono (by omega)))
      obtain ⟨b, off, rfl, hbN, c0, c1, c2, c3, c4⟩ := hcr.fns k hlt
      clear hcr g0 g1 g2
      have hS : Hid (c.sum (k + 1) = c.sum k + c.len k) := rfl
      by_cases hok : FnOk c k
      · obtain ⟨a1, a2, a3, a4, a5, a6, a7, a8⟩ := hok
        have hall' : Hid (∀ j, j < k + 1 → FnOk c j) := fun j hj => by
          by_cases e : j = k
          · subst e; exact ⟨a1, a2, a3, a4, a5, a6, a7, a8⟩
          · exact hall.out j (by omega)
        have a1' : (c.at' k != c.sum k) = false := by simp [a1]
        clear a1 hall
        generalize c.at' k = A at *
        generalize c.len k = L at *
        generalize c.par k = P' at *
        generalize c.slo k = S' at *
        generalize c.res k = R at *
        generalize c.sum k = S at *
        go_wp2
        go_roundw
        case rel => exact ⟨k + 1, by omega, by go_num, by rw [hS.out], hall', (hb.alloc hb.size _)⟩
        case measure => simp [intOf]; omega
      · have hno : Hid (¬ FnOk c k) := hok
        have hno2 : Hid (c.at' k = c.sum k → 0 ≤ c.len k → c.len k ≤ (c.ni : Int) - c.sum k → 0 ≤ c.par k → c.par k ≤ c.slo k → c.slo k ≤ 200 → 0 ≤ c.res k → c.res k ≤ 1 → False) := fun a1 a2 a3 a4 a5 a6 a7 a8 => hok ⟨a1, a2, a3, a4, a5, a6, a7, a8⟩
        clear hok hall
        generalize c.at' k = A at *
        generalize c.len k = L at *
        generalize c.par k = P' at *
        generalize c.slo k = S' at *
        generalize c.res k = R at *
        generalize c.sum k = S at *
        go_wp2
        all_goals first
          | (exfalso; exact hno2.out (by omega) (by omega) (by omega) (by omega) (by omega) (by omega) (by omega) (by omega))
          | (go_ret; exact ⟨false, rfl, iff_of_false (by simp) (fun h => hno.out (h.2.1 k hlt)), hb0.trans ((hb.alloc hb.size _).mono (by omega))⟩)
    · obtain rfl : k = c.nf := by omega
      by_cases hsum : c.sum c.nf = c.ni
      · have hs1 : (c.sum c.nf != (c.ni : Int)) = false := by simp [hsum]
        have Hsum := Lib.hid hsum
        clear hsum g0 g1 g2
        generalize hG : c.sum c.nf = G at *
        have HG := Lib.hid hG
        clear hG
        obtain ⟨wo, rfl⟩ : ∃ wo : World, wo = wr := ⟨_, rfl⟩
        go_wp2_with fail
        go_loopw [7, 93] (fun _ i wq => ∃ j : Nat, j ≤ c.ni ∧ i = .int .i64 j ∧ Hid (∀ i, i < j → InsOk c i) ∧ Below wo.heap.size wo wq) (fun _ i _ => c.ni - (intOf i).toNat)
        case atStart => exact ⟨0, Nat.zero_le _, rfl, fun j hj => absurd hj (Nat.not_lt_zero _), Below.refl _ _⟩
        case round =>
          obtain ⟨j, hj, rfl, hins, hbo⟩ := hrel
          have q0 := (hbo.cell (p := ⟨w.heap.size, 0, none⟩) zr).trans r0
          have q1 := (hbo.cell (p := ⟨w.heap.size, 1, none⟩) zr).trans r1
          have q2 := (hbo.cell (p := ⟨w.heap.size, 2, none⟩) zr).trans r2
          have zq : w.heap.size < wr.heap.size := by have := hbo.size; omega
          have hbw : Below w.heap.size w wr := hb0.trans ((hb.mono (by omega)).trans (hbo.mono (by omega)))
          clear r0 r1 r2
          by_cases hjn : j < c.ni
          · obtain ⟨b, off, rfl, hbN, c0, c1, c2, o0, o1⟩ := (hc.out.below hbw).ins j hjn
            by_cases hok : InsOk c j
            · have hins' : Hid (∀ i, i < j + 1 → InsOk c i) := fun i hi => by
                by_cases e : i = j
                · subst e; exact hok
                · exact hins.out i (by omega)
              obtain ⟨a1, a2, a3, a4⟩ := hok
              clear hins
              generalize c.op j = O at *
              generalize c.ln j = L at *
              generalize c.a j = A at *
              go_wp2
              go_roundw
              case rel => exact ⟨j + 1, by omega, by go_num, hins', (hbo.alloc hbo.size _)⟩
              case measure => simp [intOf]; omega
            · have hno : Hid (¬ InsOk c j) := hok
              have hno2 : Hid (1 ≤ c.op j → c.op j ≤ 26 → 0 ≤ c.ln j → c.ln j ≤ 2147483647 → False) := fun a1 a2 a3 a4 => hok ⟨a1, a2, a3, a4⟩
              clear hok hins
              generalize c.op j = O at *
              generalize c.ln j = L at *
              generalize c.a j = A at *
              go_wp2
              all_goals first
                | (exfalso; exact hno2.out (by omega) (by omega) (by omega) (by omega))
                | (go_ret; exact ⟨false, rfl, iff_of_false (by simp) (fun h => hno.out (h.2.2.2 j hjn)), hbw.alloc hbw.size _⟩)
          · obtain rfl : j = c.ni := by omega
            obtain ⟨wp, rfl⟩ : ∃ wp : World, wp = wr := ⟨_, rfl⟩
            go_wp2_with fail
            go_loopw [8, 10, 119] (fun l _ i wq => ∃ (k : Nat) (v : Int), k ≤ c.ns ∧ i = .int .i64 k ∧ l = .int .i64 v ∧ 1048576 - 300 * (k : Int) ≤ v ∧ v ≤ 1048576 ∧ Below wp.heap.size wp wq) (fun _ _ i _ => c.ns - (intOf i).toNat)
            case atStart => exact ⟨0, 1048576, Nat.zero_le _, rfl, rfl, by omega, by omega, Below.refl _ _⟩
            case round =>
              obtain ⟨k, v, hk', rfl, rfl, hv1, hv2, hbp⟩ := hrel
              have p2 := (hbp.cell (p := ⟨w.heap.size, 2, none⟩) zq).trans q2
              have hbz : Below w.heap.size w wr := hbw.trans (hbp.mono (by omega))
              clear q0 q1 q2
              by_cases hkn : k < c.ns
              · obtain ⟨b, off, s, rfl, hbN, c0, c1, c2⟩ := (hc.out.below hbz).strs k hkn
                have hsz : s.size ≤ 300 := by
                  have := hg.out
                  unfold GreatP at this
                  have h4 : ¬ 300 < c.sz k := fun h => this (.inr (.inr (.inr ⟨k, hkn, h⟩)))
                  omega
                clear c1
                go_wp2
                go_roundw
                case rel => exact ⟨k + 1, _, by omega, by go_num, rfl, by omega, by omega, hbp⟩
                case measure => simp [intOf]; omega
              · go_wp2
                go_ret
                exact ⟨true, rfl, iff_of_true rfl ⟨by omega, hall.out, by rw [HG.out, Hsum.out], hins.out⟩, hbz⟩
      · have hs1 : (c.sum c.nf != (c.ni : Int)) = true := by simp [hsum]
        have Hsum : Hid (¬ c.sum c.nf = c.ni) := hsum
        clear hsum g0 g1 g2 hall
        generalize hG : c.sum c.nf = G at *
        have HG := Lib.hid hG
        clear hG
        go_wp2
        go_ret
        exact ⟨false, rfl, iff_of_false (by simp) (fun h => Hsum.out (by rw [← HG.out]; exact h.2.2.1)), hb0.trans (hb.mono (by omega))⟩
end Go.Proofs.Ytbfmflfhgpipgaa
