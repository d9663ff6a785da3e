import Derived.Test.YtbfmflfhgpipgaaC
import Derived.Test.YtbfmflfhgpipgaaM4
namespace Go.Proofs.Ytbfmflfhgpipgaa
open Go.RowKit

/-- What the walk is told of a code that came in: each part's cells, all below block N. -/
structure CodeAt (w : World) (N : Nat) (ai af as' : Option Addr) (c : CodeD) : Prop where
  ins : ∀ j, j < c.ni → ∃ b off, ai = some ⟨b, off, none⟩ ∧ b < N ∧ w.cell? ⟨b, off + j * 3, none⟩ = some (.int .u8 (c.op j)) ∧ w.cell? ⟨b, off + j * 3 + 1, none⟩ = some (.int .i64 (c.a j)) ∧ w.cell? ⟨b, off + j * 3 + 2, none⟩ = some (.int .i64 (c.ln j)) ∧ 0 ≤ c.op j ∧ c.op j ≤ 255
  fns : ∀ i, i < c.nf → ∃ b off, af = some ⟨b, off, none⟩ ∧ b < N ∧ w.cell? ⟨b, off + i * 5, none⟩ = some (.int .i64 (c.at' i)) ∧ w.cell? ⟨b, off + i * 5 + 1, none⟩ = some (.int .i64 (c.len i)) ∧ w.cell? ⟨b, off + i * 5 + 2, none⟩ = some (.int .i64 (c.par i)) ∧ w.cell? ⟨b, off + i * 5 + 3, none⟩ = some (.int .i64 (c.slo i)) ∧ w.cell? ⟨b, off + i * 5 + 4, none⟩ = some (.int .i64 (c.res i))
  strs : ∀ k, k < c.ns → ∃ b off s, as' = some ⟨b, off, none⟩ ∧ b < N ∧ w.cell? ⟨b, off + k, none⟩ = some (.string s) ∧ s.size = c.sz k ∧ s.size ≤ 9223372036854775807
  bi : c.ni ≤ 9223372036854775807
  bf : c.nf ≤ 9223372036854775807
  bs : c.ns ≤ 9223372036854775807

theorem CodeAt.below {w w' : World} {N : Nat} {ai af as' : Option Addr} {c : CodeD} (h : CodeAt w N ai af as' c) (hb : Below N w w') : CodeAt w' N ai af as' c where
  ins := fun j hj => by
    obtain ⟨b, off, e, hN, h1, h2, h3, h4⟩ := h.ins j hj
    exact ⟨b, off, e, hN, (hb.cell (p := ⟨b, _, none⟩) hN).trans h1, (hb.cell (p := ⟨b, _, none⟩) hN).trans h2, (hb.cell (p := ⟨b, _, none⟩) hN).trans h3, h4⟩
  fns := fun j hj => by
    obtain ⟨b, off, e, hN, h1, h2, h3, h4, h5⟩ := h.fns j hj
    exact ⟨b, off, e, hN, (hb.cell (p := ⟨b, _, none⟩) hN).trans h1, (hb.cell (p := ⟨b, _, none⟩) hN).trans h2, (hb.cell (p := ⟨b, _, none⟩) hN).trans h3, (hb.cell (p := ⟨b, _, none⟩) hN).trans h4, (hb.cell (p := ⟨b, _, none⟩) hN).trans h5⟩
  strs := fun j hj => by
    obtain ⟨b, off, s, e, hN, h1, h2⟩ := h.strs j hj
    exact ⟨b, off, s, e, hN, (hb.cell (p := ⟨b, _, none⟩) hN).trans h1, h2⟩
  bi := h.bi
  bf := h.bf
  bs := h.bs

/-- It says whether p; what was there below N is as it was. -/
def Says (p : Prop) (N : Nat) (w : World) : Ending → World → Prop := fun e w' => ∃ t : Bool, e = .returned (.bool t) ∧ (t = true ↔ p) ∧ Below N w w'

set_option maxHeartbeats 2000000 in
theorem great_any (ai af as' : Option Addr) (k1 k2 k3 : Nat) (c : CodeD) (w : World) (hc : Hid (CodeAt w w.heap.size ai af as' c)) :
    Calls Try.prog 14 #[.agg #[.slice ai c.ni k1, .slice af c.nf k2, .slice as' c.ns k3]] w (Says (GreatP c) w.heap.size w) := by
  have bi := hc.out.bi
  have bf := hc.out.bf
  have bs := hc.out.bs
  by_cases h1 : 1500 < c.ni
  · go_enter Try.func14, Try.ntmps14
    go_wp2
    go_ret
    exact ⟨true, rfl, by simp [GreatP, h1], (Below.refl _ _).alloc (Nat.le_refl _) _⟩
  by_cases h2 : 150 < c.nf
  · go_enter Try.func14, Try.ntmps14
    go_wp2
    go_ret
    exact ⟨true, rfl, by simp [GreatP, h2], (Below.refl _ _).alloc (Nat.le_refl _) _⟩
  by_cases h3 : 200 < c.ns
  · go_enter Try.func14, Try.ntmps14
    go_wp2
    go_ret
    exact ⟨true, rfl, by simp [GreatP, h3], (Below.refl _ _).alloc (Nat.le_refl _) _⟩
  go_enter Try.func14, Try.ntmps14
  go_wp2
  go_loop [3, 23] (fun _ i => ∃ k : Nat, k ≤ c.ns ∧ i = .int .i64 k ∧ Hid (∀ j, j < k → c.sz j ≤ 300)) (fun _ i => c.ns - (intOf i).toNat)
  case atStart => exact ⟨0, Nat.zero_le _, rfl, fun j hj => absurd hj (Nat.not_lt_zero _)⟩
  case round =>
    obtain ⟨k, hk, rfl, hall⟩ := hrel
    by_cases hlt : k < c.ns
    · obtain ⟨b, off, s, rfl, hb, hcell, hs, hs2⟩ := hc.out.strs k hlt
      have hs' := Lib.hid hs
      clear hs
      go_wp2
      · go_ret
        exact ⟨true, rfl, iff_of_true rfl (.inr (.inr (.inr ⟨k, hlt, by have := hs'.out; omega⟩))), (Below.refl _ _).alloc (Nat.le_refl _) _⟩
      · go_round
        case rel =>
          refine ⟨k + 1, by omega, by go_num, fun j hj => ?_⟩
          by_cases e : j = k
          · subst e; have := hs'.out; omega
          · exact hall.out j (by omega)
        case measure => simp [intOf]; omega
    · go_wp2
      go_ret
      refine ⟨false, rfl, iff_of_false (by simp) (fun hg => ?_), (Below.refl _ _).alloc (Nat.le_refl _) _⟩
      rcases hg with h | h | h | ⟨j, hj, h⟩
      · exact h1 h
      · exact h2 h
      · exact h3 h
      · have := hall.out j (by omega)
        omega

end Go.Proofs.Ytbfmflfhgpipgaa
