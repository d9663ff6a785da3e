import Derived.Test.YtbfmflfhgpipgaaC
import Derived.Test.YtbfmflfhgpipgaaM2
namespace Go.Proofs.Ytbfmflfhgpipgaa
open Go.RowKit

/-- What the walk is told of a slice of ints that came in: each element's cell. -/
def RowAt (w : World) (a : Option Addr) (n : Nat) (zs : List Int) : Prop := ∀ j, j < n → ∃ b off, a = some ⟨b, off, none⟩ ∧ w.cell? ⟨b, off + j, none⟩ = some (.int .i64 (zs.getD j 0))

/-- The index's contract: whether it is below 0 says whether it is there. -/
def IdxPost (zs : List Int) (n : Nat) (x : Int) (w : World) : Ending → World → Prop := fun e w' => ∃ r : Int, e = .returned (.int .i64 r) ∧ decide (0 ≤ r) = inB zs n x ∧ w = w'

set_option maxHeartbeats 1000000 in
theorem index_any (a : Option Addr) (n c : Nat) (zs : List Int) (x : Int) (w : World) (hbig : n ≤ 9223372036854775807) (hr : Hid (RowAt w a n zs)) :
    Calls Try.prog 26 #[.slice a n c, .int .i64 x] w (IdxPost zs n x w) := by
  go_enter Try.func26, Try.ntmps26
  go_wp2
  go_loop [5, 8] (fun _ i => ∃ k : Nat, k ≤ n ∧ i = .int .i64 k ∧ Hid (∀ j, j < k → zs.getD j 0 ≠ x)) (fun _ i => n - (intOf i).toNat)
  case atStart => exact ⟨0, Nat.zero_le _, rfl, fun j hj => absurd hj (Nat.not_lt_zero _)⟩
  case round =>
    obtain ⟨k, hk, rfl, hne⟩ := hrel
    by_cases hlt : k < n
    · obtain ⟨b, off, rfl, hcell⟩ := hr.out k hlt
      generalize hz : zs.getD k 0 = z at hcell
      have Hz := Lib.hid hz
      clear hz
      by_cases he : x = z
      · have he1 : (x == z) = true := by simpa using he
        have He := Lib.hid he
        clear he
        go_wp2
        go_ret
        exact ⟨_, rfl, by rw [inB_hit k hlt (Hz.out.trans He.out.symm)]; simp, rfl⟩
      · have he1 : (x == z) = false := by simpa using he
        have He := Lib.hid he
        clear he
        go_wp2
        go_round
        case rel =>
          refine ⟨k + 1, by omega, by go_num, fun j hj => ?_⟩
          by_cases e : j = k
          · subst e; intro h; exact He.out (h.symm.trans Hz.out)
          · exact hne.out j (by omega)
        case measure => simp [intOf]; omega
    · go_wp2
      go_ret
      exact ⟨_, rfl, by rw [inB_miss (fun j hj => hne.out j (by omega))]; simp, rfl⟩

theorem contains_any (a : Option Addr) (n c : Nat) (zs : List Int) (x : Int) (w : World) (hbig : n ≤ 9223372036854775807) (hr : Hid (RowAt w a n zs)) :
    Calls Try.prog 22 #[.slice a n c, .int .i64 x] w fun e w' => e = .returned (.bool (inB zs n x)) ∧ w = w' := by
  go_enter Try.func22, Try.ntmps22
  go_wp2_with fail
  refine (index_any a n c zs x _ hbig hr).mono ?_
  rintro e w' ⟨r, rfl, he, rfl⟩
  have He := Lib.hid he
  clear he
  go_wp2
  go_ret
  exact ⟨by rw [← He.out]; rfl, rfl⟩

set_option maxHeartbeats 1000000 in
theorem hot_any (a d : Option Addr) (n m c e : Nat) (zs bs : List Int) (f : Int) (w : World) (hbig : n ≤ 9223372036854775807) (hbig2 : m ≤ 9223372036854775807) (hr : Hid (RowAt w a n zs)) (hs : Hid (RowAt w d m bs)) :
    Calls Try.prog 12 #[.slice a n c, .int .i64 f, .slice d m e] w fun e w' => e = .returned (.tuple #[.int .i64 (max (hot zs bs n m f) 0), .bool (decide (0 ≤ hot zs bs n m f))]) ∧ w = w' := by
  by_cases hf : f < 1
  · have hh := Lib.hid (hot_low (zs := zs) (bs := bs) (n := n) (m := m) hf)
    go_enter Try.func12, Try.ntmps12
    go_wp2
    go_ret2
    rw [hh.out]
    exact ⟨rfl, rfl⟩
  · go_enter Try.func12, Try.ntmps12
    go_wp2_with fail
    go_loop [8, 9, 14] (fun _ _ i => ∃ k : Nat, k ≤ n ∧ i = .int .i64 k ∧ Hid (∀ j, j < k → good zs bs m f j = false)) (fun _ _ i => n - (intOf i).toNat)
    case atStart => exact ⟨0, Nat.zero_le _, rfl, fun j hj => absurd hj (Nat.not_lt_zero _)⟩
    case round =>
      obtain ⟨k, hk, rfl, hne⟩ := hrel
      by_cases hlt : k < n
      · obtain ⟨b, off, rfl, hcell⟩ := hr.out k hlt
        have hg : Hid (good zs bs m f k = (decide (f ≤ zs.getD k 0) && !inB bs m k)) := rfl
        generalize hz : zs.getD k 0 = z at hcell hg
        have Hz := Lib.hid hz
        clear hz
        have cin : Hid (∀ w', w = w' → Calls Try.prog 22 #[.slice d m e, .int .i64 k] w' fun e w' => e = .returned (.bool (inB bs m k)) ∧ w = w') := fun w' h => by
          subst h; exact contains_any d m e bs k w hbig2 hs
        generalize inB bs m k = q at cin hg
        by_cases he : f ≤ z
        · cases q with
          | true =>
            have Hg : Hid (good zs bs m f k = false) := by rw [Hid] at *; rw [hg]; simp
            clear hg
            go_wp2_with (go_at_call 22; (with_reducible refine (cin.out _ rfl).mono ?_); rintro e w' ⟨rfl, rfl⟩)
            go_round
            case rel =>
              refine ⟨k + 1, by omega, by go_num, fun j hj => ?_⟩
              by_cases e : j = k
              · subst e; exact Hg.out
              · exact hne.out j (by omega)
            case measure => simp [intOf]; omega
          | false =>
            have Hg : Hid (good zs bs m f k = true) := by rw [Hid] at *; rw [hg]; simp [he]
            clear hg
            have hh := Lib.hid (hot_hit (by omega) hlt Hg.out hne.out)
            go_wp2_with (go_at_call 22; (with_reducible refine (cin.out _ rfl).mono ?_); rintro e w' ⟨rfl, rfl⟩)
            go_ret2
            rw [hh.out]
            exact ⟨by simp, rfl⟩
        · have Hg : Hid (good zs bs m f k = false) := by rw [Hid] at *; rw [hg]; simp [he]
          clear hg
          go_wp2_with fail
          go_round
          case rel =>
            refine ⟨k + 1, by omega, by go_num, fun j hj => ?_⟩
            by_cases e : j = k
            · subst e; exact Hg.out
            · exact hne.out j (by omega)
          case measure => simp [intOf]; omega
      · have hh := Lib.hid (hot_miss (f := f) (zs := zs) (bs := bs) (n := n) (m := m) (fun j hj => hne.out j (by omega)))
        go_wp2_with fail
        go_ret2
        rw [hh.out]
        exact ⟨rfl, rfl⟩

set_option maxHeartbeats 4000000 in
theorem hot_ref (a d : Option Addr) (n m c e : Nat) (zs bs : List Int) (f : Int) (w : World) (hbig : n ≤ 9223372036854775807) (hbig2 : m ≤ 9223372036854775807) (hr : Hid (RowAt w a n zs)) (hs : Hid (RowAt w d m bs)) :
    Calls Try.prog 13 #[.slice a n c, .int .i64 f, .slice d m e] w fun e w' => e = .returned (.int .i64 (hot zs bs n m f)) ∧ w = w' := by
  go_enter Try.func13, Try.ntmps13
  go_wp2_with fail
  go_loop [7, 8, 12] (fun _ _ i => ∃ k : Nat, k ≤ n ∧ i = .int .i64 k ∧ Hid (1 ≤ f → ∀ j, j < k → good zs bs m f j = false)) (fun _ _ i => n - (intOf i).toNat)
  case atStart => exact ⟨0, Nat.zero_le _, rfl, fun _ j hj => absurd hj (Nat.not_lt_zero _)⟩
  case round =>
    obtain ⟨k, hk, rfl, hne⟩ := hrel
    by_cases hlt : k < n
    · go_wp2_with fail
      go_loop [8, 9, 17] (fun o _ i => ∃ j : Nat, j ≤ m ∧ i = .int .i64 j ∧ o = .bool (inB bs j k)) (fun _ _ i => m - (intOf i).toNat)
      case atStart => exact ⟨0, Nat.zero_le _, rfl, rfl⟩
      case round =>
        obtain ⟨j, hj, rfl, rfl⟩ := hrel
        by_cases hjm : j < m
        · obtain ⟨b, off, rfl, hcell⟩ := hs.out j hjm
          have hq := Lib.hid (inB_succ bs j k)
          generalize bs.getD j 0 = y at hcell hq
          generalize inB bs j k = q at hq ⊢
          cases q with
          | true =>
            have hq2 : Hid (inB bs (j + 1) k = true) := by rw [Hid, hq.out]; rfl
            clear hq
            go_wp2_with fail
            go_round
            case rel => exact ⟨j + 1, by omega, by go_num, by rw [hq2.out]⟩
            case measure => simp [intOf]; omega
          | false =>
            have hq2 : Hid (inB bs (j + 1) k = (y == (k : Int))) := by rw [Hid, hq.out]; rfl
            clear hq
            go_wp2_with fail
            go_round
            case rel => exact ⟨j + 1, by omega, by go_num, by rw [hq2.out]⟩
            case measure => simp [intOf]; omega
        · obtain rfl : j = m := by omega
          obtain ⟨b, off, rfl, hcell⟩ := hr.out k hlt
          have hg : Hid (good zs bs j f k = (decide (f ≤ zs.getD k 0) && !inB bs j k)) := rfl
          generalize zs.getD k 0 = z at hcell hg
          generalize inB bs j k = q at hg ⊢
          have cont : good zs bs j f k = false ∨ f < 1 → Hid (1 ≤ f → ∀ i, i < k + 1 → good zs bs j f i = false) := fun h hf i hi => by
            by_cases e : i = k
            · subst e; exact h.elim id (fun h => by omega)
            · exact hne.out hf i (by omega)
          cases q with
          | true =>
            have Hg := cont (.inl (by rw [hg.out]; simp))
            clear hg cont
            go_wp2_with fail
            go_round
            case rel => exact ⟨k + 1, by omega, by go_num, Hg⟩
            case measure => simp [intOf]; omega
          | false =>
            by_cases hf : f < 1
            · have Hg := cont (.inr hf)
              clear hg cont
              go_wp2_with fail
              go_round
              case rel => exact ⟨k + 1, by omega, by go_num, Hg⟩
              case measure => simp [intOf]; omega
            · by_cases hz : f ≤ z
              · have hh := Lib.hid (hot_hit hf hlt (by rw [hg.out]; simp [hz]) (hne.out (by omega)))
                clear hg cont
                go_wp2_with fail
                go_ret
                rw [hh.out]
                exact ⟨rfl, rfl⟩
              · have Hg := cont (.inl (by rw [hg.out]; simp [hz]))
                clear hg cont
                go_wp2_with fail
                go_round
                case rel => exact ⟨k + 1, by omega, by go_num, Hg⟩
                case measure => simp [intOf]; omega
    · have hh : Hid (hot zs bs n m f = -1) := by
        by_cases hf : f < 1
        · exact hot_low hf
        · exact hot_miss (fun j hj => hne.out (by omega) j (by omega))
      go_wp2_with fail
      go_ret
      rw [hh.out]
      exact ⟨rfl, rfl⟩
end Go.Proofs.Ytbfmflfhgpipgaa
