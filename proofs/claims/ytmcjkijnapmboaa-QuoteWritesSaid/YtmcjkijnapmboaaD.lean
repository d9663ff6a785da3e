import Derived.Test.YtmcjkijnapmboaaC
namespace Go.Proofs.Ytmcjkijnapmboaa
open Go.RowKit

/-- A digit's value; below 0: it is none. -/
def dgi (c : UInt8) : Int := if dg c = 16 then -1 else dg c

theorem digit_low : ∀ n : Fin 256, (65 ≤ n.val → n.val ≤ 70 → False) → Lib.indexByte [48, 49, 50, 51, 52, 53, 54, 55, 56, 57, 97, 98, 99, 100, 101, 102] (UInt8.ofNat n.val) = dgi (UInt8.ofNat n.val) := by decide +kernel
theorem digit_up : ∀ n : Fin 256, 65 ≤ n.val → n.val ≤ 70 → Lib.indexByte [48, 49, 50, 51, 52, 53, 54, 55, 56, 57, 97, 98, 99, 100, 101, 102] (UInt8.ofNat (n.val + 32)) = dgi (UInt8.ofNat n.val) := by decide +kernel

theorem ret_idx {a b : Int} {w : World} (h : a = b) : Ending.returned (.int .i64 a) = .returned (.int .i64 b) ∧ w = w := ⟨by rw [h], rfl⟩

theorem digit_any (c : UInt8) (w : World) : Calls Try.prog 21 #[.int .u8 (c.toNat : Int)] w fun e w' => e = .returned (.int .i64 (dgi c)) ∧ w = w' := by
  have b0 := c.toNat_lt
  have hc : UInt8.ofNat c.toNat = c := by simp
  by_cases h : 65 ≤ c.toNat ∧ c.toNat ≤ 70
  · obtain ⟨h1, h2⟩ := h
    have hd := Lib.hid (digit_up ⟨c.toNat, by omega⟩ h1 h2)
    simp only [hc] at hd
    clear hc
    generalize c.toNat = n at *
    go_enter Try.func21, Try.ntmps21
    go_wp2_with (go_at_call 23; (refine (Try.strings_IndexByte _ _ _).mono ?_); rintro e w' ⟨rfl, rfl⟩)
    go_ret
    have e1 : ((n : Int) + 32).toNat = n + 32 := by omega
    exact ret_idx (by rw [e1]; exact hd.out)
  · have hd := Lib.hid (digit_low ⟨c.toNat, by omega⟩ (fun h1 h2 => h ⟨h1, h2⟩))
    simp only [hc] at hd
    have hd : Hid (Lib.indexByte [48, 49, 50, 51, 52, 53, 54, 55, 56, 57, 97, 98, 99, 100, 101, 102] (UInt8.ofNat ((c.toNat : Int)).toNat) = dgi c) := by
      rw [Hid, Int.toNat_natCast, hc]; exact hd.out
    clear hc
    generalize c.toNat = n at *
    by_cases h1 : 65 ≤ n
    · have h2 : 70 < n := by omega
      clear h
      go_enter Try.func21, Try.ntmps21
      go_wp2_with (go_at_call 23; (refine (Try.strings_IndexByte _ _ _).mono ?_); rintro e w' ⟨rfl, rfl⟩)
      go_ret
      exact ret_idx hd.out
    · clear h
      go_enter Try.func21, Try.ntmps21
      go_wp2_with (go_at_call 23; (refine (Try.strings_IndexByte _ _ _).mono ?_); rintro e w' ⟨rfl, rfl⟩)
      go_ret
      exact ret_idx hd.out

theorem dg_lower (n : Nat) (c : UInt8) (hn : n = c.toNat) : dgi c = if 48 ≤ n ∧ n ≤ 57 then (n : Int) - 48 else if 97 ≤ n ∧ n ≤ 102 then (n : Int) - 87 else if 65 ≤ n ∧ n ≤ 70 then (n : Int) - 55 else -1 := by
  subst hn
  unfold dgi dg
  simp only [UInt8.le_iff_toNat_le]
  simp only [show (48 : UInt8).toNat = 48 from rfl, show (57 : UInt8).toNat = 57 from rfl, show (97 : UInt8).toNat = 97 from rfl, show (102 : UInt8).toNat = 102 from rfl, show (65 : UInt8).toNat = 65 from rfl, show (70 : UInt8).toNat = 70 from rfl]
  repeat' split
  all_goals omega

theorem value_any (c : UInt8) (w : World) : Calls Try.prog 15 #[.int .u8 (c.toNat : Int)] w fun e w' => e = .returned (.int .i64 (dgi c)) ∧ w = w' := by
  have b0 := c.toNat_lt
  have hd := Lib.hid (dg_lower c.toNat c rfl)
  generalize dgi c = d at *
  generalize c.toNat = n at *
  go_enter Try.func15, Try.ntmps15
  go_wp2
  all_goals go_ways
  all_goals (go_ret; refine ret_idx ?_; rw [hd.out]; repeat' split)
  all_goals first | omega | (simp; omega)

theorem hex_tab1 : ∀ k : Fin 16, ((⟨#[48, 49, 50, 51, 52, 53, 54, 55, 56, 57, 97, 98, 99, 100, 101, 102]⟩ : ByteArray).extract k.val (k.val + 1)) = ⟨#[hexd (UInt8.ofNat k.val)]⟩ := by decide +kernel
theorem hex_any (n : Nat) (hn : n < 16) (w : World) : Calls Try.prog 20 #[.int .i64 n] w fun e w' => e = .returned (.string ⟨#[hexd (UInt8.ofNat n)]⟩) ∧ w = w' := by
  have ht := Lib.hid (hex_tab1 ⟨n, hn⟩)
  simp only at ht
  go_enter Try.func20, Try.ntmps20
  go_wp2
  go_ret
  exact ⟨congrArg (fun s => Ending.returned (Value.string s)) ht.out, rfl⟩
end Go.Proofs.Ytmcjkijnapmboaa
