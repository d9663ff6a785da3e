import Derived.Test.YtmcjkijnapmboaaRows
import Derived.Test.YtmcjkijnapmboaaM
import Derived.Test.YtmcjkijnapmboaaShelf
import Derived.WalkKit
import Derived.WalkSpells
import Derived.WalkLawsBesides
import Derived.Lib.Walk
import Derived.Lib.Hide
import Derived.Deep.RegionHeld3
import Derived.Deep.QuietTactic
import Derived.BigQuiet
import Derived.Lib.SmallJoins
namespace Go.Proofs.Ytmcjkijnapmboaa
open Go.RowKit

def Bytes (l : List UInt8) (w : World) : Ending → World → Prop := fun e w' => e = .returned (.string ⟨l.toArray⟩) ∧ Below w.heap.size w w'

/-- The bytes of a list of numbers. -/
theorem str_of (l : List UInt8) : strOfNums (l.map fun c => (c.toNat : Int)) = ⟨l.toArray⟩ := by
  unfold strOfNums
  rw [List.map_map]
  have : ((fun n : Int => UInt8.ofNat n.toNat) ∘ fun c : UInt8 => (c.toNat : Int)) = id := by
    funext c
    simp
  rw [this, List.map_id]

theorem conv1 (c : UInt8) (w : World) : (convert 34 9 (.slice (some ⟨w.heap.size, 0, none⟩) 1 1)).run Try.prog (w.alloc (.cells #[.int .u8 (c.toNat : Int)] 5)) = .ok (.string ⟨#[c]⟩) (w.alloc (.cells #[.int .u8 (c.toNat : Int)] 5)) := by
  have := run_convert_bytes_arg (P := Try.prog) (w.alloc (.cells #[.int .u8 (c.toNat : Int)] 5)) 34 5 Try.underlying34 Try.underlying5 w.heap.size 0 1 1 [(c.toNat : Int)] rfl (by
    intro i hi
    obtain rfl : i = 0 := by omega
    simp [go_sem]) 9 Try.underlying9
  rw [this]
  exact congrArg (fun s => Result.ok (Value.string s) _) (str_of [c])
theorem conv2 (c : UInt8) (w : World) : (convert 34 9 (.slice (some ⟨w.heap.size, 0, none⟩) 2 2)).run Try.prog (w.alloc (.cells #[.int .u8 92, .int .u8 (c.toNat : Int)] 5)) = .ok (.string ⟨#[92, c]⟩) (w.alloc (.cells #[.int .u8 92, .int .u8 (c.toNat : Int)] 5)) := by
  have := run_convert_bytes_arg (P := Try.prog) (w.alloc (.cells #[.int .u8 92, .int .u8 (c.toNat : Int)] 5)) 34 5 Try.underlying34 Try.underlying5 w.heap.size 0 2 2 [92, (c.toNat : Int)] rfl (by
    intro i hi
    rcases i with _ | _ | i
    · simp [go_sem]
    · simp [go_sem]
    · omega) 9 Try.underlying9
  rw [this]
  exact congrArg (fun s => Result.ok (Value.string s) _) (str_of [92, c])

theorem one_esc (c : UInt8) (h : c = 34 ∨ c = 92) (w : World) : Calls Try.prog 18 #[.int .u8 (c.toNat : Int)] w (Bytes (one c) w) := by
  have hr : Hid (one c = [92, c]) := by unfold one; rw [Hid, if_pos h]
  have hk := conv2 c w
  have n34 : (((c.toNat : Int) == 34) = true ∨ (((c.toNat : Int) == 34) = false ∧ ((c.toNat : Int) == 92) = true)) := by
    rcases h with rfl | rfl
    · left; rfl
    · right; exact ⟨rfl, rfl⟩
  clear h
  rcases n34 with h | ⟨h1, h2⟩
  · go_enter Try.func18, Try.ntmps18
    go_wp2
    go_ret
    exact ⟨by rw [hr.out]; rfl, (Below.refl _ _).alloc (Nat.le_refl _) _⟩
  · go_enter Try.func18, Try.ntmps18
    go_wp2
    go_ret
    exact ⟨by rw [hr.out]; rfl, (Below.refl _ _).alloc (Nat.le_refl _) _⟩
theorem hex_tab : ∀ k m : Fin 16, ((⟨#[92, 120]⟩ : ByteArray) ++ (⟨#[48, 49, 50, 51, 52, 53, 54, 55, 56, 57, 97, 98, 99, 100, 101, 102]⟩ : ByteArray).extract k.val (k.val + 1) ++ (⟨#[48, 49, 50, 51, 52, 53, 54, 55, 56, 57, 97, 98, 99, 100, 101, 102]⟩ : ByteArray).extract m.val (m.val + 1)) = ⟨#[92, 120, hexd (UInt8.ofNat k.val), hexd (UInt8.ofNat m.val)]⟩ := by decide +kernel
theorem hex_str (c : UInt8) : ((⟨#[92, 120]⟩ : ByteArray) ++ (⟨#[48, 49, 50, 51, 52, 53, 54, 55, 56, 57, 97, 98, 99, 100, 101, 102]⟩ : ByteArray).extract (c.toNat / 16) (c.toNat / 16 + 1) ++ (⟨#[48, 49, 50, 51, 52, 53, 54, 55, 56, 57, 97, 98, 99, 100, 101, 102]⟩ : ByteArray).extract (c.toNat % 16) (c.toNat % 16 + 1)) = ⟨#[92, 120, hexd (c / 16), hexd (c % 16)]⟩ := by
  have b0 := c.toNat_lt
  have h := hex_tab ⟨c.toNat / 16, by omega⟩ ⟨c.toNat % 16, by omega⟩
  simp only at h
  rw [h]
  have e1 : UInt8.ofNat (c.toNat / 16) = c / 16 := by apply UInt8.toNat_inj.1; simp; omega
  have e2 : UInt8.ofNat (c.toNat % 16) = c % 16 := by apply UInt8.toNat_inj.1; simp; omega
  rw [e1, e2]

theorem ne_of {c : UInt8} {n : Nat} (_hn : n < 256) (h : ¬ c = UInt8.ofNat n) : ((c.toNat : Int) == (n : Int)) = false := by
  have : ¬ c.toNat = n := fun e => h (by rw [← e]; simp)
  simp; omega

theorem one_hex (c : UInt8) (h1 : ¬ (c = 34 ∨ c = 92)) (h2 : ¬ c = 10) (h3 : ¬ c = 9) (h : c < 32 ∨ 126 < c) (w : World) : Calls Try.prog 18 #[.int .u8 (c.toNat : Int)] w (Bytes (one c) w) := by
  have hr : Hid (one c = [92, 120, hexd (c / 16), hexd (c % 16)]) := by unfold one; rw [Hid, if_neg h1, if_neg h2, if_neg h3, if_pos h]
  have b0 := c.toNat_lt
  have n34 : ((c.toNat : Int) == 34) = false := ne_of (n := 34) (by omega) (fun e => h1 (.inl e))
  have n92 : ((c.toNat : Int) == 92) = false := ne_of (n := 92) (by omega) (fun e => h1 (.inr e))
  have n10 : ((c.toNat : Int) == 10) = false := ne_of (n := 10) (by omega) h2
  have n9 : ((c.toNat : Int) == 9) = false := ne_of (n := 9) (by omega) h3
  have hh : (c.toNat : Int) < 32 ∨ 126 < (c.toNat : Int) := by
    rcases h with h | h
    · left; have := UInt8.lt_iff_toNat_lt.1 h; simp at this; omega
    · right; have := UInt8.lt_iff_toNat_lt.1 h; simp at this; omega
  clear h1 h2 h3 h
  rcases hh with h | h
  · go_enter Try.func18, Try.ntmps18
    go_wp2
    go_quiet (fail)
    go_wp2
    go_ret
    exact ⟨by rw [hr.out]; exact congrArg (fun s => Ending.returned (Value.string s)) (hex_str c), Joins.below_draws _ _ _⟩
  · go_enter Try.func18, Try.ntmps18
    go_wp2
    go_quiet (fail)
    go_wp2
    go_ret
    exact ⟨by rw [hr.out]; exact congrArg (fun s => Ending.returned (Value.string s)) (hex_str c), Joins.below_draws _ _ _⟩

theorem one_plain (c : UInt8) (h1 : ¬ (c = 34 ∨ c = 92)) (h2 : ¬ c = 10) (h3 : ¬ c = 9) (h : ¬ (c < 32 ∨ 126 < c)) (w : World) : Calls Try.prog 18 #[.int .u8 (c.toNat : Int)] w (Bytes (one c) w) := by
  have hr : Hid (one c = [c]) := by unfold one; rw [Hid, if_neg h1, if_neg h2, if_neg h3, if_neg h]
  have hk := conv1 c w
  have n34 : ((c.toNat : Int) == 34) = false := ne_of (n := 34) (by omega) (fun e => h1 (.inl e))
  have n92 : ((c.toNat : Int) == 92) = false := ne_of (n := 92) (by omega) (fun e => h1 (.inr e))
  have n10 : ((c.toNat : Int) == 10) = false := ne_of (n := 10) (by omega) h2
  have n9 : ((c.toNat : Int) == 9) = false := ne_of (n := 9) (by omega) h3
  have hh : 32 ≤ (c.toNat : Int) ∧ (c.toNat : Int) ≤ 126 := by
    constructor
    · have : ¬ c.toNat < 32 := fun e => h (.inl (UInt8.lt_iff_toNat_lt.2 (by simpa using e)))
      omega
    · have : ¬ 126 < c.toNat := fun e => h (.inr (UInt8.lt_iff_toNat_lt.2 (by simpa using e)))
      omega
  obtain ⟨hh1, hh2⟩ := hh
  clear h1 h2 h3 h
  go_enter Try.func18, Try.ntmps18
  go_wp2
  go_ret
  exact ⟨by rw [hr.out]; rfl, (Below.refl _ _).alloc (Nat.le_refl _) _⟩

theorem one_any (c : UInt8) (w : World) : Calls Try.prog 18 #[.int .u8 (c.toNat : Int)] w (Bytes (one c) w) := by
  by_cases h1 : c = 34 ∨ c = 92
  · exact one_esc c h1 w
  by_cases h2 : c = 10
  · subst h2
    have n34 : (((10 : UInt8).toNat : Int) == 34) = false := rfl
    have n92 : (((10 : UInt8).toNat : Int) == 92) = false := rfl
    have n10 : (((10 : UInt8).toNat : Int) == 10) = true := rfl
    go_enter Try.func18, Try.ntmps18
    go_wp2
    go_ret
    exact ⟨rfl, Below.refl _ _⟩
  by_cases h3 : c = 9
  · subst h3
    go_enter Try.func18, Try.ntmps18
    go_wp2
    go_ret
    exact ⟨rfl, Below.refl _ _⟩
  by_cases h : c < 32 ∨ 126 < c
  · exact one_hex c h1 h2 h3 h w
  · exact one_plain c h1 h2 h3 h w
end Go.Proofs.Ytmcjkijnapmboaa
