import Derived.Test.YtmcjkijnapmboaaG
namespace Go.Proofs.Ytmcjkijnapmboaa
open Go.RowKit

def AnsU (t : List UInt8) (n : Int) (w : World) : Ending → World → Prop := fun e w' => e = .returned (.tuple #[.string ⟨t.toArray⟩, .int .i64 n]) ∧ Below w.heap.size w w'
def AnsE (n : Nat) (b : Bool) (w : World) : Ending → World → Prop := fun e w' => e = .returned (.tuple #[.int .i64 n, .bool b]) ∧ Below w.heap.size w w'

theorem unquote_no (s : ByteArray) (t : List UInt8) (n : Nat) (w : World) (hc : Hid (∀ w, Calls Try.prog 14 #[.string s] w fun e w' => e = .returned (.tuple #[.string ⟨t.toArray⟩, .int .i64 n, .bool false]) ∧ Below w.heap.size w w')) :
    Calls Try.prog 8 #[.string s] w (AnsU [] 2 w) := by
  go_enter Try.func8, Try.ntmps8
  go_wp2_with fail
  refine (hc.out _).mono ?_
  rintro e w1 ⟨rfl, hb⟩
  go_wp2_with fail
  go_ret2
  exact ⟨rfl, hb⟩
theorem unquote_part (s : ByteArray) (t : List UInt8) (n : Nat) (w : World) (hn : n ≠ s.size) (hc : Hid (∀ w, Calls Try.prog 14 #[.string s] w fun e w' => e = .returned (.tuple #[.string ⟨t.toArray⟩, .int .i64 n, .bool true]) ∧ Below w.heap.size w w')) :
    Calls Try.prog 8 #[.string s] w (AnsU [] 2 w) := by
  have h1 : ((n : Int) != (s.size : Int)) = true := bne_iff_ne.2 (by omega)
  clear hn
  go_enter Try.func8, Try.ntmps8
  go_wp2_with fail
  refine (hc.out _).mono ?_
  rintro e w1 ⟨rfl, hb⟩
  go_wp2_with fail
  go_ret2
  exact ⟨rfl, hb⟩
theorem unquote_yes (s : ByteArray) (t : List UInt8) (n : Nat) (w : World) (hn : n = s.size) (hc : Hid (∀ w, Calls Try.prog 14 #[.string s] w fun e w' => e = .returned (.tuple #[.string ⟨t.toArray⟩, .int .i64 n, .bool true]) ∧ Below w.heap.size w w')) :
    Calls Try.prog 8 #[.string s] w (AnsU t 0 w) := by
  have h1 : ((n : Int) != (s.size : Int)) = false := by rw [hn]; simp
  clear hn
  go_enter Try.func8, Try.ntmps8
  go_wp2_with fail
  refine (hc.out _).mono ?_
  rintro e w1 ⟨rfl, hb⟩
  go_wp2_with fail
  go_ret2
  exact ⟨rfl, hb⟩
theorem end_core (s : ByteArray) (t : List UInt8) (n : Nat) (b : Bool) (w : World) (hc : Hid (∀ w, Calls Try.prog 14 #[.string s] w fun e w' => e = .returned (.tuple #[.string ⟨t.toArray⟩, .int .i64 n, .bool b]) ∧ Below w.heap.size w w')) :
    Calls Try.prog 9 #[.string s] w (AnsE n b w) := by
  go_enter Try.func9, Try.ntmps9
  go_wp2_with fail
  refine (hc.out _).mono ?_
  rintro e w1 ⟨rfl, hb⟩
  go_wp2_with fail
  go_ret2
  exact ⟨rfl, hb⟩

/-- What Unquote answers. -/
def unq (l : List UInt8) : List UInt8 × Int := if (read l).2.2 = true ∧ (read l).2.1 = l.length then ((read l).1, 0) else ([], 2)

theorem size_list (s : ByteArray) : s.data.toList.length = s.size := by simp

theorem unquote_any (s : ByteArray) (w : World) (hs : s.size ≤ 100000) : Calls Try.prog 8 #[.string s] w (AnsU (unq s.data.toList).1 (unq s.data.toList).2 w) := by
  have hc : Hid (∀ w, Calls Try.prog 14 #[.string s] w (Ans (read s.data.toList) w)) := fun w => read_any s w hs
  have hu : unq s.data.toList = if (read s.data.toList).2.2 = true ∧ (read s.data.toList).2.1 = s.data.toList.length then ((read s.data.toList).1, 0) else ([], 2) := rfl
  rw [size_list] at hu
  rw [hu]
  clear hu
  generalize read s.data.toList = r at *
  obtain ⟨t, n, b⟩ := r
  cases b with
  | false => exact unquote_no s t n w hc
  | true =>
    by_cases hn : n = s.size
    · rw [if_pos ⟨rfl, hn⟩]
      exact unquote_yes s t n w hn hc
    · rw [if_neg (fun h => hn h.2)]
      exact unquote_part s t n w hn hc
theorem end_any (s : ByteArray) (w : World) (hs : s.size ≤ 100000) : Calls Try.prog 9 #[.string s] w (AnsE (read s.data.toList).2.1 (read s.data.toList).2.2 w) :=
  end_core s (read s.data.toList).1 _ _ w (fun w => read_any s w hs)

theorem awake_any (w : World) : Calls Try.prog 7 #[] w fun e w' => e = .returned (.bool true) ∧ Below w.heap.size w w' := by
  have cU : Hid (∀ w, Calls Try.prog 8 #[.string ⟨#[34, 92, 120, 52, 49, 34]⟩] w fun e w' => e = .returned (.tuple #[.string ⟨#[65]⟩, .int .i64 0]) ∧ Below w.heap.size w w') := fun w => by
    have := unquote_any ⟨#[34, 92, 120, 52, 49, 34]⟩ w (by decide)
    rw [show unq (ByteArray.mk #[34, 92, 120, 52, 49, 34]).data.toList = ([65], 0) by decide +kernel] at this
    exact this
  have cE : Hid (∀ w, Calls Try.prog 9 #[.string ⟨#[34, 97, 98, 34, 99, 100]⟩] w fun e w' => e = .returned (.tuple #[.int .i64 4, .bool true]) ∧ Below w.heap.size w w') := fun w => by
    have := end_any ⟨#[34, 97, 98, 34, 99, 100]⟩ w (by decide)
    rw [show read (ByteArray.mk #[34, 97, 98, 34, 99, 100]).data.toList = ([97, 98], 4, true) by decide +kernel] at this
    exact this
  have cQ : Hid (∀ w, Calls Try.prog 11 #[.string ⟨#[97, 34, 10]⟩] w fun e w' => e = .returned (.string ⟨#[34, 97, 92, 34, 92, 110, 34]⟩) ∧ Below w.heap.size w w') := fun w => by
    have := quote_any ⟨#[97, 34, 10]⟩ w (by decide)
    rw [show quote (ByteArray.mk #[97, 34, 10]).data.toList = [34, 97, 92, 34, 92, 110, 34] by decide +kernel] at this
    exact this
  go_enter Try.func7, Try.ntmps7
  go_wp2_with fail
  refine (cU.out _).mono ?_
  rintro e w1 ⟨rfl, hb1⟩
  go_wp2_with fail
  refine (cE.out _).mono ?_
  rintro e w2 ⟨rfl, hb2⟩
  have hb := hb1.trans (hb2.mono hb1.size)
  clear hb1 hb2
  go_wp2_with fail
  refine (cQ.out _).mono ?_
  rintro e w3 ⟨rfl, hb3⟩
  have hb := hb.trans (hb3.mono hb.size)
  clear hb3
  go_wp2_with fail
  go_ret
  exact ⟨rfl, hb⟩
end Go.Proofs.Ytmcjkijnapmboaa
