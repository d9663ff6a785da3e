import Derived.Test.YtmcjkijnapmboaaB
namespace Go.Proofs.Ytmcjkijnapmboaa
open Go.RowKit

theorem ownsRow_below {w w' : World} {base : Nat} {e : TypeId} {size : Nat} {v : Value} {n : Nat} {xs : List Value} (h : w.ownsRow base e size v n xs) (hb : Below w.heap.size w w') : w'.ownsRow base e size v n xs :=
  h.kept (row := none) ⟨hb.os, hb.tape, hb.output, hb.size, fun k hk _ => hb.block k hk⟩ (by cases v.ownBlock <;> simp)
theorem builderAt_below {T e : TypeId} {B b : Nat} {p : Value} {bs : List Value} {w w' : World} (h : Lib.BuilderAt T e B b p bs w) (hb : Below w.heap.size w w') : Lib.BuilderAt T e B b p bs w' := by
  have hlt := h.lt
  obtain ⟨hB, v, hh, hown, hne⟩ := h
  exact ⟨hB, v, (hb.block b hlt).trans hh, ownsRow_below hown hb, hne⟩
theorem builder_below {T e : TypeId} {B b : Nat} {bs : List Value} {w w' : World} (h : Lib.IsBuilder T e B b bs w) (hb : Below w.heap.size w w') : Lib.IsBuilder T e B b bs w' :=
  h.imp (fun h => builderAt_below h hb) (fun h => builderAt_below h hb)
theorem builder_new (w : World) : Lib.IsBuilder 38 5 w.heap.size w.heap.size [] (w.alloc (.cells #[.pointer none, .slice none 0 0] 38)) := by
  refine .inl ⟨Nat.le_refl _, .slice none 0 0, heap_alloc_new w _, ⟨rfl, .inl ⟨rfl, rfl⟩⟩, by simp [Value.ownBlock]⟩

set_option maxHeartbeats 1000000 in
theorem quote_any (s : ByteArray) (w : World) (hs : s.size ≤ 100000) :
    Calls Try.prog 11 #[.string s] w (Bytes (quote s.data.toList) w) := by
  go_enter Try.func11, Try.ntmps11
  go_wp2_with fail
  have h0 := Lib.hid (builder_new w)
  have b0 : Below w.heap.size w (w.alloc (.cells #[.pointer none, .slice none 0 0] 38)) := (Below.refl _ _).alloc (Nat.le_refl _) _
  generalize w.alloc (.cells #[.pointer none, .slice none 0 0] 38) = w0 at *
  refine (Try.Builder_WriteByte _ _ _ 34 _ h0.out (by simp) b0.size).mono ?_
  rintro e w1 ⟨rfl, h1, b1⟩
  have h1' : Hid (Lib.IsBuilder 38 5 w.heap.size w.heap.size (Lib.byteCells (34 :: (s.data.toList.take 0).flatMap one)) w1) := .inr h1
  have b1' := b0.trans b1
  clear h0 h1 b0 b1
  go_wp2_with fail
  go_loopw [4, 8] (fun _ i wr => ∃ (k : Nat), k ≤ s.size ∧ i = .int .i64 k ∧ Hid (Lib.IsBuilder 38 5 w.heap.size w.heap.size (Lib.byteCells (34 :: (s.data.toList.take k).flatMap one)) wr) ∧ Hid (((s.data.toList.take k).flatMap one).length ≤ 4 * k) ∧ Below w.heap.size w wr) (fun _ i _ => s.size - (intOf i).toNat)
  case atStart => exact ⟨0, Nat.zero_le _, rfl, h1', Nat.le_refl _, b1'⟩
  case round =>
    obtain ⟨k, hk, rfl, hbu, hl, hb⟩ := hrel
    by_cases hlt : k < s.size
    · have h14 := one_len s[k]
      have e1 : Hid ((s.data.toList.take (k + 1)).flatMap one = (s.data.toList.take k).flatMap one ++ one s[k]) := by
        rw [take_snoc' s k hlt, List.flatMap_append, Hid]; simp
      have c1 : Hid (∀ w, Calls Try.prog 18 #[.int .u8 (s[k].toNat : Int)] w (Bytes (one s[k]) w)) := fun w => one_any s[k] w
      generalize one s[k] = l at *
      generalize (s.data.toList.take k).flatMap one = pre at *
      go_wp2_with fail
      refine (c1.out _).mono ?_
      rintro e w2 ⟨rfl, hb1⟩
      have hbu2 := Lib.hid (builder_below hbu.out hb1)
      have hb2 : Below w.heap.size w w2 := hb.trans (hb1.mono hb.size)
      clear hbu hb hb1
      go_wp2_with fail
      refine (Try.Builder_WriteString _ _ _ ⟨l.toArray⟩ _ hbu2.out (by
        have := hl.out
        rw [Lib.byteCells_length]; simp [ByteArray.size]; omega) hb2.size).mono ?_
      rintro e w3 ⟨rfl, h3, b3⟩
      go_wp2_with fail
      go_roundw
      case rel =>
        refine ⟨k + 1, by omega, by go_num, ?_, ?_, hb2.trans b3⟩
        · rw [e1.out]
          refine .inr ?_
          rw [show (34 : UInt8) :: (pre ++ l) = (34 :: pre) ++ l from rfl, Lib.byteCells_append]
          exact h3
        · rw [e1.out, Hid, List.length_append]; have := hl.out; omega
      case measure => simp [intOf]; omega
    · obtain rfl : k = s.size := by omega
      have e : s.data.toList.take s.size = s.data.toList := List.take_of_length_le (by simp)
      rw [e] at hbu hl
      have hq : Hid (quote s.data.toList = (34 :: s.data.toList.flatMap one) ++ [34]) := rfl
      generalize s.data.toList.flatMap one = pre at *
      go_wp2_with fail
      refine (Try.Builder_WriteByte _ _ _ 34 _ hbu.out (by
        have := hl.out
        rw [Lib.byteCells_length]; simp; omega) hb.size).mono ?_
      rintro e w3 ⟨rfl, h3, b3⟩
      have h4 : Hid (Lib.IsBuilder 38 5 w.heap.size w.heap.size (Lib.byteCells (34 :: pre ++ [34])) w3) := by
        rw [Hid, Lib.byteCells_append]
        exact .inr h3
      have b4 := hb.trans b3
      clear h3 b3 hb hbu
      go_wp2_with fail
      refine (Try.Builder_String_any _ _ _ _ h4.out b4.size).mono ?_
      rintro e w5 ⟨rfl, b5⟩
      go_wp2_with fail
      go_ret
      exact ⟨by rw [hq.out]; rfl, b4.trans b5⟩
end Go.Proofs.Ytmcjkijnapmboaa
