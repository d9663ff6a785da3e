import Derived.Test.YtmcjkijnapmboaaI
import Derived.Test.YtmcjkijnapmboaaH
namespace Go.Proofs.Ytmcjkijnapmboaa
open Go.RowKit

def Yes (w : World) : Ending → World → Prop := fun e w' => e = .returned (.bool true) ∧ Below w.heap.size w w'

theorem reads_far (s : ByteArray) (w : World) (hs : 3000 < s.size) : Calls Try.prog 3 #[.string s] w (Yes w) := by
  have h1 : (3000 : Int) < (s.size : Int) := by omega
  go_enter Try.func3, Try.ntmps3
  go_wp2_with fail
  refine (awake_any _).mono ?_
  rintro e w1 ⟨rfl, hb⟩
  go_wp2_with fail
  go_ret
  exact ⟨rfl, hb⟩

theorem reads_core (s : ByteArray) (w : World) (hs : s.size ≤ 3000) (t u : List UInt8) (n : Nat) (b : Bool) (x : Int)
    (cU : Hid (∀ w, Calls Try.prog 8 #[.string s] w fun e w' => e = .returned (.tuple #[.string ⟨u.toArray⟩, .int .i64 x]) ∧ Below w.heap.size w w'))
    (cE : Hid (∀ w, Calls Try.prog 9 #[.string s] w fun e w' => e = .returned (.tuple #[.int .i64 n, .bool b]) ∧ Below w.heap.size w w'))
    (cR : Hid (∀ w, Calls Try.prog 10 #[.string s] w fun e w' => e = .returned (.tuple #[.string ⟨t.toArray⟩, .int .i64 n, .bool b]) ∧ Below w.heap.size w w'))
    (h : (b = false ∧ u = [] ∧ x = 2) ∨ (b = true ∧ n ≠ s.size ∧ u = [] ∧ x = 2) ∨ (b = true ∧ n = s.size ∧ u = t ∧ x = 0)) :
    Calls Try.prog 3 #[.string s] w (Yes w) := by
  have h1 : (s.size : Int) ≤ 3000 := by omega
  rcases h with ⟨rfl, rfl, rfl⟩ | ⟨rfl, hn, rfl, rfl⟩ | ⟨rfl, hn, rfl, rfl⟩
  · go_enter Try.func3, Try.ntmps3
    go_wp2_with fail
    refine (cU.out _).mono ?_
    rintro e w1 ⟨rfl, hb⟩
    go_wp2_with fail
    refine (cE.out _).mono ?_
    rintro e w2 ⟨rfl, hb2⟩
    replace hb := hb.trans (hb2.mono hb.size)
    clear hb2
    go_wp2_with fail
    refine (cR.out _).mono ?_
    rintro e w3 ⟨rfl, hb3⟩
    replace hb := hb.trans (hb3.mono hb.size)
    clear hb3
    go_wp2_with fail
    refine (awake_any _).mono ?_
    rintro e w4 ⟨rfl, hb4⟩
    replace hb := hb.trans (hb4.mono hb.size)
    clear hb4
    go_wp2_with fail
    go_ret
    exact ⟨rfl, hb⟩
  · have h2 : ((n : Int) != (s.size : Int)) = true := bne_iff_ne.2 (by omega)
    clear hn
    go_enter Try.func3, Try.ntmps3
    go_wp2_with fail
    refine (cU.out _).mono ?_
    rintro e w1 ⟨rfl, hb⟩
    go_wp2_with fail
    refine (cE.out _).mono ?_
    rintro e w2 ⟨rfl, hb2⟩
    replace hb := hb.trans (hb2.mono hb.size)
    clear hb2
    go_wp2_with fail
    refine (cR.out _).mono ?_
    rintro e w3 ⟨rfl, hb3⟩
    replace hb := hb.trans (hb3.mono hb.size)
    clear hb3
    go_wp2_with fail
    refine (awake_any _).mono ?_
    rintro e w4 ⟨rfl, hb4⟩
    replace hb := hb.trans (hb4.mono hb.size)
    clear hb4
    go_wp2_with fail
    go_ret
    exact ⟨rfl, hb⟩
  · have h2 : ((n : Int) != (s.size : Int)) = false := by rw [hn]; simp
    clear hn
    go_enter Try.func3, Try.ntmps3
    go_wp2_with fail
    refine (cU.out _).mono ?_
    rintro e w1 ⟨rfl, hb⟩
    go_wp2_with fail
    refine (cE.out _).mono ?_
    rintro e w2 ⟨rfl, hb2⟩
    replace hb := hb.trans (hb2.mono hb.size)
    clear hb2
    go_wp2_with fail
    refine (cR.out _).mono ?_
    rintro e w3 ⟨rfl, hb3⟩
    replace hb := hb.trans (hb3.mono hb.size)
    clear hb3
    go_wp2_with fail
    refine (awake_any _).mono ?_
    rintro e w4 ⟨rfl, hb4⟩
    replace hb := hb.trans (hb4.mono hb.size)
    clear hb4
    go_wp2_with fail
    go_ret
    exact ⟨rfl, hb⟩

theorem reads_any (s : ByteArray) (w : World) : Calls Try.prog 3 #[.string s] w (Yes w) := by
  by_cases hs : s.size ≤ 3000
  · have cU := Lib.hid (fun w => unquote_any s w (by omega))
    have cE := Lib.hid (fun w => end_any s w (by omega))
    have cR := Lib.hid (fun w => read_ref s w (by omega))
    have hu : unq s.data.toList = if (read s.data.toList).2.2 = true ∧ (read s.data.toList).2.1 = s.data.toList.length then ((read s.data.toList).1, 0) else ([], 2) := rfl
    rw [size_list] at hu
    refine reads_core s w hs (read s.data.toList).1 (unq s.data.toList).1 (read s.data.toList).2.1 (read s.data.toList).2.2 (unq s.data.toList).2 cU cE cR ?_
    rw [hu]
    generalize read s.data.toList = r
    obtain ⟨t, n, b⟩ := r
    cases b with
    | false => exact .inl ⟨rfl, rfl, rfl⟩
    | true =>
      by_cases hn : n = s.size
      · rw [if_pos ⟨rfl, hn⟩]
        exact .inr (.inr ⟨rfl, hn, rfl, rfl⟩)
      · rw [if_neg (fun h => hn h.2)]
        exact .inr (.inl ⟨rfl, hn, rfl, rfl⟩)
  · exact reads_far s w (by omega)

theorem writes_far (s : ByteArray) (w : World) (hs : 3000 < s.size) : Calls Try.prog 5 #[.string s] w (Yes w) := by
  have h1 : (3000 : Int) < (s.size : Int) := by omega
  go_enter Try.func5, Try.ntmps5
  go_wp2_with fail
  refine (awake_any _).mono ?_
  rintro e w1 ⟨rfl, hb⟩
  go_wp2_with fail
  go_ret
  exact ⟨rfl, hb⟩

theorem writes_core (s Q : ByteArray) (w : World) (hs : s.size ≤ 3000)
    (cQ : Hid (∀ w, Calls Try.prog 11 #[.string s] w fun e w' => e = .returned (.string Q) ∧ Below w.heap.size w w'))
    (cU : Hid (∀ w, Calls Try.prog 8 #[.string Q] w fun e w' => e = .returned (.tuple #[.string s, .int .i64 0]) ∧ Below w.heap.size w w'))
    (cR : Hid (∀ w, Calls Try.prog 12 #[.string s] w fun e w' => e = .returned (.string Q) ∧ Below w.heap.size w w'))
    (cS : Hid (∀ w, Calls Try.prog 13 #[.string s] w fun e w' => e = .returned (.int .i64 Q.size) ∧ Below w.heap.size w w')) :
    Calls Try.prog 5 #[.string s] w (Yes w) := by
  have h1 : (s.size : Int) ≤ 3000 := by omega
  go_enter Try.func5, Try.ntmps5
  go_wp2_with fail
  refine (cQ.out _).mono ?_
  rintro e w1 ⟨rfl, hb⟩
  go_wp2_with fail
  refine (cU.out _).mono ?_
  rintro e w2 ⟨rfl, hb2⟩
  replace hb := hb.trans (hb2.mono hb.size)
  clear hb2
  go_wp2_with fail
  refine (cR.out _).mono ?_
  rintro e w3 ⟨rfl, hb3⟩
  replace hb := hb.trans (hb3.mono hb.size)
  clear hb3
  go_wp2_with fail
  refine (cS.out _).mono ?_
  rintro e w4 ⟨rfl, hb4⟩
  replace hb := hb.trans (hb4.mono hb.size)
  clear hb4
  go_wp2_with fail
  refine (awake_any _).mono ?_
  rintro e w5 ⟨rfl, hb5⟩
  replace hb := hb.trans (hb5.mono hb.size)
  clear hb5
  go_wp2_with fail
  go_ret
  exact ⟨rfl, hb⟩

theorem size_mk (l : List UInt8) : (ByteArray.mk l.toArray).size = l.length := by simp [ByteArray.size]
theorem list_mk (l : List UInt8) : (ByteArray.mk l.toArray).data.toList = l := rfl
theorem mk_list (s : ByteArray) : ByteArray.mk s.data.toList.toArray = s := by simp

theorem writes_any (s : ByteArray) (w : World) : Calls Try.prog 5 #[.string s] w (Yes w) := by
  by_cases hs : s.size ≤ 3000
  · have ql := quote_len s.data.toList
    rw [size_list] at ql
    have hu : unq (quote s.data.toList) = (s.data.toList, 0) := by
      have := read_quote s.data.toList []
      rw [List.append_nil] at this
      unfold unq
      rw [this, if_pos ⟨rfl, rfl⟩]
    refine writes_core s ⟨(quote s.data.toList).toArray⟩ w hs (fun w => quote_any s w (by omega)) (fun w => ?_) (fun w => quote_ref s w (by omega)) (fun w => ?_)
    · have := unquote_any ⟨(quote s.data.toList).toArray⟩ w (by rw [size_mk]; omega)
      rw [list_mk, hu] at this
      unfold AnsU at this
      rw [mk_list] at this
      exact this
    · rw [size_mk, ← size_quote]
      exact size_any s w (by omega)
  · exact writes_far s w (by omega)

theorem begins_far1 (s m : ByteArray) (w : World) (hs : 500 < s.size) : Calls Try.prog 4 #[.string s, .string m] w (Yes w) := by
  have h1 : (500 : Int) < (s.size : Int) := by omega
  go_enter Try.func4, Try.ntmps4
  go_wp2_with fail
  refine (awake_any _).mono ?_
  rintro e w1 ⟨rfl, hb⟩
  go_wp2_with fail
  go_ret
  exact ⟨rfl, hb⟩
theorem begins_far2 (s m : ByteArray) (w : World) (hs : s.size ≤ 500) (hm : 500 < m.size) : Calls Try.prog 4 #[.string s, .string m] w (Yes w) := by
  have h1 : (s.size : Int) ≤ 500 := by omega
  have h2 : (500 : Int) < (m.size : Int) := by omega
  go_enter Try.func4, Try.ntmps4
  go_wp2_with fail
  refine (awake_any _).mono ?_
  rintro e w1 ⟨rfl, hb⟩
  go_wp2_with fail
  go_ret
  exact ⟨rfl, hb⟩

set_option maxHeartbeats 1000000 in
theorem begins_core (s m Q : ByteArray) (w : World) (hs : s.size ≤ 500) (hm : m.size ≤ 500) (hQ : Q.size ≤ 3000)
    (cQ : Hid (∀ w, Calls Try.prog 11 #[.string s] w fun e w' => e = .returned (.string Q) ∧ Below w.heap.size w w'))
    (cP : Hid (∀ (k : Nat) w, k < Q.size → Calls Try.prog 9 #[.string (Q.extract 0 k)] w fun e w' => e = .returned (.tuple #[.int .i64 k, .bool false]) ∧ Below w.heap.size w w'))
    (cE : Hid (∀ w, Calls Try.prog 9 #[.string (Q ++ m)] w fun e w' => e = .returned (.tuple #[.int .i64 Q.size, .bool true]) ∧ Below w.heap.size w w')) :
    Calls Try.prog 4 #[.string s, .string m] w (Yes w) := by
  have h1 : (s.size : Int) ≤ 500 := by omega
  have h2 : (m.size : Int) ≤ 500 := by omega
  go_enter Try.func4, Try.ntmps4
  go_wp2_with fail
  refine (cQ.out _).mono ?_
  rintro e w1 ⟨rfl, hb⟩
  go_wp2_with fail
  go_loopw [6, 7, 8] (fun i _ _ wr => ∃ k : Nat, k ≤ Q.size ∧ i = .int .i64 k ∧ Below w.heap.size w wr) (fun i _ _ _ => Q.size - (intOf i).toNat)
  case atStart => exact ⟨0, Nat.zero_le _, rfl, hb⟩
  case round =>
    clear hb
    obtain ⟨k, hk, rfl, hb⟩ := hrel
    by_cases hlt : k < Q.size
    · have cK := Lib.hid (fun w => cP.out k w hlt)
      go_wp2_with fail
      refine (cK.out _).mono ?_
      rintro e w2 ⟨rfl, hb2⟩
      replace hb := hb.trans (hb2.mono hb.size)
      clear hb2
      go_wp2_with fail
      go_roundw
      case rel => exact ⟨k + 1, by omega, by go_num, hb⟩
      case measure => simp [intOf]; omega
    · obtain rfl : k = Q.size := by omega
      go_wp2_with fail
      refine (cE.out _).mono ?_
      rintro e w3 ⟨rfl, hb3⟩
      replace hb := hb.trans (hb3.mono hb.size)
      clear hb3
      go_wp2_with fail
      refine (awake_any _).mono ?_
      rintro e w4 ⟨rfl, hb4⟩
      replace hb := hb.trans (hb4.mono hb.size)
      clear hb4
      go_wp2_with fail
      go_ret
      exact ⟨rfl, hb⟩

theorem begins_any (s m : ByteArray) (w : World) : Calls Try.prog 4 #[.string s, .string m] w (Yes w) := by
  by_cases hs : s.size ≤ 500
  · by_cases hm : m.size ≤ 500
    · have ql := quote_len s.data.toList
      rw [size_list] at ql
      refine begins_core s m ⟨(quote s.data.toList).toArray⟩ w hs hm (by rw [size_mk]; omega) (fun w => quote_any s w (by omega)) (fun k w hk => ?_) (fun w => ?_)
      · rw [size_mk] at hk
        have := end_any ((ByteArray.mk (quote s.data.toList).toArray).extract 0 k) w (by rw [ByteArray.size_extract, size_mk]; omega)
        obtain ⟨a, ha⟩ := read_part s.data.toList k hk
        rw [show ((ByteArray.mk (quote s.data.toList).toArray).extract 0 k).data.toList = (quote s.data.toList).take k by simp [ByteArray.data_extract], ha] at this
        exact this
      · have := end_any (ByteArray.mk (quote s.data.toList).toArray ++ m) w (by rw [ByteArray.size_append, size_mk]; omega)
        rw [show (ByteArray.mk (quote s.data.toList).toArray ++ m).data.toList = quote s.data.toList ++ m.data.toList by simp [ByteArray.data_append], read_quote] at this
        rw [size_mk]
        exact this
    · exact begins_far2 s m w hs (by omega)
  · exact begins_far1 s m w (by omega)

theorem joins_far1 (s m : ByteArray) (w : World) (hs : 1000 < s.size) : Calls Try.prog 6 #[.string s, .string m] w (Yes w) := by
  have h1 : (1000 : Int) < (s.size : Int) := by omega
  go_enter Try.func6, Try.ntmps6
  go_wp2_with fail
  refine (awake_any _).mono ?_
  rintro e w1 ⟨rfl, hb⟩
  go_wp2_with fail
  go_ret
  exact ⟨rfl, hb⟩
theorem joins_far2 (s m : ByteArray) (w : World) (hs : s.size ≤ 1000) (hm : 1000 < m.size) : Calls Try.prog 6 #[.string s, .string m] w (Yes w) := by
  have h1 : (s.size : Int) ≤ 1000 := by omega
  have h2 : (1000 : Int) < (m.size : Int) := by omega
  go_enter Try.func6, Try.ntmps6
  go_wp2_with fail
  refine (awake_any _).mono ?_
  rintro e w1 ⟨rfl, hb⟩
  go_wp2_with fail
  go_ret
  exact ⟨rfl, hb⟩

theorem below_chain {w w1 w2 : World} (h2 : Below w1.heap.size w1 w2) (h : Below w.heap.size w w1) : Below w.heap.size w w2 := h.trans (h2.mono h.size)

set_option maxHeartbeats 4000000 in
theorem joins_core (s m A B : ByteArray) (w : World) (hs : s.size ≤ 1000) (hm : m.size ≤ 1000) (hA : 2 ≤ A.size) (hA2 : A.size ≤ 5000) (hB : 2 ≤ B.size) (hB2 : B.size ≤ 5000)
    (cA : Hid (∀ w, Calls Try.prog 11 #[.string s] w fun e w' => e = .returned (.string A) ∧ Below w.heap.size w w'))
    (cB : Hid (∀ w, Calls Try.prog 11 #[.string m] w fun e w' => e = .returned (.string B) ∧ Below w.heap.size w w'))
    (cQ : Hid (∀ w, Calls Try.prog 11 #[.string (s ++ m)] w fun e w' => e = .returned (.string (A.extract 0 (A.size - 1) ++ B.extract 1 B.size)) ∧ Below w.heap.size w w'))
    (sA : Hid (∀ w, Calls Try.prog 13 #[.string s] w fun e w' => e = .returned (.int .i64 A.size) ∧ Below w.heap.size w w'))
    (sB : Hid (∀ w, Calls Try.prog 13 #[.string m] w fun e w' => e = .returned (.int .i64 B.size) ∧ Below w.heap.size w w'))
    (sQ : Hid (∀ w, Calls Try.prog 13 #[.string (s ++ m)] w fun e w' => e = .returned (.int .i64 ((A.size : Int) + (B.size : Int) - 2)) ∧ Below w.heap.size w w')) :
    Calls Try.prog 6 #[.string s, .string m] w (Yes w) := by
  have h1 : (s.size : Int) ≤ 1000 := by omega
  have h2 : (m.size : Int) ≤ 1000 := by omega
  have h3 : (2 : Int) ≤ (A.size : Int) := by omega
  have h4 : (2 : Int) ≤ (B.size : Int) := by omega
  go_enter Try.func6, Try.ntmps6
  go_wp2_with fail

  refine (cA.out _).mono ?_
  rintro e w1 ⟨rfl, hb⟩
  go_wp2_with fail
  refine (cB.out _).mono ?_
  rintro e w2 ⟨rfl, hb2⟩
  replace hb := hb.trans (hb2.mono hb.size)
  clear hb2
  go_wp2_with fail
  have t1 : ((A.size : Int) - 1).toNat = A.size - 1 := by omega
  have t2 : (0 : Int) ≤ (A.size : Int) - 1 := by omega
  have t3 : (A.size : Int) - 1 ≤ (A.size : Int) := by omega
  have t4 : (1 : Int) ≤ (B.size : Int) := by omega
  have s1 : IntKind.i64.wrap ((A.size : Int) - 1) = (A.size : Int) - 1 := IntWalk.i64_in _ (by omega)
  have s2 : IntKind.i64.wrap ((A.size : Int) + (B.size : Int)) = (A.size : Int) + (B.size : Int) := IntWalk.i64_in _ (by omega)
  have s3 : IntKind.i64.wrap ((A.size : Int) + (B.size : Int) - 2) = (A.size : Int) + (B.size : Int) - 2 := IntWalk.i64_in _ (by omega)
  have t5 : (1 : Int) ≤ (A.size : Int) := by omega
  have u1 : ¬ (9223372036854775807 < s.size + m.size) := by omega
  have u2 : ¬ (9223372036854775807 < A.size - 1 + (B.size - 1)) := by omega
  go_region_held3 (fun w' => Below w.heap.size w w') (first | exact hb.drew | assumption | (with_reducible exact below_chain (by assumption) (by assumption)) | go_keep) (first | (go_at_call 11; (with_reducible refine (cQ.out _).mono ?_); rintro e wq ⟨rfl, hbq⟩) | (go_at_call 13; (with_reducible refine (sQ.out _).mono ?_); rintro e wz ⟨rfl, hbz⟩) | (go_at_call 13; (with_reducible refine (sA.out _).mono ?_); rintro e wx ⟨rfl, hbx⟩) | (go_at_call 13; (with_reducible refine (sB.out _).mono ?_); rintro e wy ⟨rfl, hby⟩) | (go_at_call 7; (with_reducible refine (awake_any _).mono ?_); rintro e wa ⟨rfl, hba⟩))
  all_goals
    go_wp2_with fail
    go_ret
    exact ⟨rfl, by assumption⟩

theorem joins_any (s m : ByteArray) (w : World) : Calls Try.prog 6 #[.string s, .string m] w (Yes w) := by
  by_cases hs : s.size ≤ 1000
  · by_cases hm : m.size ≤ 1000
    · have ql := quote_len s.data.toList
      have qm := quote_len m.data.toList
      have hsum := size_append s.data.toList m.data.toList
      rw [size_list] at ql qm
      have hl : (s ++ m).data.toList = s.data.toList ++ m.data.toList := by simp [ByteArray.data_append]
      have hq : ByteArray.mk (quote (s ++ m).data.toList).toArray = (ByteArray.mk (quote s.data.toList).toArray).extract 0 ((ByteArray.mk (quote s.data.toList).toArray).size - 1) ++ (ByteArray.mk (quote m.data.toList).toArray).extract 1 (ByteArray.mk (quote m.data.toList).toArray).size := by
        rw [hl, quote_append, size_mk, size_mk]
        apply ByteArray.ext
        apply Array.toList_inj.1
        simp [ByteArray.data_append, ByteArray.data_extract]
        rw [List.dropLast_eq_take, List.take_of_length_le (l := (quote m.data.toList).tail) (by simp)]
      have c1 := fun w => quote_any (s ++ m) w (by rw [ByteArray.size_append]; omega)
      unfold Bytes at c1
      rw [hq] at c1
      refine joins_core s m ⟨(quote s.data.toList).toArray⟩ ⟨(quote m.data.toList).toArray⟩ w hs hm (by rw [size_mk]; omega) (by rw [size_mk]; omega) (by rw [size_mk]; omega) (by rw [size_mk]; omega) (fun w => quote_any s w (by omega)) (fun w => quote_any m w (by omega)) c1 (fun w => ?_) (fun w => ?_) (fun w => ?_)
      · rw [size_mk, ← size_quote]
        exact size_any s w (by omega)
      · rw [size_mk, ← size_quote]
        exact size_any m w (by omega)
      · have := size_any (s ++ m) w (by rw [ByteArray.size_append]; omega)
        rw [hl] at this
        rw [size_mk, size_mk, ← size_quote, ← size_quote]
        rw [show ((size s.data.toList : Int) + (size m.data.toList : Int) - 2) = (size (s.data.toList ++ m.data.toList) : Int) by omega]
        exact this
    · exact joins_far2 s m w hs (by omega)
  · exact joins_far1 s m w (by omega)
end Go.Proofs.Ytmcjkijnapmboaa
