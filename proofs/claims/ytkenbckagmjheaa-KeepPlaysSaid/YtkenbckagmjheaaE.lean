import Derived.Test.YtkenbckagmjheaaN
namespace Go.Proofs.Ytkenbckagmjheaa
open Go.RowKit

theorem Row.cut {w : World} {base : Nat} {a : Option Addr} {c : Nat} {l : List Int} (h : Row w base (.slice a l.length c) l) (n : Nat) (hn : n ≤ l.length) : Row w base (.slice a n c) (l.take n) := by
  have hl : (l.take n).length = n := by simp; omega
  rcases h.form with ⟨hv, hl0⟩ | ⟨g, cap, L, hv, hb, hg, hle, hm, hL, ht⟩
  · injection hv with e1 e2 e3
    subst e1 e3
    have : n = 0 := by omega
    subst this
    exact ⟨rfl, .inl ⟨rfl, rfl⟩⟩
  · injection hv with e1 e2 e3
    subst e1 e3
    have := row_mk (w := w) (base := base) (g := g) (cap := c) (L := L) (l := l.take n) hb hg hm hL (by rw [hl]; omega) (by
      rw [hl, List.map_take, ← ht, List.take_take, Nat.min_eq_left hn])
    rw [hl] at this
    exact this

/-- Behind a turn of the row of things (no store). -/
theorem St.turn_x {w w2 : World} {base B : Nat} {ev : List Int} {every most : Int} {T X X' : List Int} {gone : Int} {eV tV xV : Value} (h : St w base B ev every most T X gone eV tV xV)
    (hg : w.grownBy w2 xV.ownBlock) (hr : Row w2 base xV X') : St w2 base B ev every most T X' gone eV tV xV := by
  have hB := h.lt
  have keep : ∀ (v : Value) (l : List Int), Row w base v l → Apart v xV → Row w2 base v l := fun v l r a => r.same (fun k hk => hg.block k (r.blt k hk) (fun e => by
    rcases a with a | a
    · rw [a] at hk; cases hk
    · exact a (by rw [hk, e])))
  exact ⟨(hg.block B hB (fun e => h.ox e.symm)).trans h.blk, h.hB, keep eV ev h.re h.ex, keep tV T h.rt h.tx, hr, h.oe, h.ot, h.ox, h.et, h.ex, h.tx⟩

theorem run_clear_zero (w : World) (ty : TypeId) (a : Option Addr) (c : Nat) : (Builtin.clear_ #[22] ty #[.slice a 0 c]).run Try.prog w = .ok (.tuple #[]) w := by
  cases a <;> simp [Builtin.clear_, run_underlying Try.underlying22]

/-- What Behind leaves. -/
def LeftB (w : World) (base B : Nat) (ev : List Int) (every most : Int) (T X : List Int) (gone : Int) (eV tV xV : Value) : Ending → World → Prop := fun e w' =>
  e = .returned (.tuple #[]) ∧ ∃ tV' xV', St w' base B ev every most T X gone eV tV' xV' ∧ Step B tV xV tV' xV' w w'

/-- The two stores at the end. -/
theorem behind_end {w w2 : World} {base B : Nat} {ev : List Int} {every most : Int} {T X X' : List Int} {gone : Int} {eV tV xV : Value} {ta xa : Option Addr} {tc xc : Nat} (n : Nat) (h : St w base B ev every most T X gone eV (.slice ta T.length tc) (.slice xa X'.length xc)) (hX : X'.length = T.length) (hn : n ≤ T.length) (ht : tV = .slice ta T.length tc) (hx : xV = .slice xa X'.length xc)
    (hg : w.grownBy w2 (Value.slice xa X'.length xc).ownBlock) (hr : Row w2 base (.slice xa X'.length xc) X') :
    St ((w2.setCell ⟨B, 3, none⟩ (.slice ta n tc)).setCell ⟨B, 4, none⟩ (.slice xa n xc)) base B ev every most (T.take n) (X'.take n) gone eV (.slice ta n tc) (.slice xa n xc) ∧ Step B tV xV (.slice ta n tc) (.slice xa n xc) w ((w2.setCell ⟨B, 3, none⟩ (.slice ta n tc)).setCell ⟨B, 4, none⟩ (.slice xa n xc)) := by
  subst ht hx
  have S1 := h.turn_x hg hr
  have o1 : (Value.slice ta n tc).ownBlock = (Value.slice ta T.length tc).ownBlock := by cases ta <;> rfl
  have o2 : (Value.slice xa n xc).ownBlock = (Value.slice xa X'.length xc).ownBlock := by cases xa <;> rfl
  have S2 := S1.put_t (grown_refl w2 _) (S1.rt.cut n hn) (.inl o1)
  have S3 := S2.put_x (grown_refl _ _) (S2.rx.cut n (by omega)) (.inl o2)
  refine ⟨S3, ?_⟩
  refine (Step.grown_x (B := B) (tV := .slice ta T.length tc) hg (.inl rfl)).trans ?_
  refine (Step.grown_t (B := B) (xV := .slice xa X'.length xc) (grown_refl w2 _) (.inl o1)).trans ?_
  refine (Step.store B _ _ w2 3 (.slice ta n tc)).trans ?_
  exact (Step.grown_x (B := B) (grown_refl _ _) (.inl o2)).trans (Step.store B _ _ _ 4 (.slice xa n xc))

theorem nb_cases (T : List Int) (t : Int) : (T.contains t = false ∧ nb T t = T.countP (· < t)) ∨ (T.contains t = true ∧ nb T t = T.countP (· < t) + 1) := by
  unfold nb
  cases T.contains t with
  | false => exact .inl ⟨rfl, by simp⟩
  | true => exact .inr ⟨rfl, by simp⟩

set_option maxHeartbeats 4000000 in
set_option maxRecDepth 100000 in
/-- The walk, with what the search answers, and where the rows lie, already known. -/
theorem behind_walk (w : World) (B : Nat) (t : Int) (ct n : Nat) (there : Bool) (ta xa : Option Addr) (N tc xc : Nat) (Q : Ending → World → Prop)
    (hsr : Hid (Calls Try.prog 20 #[.slice ta N tc, .int .i64 t] w fun e w' => e = .returned (.tuple #[.int .i64 ct, .bool there]) ∧ ∃ q, w' = w.drewN q)) (hn : n ≤ N) (hN : N ≤ 1000) (htc : (N : Int) ≤ tc) (hxc : (N : Int) ≤ xc) (htc2 : (tc : Int) ≤ 9223372036854775807) (hxc2 : (xc : Int) ≤ 9223372036854775807)
    (hct : Hid ((there = false ∧ n = ct) ∨ (there = true ∧ n = ct + 1)))
    (c3 : w.cell? ⟨B, 3, none⟩ = some (.slice ta N tc)) (c4 : w.cell? ⟨B, 4, none⟩ = some (.slice xa N xc)) (fz : ∀ k, w.frozen? ⟨B, k, none⟩ = false)
    (hta : (ta = none ∧ N = 0 ∧ tc = 0) ∨ ∃ g, ta = some ⟨g, 0, none⟩) (hxa : (xa = none ∧ N = 0 ∧ xc = 0) ∨ ∃ g, xa = some ⟨g, 0, none⟩ ∧ g ≠ B ∧ ∀ j, j < N → (w.cell? ⟨g, j, none⟩).isSome = true ∧ w.frozen? ⟨g, j, none⟩ = false)
    (hQ0 : Hid (n = N → ∀ q, Q (.returned (.tuple #[])) ((((w.drewN q).setCell ⟨B, 3, none⟩ (.slice ta n tc)).setCell ⟨B, 4, none⟩ (.slice xa n xc)).drew)))
    (hQ1 : Hid (∀ g, xa = some ⟨g, 0, none⟩ → n < N → ∀ q, Q (.returned (.tuple #[])) (((((w.drewN q).setCells g n (List.replicate (N - n) (.int .i64 0))).setCell ⟨B, 3, none⟩ (.slice ta n tc)).setCell ⟨B, 4, none⟩ (.slice xa n xc)).drew))) :
    Calls Try.prog 14 #[.pointer (some ⟨B, 0, none⟩), .int .i64 t] w Q := by
  go_enter Try.func14, Try.ntmps14
  go_wp2_with fail
  refine hsr.out.mono ?_
  rintro e w' ⟨rfl, q, rfl⟩
  have d3 : (w.drewN q).cell? ⟨B, 3, none⟩ = _ := c3
  have d4 : (w.drewN q).cell? ⟨B, 4, none⟩ = _ := c4
  have dz : ∀ k, (w.drewN q).frozen? ⟨B, k, none⟩ = false := fz
  have hQ0 := Lib.hid (fun e => hQ0.out e q)
  have hQ1 := Lib.hid (fun g e1 e2 => hQ1.out g e1 e2 q)
  have hxa : (xa = none ∧ N = 0 ∧ xc = 0) ∨ ∃ g, xa = some ⟨g, 0, none⟩ ∧ g ≠ B ∧ ∀ j, j < N → ((w.drewN q).cell? ⟨g, j, none⟩).isSome = true ∧ (w.drewN q).frozen? ⟨g, j, none⟩ = false := hxa
  have hxa := Lib.hid hxa
  have hta := Lib.hid hta
  clear c3 c4 fz hsr
  generalize w.drewN q = wq at *
  go_upto_if 17 with fail
  go_cut [4] (fun s wy => s = .int .i64 (n : Int) ∧ wy = wq)
  case first =>
    rcases hct.out with ⟨rfl, rfl⟩ | ⟨rfl, rfl⟩
    · go_wp2_with fail
      go_meet
      exact ⟨rfl, rfl⟩
    · go_wp2_with fail
      go_meet
      exact ⟨rfl, rfl⟩
  case rest =>
  obtain ⟨rfl, hwr⟩ := hcut
  subst hwr
  obtain ⟨wq, hwq⟩ : ∃ wq, wq = wc := ⟨_, rfl⟩
  subst hwq
  have hcl0 : ∀ (W : World) ty a c, (Builtin.clear_ #[22] ty #[.slice a 0 c]).run Try.prog W = .ok (.tuple #[]) W := run_clear_zero
  by_cases hnN : n = N
  · subst hnN
    have hQ := Lib.hid (hQ0.out rfl)
    clear hQ0 hQ1
    have y1 : (0 : Int) ≤ (n : Int) := by omega
    have y2 : (n : Int) ≤ (tc : Int) := htc
    have y3 : (n : Int) ≤ (xc : Int) := hxc
    rcases hxa.out with ⟨rfl, hN0, rfl⟩ | ⟨gx, rfl, hgB, hgc⟩
    · subst hN0
      rcases hta.out with ⟨rfl, _, rfl⟩ | ⟨gt, rfl⟩
      · clear hxa hta
        go_wp2_with fail
        go_region
        all_goals
          go_wp2_with fail
          go_end0
          exact hQ.out
      · clear hxa hta
        go_wp2_with fail
        go_region
        all_goals
          go_wp2_with fail
          go_end0
          exact hQ.out
    · by_cases hxn : xc = n
      · subst hxn
        rcases hta.out with ⟨rfl, hn0, rfl⟩ | ⟨gt, rfl⟩
        · subst hn0
          clear hxa hta hgc
          go_wp2_with fail
          go_region
          all_goals
            go_wp2_with fail
            go_end0
            exact hQ.out
        · clear hxa hta hgc
          go_wp2_with fail
          go_region
          all_goals
            go_wp2_with fail
            go_end0
            exact hQ.out
      · have hxn2 : ¬ ((xc : Int) = (n : Int)) := by omega
        rcases hta.out with ⟨rfl, hn0, rfl⟩ | ⟨gt, rfl⟩
        · subst hn0
          clear hxa hta hgc
          go_wp2_with fail
          go_region
          all_goals
            go_wp2_with fail
            go_end0
            exact hQ.out
        · clear hxa hta hgc
          go_wp2_with fail
          go_region
          all_goals
            go_wp2_with fail
            go_end0
            exact hQ.out
  · have hnN' : n < N := by omega
    obtain ⟨gx, hx1, hgB, hgc⟩ : ∃ g, xa = some ⟨g, 0, none⟩ ∧ g ≠ B ∧ ∀ j, j < N → (wq.cell? ⟨g, j, none⟩).isSome = true ∧ wq.frozen? ⟨g, j, none⟩ = false := by
      rcases hxa.out with ⟨_, h0, _⟩ | h
      · omega
      · exact h
    obtain ⟨gt, ht1⟩ : ∃ g, ta = some ⟨g, 0, none⟩ := by
      rcases hta.out with ⟨_, h0, _⟩ | h
      · omega
      · exact h
    subst hx1 ht1
    have hQ := Lib.hid (hQ1.out gx rfl hnN')
    have hcl : ∀ ty, (Builtin.clear_ #[22] ty #[.slice (some ⟨gx, n, none⟩) (N - n) (xc - n)]).run Try.prog wq = .ok (.tuple #[]) (wq.setCells gx n (List.replicate (N - n) (.int .i64 0))) := fun ty =>
      Lib.run_clear_slice wq 22 3 ty (.int .i64 0) Try.underlying22 Try.zeroValue3 rfl rfl gx n (N - n) (xc - n) (by omega) (fun j hj => (hgc (n + j) (by omega)).1) (fun j hj => (hgc (n + j) (by omega)).2)
    have x3 := (World.cell?_setCells_out gx (List.replicate (N - n) (.int .i64 0)) n wq ⟨B, 3, none⟩ (fun e => absurd e.symm hgB)).trans d3
    have x4 := (World.cell?_setCells_out gx (List.replicate (N - n) (.int .i64 0)) n wq ⟨B, 4, none⟩ (fun e => absurd e.symm hgB)).trans d4
    have xz : ∀ k, (wq.setCells gx n (List.replicate (N - n) (.int .i64 0))).frozen? ⟨B, k, none⟩ = false := fun k => (World.frozen?_setCells gx _ n wq ⟨B, k, none⟩).trans (dz k)
    have y1 : (0 : Int) ≤ (n : Int) := by omega
    have y2 : (n : Int) ≤ (tc : Int) := by omega
    have y3 : (n : Int) ≤ (xc : Int) := by omega
    have y4 : (n : Int) ≤ (N : Int) := by omega
    have hxn : ¬ xc = n := by omega
    clear hQ0 hQ1 hxa hta hgc hcl0 hnN
    go_wp2_with fail
    generalize wq.setCells gx n (List.replicate (N - n) (.int .i64 0)) = W2 at *
    go_region
    all_goals
      go_wp2_with fail
      go_end0
      exact hQ.out

theorem behind_any (w : World) (base B : Nat) (ev : List Int) (every most : Int) (T X : List Int) (gone : Int) (eV tV xV : Value) (t : Int) (h : St w base B ev every most T X gone eV tV xV) (hi : Inv every most T X) :
    Calls Try.prog 14 #[.pointer (some ⟨B, 0, none⟩), .int .i64 t] w (LeftB w base B ev every most (T.take (nb T t)) (X.take (nb T t)) gone eV tV xV) := by
  have hs : T.Pairwise (· ≤ ·) := hi.sorted.imp (fun h => Int.le_of_lt h)
  have hlen : T.length ≤ 64 := by have := hi.few; have := hi.m64; omega
  have hn := nb_le T t
  have sl : ∀ (v : Value) (l : List Int), Row w base v l → ∃ a c, v = .slice a l.length c ∧ (l.length : Int) ≤ c ∧ (c : Int) ≤ 9223372036854775807 ∧ ((a = none ∧ l.length = 0 ∧ c = 0) ∨ ∃ g, a = some ⟨g, 0, none⟩ ∧ ∀ j, j < l.length → (w.cell? ⟨g, j, none⟩).isSome = true ∧ w.frozen? ⟨g, j, none⟩ = false) := by
    intro v l r
    rcases r.form with ⟨rfl, rfl⟩ | ⟨g, cap, L, rfl, hb, hg, hle, hm, hL, ht⟩
    · exact ⟨none, 0, rfl, by simp, by omega, .inl ⟨rfl, rfl, rfl⟩⟩
    · refine ⟨some ⟨g, 0, none⟩, cap, rfl, by omega, by unfold maxLen at hm; omega, .inr ⟨g, rfl, fun j hj => ⟨?_, frozen_of_row w g j _ 3 hg⟩⟩⟩
      rw [cell_of_row w g j _ 3 (0, 0) hg]
      simp; omega
  obtain ⟨ta, tc, rfl, t1, t2, t3⟩ := sl tV T h.rt
  obtain ⟨xa, xc, hxe, x1, x2, x3⟩ := sl xV X h.rx
  subst hxe
  have hsr := search_any _ T t w h.rt.view (by omega) hs
  have hcs := nb_cases T t
  obtain ⟨_, _, _, c3, c4, _, fz⟩ := h.cells
  have hXl := hi.len
  refine behind_walk w B t (T.countP (· < t)) (nb T t) (T.contains t) ta xa T.length tc xc _ hsr hn (by omega) t1 (by omega) t2 x2 (hcs.imp (fun h => ⟨h.1, h.2⟩) (fun h => ⟨h.1, h.2⟩)) c3 (by rw [← hXl]; exact c4) fz (t3.imp id (fun ⟨g, hg, _⟩ => ⟨g, hg⟩)) ?_ ?_ ?_
  · rcases x3 with ⟨e1, e2, e3⟩ | ⟨g, e, hc⟩
    · exact .inl ⟨e1, by omega, e3⟩
    · exact .inr ⟨g, e, fun e' => h.ox (by rw [e, ← e']; rfl), fun j hj => hc j (by omega)⟩
  · intro hnN q
    have S0 := h.drewN q
    obtain ⟨S, P⟩ := behind_end (X' := X) (nb T t) S0 hXl hn rfl rfl (grown_refl _ _) S0.rx
    exact ⟨rfl, _, _, S.drew, ((Step.drewN B _ _ w q).trans P).trans ⟨rfl, rfl, rfl, Nat.le_refl _, fun _ _ _ => rfl, fun _ h => .inl h, fun _ h => .inl h⟩⟩
  · intro g hg hnN q
    subst hg
    have S0 := h.drewN q
    rcases S0.rx.form with ⟨e, _⟩ | ⟨g', cap, L, e, hb, hgg, hle, hm, hL, ht⟩
    · cases e
    · injection e with e1 _ e3
      injection e1 with e1
      injection e1 with e1
      subst e1 e3
      have a1 := heap_setCells_at g 3 (List.replicate (T.length - nb T t) (.int .i64 0)) (nb T t) (w.drewN q) L hgg (by simp; omega)
      have hX2 : (X.take (nb T t) ++ List.replicate (T.length - nb T t) 0).length = X.length := by simp; omega
      have hr := row_mk (base := base) (g := g) (cap := xc) (l := X.take (nb T t) ++ List.replicate (T.length - nb T t) 0) hb a1 hm (by simp; omega) (by rw [hX2]; omega) (by
        rw [hX2]
        have hxl : (L.take (nb T t) ++ List.replicate (T.length - nb T t) (Value.int .i64 0)).length = X.length := by simp; omega
        rw [List.take_left' hxl, List.map_append, List.map_take, ← ht, List.take_take, Nat.min_eq_left (by omega), List.map_replicate])
      rw [hX2] at hr
      have := behind_end (T := T) (X' := X.take (nb T t) ++ List.replicate (T.length - nb T t) 0) (xa := some ⟨g, 0, none⟩) (xc := xc) (w2 := (w.drewN q).setCells g (nb T t) (List.replicate (T.length - nb T t) (.int .i64 0))) (nb T t) (by rw [hX2]; exact S0) (by rw [hX2]; exact hXl) hn rfl rfl (grown_setCells g _ (by rw [hX2]; rfl) _ _ _) (by rw [hX2]; exact hr)
      obtain ⟨S, P⟩ := this
      rw [List.take_left' (by simp; omega)] at S
      rw [hX2] at P
      exact ⟨rfl, _, _, S.drew, ((Step.drewN B _ _ w q).trans P).trans ⟨rfl, rfl, rfl, Nat.le_refl _, fun _ _ _ => rfl, fun _ h => .inl h, fun _ h => .inl h⟩⟩
end Go.Proofs.Ytkenbckagmjheaa
