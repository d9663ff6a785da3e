import Derived.Test.YtkenbckagmjheaaV
namespace Go.Proofs.Ytkenbckagmjheaa
open Go.RowKit

theorem Row.slice2 {w : World} {base : Nat} {v : Value} {l : List Int} (h : Row w base v l) : ∃ a c, v = .slice a l.length c := by
  rcases h.form with ⟨rfl, rfl⟩ | ⟨g, cap, L, rfl, _⟩ <;> exact ⟨_, _, rfl⟩

/-- Put that keeps nothing. -/
def PutNo (w : World) : Ending → World → Prop := fun e w' => e = .returned (.bool false) ∧ ∃ q, w' = w.drewN q

theorem put_nil (t x : Int) (w : World) : Calls Try.prog 9 #[.pointer none, .int .i64 t, .int .i64 x] w (PutNo w) := by
  go_enter Try.func9, Try.ntmps9
  go_wp2_with fail
  go_ret
  exact ⟨rfl, 0, rfl⟩

theorem put_low (w : World) (base B : Nat) (ev : List Int) (every most : Int) (T X : List Int) (gone : Int) (eV tV xV : Value) (t x : Int) (h : St w base B ev every most T X gone eV tV xV) (ht : t < 0) :
    Calls Try.prog 9 #[.pointer (some ⟨B, 0, none⟩), .int .i64 t, .int .i64 x] w (PutNo w) := by
  obtain ⟨c0, _⟩ := h.cells
  clear h
  go_enter Try.func9, Try.ntmps9
  go_wp2_with fail
  go_ret
  exact ⟨rfl, 0, rfl⟩

theorem put_odd (w : World) (base B : Nat) (ev : List Int) (every most : Int) (T X : List Int) (gone : Int) (eV tV xV : Value) (t x : Int) (h : St w base B ev every most T X gone eV tV xV) (ht : 0 ≤ t) (he : 1 ≤ every) (hm : (t % every != 0) = true) :
    Calls Try.prog 9 #[.pointer (some ⟨B, 0, none⟩), .int .i64 t, .int .i64 x] w (PutNo w) := by
  obtain ⟨c0, _⟩ := h.cells
  have ht' : ¬ t < 0 := by omega
  clear h
  go_enter Try.func9, Try.ntmps9
  go_wp2_with fail
  go_ret
  exact ⟨rfl, 0, rfl⟩

theorem put_there (w : World) (base B : Nat) (ev : List Int) (every most : Int) (T X : List Int) (gone : Int) (eV tV xV : Value) (t x : Int) (h : St w base B ev every most T X gone eV tV xV) (hlen : T.length ≤ 1000) (hs : T.Pairwise (· ≤ ·)) (ht : 0 ≤ t) (he : 1 ≤ every) (hm : (t % every != 0) = false) (hc : T.contains t = true) :
    Calls Try.prog 9 #[.pointer (some ⟨B, 0, none⟩), .int .i64 t, .int .i64 x] w (PutNo w) := by
  obtain ⟨c0, _, _, c3, _⟩ := h.cells
  have ht' : ¬ t < 0 := by omega
  have hsr := search_any tV T t w h.rt.view hlen hs
  rw [hc] at hsr
  generalize T.countP (· < t) = i at hsr
  have hsr := Lib.hid hsr
  clear h hc
  go_enter Try.func9, Try.ntmps9
  go_wp2_with fail
  refine hsr.out.mono ?_
  rintro e w' ⟨rfl, q, rfl⟩
  go_wp2_with fail
  go_ret
  exact ⟨rfl, q, rfl⟩

/-- A list with one more at a place. -/
def ins {α : Type} (l : List α) (i : Nat) (x : α) : List α := l.take i ++ x :: l.drop i
theorem ins_length {α : Type} (l : List α) (i : Nat) (x : α) (hi : i ≤ l.length) : (ins l i x).length = l.length + 1 := by unfold ins; simp; omega

set_option maxHeartbeats 2000000 in
set_option maxRecDepth 100000 in
theorem put_few (w : World) (base B : Nat) (ev : List Int) (every most : Int) (T X : List Int) (gone : Int) (eV tV xV : Value) (t x : Int) (h : St w base B ev every most T X gone eV tV xV) (hbw : base ≤ w.heap.size) (hX : X.length = T.length) (hlen : T.length ≤ 900) (hs : T.Pairwise (· ≤ ·)) (ht : 0 ≤ t) (he : 1 ≤ every) (hm : (t % every != 0) = false) (hc : T.contains t = false) (hfew : (T.length : Int) + 1 ≤ most) :
    Calls Try.prog 9 #[.pointer (some ⟨B, 0, none⟩), .int .i64 t, .int .i64 x] w (Left (.bool true) w base B ev every most (ins T (T.countP (· < t)) t) (ins X (T.countP (· < t)) x) gone eV tV xV) := by
  obtain ⟨c0, _, _, c3, _⟩ := h.cells
  have ht' : ¬ t < 0 := by omega
  have hsr := search_any tV T t w h.rt.view (by omega) hs
  have hi : T.countP (· < t) ≤ T.length := List.countP_le_length
  rw [hc] at hsr
  generalize T.countP (· < t) = i at *
  have hsr := Lib.hid hsr
  have HS := Lib.hid h
  have HX := Lib.hid hX
  clear h hc hX
  go_enter Try.func9, Try.ntmps9
  go_wp2_with fail
  refine hsr.out.mono ?_
  rintro e w' ⟨rfl, q, rfl⟩
  have S0 := HS.out.drewN q
  have hstep := Lib.hid (Step.drewN B tV xV w q)
  have hb1 : base ≤ (w.drewN q).heap.size := hbw
  clear hsr HS c0 c3
  generalize w.drewN q = w1 at *
  have c3 := S0.cells.2.2.2.1
  have c4 := S0.cells.2.2.2.2.1
  have c1 := S0.cells.2.1
  have fz := S0.cells.2.2.2.2.2.2
  have HB := S0.lt
  have hts : tV.ownBlock ≠ some w1.heap.size := fun e => by have := S0.rt.blt _ e; omega
  have hxs : xV.ownBlock ≠ some w1.heap.size := fun e => by have := S0.rx.blt _ e; omega
  have cD := Lib.hid (insert_any base tV T i t w1.heap.size (w1.alloc (.cells #[.int .i64 t] 3)) (S0.rt.alloc _) hi (by omega) (by simp; omega) (heap_alloc_new w1 _) hts)
  have HS := Lib.hid (S0.alloc (.cells #[.int .i64 t] 3))
  have HBa : B < (w1.alloc (.cells #[.int .i64 t] 3)).heap.size := by simp; omega
  have hnew := Lib.hid ((Step.alloc B tV xV w1 (.cells #[.int .i64 t] 3)))
  have c1a := HS.out.cells.2.1
  have c3a := HS.out.cells.2.2.2.1
  have c4a := HS.out.cells.2.2.2.2.1
  have fza := HS.out.cells.2.2.2.2.2.2
  clear S0
  go_wp2_with fail
  refine cD.out.mono ?_
  rintro e w2 ⟨v2, rfl, hr, hg, hn⟩
  obtain ⟨a2, k2, rfl⟩ := hr.slice2
  have hl2 : (T.take i ++ t :: T.drop i).length = T.length + 1 := by simp; omega
  have S1 := HS.out.put_t hg hr hn
  have P1 := Lib.hid (hstep.out.trans (hnew.out.trans ((Step.grown_t (B := B) (xV := xV) hg hn).trans (Step.store B _ _ w2 3 (.slice a2 (T.take i ++ t :: T.drop i).length k2)))))
  have d3 := (grown_cell hg B 3 HBa HS.out.ot).1.trans c3a
  have f3 := (grown_cell hg B 3 HBa HS.out.ot).2.trans (fza 3)
  have d4 := (grown_cell hg B 4 HBa HS.out.ot).1.trans c4a
  have d1 := (grown_cell hg B 1 HBa HS.out.ot).1.trans c1a
  have hz2 : (w2.setCell ⟨B, 3, none⟩ (.slice a2 (T.take i ++ t :: T.drop i).length k2)).heap.size = w2.heap.size := by simp [World.setCell]
  have hb2 : base ≤ w2.heap.size := by have := hg.size; simp at this; omega
  clear hr hg hn c1 c3 c4 fz c1a c3a c4a fza HS cD hts hxs hnew hstep HB HBa
  have hnn : (((T.take i ++ t :: T.drop i).length : Nat) : Int) = (T.length : Int) + 1 := by omega
  have HT1 : Hid (ins T i t = T.take i ++ t :: T.drop i) := rfl
  have hT1l : Hid ((T.take i ++ t :: T.drop i).length = T.length + 1) := hl2
  generalize T.take i ++ t :: T.drop i = T1 at *
  generalize hn2 : T1.length = n2 at *
  have hN2 := Lib.hid hn2
  clear hn2 hl2
  have HB1 := S1.lt
  have e4 := S1.cells.2.2.2.2.1
  have e3 := S1.cells.2.2.2.1
  have e1 := S1.cells.2.1
  have ef := S1.cells.2.2.2.2.2.2
  have HS1 := Lib.hid (S1.alloc (.cells #[.int .i64 x] 3))
  have HBb : B < ((w2.setCell ⟨B, 3, none⟩ (.slice a2 n2 k2)).alloc (.cells #[.int .i64 x] 3)).heap.size := by simp; omega
  have hxs2 : xV.ownBlock ≠ some w2.heap.size := fun e => by have := S1.rx.blt _ e; omega
  have hvb : ((w2.setCell ⟨B, 3, none⟩ (.slice a2 n2 k2)).alloc (.cells #[.int .i64 x] 3)).heap[w2.heap.size]? = some (.cells #[.int .i64 x] 3 (0, 0)) := by
    have := heap_alloc_new (w2.setCell ⟨B, 3, none⟩ (.slice a2 n2 k2)) (.cells #[.int .i64 x] 3)
    rwa [hz2] at this
  have cX := Lib.hid (insert_any base xV X i x w2.heap.size ((w2.setCell ⟨B, 3, none⟩ (.slice a2 n2 k2)).alloc (.cells #[.int .i64 x] 3)) (S1.rx.alloc _) (by rw [HX.out]; exact hi) (by rw [HX.out]; omega) (by simp; omega) hvb hxs2)
  have hnew2 := Lib.hid ((Step.alloc B (.slice a2 n2 k2) xV (w2.setCell ⟨B, 3, none⟩ (.slice a2 n2 k2)) (.cells #[.int .i64 x] 3)))
  clear S1 hvb hz2
  go_wp2_with fail
  refine cX.out.mono ?_
  rintro e w4 ⟨v4, rfl, hr, hg, hn⟩
  obtain ⟨a4, k4, rfl⟩ := hr.slice2
  have S2 := HS1.out.put_x hg hr hn
  have P2 := Lib.hid (P1.out.trans (hnew2.out.trans ((Step.grown_x (B := B) hg hn).trans (Step.store B _ _ w4 4 (.slice a4 (X.take i ++ x :: X.drop i).length k4)))))
  have fx := HS1.out.cells
  have g4 := (grown_cell hg B 4 HBb HS1.out.ox).1.trans fx.2.2.2.2.1
  have g4f := (grown_cell hg B 4 HBb HS1.out.ox).2.trans (fx.2.2.2.2.2.2 4)
  have g3 := (grown_cell hg B 3 HBb HS1.out.ox).1.trans fx.2.2.2.1
  have g1 := (grown_cell hg B 1 HBb HS1.out.ox).1.trans fx.2.1
  have HX1 : Hid (ins X i x = X.take i ++ x :: X.drop i) := rfl
  have hX1l : Hid ((X.take i ++ x :: X.drop i).length = T.length + 1) := by have := HX.out; rw [Hid]; simp; omega
  generalize X.take i ++ x :: X.drop i = X1 at *
  have HS2 := Lib.hid S2
  clear S2 hr hg hn e1 e3 e4 ef HS1 cX P1 d3 f3 d4 d1 fx hnew2 hxs2
  go_wp2_with fail
  go_quiet (fail)
  go_wp2_with fail
  go_ret
  rw [HT1.out, HX1.out]
  exact ⟨rfl, _, _, HS2.out.drewN nq, P2.out.trans (Step.drewN B _ _ _ nq)⟩

set_option maxHeartbeats 2000000 in
set_option maxRecDepth 100000 in
theorem put_drop (w : World) (base B : Nat) (ev : List Int) (every most : Int) (T X : List Int) (gone : Int) (eV tV xV : Value) (t x : Int) (h : St w base B ev every most T X gone eV tV xV) (hbw : base ≤ w.heap.size) (hX : X.length = T.length) (hlen : T.length ≤ 900) (hs : T.Pairwise (· ≤ ·)) (ht : 0 ≤ t) (he : 1 ≤ every) (hm : (t % every != 0) = false) (hc : T.contains t = false) (hmany : most < (T.length : Int) + 1) (hm1 : 1 ≤ most) (hg0 : 0 ≤ gone) (hg1 : gone ≤ 1000000) (hev : ev.length ≤ 140737488355328) :
    Calls Try.prog 9 #[.pointer (some ⟨B, 0, none⟩), .int .i64 t, .int .i64 x] w (Left (.bool true) w base B ev every most (del (ins T (T.countP (· < t)) t) (dropAt (ins T (T.countP (· < t)) t) ev gone)) (del (ins X (T.countP (· < t)) x) (dropAt (ins T (T.countP (· < t)) t) ev gone)) (gone + 1) eV tV xV) := by
  obtain ⟨c0, _, _, c3, _⟩ := h.cells
  have ht' : ¬ t < 0 := by omega
  have hsr := search_any tV T t w h.rt.view (by omega) hs
  have hi : T.countP (· < t) ≤ T.length := List.countP_le_length
  rw [hc] at hsr
  generalize T.countP (· < t) = i at *
  have hsr := Lib.hid hsr
  have HS := Lib.hid h
  have HX := Lib.hid hX
  clear h hc hX
  go_enter Try.func9, Try.ntmps9
  go_wp2_with fail
  refine hsr.out.mono ?_
  rintro e w' ⟨rfl, q, rfl⟩
  have S0 := HS.out.drewN q
  have hstep := Lib.hid (Step.drewN B tV xV w q)
  have hb1 : base ≤ (w.drewN q).heap.size := hbw
  clear hsr HS c0 c3
  generalize w.drewN q = w1 at *
  have c3 := S0.cells.2.2.2.1
  have c4 := S0.cells.2.2.2.2.1
  have c1 := S0.cells.2.1
  have fz := S0.cells.2.2.2.2.2.2
  have HB := S0.lt
  have hts : tV.ownBlock ≠ some w1.heap.size := fun e => by have := S0.rt.blt _ e; omega
  have hxs : xV.ownBlock ≠ some w1.heap.size := fun e => by have := S0.rx.blt _ e; omega
  have cD := Lib.hid (insert_any base tV T i t w1.heap.size (w1.alloc (.cells #[.int .i64 t] 3)) (S0.rt.alloc _) hi (by omega) (by simp; omega) (heap_alloc_new w1 _) hts)
  have HS := Lib.hid (S0.alloc (.cells #[.int .i64 t] 3))
  have HBa : B < (w1.alloc (.cells #[.int .i64 t] 3)).heap.size := by simp; omega
  have hnew := Lib.hid ((Step.alloc B tV xV w1 (.cells #[.int .i64 t] 3)))
  have c1a := HS.out.cells.2.1
  have c3a := HS.out.cells.2.2.2.1
  have c4a := HS.out.cells.2.2.2.2.1
  have fza := HS.out.cells.2.2.2.2.2.2
  clear S0
  go_wp2_with fail
  refine cD.out.mono ?_
  rintro e w2 ⟨v2, rfl, hr, hg, hn⟩
  obtain ⟨a2, k2, rfl⟩ := hr.slice2
  have hl2 : (T.take i ++ t :: T.drop i).length = T.length + 1 := by simp; omega
  have S1 := HS.out.put_t hg hr hn
  have P1 := Lib.hid (hstep.out.trans (hnew.out.trans ((Step.grown_t (B := B) (xV := xV) hg hn).trans (Step.store B _ _ w2 3 (.slice a2 (T.take i ++ t :: T.drop i).length k2)))))
  have d3 := (grown_cell hg B 3 HBa HS.out.ot).1.trans c3a
  have f3 := (grown_cell hg B 3 HBa HS.out.ot).2.trans (fza 3)
  have d4 := (grown_cell hg B 4 HBa HS.out.ot).1.trans c4a
  have d1 := (grown_cell hg B 1 HBa HS.out.ot).1.trans c1a
  have hz2 : (w2.setCell ⟨B, 3, none⟩ (.slice a2 (T.take i ++ t :: T.drop i).length k2)).heap.size = w2.heap.size := by simp [World.setCell]
  have hb2 : base ≤ w2.heap.size := by have := hg.size; simp at this; omega
  clear hr hg hn c1 c3 c4 fz c1a c3a c4a fza HS cD hts hxs hnew hstep HB HBa
  have hnn : (((T.take i ++ t :: T.drop i).length : Nat) : Int) = (T.length : Int) + 1 := by omega
  have HT1 : Hid (ins T i t = T.take i ++ t :: T.drop i) := rfl
  have hT1l : Hid ((T.take i ++ t :: T.drop i).length = T.length + 1) := hl2
  generalize T.take i ++ t :: T.drop i = T1 at *
  generalize hn2 : T1.length = n2 at *
  have hN2 := Lib.hid hn2
  clear hn2 hl2
  have HB1 := S1.lt
  have e4 := S1.cells.2.2.2.2.1
  have e3 := S1.cells.2.2.2.1
  have e1 := S1.cells.2.1
  have ef := S1.cells.2.2.2.2.2.2
  have HS1 := Lib.hid (S1.alloc (.cells #[.int .i64 x] 3))
  have HBb : B < ((w2.setCell ⟨B, 3, none⟩ (.slice a2 n2 k2)).alloc (.cells #[.int .i64 x] 3)).heap.size := by simp; omega
  have hxs2 : xV.ownBlock ≠ some w2.heap.size := fun e => by have := S1.rx.blt _ e; omega
  have hvb : ((w2.setCell ⟨B, 3, none⟩ (.slice a2 n2 k2)).alloc (.cells #[.int .i64 x] 3)).heap[w2.heap.size]? = some (.cells #[.int .i64 x] 3 (0, 0)) := by
    have := heap_alloc_new (w2.setCell ⟨B, 3, none⟩ (.slice a2 n2 k2)) (.cells #[.int .i64 x] 3)
    rwa [hz2] at this
  have cX := Lib.hid (insert_any base xV X i x w2.heap.size ((w2.setCell ⟨B, 3, none⟩ (.slice a2 n2 k2)).alloc (.cells #[.int .i64 x] 3)) (S1.rx.alloc _) (by rw [HX.out]; exact hi) (by rw [HX.out]; omega) (by simp; omega) hvb hxs2)
  have hnew2 := Lib.hid ((Step.alloc B (.slice a2 n2 k2) xV (w2.setCell ⟨B, 3, none⟩ (.slice a2 n2 k2)) (.cells #[.int .i64 x] 3)))
  clear S1 hvb hz2
  go_wp2_with fail
  refine cX.out.mono ?_
  rintro e w4 ⟨v4, rfl, hr, hg, hn⟩
  obtain ⟨a4, k4, rfl⟩ := hr.slice2
  have S2 := HS1.out.put_x hg hr hn
  have P2 := Lib.hid (P1.out.trans (hnew2.out.trans ((Step.grown_x (B := B) hg hn).trans (Step.store B _ _ w4 4 (.slice a4 (X.take i ++ x :: X.drop i).length k4)))))
  have fx := HS1.out.cells
  have g4 := (grown_cell hg B 4 HBb HS1.out.ox).1.trans fx.2.2.2.2.1
  have g4f := (grown_cell hg B 4 HBb HS1.out.ox).2.trans (fx.2.2.2.2.2.2 4)
  have g3 := (grown_cell hg B 3 HBb HS1.out.ox).1.trans fx.2.2.2.1
  have g1 := (grown_cell hg B 1 HBb HS1.out.ox).1.trans fx.2.1
  have HX1 : Hid (ins X i x = X.take i ++ x :: X.drop i) := rfl
  have hX1l : Hid ((X.take i ++ x :: X.drop i).length = T.length + 1) := by have := HX.out; rw [Hid]; simp; omega
  generalize X.take i ++ x :: X.drop i = X1 at *
  have HS2 := Lib.hid S2
  clear S2 hr hg hn e1 e3 e4 ef HS1 cX P1 d3 f3 d4 d1 fx hnew2 hxs2
  go_wp2_with fail
  go_quiet (fail)
  go_wp2_with fail
  have cZ := Lib.hid (drop_any _ base B ev every most T1 X1 gone eV _ _ (HS2.out.drewN nq) (by rw [hX1l.out, hN2.out, hT1l.out]) (by rw [hN2.out, hT1l.out]; omega) (by rw [hN2.out, hT1l.out]; omega) hg0 hg1 hev)
  refine cZ.out.mono ?_
  rintro e w6 ⟨rfl, tV', xV', S3, P3⟩
  rw [← HT1.out, ← HX1.out] at S3
  go_wp2_with fail
  go_ret
  exact ⟨rfl, _, _, S3, P2.out.trans ((Step.drewN B _ _ _ nq).trans P3)⟩

end Go.Proofs.Ytkenbckagmjheaa
