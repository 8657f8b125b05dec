/- The law's examples, and ConformProved where the system conforms, walked. Conditions: those that each theorem names. -/
import Derived.Test.YtcbhaeniahckhaaDoorMr
set_option linter.unusedSimpArgs false
set_option linter.unusedVariables false
section
set_option linter.unusedSimpArgs false
namespace Go.Proofs.YtcbhaeniahckhaaDoor
open Go.RowKit Go.Shelf Go.Deep Go.Proofs.YtcbhaeniahckhaaDoorW.PrintLast
def exX : Rx := ⟨3, 0, 1, 2, [⟨0, 0, 0, 1⟩, ⟨1, 1, 0, 2⟩, ⟨2, 0, 0, 2⟩]⟩
def exO : Rx := ⟨3, 0, 1, 2, [⟨0, 0, 0, 1⟩, ⟨1, 1, 1, 2⟩, ⟨2, 0, 0, 2⟩]⟩
theorem ex_seek : (seekS exO exX).1 = some [0, 2] := by decide +kernel
theorem exX_ok : exX.ok := ⟨by decide, by decide, by decide, by decide, by decide, fun i hi => by
  have : i = 0 ∨ i = 1 := by simp [exX] at hi; omega
  rcases this with rfl | rfl <;> decide, by decide⟩
theorem exO_ok : exO.ok := ⟨by decide, by decide, by decide, by decide, by decide, fun i hi => by
  have : i = 0 ∨ i = 1 := by simp [exO] at hi; omega
  rcases this with rfl | rfl <;> decide, by decide⟩
theorem rdM_blk {W : World} {b : Nat} {cs : Array Value} (xs : List Mv) (h : W.heap[b]? = some (.cells cs 94 (0, 0))) (hc : cs = (xs.flatMap mvCells).toArray) : RdM W (some ⟨b, 0, none⟩) xs := by
  subst hc
  intro i hi
  obtain ⟨g1, g2, g3, g4⟩ := (flat_mv xs).2 i hi
  refine ⟨_, rfl, ?_⟩
  have e : (⟨b, 0, none⟩ : Addr).add (i * 4) = ⟨b, i * 4, none⟩ := by unfold Addr.add; split <;> simp_all
  rw [e]
  refine ⟨(cell_blk h _).trans ?_, (cell_blk h _).trans ?_, (cell_blk h _).trans ?_, (cell_blk h _).trans ?_⟩
  · simpa using g1
  · simpa using g2
  · simpa using g3
  · simpa using g4
theorem example_calls (w : World) : Calls Tryd.prog 25 #[] w fun e w' => ∃ b, e = .returned (.agg #[.int .i64 3, .int .i64 0, .int .i64 1, .int .i64 2, .slice (some ⟨b, 0, none⟩) 3 3]) ∧ w'.heap[b]? = some (.cells (exX.mvs.flatMap mvCells).toArray 94 (0, 0)) ∧ w.heap.size ≤ b ∧ Below w.heap.size w w' := by
  go_enter Tryd.func25, Tryd.ntmps25
  go_wp2
  (try simp only [Exit.inBlock, Exit.then])
  refine bodyPost_ret (results_cell_row (P := Tryd.prog) rfl _ _ w.heap.size 24 #[.int .i64 3, .int .i64 0, .int .i64 1, .int .i64 2, .slice (some ⟨w.heap.size + 1, 0, none⟩) 3 3] (0, 0) _ rfl ((heap_alloc_old _ _ (by simp)).trans (heap_alloc_new w _)) Tryd.underlying24 rfl (by kernel_rfl)) rfl ?_
  exact ⟨_, rfl, alloc_at _ _ _ (by simp), by omega, (alloc_below _ _).alloc (by simp) _⟩
theorem other_calls (w : World) : Calls Tryd.prog 26 #[] w fun e w' => ∃ b, e = .returned (.agg #[.int .i64 3, .int .i64 0, .int .i64 1, .int .i64 2, .slice (some ⟨b, 0, none⟩) 3 3]) ∧ w'.heap[b]? = some (.cells (exO.mvs.flatMap mvCells).toArray 94 (0, 0)) ∧ Below w.heap.size w w' := by
  go_enter Tryd.func26, Tryd.ntmps26
  go_wp2_with (first | (go_at_call 25; refine (example_calls _).mono ?_; rintro e w2 ⟨b, rfl, hb, hbb, hB2⟩; have f6 := frz hb 6; have d6 : w2.cell? ⟨b, 6, none⟩ = some (.int .i64 0) := (cell_blk hb 6).trans rfl; have HB := Sd.mk hb; have HB2 := Sd.mk hB2; have hbl := (Array.getElem?_eq_some_iff.1 hb).1; have hrs := (hB2.block w.heap.size (by simp)).trans (heap_alloc_new _ _); have HRS := Sd.mk hrs; have r0 := cell_blk hrs 0; have r1 := cell_blk hrs 1; have r2 := cell_blk hrs 2; have r3 := cell_blk hrs 3; have r4 := cell_blk hrs 4; have g0 := frz hrs 0; have g1 := frz hrs 1; have g2 := frz hrs 2; have g3 := frz hrs 3; have g4 := frz hrs 4; have hbn : b ≠ w.heap.size := (by simp at hbb; omega); have hwl := hB2.size; simp at hwl; have hwl2 : w.heap.size < w2.heap.size := (by omega); have hnb2 : w.heap.size ≠ b := hbn.symm; clear hb hB2 hrs) | fail)
  (try simp only [Exit.inBlock, Exit.then])
  refine bodyPost_ret (results_cell_row (P := Tryd.prog) rfl _ _ w.heap.size 24 #[.int .i64 3, .int .i64 0, .int .i64 1, .int .i64 2, .slice (some ⟨b, 0, none⟩) 3 3] (0, 0) _ rfl ((heap_alloc_old _ _ (by simp [World.setCell]; omega)).trans (blk_set (blk_set (blk_set (blk_set (blk_set ((Below.heap_setCell _ _ _ _ hnb2).trans HRS.out) 0 _) 1 _) 2 _) 3 _) 4 _)) Tryd.underlying24 rfl (by kernel_rfl)) rfl ?_
  refine ⟨b, rfl, ?_, ?_⟩
  · refine (heap_alloc_old _ _ (by simp [World.setCell]; omega)).trans ?_
    rw [Below.heap_setCell _ _ _ _ hbn, Below.heap_setCell _ _ _ _ hbn, Below.heap_setCell _ _ _ _ hbn, Below.heap_setCell _ _ _ _ hbn, Below.heap_setCell _ _ _ _ hbn]
    exact (blk_set HB.out 6 _).trans rfl
  · have h0 : Below w.heap.size w w2 := below_then (alloc_below _ _) (alloc_below _ _).size HB2.out
    have hb0 : w.heap.size ≤ b := by simp at hbb; omega
    exact ((((((h0.setCell hb0 _).setCell (Nat.le_refl _) _).setCell (Nat.le_refl _) _).setCell (Nat.le_refl _) _).setCell (Nat.le_refl _) _).setCell (Nat.le_refl _) _).alloc (by simp [World.setCell]; omega) _
theorem awake1_calls (w : World) (hT : Tab w) (b b' : Nat) (hb : w.heap[b]? = some (.cells (exX.mvs.flatMap mvCells).toArray 94 (0, 0))) (hb' : w.heap[b']? = some (.cells (exX.mvs.flatMap mvCells).toArray 94 (0, 0))) :
    Calls Tryd.prog 7 #[.agg #[.int .i64 3, .int .i64 0, .int .i64 1, .int .i64 2, .slice (some ⟨b, 0, none⟩) 3 3], .agg #[.int .i64 3, .int .i64 0, .int .i64 1, .int .i64 2, .slice (some ⟨b', 0, none⟩) 3 3]] w fun e w' => e = .returned (.tuple #[.slice none 0 0, .int .i64 0]) ∧ Below w.heap.size w w' := by
  have h := conforms_calls w hT exX exX exX_ok exX_ok ⟨rfl, rfl⟩ (some ⟨b, 0, none⟩) (some ⟨b', 0, none⟩) 3 3 (rdM_blk _ hb rfl) (rdM_blk _ hb' rfl)
  refine Calls.mono h ?_
  rintro e w' ⟨v, rfl, hB, h1, _⟩
  rw [seek_self exX exX_ok, h1 (seek_self exX exX_ok)]
  exact ⟨rfl, hB⟩
theorem awake2_calls (w : World) (hT : Tab w) (b b' : Nat) (hb : w.heap[b]? = some (.cells (exO.mvs.flatMap mvCells).toArray 94 (0, 0))) (hb' : w.heap[b']? = some (.cells (exX.mvs.flatMap mvCells).toArray 94 (0, 0))) :
    Calls Tryd.prog 7 #[.agg #[.int .i64 3, .int .i64 0, .int .i64 1, .int .i64 2, .slice (some ⟨b, 0, none⟩) 3 3], .agg #[.int .i64 3, .int .i64 0, .int .i64 1, .int .i64 2, .slice (some ⟨b', 0, none⟩) 3 3]] w fun e w' => ∃ A c, e = .returned (.tuple #[.slice A 2 c, .int .i64 29]) ∧ RdI w' A [0, 2] ∧ Below w.heap.size w w' := by
  have h := conforms_calls w hT exO exX exO_ok exX_ok ⟨rfl, rfl⟩ (some ⟨b, 0, none⟩) (some ⟨b', 0, none⟩) 3 3 (rdM_blk _ hb rfl) (rdM_blk _ hb' rfl)
  refine Calls.mono h ?_
  rintro e w' ⟨v, rfl, hB, _, h2⟩
  have ho : OwnI w' w.heap.size v [0, 2] := h2 [0, 2] ex_seek
  obtain ⟨A, c, rfl, _, hr⟩ := ho.read
  rw [ex_seek]
  exact ⟨A, c, rfl, hr, hB⟩
theorem rdI_blk {W : World} {b : Nat} {cs : Array Value} (xs : List Nat) (h : W.heap[b]? = some (.cells cs 3 (0, 0))) (hc : cs = (xs.map fun (x : Nat) => Value.int .i64 (x : Int)).toArray) : RdI W (some ⟨b, 0, none⟩) xs := by
  subst hc
  intro i hi
  refine ⟨_, rfl, ?_⟩
  have e : (⟨b, 0, none⟩ : Addr).add i = ⟨b, i, none⟩ := by unfold Addr.add; split <;> simp_all
  rw [e, cell_blk h]
  simp [hi, List.getD_eq_getElem?_getD]
set_option maxHeartbeats 4000000 in
set_option maxRecDepth 100000 in
theorem awake_calls (w : World) (hT : Tab w) : Calls Tryd.prog 5 #[] w fun e w' => e = .returned (.bool true) ∧ Below w.heap.size w w' := by
  have HT := Sd.mk hT
  clear hT
  go_enter Tryd.func5, Tryd.ntmps5
  go_upto_region 2 with (first | (go_at_call 25; first | (refine (example_calls w).mono ?_; rintro e w1 ⟨b1, rfl, hb1, _, hB1⟩; have HB1 := Sd.mk hB1; have Hb1 := Sd.mk hb1; clear hB1 hb1) | (refine (example_calls w1).mono ?_; rintro e w2 ⟨b2, rfl, hb2, _, hB2⟩; have HB2 := Sd.mk (below_then HB1.out HB1.out.size hB2); have Hb2 := Sd.mk hb2; have Hb12 := Sd.mk ((hB2.block _ (Array.getElem?_eq_some_iff.1 Hb1.out).1).trans Hb1.out); clear hB2 hb2)) | (go_at_call 7; refine (awake1_calls _ (HT.out.below HB2.out) b1 b2 Hb12.out Hb2.out).mono ?_; rintro e w3 ⟨rfl, hB3⟩; have HB3 := Sd.mk (below_then HB2.out HB2.out.size hB3); clear hB3) | fail)
  go_wp2_with (first | (go_at_call 26; refine (other_calls _).mono ?_; rintro e w4 ⟨b4, rfl, hb4, hB4⟩; have HB4 := Sd.mk (below_then HB3.out HB3.out.size hB4); have Hb4 := Sd.mk hb4; clear hB4 hb4) | (go_at_call 25; refine (example_calls _).mono ?_; rintro e w5 ⟨b5, rfl, hb5, _, hB5⟩; have HB5 := Sd.mk (below_then HB4.out HB4.out.size hB5); have Hb5 := Sd.mk hb5; have Hb45 := Sd.mk ((hB5.block _ (Array.getElem?_eq_some_iff.1 Hb4.out).1).trans Hb4.out); clear hB5 hb5) | (go_at_call 7; refine (awake2_calls _ (HT.out.below HB5.out) b4 b5 Hb45.out Hb5.out).mono ?_; rintro e w6 ⟨A6, c6, rfl, hr6, hB6⟩; have HB6 := Sd.mk (below_then HB5.out HB5.out.size hB6); have HR6 := Sd.mk hr6; clear hB6 hr6) | (go_at_call 19; refine (same_calls _ A6 _ c6 _ [0, 2] [0, 2] (by decide) (by decide) (HR6.out.below (alloc_below _ _)) (rdI_blk [0, 2] (heap_alloc_new _ _) rfl)).mono ?_; rintro e w7 ⟨he, hB7⟩; have HB7 := Sd.mk (below_then (below_then HB6.out HB6.out.size (alloc_below _ _)) (below_then HB6.out HB6.out.size (alloc_below _ _)).size hB7); rw [show decide (([0, 2] : List Nat) = [0, 2]) = true from rfl] at he; subst he; clear hB7) | fail)
  go_ret
  exact ⟨rfl, HB7.out⟩
end Go.Proofs.YtcbhaeniahckhaaDoor
end
section
set_option linter.unusedSimpArgs false
namespace Go.Proofs.YtcbhaeniahckhaaDoor
open Go.RowKit Go.Shelf Go.Deep Go.Proofs.YtcbhaeniahckhaaDoorW.PrintLast
/-- what stays while the law runs -/
structure PAt (w wq : World) (x y : Rx) (A A' : Option Addr) (c c' : Nat) : Prop where
  bx : wq.heap[w.heap.size]? = some (.cells #[.int .i64 x.N, .int .i64 x.start, .int .i64 x.inp, .int .i64 x.out, .slice A x.mvs.length c] 24 (0, 0))
  bY : wq.heap[w.heap.size + 1]? = some (.cells #[.int .i64 y.N, .int .i64 y.start, .int .i64 y.inp, .int .i64 y.out, .slice A' y.mvs.length c'] 24 (0, 0))
  below : Below w.heap.size w wq
  rx : RdM wq A x.mvs
  ry : RdM wq A' y.mvs
  tb : Tab wq
theorem PAt.later {w wq w' : World} {x y : Rx} {A A' : Option Addr} {c c' : Nat} (h : PAt w wq x y A A' c c') (hB : Below wq.heap.size wq w') : PAt w w' x y A A' c c' :=
  ⟨(hB.block _ (Array.getElem?_eq_some_iff.1 h.bx).1).trans h.bx, (hB.block _ (Array.getElem?_eq_some_iff.1 h.bY).1).trans h.bY, below_then h.below h.below.size hB, h.rx.below hB, h.ry.below hB, h.tb.below hB⟩
theorem PAt.drew {w wq : World} {x y : Rx} {A A' : Option Addr} {c c' : Nat} (h : PAt w wq x y A A' c c') : PAt w wq.drew x y A A' c c' := h.later (below_drew (Below.refl _ _))
def rawOf (x : Rx) : Raw := ⟨x.N, x.start, x.inp, x.out, x.mvs.map fun m => ⟨m.frm, m.kind, m.lab, m.tgt⟩⟩
theorem rawOf_read {w : World} {A : Option Addr} {x : Rx} (h : RdM w A x.mvs) : RdMz w A (rawOf x).mvs := fun i hi => by
  have hi' : i < x.mvs.length := by simpa [rawOf] using hi
  obtain ⟨ad, e1, e2, e3, e4, e5⟩ := h i hi'
  have hg : (rawOf x).mvs.getD i mzZ = ⟨(x.mvs.getD i mvZ).frm, (x.mvs.getD i mvZ).kind, (x.mvs.getD i mvZ).lab, (x.mvs.getD i mvZ).tgt⟩ := by
    unfold rawOf
    simp [List.getD_eq_getElem?_getD, hi']
  rw [hg]
  exact ⟨ad, e1, e2, e3, e4, e5⟩
theorem two_good (w : World) (x y : Rx) (A A' : Option Addr) (c c' : Nat) (hr : RdM w A x.mvs) (hr' : RdM w A' y.mvs) : Calls Tryd.prog 6 #[.agg #[.int .i64 x.N, .int .i64 x.start, .int .i64 x.inp, .int .i64 x.out, .slice A x.mvs.length c], .agg #[.int .i64 y.N, .int .i64 y.start, .int .i64 y.inp, .int .i64 y.out, .slice A' y.mvs.length c']] w fun e w' => ∃ code : Int, e = .returned (.int .i64 code) ∧ Below w.heap.size w w' := by
  have h := twoErr_calls w (rawOf x) (rawOf y) A A' c c' (rawOf_read hr) (rawOf_read hr')
  have e1 : rawV (rawOf x) A c = .agg #[.int .i64 x.N, .int .i64 x.start, .int .i64 x.inp, .int .i64 x.out, .slice A x.mvs.length c] := by unfold rawV rawOf; simp
  have e2 : rawV (rawOf y) A' c' = .agg #[.int .i64 y.N, .int .i64 y.start, .int .i64 y.inp, .int .i64 y.out, .slice A' y.mvs.length c'] := by unfold rawV rawOf; simp
  rw [e1, e2] at h
  exact Calls.mono h fun e w' ⟨code, h1, h2, _⟩ => ⟨code, h1, h2⟩
theorem conf_self (w : World) (hT : Tab w) (x : Rx) (hx : x.ok) (A A' : Option Addr) (c c' : Nat) (hr : RdM w A x.mvs) (hr' : RdM w A' x.mvs) : Calls Tryd.prog 7 #[rxV x A c, rxV x A' c'] w fun e w' => e = .returned (.tuple #[.slice none 0 0, .int .i64 0]) ∧ Below w.heap.size w w' :=
  (conforms_calls w hT x x hx hx ⟨rfl, rfl⟩ A A' c c' hr hr').mono fun e w' ⟨v, h1, hB, h2, _⟩ => by
    rw [h1, h2 (seek_self x hx), seek_self x hx]
    exact ⟨rfl, hB⟩
theorem conf_none (w : World) (hT : Tab w) (x y : Rx) (hx : x.ok) (hy : y.ok) (hio : x.inp = y.inp ∧ x.out = y.out) (A A' : Option Addr) (c c' : Nat) (hr : RdM w A x.mvs) (hr' : RdM w A' y.mvs) (hs : (seekS x y).1 = none) : Calls Tryd.prog 7 #[rxV x A c, rxV y A' c'] w fun e w' => e = .returned (.tuple #[.slice none 0 0, .int .i64 0]) ∧ Below w.heap.size w w' :=
  (conforms_calls w hT x y hx hy hio A A' c c' hr hr').mono fun e w' ⟨v, h1, hB, h2, _⟩ => by
    rw [h1, h2 hs, hs]
    exact ⟨rfl, hB⟩
theorem rel_none (w : World) (hT : Tab w) (x y : Rx) (hx : x.ok) (hy : y.ok) (hio : x.inp = y.inp ∧ x.out = y.out) (A A' : Option Addr) (c c' : Nat) (hr : RdM w A x.mvs) (hr' : RdM w A' y.mvs) (hs : (seekS x y).1 = none) (hl : (seekS x y).2.1.length ≤ 300) : Calls Tryd.prog 9 #[rxV x A c, rxV y A' c'] w fun e w' => ∃ g cg, e = .returned (.tuple #[.slice (some ⟨g, 0, none⟩) (seekS x y).2.1.length cg, .int .i64 0]) ∧ RdP w' g (seekS x y).2.1 ∧ Below w.heap.size w w' :=
  (relationOf_calls w hT x y hx hy hio A A' c c' hr hr').mono fun e w' ⟨hB, h⟩ => by
    rw [hs, if_neg (by decide), if_neg (by omega)] at h
    obtain ⟨v, h1, h2⟩ := h
    obtain ⟨g, cg, rfl, h3⟩ := h2.read (seek_pos x y)
    exact ⟨g, cg, h1, h3, hB⟩
theorem rel_full (w : World) (hT : Tab w) (x y : Rx) (hx : x.ok) (hy : y.ok) (hio : x.inp = y.inp ∧ x.out = y.out) (A A' : Option Addr) (c c' : Nat) (hr : RdM w A x.mvs) (hr' : RdM w A' y.mvs) (hs : (seekS x y).1 = none) (hl : 300 < (seekS x y).2.1.length) : Calls Tryd.prog 9 #[rxV x A c, rxV y A' c'] w fun e w' => e = .returned (.tuple #[.slice none 0 0, .int .i64 32]) ∧ Below w.heap.size w w' :=
  (relationOf_calls w hT x y hx hy hio A A' c c' hr hr').mono fun e w' ⟨hB, h⟩ => by
    rw [hs, if_neg (by decide), if_pos hl] at h
    exact ⟨h, hB⟩
theorem pass_none (w : World) (hT : Tab w) (x y : Rx) (hx : x.ok) (hy : y.ok) (hio : x.inp = y.inp ∧ x.out = y.out) (A A' : Option Addr) (c c' : Nat) (hr : RdM w A x.mvs) (hr' : RdM w A' y.mvs) (hs : (seekS x y).1 = none) : Calls Tryd.prog 11 #[rxV x A c, rxV y A' c', .int .i64 1] w fun e w' => Below w.heap.size w w' ∧ ∃ v code, e = .returned (.tuple #[v, .int .i64 code]) ∧ (code = 32 ∨ code = 0) :=
  (passes_calls w hT x y hx hy hio A A' c c' hr hr' 1 (by decide)).mono fun e w' ⟨hB, v, code, h1, h2⟩ => ⟨hB, v, code, h1, h2.imp id fun h => h.elim (fun h => absurd h.2 (failD_none x y hx hy hio hs 1)) fun h => h.1⟩
set_option maxHeartbeats 16000000 in
set_option maxRecDepth 100000 in
theorem proved_none (w : World) (hT : Tab w) (x y : Rx) (hx : x.ok) (hy : y.ok) (hio : x.inp = y.inp ∧ x.out = y.out) (A A' : Option Addr) (c c' : Nat) (hr : RdM w A x.mvs) (hr' : RdM w A' y.mvs) (hs : (seekS x y).1 = none) :
    Calls Tryd.prog 3 #[.agg #[.int .i64 x.N, .int .i64 x.start, .int .i64 x.inp, .int .i64 x.out, .slice A x.mvs.length c], .agg #[.int .i64 y.N, .int .i64 y.start, .int .i64 y.inp, .int .i64 y.out, .slice A' y.mvs.length c']] w fun e w' => e = .returned (.bool true) ∧ Below w.heap.size w w' := by
  have HIO := Sd.mk hio
  have HS := Sd.mk hs
  have hi4 := hx.hi
  have ho4 := hx.ho
  have P0 : Sd (PAt w ((w.alloc (.cells #[.int .i64 x.N, .int .i64 x.start, .int .i64 x.inp, .int .i64 x.out, .slice A x.mvs.length c] 24)).alloc (.cells #[.int .i64 y.N, .int .i64 y.start, .int .i64 y.inp, .int .i64 y.out, .slice A' y.mvs.length c'] 24)) x y A A' c c') := ⟨by
    have hB : Below w.heap.size w ((w.alloc (.cells #[.int .i64 x.N, .int .i64 x.start, .int .i64 x.inp, .int .i64 x.out, .slice A x.mvs.length c] 24)).alloc (.cells #[.int .i64 y.N, .int .i64 y.start, .int .i64 y.inp, .int .i64 y.out, .slice A' y.mvs.length c'] 24)) := (alloc_below _ _).alloc (by simp) _
    exact ⟨(heap_alloc_old _ _ (by simp)).trans (heap_alloc_new w _), alloc_at _ _ (w.heap.size + 1) (by simp), hB, hr.below hB, hr'.below hB, hT.below hB⟩⟩
  clear hr hr' hT hs hio
  go_enter Tryd.func3, Tryd.ntmps3
  go_upto_region 3 with (first | (go_at_call 5; refine (awake_calls _ P0.out.tb).mono ?_; rintro e w1 ⟨rfl, hB1⟩; have P1 := Sd.mk (P0.out.later hB1); clear hB1) | fail)
  obtain ⟨x0, x1, x2, x3, x4, y0, y1, y2, y3, y4⟩ := (two_boxes (w := w) P1.out.bx P1.out.bY P1.out.below).2.2.2
  go_upto_region 4 with (first | (go_at_call 6; refine (two_good _ x y A A' c c' P1.out.rx P1.out.ry).mono ?_; rintro e w2 ⟨code, rfl, hB2⟩; have P2 := Sd.mk (P1.out.later hB2); clear hB2) | fail)
  · clear x0 x1 x2 x3 x4 y0 y1 y2 y3 y4
    go_wp2
    go_ret
    exact ⟨rfl, P2.out.below⟩
  clear x0 x1 x2 x3 x4 y0 y1 y2 y3 y4
  have K0 := Sd.mk (two_boxes (w := w) P2.out.drew.bx P2.out.drew.bY P2.out.drew.below)
  go_region_held3 (fun wx => wx.heap[w.heap.size]? = some (.cells #[.int .i64 x.N, .int .i64 x.start, .int .i64 x.inp, .int .i64 x.out, .slice A x.mvs.length c] 24 (0, 0)) ∧ wx.heap[w.heap.size + 1]? = some (.cells #[.int .i64 y.N, .int .i64 y.start, .int .i64 y.inp, .int .i64 y.out, .slice A' y.mvs.length c'] 24 (0, 0)) ∧ Below w.heap.size w wx ∧ wx.cell? ⟨w.heap.size, 0, none⟩ = some (.int .i64 x.N) ∧ wx.cell? ⟨w.heap.size, 1, none⟩ = some (.int .i64 x.start) ∧ wx.cell? ⟨w.heap.size, 2, none⟩ = some (.int .i64 x.inp) ∧ wx.cell? ⟨w.heap.size, 3, none⟩ = some (.int .i64 x.out) ∧ wx.cell? ⟨w.heap.size, 4, none⟩ = some (.slice A x.mvs.length c) ∧ wx.cell? ⟨w.heap.size + 1, 0, none⟩ = some (.int .i64 y.N) ∧ wx.cell? ⟨w.heap.size + 1, 1, none⟩ = some (.int .i64 y.start) ∧ wx.cell? ⟨w.heap.size + 1, 2, none⟩ = some (.int .i64 y.inp) ∧ wx.cell? ⟨w.heap.size + 1, 3, none⟩ = some (.int .i64 y.out) ∧ wx.cell? ⟨w.heap.size + 1, 4, none⟩ = some (.slice A' y.mvs.length c'))
    (first | exact K0.out | (go_split_ands; exact two_kept (by assumption) (by assumption) (by assumption) (by assumption)) | fail)
    (first | (go_at_call_of 8 (Value.agg #[Value.int IntKind.i64 x.N, Value.int IntKind.i64 x.start, Value.int IntKind.i64 x.inp, Value.int IntKind.i64 x.out, Value.slice A x.mvs.length c]); refine (own_calls w2.drew x hx A c P2.out.rx).mono ?_; rintro e wa1 ⟨Awa1, cwa1, rfl, rwa1, hBwa1⟩) | (go_at_call_of 8 (Value.agg #[Value.int IntKind.i64 x.N, Value.int IntKind.i64 x.start, Value.int IntKind.i64 x.inp, Value.int IntKind.i64 x.out, Value.slice A x.mvs.length c]); refine (own_calls wa1 x hx A c (P2.out.drew.rx.below hBwa1)).mono ?_; rintro e wb1 ⟨Awb1, cwb1, rfl, rwb1, hBwb1⟩) | (go_at_call 7; refine (conf_self wb1 ((P2.out.drew.tb.below hBwa1).below hBwb1) x hx Awa1 Awb1 cwa1 cwb1 (rwa1.below hBwb1) rwb1).mono ?_; rintro e wc ⟨rfl, hBwc⟩) | fail)
  have P3 := Sd.mk (((P2.out.drew.later hBwa1).later hBwb1).later hBwc)
  clear hBwa1 hBwb1 hBwc rwa1 rwb1 K0
  go_wp2_with fail
  have K0 := Sd.mk (two_boxes (w := w) P3.out.drew.bx P3.out.drew.bY P3.out.drew.below)
  go_region_held3 (fun wx => wx.heap[w.heap.size]? = some (.cells #[.int .i64 x.N, .int .i64 x.start, .int .i64 x.inp, .int .i64 x.out, .slice A x.mvs.length c] 24 (0, 0)) ∧ wx.heap[w.heap.size + 1]? = some (.cells #[.int .i64 y.N, .int .i64 y.start, .int .i64 y.inp, .int .i64 y.out, .slice A' y.mvs.length c'] 24 (0, 0)) ∧ Below w.heap.size w wx ∧ wx.cell? ⟨w.heap.size, 0, none⟩ = some (.int .i64 x.N) ∧ wx.cell? ⟨w.heap.size, 1, none⟩ = some (.int .i64 x.start) ∧ wx.cell? ⟨w.heap.size, 2, none⟩ = some (.int .i64 x.inp) ∧ wx.cell? ⟨w.heap.size, 3, none⟩ = some (.int .i64 x.out) ∧ wx.cell? ⟨w.heap.size, 4, none⟩ = some (.slice A x.mvs.length c) ∧ wx.cell? ⟨w.heap.size + 1, 0, none⟩ = some (.int .i64 y.N) ∧ wx.cell? ⟨w.heap.size + 1, 1, none⟩ = some (.int .i64 y.start) ∧ wx.cell? ⟨w.heap.size + 1, 2, none⟩ = some (.int .i64 y.inp) ∧ wx.cell? ⟨w.heap.size + 1, 3, none⟩ = some (.int .i64 y.out) ∧ wx.cell? ⟨w.heap.size + 1, 4, none⟩ = some (.slice A' y.mvs.length c'))
    (first | exact K0.out | (go_split_ands; exact two_kept (by assumption) (by assumption) (by assumption) (by assumption)) | fail)
    (first | (go_at_call_of 8 (Value.agg #[Value.int IntKind.i64 x.N, Value.int IntKind.i64 x.start, Value.int IntKind.i64 x.inp, Value.int IntKind.i64 x.out, Value.slice A x.mvs.length c]); refine (own_calls wc.drew x hx A c P3.out.rx).mono ?_; rintro e wa2 ⟨Awa2, cwa2, rfl, rwa2, hBwa2⟩) | (go_at_call_of 8 (Value.agg #[Value.int IntKind.i64 y.N, Value.int IntKind.i64 y.start, Value.int IntKind.i64 y.inp, Value.int IntKind.i64 y.out, Value.slice A' y.mvs.length c']); refine (own_calls wa2 y hy A' c' (P3.out.drew.ry.below hBwa2)).mono ?_; rintro e wb2 ⟨Awb2, cwb2, rfl, rwb2, hBwb2⟩) | (go_at_call 7; refine (conf_none wb2 ((P3.out.drew.tb.below hBwa2).below hBwb2) x y hx hy HIO.out Awa2 Awb2 cwa2 cwb2 (rwa2.below hBwb2) rwb2 HS.out).mono ?_; rintro e wd ⟨rfl, hBwc⟩) | fail)
  have P4 := Sd.mk (((P3.out.drew.later hBwa2).later hBwb2).later hBwc)
  clear hBwa2 hBwb2 hBwc rwa2 rwb2 K0
  go_wp2_with fail
  have K0 := Sd.mk (two_boxes (w := w) P4.out.drew.bx P4.out.drew.bY P4.out.drew.below)
  by_cases hl : (seekS x y).2.1.length ≤ 300
  · have hpos := seek_pos x y
    go_region_held3 (fun wx => wx.heap[w.heap.size]? = some (.cells #[.int .i64 x.N, .int .i64 x.start, .int .i64 x.inp, .int .i64 x.out, .slice A x.mvs.length c] 24 (0, 0)) ∧ wx.heap[w.heap.size + 1]? = some (.cells #[.int .i64 y.N, .int .i64 y.start, .int .i64 y.inp, .int .i64 y.out, .slice A' y.mvs.length c'] 24 (0, 0)) ∧ Below w.heap.size w wx ∧ wx.cell? ⟨w.heap.size, 0, none⟩ = some (.int .i64 x.N) ∧ wx.cell? ⟨w.heap.size, 1, none⟩ = some (.int .i64 x.start) ∧ wx.cell? ⟨w.heap.size, 2, none⟩ = some (.int .i64 x.inp) ∧ wx.cell? ⟨w.heap.size, 3, none⟩ = some (.int .i64 x.out) ∧ wx.cell? ⟨w.heap.size, 4, none⟩ = some (.slice A x.mvs.length c) ∧ wx.cell? ⟨w.heap.size + 1, 0, none⟩ = some (.int .i64 y.N) ∧ wx.cell? ⟨w.heap.size + 1, 1, none⟩ = some (.int .i64 y.start) ∧ wx.cell? ⟨w.heap.size + 1, 2, none⟩ = some (.int .i64 y.inp) ∧ wx.cell? ⟨w.heap.size + 1, 3, none⟩ = some (.int .i64 y.out) ∧ wx.cell? ⟨w.heap.size + 1, 4, none⟩ = some (.slice A' y.mvs.length c'))
      (first | exact K0.out | (go_split_ands; exact two_kept (by assumption) (by assumption) (by assumption) (by assumption)) | fail)
      (first | (go_at_call_of 8 (Value.agg #[Value.int IntKind.i64 x.N, Value.int IntKind.i64 x.start, Value.int IntKind.i64 x.inp, Value.int IntKind.i64 x.out, Value.slice A x.mvs.length c]); refine (own_calls wd.drew x hx A c P4.out.rx).mono ?_; rintro e wa3 ⟨Awa3, cwa3, rfl, rwa3, hBwa3⟩) | (go_at_call_of 8 (Value.agg #[Value.int IntKind.i64 y.N, Value.int IntKind.i64 y.start, Value.int IntKind.i64 y.inp, Value.int IntKind.i64 y.out, Value.slice A' y.mvs.length c']); refine (own_calls wa3 y hy A' c' (P4.out.drew.ry.below hBwa3)).mono ?_; rintro e wb3 ⟨Awb3, cwb3, rfl, rwb3, hBwb3⟩) | (go_at_call 9; refine (rel_none wb3 ((P4.out.drew.tb.below hBwa3).below hBwb3) x y hx hy HIO.out Awa3 Awb3 cwa3 cwb3 (rwa3.below hBwb3) rwb3 HS.out hl).mono ?_; rintro e we ⟨g, cg, rfl, hp, hBwc⟩) | fail)
    have P5 := Sd.mk (((P4.out.drew.later hBwa3).later hBwb3).later hBwc)
    have HP := Sd.mk hp
    have HRel := Sd.mk (relOK_of x y hx hy HIO.out HS.out hl)
    obtain ⟨x0, x1, x2, x3, x4, y0, y1, y2, y3, y4⟩ := (two_boxes (w := w) P5.out.bx P5.out.bY P5.out.below).2.2.2
    clear hBwa3 hBwb3 hBwc rwa3 rwb3 K0 hp
    go_wp2_with (first | (go_at_call 10; refine (relErr_calls _ x y hx hy HIO.out A A' c c' P5.out.rx P5.out.ry g cg _ HP.out HRel.out).mono ?_; rintro e wf ⟨rfl, hBf⟩; have P6 := Sd.mk (P5.out.later hBf); clear hBf) | fail)
    have K0 := Sd.mk (two_boxes (w := w) P6.out.drew.bx P6.out.drew.bY P6.out.drew.below)
    clear x0 x1 x2 x3 x4 y0 y1 y2 y3 y4
    have hz : (((seekS x y).2.1.length : Int) == 0) = false := by rw [beq_eq_false_iff_ne]; omega
    generalize (seekS x y).2.1.length = n at *
    go_region_held3 (fun wx => wx.heap[w.heap.size]? = some (.cells #[.int .i64 x.N, .int .i64 x.start, .int .i64 x.inp, .int .i64 x.out, .slice A x.mvs.length c] 24 (0, 0)) ∧ wx.heap[w.heap.size + 1]? = some (.cells #[.int .i64 y.N, .int .i64 y.start, .int .i64 y.inp, .int .i64 y.out, .slice A' y.mvs.length c'] 24 (0, 0)) ∧ Below w.heap.size w wx ∧ wx.cell? ⟨w.heap.size, 0, none⟩ = some (.int .i64 x.N) ∧ wx.cell? ⟨w.heap.size, 1, none⟩ = some (.int .i64 x.start) ∧ wx.cell? ⟨w.heap.size, 2, none⟩ = some (.int .i64 x.inp) ∧ wx.cell? ⟨w.heap.size, 3, none⟩ = some (.int .i64 x.out) ∧ wx.cell? ⟨w.heap.size, 4, none⟩ = some (.slice A x.mvs.length c) ∧ wx.cell? ⟨w.heap.size + 1, 0, none⟩ = some (.int .i64 y.N) ∧ wx.cell? ⟨w.heap.size + 1, 1, none⟩ = some (.int .i64 y.start) ∧ wx.cell? ⟨w.heap.size + 1, 2, none⟩ = some (.int .i64 y.inp) ∧ wx.cell? ⟨w.heap.size + 1, 3, none⟩ = some (.int .i64 y.out) ∧ wx.cell? ⟨w.heap.size + 1, 4, none⟩ = some (.slice A' y.mvs.length c'))
      (first | exact K0.out | (go_split_ands; exact two_kept (by assumption) (by assumption) (by assumption) (by assumption)) | fail)
      (first | (go_at_call_of 8 (Value.agg #[Value.int IntKind.i64 x.N, Value.int IntKind.i64 x.start, Value.int IntKind.i64 x.inp, Value.int IntKind.i64 x.out, Value.slice A x.mvs.length c]); refine (own_calls wf.drew x hx A c P6.out.rx).mono ?_; rintro e wa4 ⟨Awa4, cwa4, rfl, rwa4, hBwa4⟩) | (go_at_call_of 8 (Value.agg #[Value.int IntKind.i64 y.N, Value.int IntKind.i64 y.start, Value.int IntKind.i64 y.inp, Value.int IntKind.i64 y.out, Value.slice A' y.mvs.length c']); refine (own_calls wa4 y hy A' c' (P6.out.drew.ry.below hBwa4)).mono ?_; rintro e wb4 ⟨Awb4, cwb4, rfl, rwb4, hBwb4⟩) | (go_at_call 11; refine (pass_none wb4 ((P6.out.drew.tb.below hBwa4).below hBwb4) x y hx hy HIO.out Awa4 Awb4 cwa4 cwb4 (rwa4.below hBwb4) rwb4 HS.out).mono ?_; rintro e wg ⟨hBwc, v, code2, rfl, hcode⟩) | fail)
    have P7 := Sd.mk (((P6.out.drew.later hBwa4).later hBwb4).later hBwc)
    clear hBwa4 hBwb4 hBwc rwa4 rwb4 K0
    rcases hcode with rfl | rfl
    all_goals
      go_wp2
      go_ret
      exact ⟨rfl, P7.out.below⟩
  · have hl2 : 300 < (seekS x y).2.1.length := by omega
    go_region_held3 (fun wx => wx.heap[w.heap.size]? = some (.cells #[.int .i64 x.N, .int .i64 x.start, .int .i64 x.inp, .int .i64 x.out, .slice A x.mvs.length c] 24 (0, 0)) ∧ wx.heap[w.heap.size + 1]? = some (.cells #[.int .i64 y.N, .int .i64 y.start, .int .i64 y.inp, .int .i64 y.out, .slice A' y.mvs.length c'] 24 (0, 0)) ∧ Below w.heap.size w wx ∧ wx.cell? ⟨w.heap.size, 0, none⟩ = some (.int .i64 x.N) ∧ wx.cell? ⟨w.heap.size, 1, none⟩ = some (.int .i64 x.start) ∧ wx.cell? ⟨w.heap.size, 2, none⟩ = some (.int .i64 x.inp) ∧ wx.cell? ⟨w.heap.size, 3, none⟩ = some (.int .i64 x.out) ∧ wx.cell? ⟨w.heap.size, 4, none⟩ = some (.slice A x.mvs.length c) ∧ wx.cell? ⟨w.heap.size + 1, 0, none⟩ = some (.int .i64 y.N) ∧ wx.cell? ⟨w.heap.size + 1, 1, none⟩ = some (.int .i64 y.start) ∧ wx.cell? ⟨w.heap.size + 1, 2, none⟩ = some (.int .i64 y.inp) ∧ wx.cell? ⟨w.heap.size + 1, 3, none⟩ = some (.int .i64 y.out) ∧ wx.cell? ⟨w.heap.size + 1, 4, none⟩ = some (.slice A' y.mvs.length c'))
      (first | exact K0.out | (go_split_ands; exact two_kept (by assumption) (by assumption) (by assumption) (by assumption)) | fail)
      (first | (go_at_call_of 8 (Value.agg #[Value.int IntKind.i64 x.N, Value.int IntKind.i64 x.start, Value.int IntKind.i64 x.inp, Value.int IntKind.i64 x.out, Value.slice A x.mvs.length c]); refine (own_calls wd.drew x hx A c P4.out.rx).mono ?_; rintro e wa5 ⟨Awa5, cwa5, rfl, rwa5, hBwa5⟩) | (go_at_call_of 8 (Value.agg #[Value.int IntKind.i64 y.N, Value.int IntKind.i64 y.start, Value.int IntKind.i64 y.inp, Value.int IntKind.i64 y.out, Value.slice A' y.mvs.length c']); refine (own_calls wa5 y hy A' c' (P4.out.drew.ry.below hBwa5)).mono ?_; rintro e wb5 ⟨Awb5, cwb5, rfl, rwb5, hBwb5⟩) | (go_at_call 9; refine (rel_full wb5 ((P4.out.drew.tb.below hBwa5).below hBwb5) x y hx hy HIO.out Awa5 Awb5 cwa5 cwb5 (rwa5.below hBwb5) rwb5 HS.out hl2).mono ?_; rintro e we ⟨rfl, hBwc⟩) | fail)
    have P5 := Sd.mk (((P4.out.drew.later hBwa5).later hBwb5).later hBwc)
    clear hBwa5 hBwb5 hBwc rwa5 rwb5 K0
    go_wp2_with fail
    have K0 := Sd.mk (two_boxes (w := w) P5.out.drew.bx P5.out.drew.bY P5.out.drew.below)
    go_region_held3 (fun wx => wx.heap[w.heap.size]? = some (.cells #[.int .i64 x.N, .int .i64 x.start, .int .i64 x.inp, .int .i64 x.out, .slice A x.mvs.length c] 24 (0, 0)) ∧ wx.heap[w.heap.size + 1]? = some (.cells #[.int .i64 y.N, .int .i64 y.start, .int .i64 y.inp, .int .i64 y.out, .slice A' y.mvs.length c'] 24 (0, 0)) ∧ Below w.heap.size w wx ∧ wx.cell? ⟨w.heap.size, 0, none⟩ = some (.int .i64 x.N) ∧ wx.cell? ⟨w.heap.size, 1, none⟩ = some (.int .i64 x.start) ∧ wx.cell? ⟨w.heap.size, 2, none⟩ = some (.int .i64 x.inp) ∧ wx.cell? ⟨w.heap.size, 3, none⟩ = some (.int .i64 x.out) ∧ wx.cell? ⟨w.heap.size, 4, none⟩ = some (.slice A x.mvs.length c) ∧ wx.cell? ⟨w.heap.size + 1, 0, none⟩ = some (.int .i64 y.N) ∧ wx.cell? ⟨w.heap.size + 1, 1, none⟩ = some (.int .i64 y.start) ∧ wx.cell? ⟨w.heap.size + 1, 2, none⟩ = some (.int .i64 y.inp) ∧ wx.cell? ⟨w.heap.size + 1, 3, none⟩ = some (.int .i64 y.out) ∧ wx.cell? ⟨w.heap.size + 1, 4, none⟩ = some (.slice A' y.mvs.length c'))
      (first | exact K0.out | (go_split_ands; exact two_kept (by assumption) (by assumption) (by assumption) (by assumption)) | fail)
      (first | (go_at_call_of 8 (Value.agg #[Value.int IntKind.i64 x.N, Value.int IntKind.i64 x.start, Value.int IntKind.i64 x.inp, Value.int IntKind.i64 x.out, Value.slice A x.mvs.length c]); refine (own_calls we.drew x hx A c P5.out.rx).mono ?_; rintro e wa6 ⟨Awa6, cwa6, rfl, rwa6, hBwa6⟩) | (go_at_call_of 8 (Value.agg #[Value.int IntKind.i64 y.N, Value.int IntKind.i64 y.start, Value.int IntKind.i64 y.inp, Value.int IntKind.i64 y.out, Value.slice A' y.mvs.length c']); refine (own_calls wa6 y hy A' c' (P5.out.drew.ry.below hBwa6)).mono ?_; rintro e wb6 ⟨Awb6, cwb6, rfl, rwb6, hBwb6⟩) | (go_at_call 11; refine (pass_none wb6 ((P5.out.drew.tb.below hBwa6).below hBwb6) x y hx hy HIO.out Awa6 Awb6 cwa6 cwb6 (rwa6.below hBwb6) rwb6 HS.out).mono ?_; rintro e wg ⟨hBwc, v, code2, rfl, hcode⟩) | fail)
    have P7 := Sd.mk (((P5.out.drew.later hBwa6).later hBwb6).later hBwc)
    clear hBwa6 hBwb6 hBwc rwa6 rwb6 K0
    rcases hcode with rfl | rfl
    all_goals
      go_wp2
      go_ret
      exact ⟨rfl, P7.out.below⟩
end Go.Proofs.YtcbhaeniahckhaaDoor
end
