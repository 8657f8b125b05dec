/- The reference's check of a relation, walked; a search that ends gives a relation that it takes. Conditions: those that each theorem names. -/
import Derived.Test.YtcbhaeniahckhaaDoorMq
import Derived.Test.YtcbhaeniahckhaaDoorMm
set_option linter.unusedSimpArgs false
set_option linter.unusedVariables false
section
set_option linter.unusedSimpArgs false
namespace Go.Proofs.YtcbhaeniahckhaaDoor
open Go.RowKit Go.Shelf Go.Deep Go.Proofs.YtcbhaeniahckhaaDoorW.PrintLast
/-- pairs of sets that prove conformance -/
structure RelOK (x y : Rx) (qs : List (Nat × Nat)) : Prop where
  len : qs.length ≤ 300
  bd : ∀ q ∈ qs, q.1 < 2 ^ x.N ∧ q.2 < 2 ^ y.N
  first : (firstS (sysOf x), firstS (sysOf y)) ∈ qs
  closed : ∀ q ∈ qs, closedS (sysOf x) q.1 = q.1 ∧ closedS (sysOf y) q.2 = q.2
  right : ∀ q ∈ qs, ∀ e, x.inp ≤ e → e ≤ x.inp + x.out → afterS (sysOf y) q.2 e = 0 → afterS (sysOf x) q.1 e = 0
  next : ∀ q ∈ qs, ∀ e, e ≤ x.inp + x.out → afterS (sysOf y) q.2 e ≠ 0 → (afterS (sysOf x) q.1 e, afterS (sysOf y) q.2 e) ∈ qs
theorem closedL_self (x : Rx) (hx : x.ok) (l : Nat) (hl : l < 2 ^ x.N) (hc : closedS (sysOf x) l = l) (R : List Nat) (h : ClosedL x (bitsL l) R) : R = bitsL l := by
  have := closedL_eq x hx (bitsL l) R l hl (fun a => by
    rw [mem_bitsL]
    exact ⟨fun h => h.2, fun h => ⟨Nat.lt_of_lt_of_le (lt_of_bit hl h) hx.hN, h⟩⟩) h
  rw [hc] at this
  exact this
theorem list_kept {W W2 : World} {g i j : Nat} {u v : Value} (h1 : W.cell? ⟨g, i, none⟩ = some u) (h2 : W.cell? ⟨g, j, none⟩ = some v) (k : Below W.heap.size W W2) : W2.cell? ⟨g, i, none⟩ = some u ∧ W2.cell? ⟨g, j, none⟩ = some v := ⟨cell_later k h1, cell_later k h2⟩
theorem rel_kept {w W W2 : World} {n m g i j : Nat} {a0 a1 a2 a3 a4 b0 b1 b2 b3 b4 u v : Value} {t : TypeId} (h : W.heap[n]? = some (.cells #[a0, a1, a2, a3, a4] t (0, 0)) ∧ W.heap[m]? = some (.cells #[b0, b1, b2, b3, b4] t (0, 0)) ∧ Below w.heap.size w W ∧
    W.cell? ⟨n, 0, none⟩ = some a0 ∧ W.cell? ⟨n, 1, none⟩ = some a1 ∧ W.cell? ⟨n, 2, none⟩ = some a2 ∧ W.cell? ⟨n, 3, none⟩ = some a3 ∧ W.cell? ⟨n, 4, none⟩ = some a4 ∧
    W.cell? ⟨m, 0, none⟩ = some b0 ∧ W.cell? ⟨m, 1, none⟩ = some b1 ∧ W.cell? ⟨m, 2, none⟩ = some b2 ∧ W.cell? ⟨m, 3, none⟩ = some b3 ∧ W.cell? ⟨m, 4, none⟩ = some b4 ∧ W.cell? ⟨g, i, none⟩ = some u ∧ W.cell? ⟨g, j, none⟩ = some v) (k : Below W.heap.size W W2) :
    W2.heap[n]? = some (.cells #[a0, a1, a2, a3, a4] t (0, 0)) ∧ W2.heap[m]? = some (.cells #[b0, b1, b2, b3, b4] t (0, 0)) ∧ Below w.heap.size w W2 ∧
    W2.cell? ⟨n, 0, none⟩ = some a0 ∧ W2.cell? ⟨n, 1, none⟩ = some a1 ∧ W2.cell? ⟨n, 2, none⟩ = some a2 ∧ W2.cell? ⟨n, 3, none⟩ = some a3 ∧ W2.cell? ⟨n, 4, none⟩ = some a4 ∧
    W2.cell? ⟨m, 0, none⟩ = some b0 ∧ W2.cell? ⟨m, 1, none⟩ = some b1 ∧ W2.cell? ⟨m, 2, none⟩ = some b2 ∧ W2.cell? ⟨m, 3, none⟩ = some b3 ∧ W2.cell? ⟨m, 4, none⟩ = some b4 ∧ W2.cell? ⟨g, i, none⟩ = some u ∧ W2.cell? ⟨g, j, none⟩ = some v := by
  obtain ⟨hX, hY, hB, _, _, _, _, _, _, _, _, _, _, h1, h2⟩ := h
  have K := two_kept hX hY hB k
  exact ⟨K.1, K.2.1, K.2.2.1, K.2.2.2.1, K.2.2.2.2.1, K.2.2.2.2.2.1, K.2.2.2.2.2.2.1, K.2.2.2.2.2.2.2.1, K.2.2.2.2.2.2.2.2.1, K.2.2.2.2.2.2.2.2.2.1, K.2.2.2.2.2.2.2.2.2.2.1, K.2.2.2.2.2.2.2.2.2.2.2.1, K.2.2.2.2.2.2.2.2.2.2.2.2, cell_later k h1, cell_later k h2⟩
theorem rel_mk {w W : World} {n m g i j : Nat} {a0 a1 a2 a3 a4 b0 b1 b2 b3 b4 u v : Value} {t : TypeId} (hX : W.heap[n]? = some (.cells #[a0, a1, a2, a3, a4] t (0, 0))) (hY : W.heap[m]? = some (.cells #[b0, b1, b2, b3, b4] t (0, 0))) (hB : Below w.heap.size w W) (h1 : W.cell? ⟨g, i, none⟩ = some u) (h2 : W.cell? ⟨g, j, none⟩ = some v) :
    W.heap[n]? = some (.cells #[a0, a1, a2, a3, a4] t (0, 0)) ∧ W.heap[m]? = some (.cells #[b0, b1, b2, b3, b4] t (0, 0)) ∧ Below w.heap.size w W ∧
    W.cell? ⟨n, 0, none⟩ = some a0 ∧ W.cell? ⟨n, 1, none⟩ = some a1 ∧ W.cell? ⟨n, 2, none⟩ = some a2 ∧ W.cell? ⟨n, 3, none⟩ = some a3 ∧ W.cell? ⟨n, 4, none⟩ = some a4 ∧
    W.cell? ⟨m, 0, none⟩ = some b0 ∧ W.cell? ⟨m, 1, none⟩ = some b1 ∧ W.cell? ⟨m, 2, none⟩ = some b2 ∧ W.cell? ⟨m, 3, none⟩ = some b3 ∧ W.cell? ⟨m, 4, none⟩ = some b4 ∧ W.cell? ⟨g, i, none⟩ = some u ∧ W.cell? ⟨g, j, none⟩ = some v := by
  have K := two_boxes (w := w) hX hY hB
  exact ⟨K.1, K.2.1, K.2.2.1, K.2.2.2.1, K.2.2.2.2.1, K.2.2.2.2.2.1, K.2.2.2.2.2.2.1, K.2.2.2.2.2.2.2.1, K.2.2.2.2.2.2.2.2.1, K.2.2.2.2.2.2.2.2.2.1, K.2.2.2.2.2.2.2.2.2.2.1, K.2.2.2.2.2.2.2.2.2.2.2.1, K.2.2.2.2.2.2.2.2.2.2.2.2, h1, h2⟩
/-- what stays while RelationErr runs -/
structure RelAt (w wq : World) (x y : Rx) (A A' : Option Addr) (c c' g : Nat) (qs : List (Nat × Nat)) : Prop where
  bx : wq.heap[w.heap.size]? = some (.cells #[.int .i64 x.N, .int .i64 x.start, .int .i64 x.inp, .int .i64 x.out, .slice A x.mvs.length c] 24 (0, 0))
  bY : wq.heap[w.heap.size + 1]? = some (.cells #[.int .i64 y.N, .int .i64 y.start, .int .i64 y.inp, .int .i64 y.out, .slice A' y.mvs.length c'] 24 (0, 0))
  below : Below w.heap.size w wq
  rx : RdM wq A x.mvs
  ry : RdM wq A' y.mvs
  rp : RdP wq g qs
theorem RelAt.later {w wq w' : World} {x y : Rx} {A A' : Option Addr} {c c' g : Nat} {qs : List (Nat × Nat)} (h : RelAt w wq x y A A' c c' g qs) (hB : Below wq.heap.size wq w') : RelAt w w' x y A A' c c' g qs :=
  ⟨(hB.block _ (Array.getElem?_eq_some_iff.1 h.bx).1).trans h.bx, (hB.block _ (Array.getElem?_eq_some_iff.1 h.bY).1).trans h.bY, below_then h.below h.below.size hB, h.rx.below hB, h.ry.below hB, h.rp.below hB⟩
set_option maxHeartbeats 16000000 in
set_option maxRecDepth 100000 in
theorem relErr_calls (w : World) (x y : Rx) (hx : x.ok) (hy : y.ok) (hio : x.inp = y.inp ∧ x.out = y.out) (A A' : Option Addr) (c c' : Nat) (hr : RdM w A x.mvs) (hr' : RdM w A' y.mvs) (g cg : Nat) (qs : List (Nat × Nat)) (hq : RdP w g qs) (hOK : RelOK x y qs) :
    Calls Tryd.prog 10 #[rxV x A c, rxV y A' c', .slice (some ⟨g, 0, none⟩) qs.length cg] w fun e w' => e = .returned (.tuple #[.int .i64 qs.length, .int .i64 0]) ∧ Below w.heap.size w w' := by
  unfold rxV
  have HOK := Sd.mk hOK
  have HIO := Sd.mk hio
  have hlen := hOK.len
  have hi4 := hx.hi
  have ho4 := hx.ho
  have R0 : Sd (RelAt w ((w.alloc (.cells #[.int .i64 x.N, .int .i64 x.start, .int .i64 x.inp, .int .i64 x.out, .slice A x.mvs.length c] 24)).alloc (.cells #[.int .i64 y.N, .int .i64 y.start, .int .i64 y.inp, .int .i64 y.out, .slice A' y.mvs.length c'] 24)) x y A A' c c' g qs) := ⟨by
    have hB : Below w.heap.size w ((w.alloc (.cells #[.int .i64 x.N, .int .i64 x.start, .int .i64 x.inp, .int .i64 x.out, .slice A x.mvs.length c] 24)).alloc (.cells #[.int .i64 y.N, .int .i64 y.start, .int .i64 y.inp, .int .i64 y.out, .slice A' y.mvs.length c'] 24)) := (alloc_below _ _).alloc (by simp) _
    exact ⟨(heap_alloc_old _ _ (by simp)).trans (heap_alloc_new w _), alloc_at _ _ (w.heap.size + 1) (by simp), hB, hr.below hB, hr'.below hB, hq.below hB⟩⟩
  clear hr hr' hq hOK hio
  have hd0 : decide ((300 : Int) < (qs.length : Int)) = false := decide_eq_false (by omega)
  go_enter Tryd.func10, Tryd.ntmps10
  go_wp2_with fail
  go_loopw [8, 9, 10] (fun i _ _ wq => ∃ k : Nat, i = .int .i64 k ∧ k ≤ qs.length ∧ Sd (RelAt w wq x y A A' c c' g qs)) (fun i _ _ _ => qs.length - (intOf i).toNat)
  case atStart => exact ⟨0, rfl, Nat.zero_le _, R0⟩
  case round =>
    obtain ⟨W1, hW1⟩ : ∃ W : World, W = wr := ⟨wr, rfl⟩
    subst hW1
    obtain ⟨k, rfl, hk, hR⟩ := hrel
    by_cases hkl : k < qs.length
    · obtain ⟨A1, c1, A2, c2, e1, e2, e3, e4⟩ := hR.out.rp k hkl
      have hbd := HOK.out.bd _ (show qs.getD k (0, 0) ∈ qs by rw [List.getD_eq_getElem?_getD, List.getElem?_eq_getElem hkl]; exact List.getElem_mem hkl)
      generalize qs.getD k (0, 0) = q at *
      obtain ⟨q1, q2⟩ := q
      simp only at e1 e2 e3 e4 hbd
      have E3 := Sd.mk e3
      have E4 := Sd.mk e4
      have K1 := Sd.mk (rel_mk (hR.out.later (below_drew (Below.refl _ _))).bx (hR.out.later (below_drew (Below.refl _ _))).bY (hR.out.later (below_drew (Below.refl _ _))).below (show W1.drew.cell? _ = _ from e1) (show W1.drew.cell? _ = _ from e2))
      clear e3 e4
      go_wp2_with fail
      go_region_held3 (fun wx => wx.heap[w.heap.size]? = some (.cells #[.int .i64 x.N, .int .i64 x.start, .int .i64 x.inp, .int .i64 x.out, .slice A x.mvs.length c] 24 (0, 0)) ∧ wx.heap[w.heap.size + 1]? = some (.cells #[.int .i64 y.N, .int .i64 y.start, .int .i64 y.inp, .int .i64 y.out, .slice A' y.mvs.length c'] 24 (0, 0)) ∧ Below w.heap.size w wx ∧ wx.cell? ⟨w.heap.size, 0, none⟩ = some (.int .i64 x.N) ∧ wx.cell? ⟨w.heap.size, 1, none⟩ = some (.int .i64 x.start) ∧ wx.cell? ⟨w.heap.size, 2, none⟩ = some (.int .i64 x.inp) ∧ wx.cell? ⟨w.heap.size, 3, none⟩ = some (.int .i64 x.out) ∧ wx.cell? ⟨w.heap.size, 4, none⟩ = some (.slice A x.mvs.length c) ∧ wx.cell? ⟨w.heap.size + 1, 0, none⟩ = some (.int .i64 y.N) ∧ wx.cell? ⟨w.heap.size + 1, 1, none⟩ = some (.int .i64 y.start) ∧ wx.cell? ⟨w.heap.size + 1, 2, none⟩ = some (.int .i64 y.inp) ∧ wx.cell? ⟨w.heap.size + 1, 3, none⟩ = some (.int .i64 y.out) ∧ wx.cell? ⟨w.heap.size + 1, 4, none⟩ = some (.slice A' y.mvs.length c') ∧ wx.cell? ⟨g, k * 2, none⟩ = some (.slice A1 (bitsL q1).length c1) ∧ wx.cell? ⟨g, k * 2 + 1, none⟩ = some (.slice A2 (bitsL q2).length c2))
        (first | exact K1.out | exact rel_kept K1.out hB3 | fail)
        (first | (go_at_call 33; refine (setErr_calls W1.drew x hx A c A1 c1 q1 hbd.1 E3.out).mono ?_; rintro e w3 ⟨rfl, hB3⟩) | fail)
      have K3 := Sd.mk (rel_kept K1.out (Below.trans hB3 (below_drew (Below.refl _ _))))
      have R3 := Sd.mk ((hR.out.later (below_drew (Below.refl _ _))).later hB3)
      have E5 := Sd.mk ((show RdI W1.drew A2 (bitsL q2) from E4.out).below hB3)
      clear hB3
      go_wp2_with fail
      go_region_held3 (fun wx => wx.heap[w.heap.size]? = some (.cells #[.int .i64 x.N, .int .i64 x.start, .int .i64 x.inp, .int .i64 x.out, .slice A x.mvs.length c] 24 (0, 0)) ∧ wx.heap[w.heap.size + 1]? = some (.cells #[.int .i64 y.N, .int .i64 y.start, .int .i64 y.inp, .int .i64 y.out, .slice A' y.mvs.length c'] 24 (0, 0)) ∧ Below w.heap.size w wx ∧ wx.cell? ⟨w.heap.size, 0, none⟩ = some (.int .i64 x.N) ∧ wx.cell? ⟨w.heap.size, 1, none⟩ = some (.int .i64 x.start) ∧ wx.cell? ⟨w.heap.size, 2, none⟩ = some (.int .i64 x.inp) ∧ wx.cell? ⟨w.heap.size, 3, none⟩ = some (.int .i64 x.out) ∧ wx.cell? ⟨w.heap.size, 4, none⟩ = some (.slice A x.mvs.length c) ∧ wx.cell? ⟨w.heap.size + 1, 0, none⟩ = some (.int .i64 y.N) ∧ wx.cell? ⟨w.heap.size + 1, 1, none⟩ = some (.int .i64 y.start) ∧ wx.cell? ⟨w.heap.size + 1, 2, none⟩ = some (.int .i64 y.inp) ∧ wx.cell? ⟨w.heap.size + 1, 3, none⟩ = some (.int .i64 y.out) ∧ wx.cell? ⟨w.heap.size + 1, 4, none⟩ = some (.slice A' y.mvs.length c') ∧ wx.cell? ⟨g, k * 2, none⟩ = some (.slice A1 (bitsL q1).length c1) ∧ wx.cell? ⟨g, k * 2 + 1, none⟩ = some (.slice A2 (bitsL q2).length c2))
        (first | exact K3.out | exact rel_kept K3.out hB4 | fail)
        (first | (go_at_call 33; refine (setErr_calls w3.drew y hy A' c' A2 c2 q2 hbd.2 E5.out).mono ?_; rintro e w4 ⟨rfl, hB4⟩) | fail)
      have R4 := Sd.mk ((R3.out.later (below_drew (Below.refl _ _))).later hB4)
      clear hB4
      go_wp2
      go_roundw
      case rel => exact ⟨k + 1, by go_num, by omega, R4⟩
      case measure => simp [intOf]; omega
    · obtain rfl : k = qs.length := by omega
      have K1 := Sd.mk (two_boxes (w := w) (hR.out.later (below_drew (Below.refl _ _))).bx (hR.out.later (below_drew (Below.refl _ _))).bY (hR.out.later (below_drew (Below.refl _ _))).below)
      go_wp2_with fail
      go_region_held3 (fun wx => wx.heap[w.heap.size]? = some (.cells #[.int .i64 x.N, .int .i64 x.start, .int .i64 x.inp, .int .i64 x.out, .slice A x.mvs.length c] 24 (0, 0)) ∧ wx.heap[w.heap.size + 1]? = some (.cells #[.int .i64 y.N, .int .i64 y.start, .int .i64 y.inp, .int .i64 y.out, .slice A' y.mvs.length c'] 24 (0, 0)) ∧ Below w.heap.size w wx ∧ wx.cell? ⟨w.heap.size, 0, none⟩ = some (.int .i64 x.N) ∧ wx.cell? ⟨w.heap.size, 1, none⟩ = some (.int .i64 x.start) ∧ wx.cell? ⟨w.heap.size, 2, none⟩ = some (.int .i64 x.inp) ∧ wx.cell? ⟨w.heap.size, 3, none⟩ = some (.int .i64 x.out) ∧ wx.cell? ⟨w.heap.size, 4, none⟩ = some (.slice A x.mvs.length c) ∧ wx.cell? ⟨w.heap.size + 1, 0, none⟩ = some (.int .i64 y.N) ∧ wx.cell? ⟨w.heap.size + 1, 1, none⟩ = some (.int .i64 y.start) ∧ wx.cell? ⟨w.heap.size + 1, 2, none⟩ = some (.int .i64 y.inp) ∧ wx.cell? ⟨w.heap.size + 1, 3, none⟩ = some (.int .i64 y.out) ∧ wx.cell? ⟨w.heap.size + 1, 4, none⟩ = some (.slice A' y.mvs.length c'))
        (first | exact K1.out | (go_split_ands; exact two_kept (by assumption) (by assumption) (by assumption) (by assumption)) | fail)
        (first | (go_at_call_of 12 (Value.agg #[Value.int IntKind.i64 x.N, Value.int IntKind.i64 x.start, Value.int IntKind.i64 x.inp, Value.int IntKind.i64 x.out, Value.slice A x.mvs.length c]); refine (initial_calls W1.drew x hx A c hR.out.rx).mono ?_; rintro e wa ⟨va, rfl, hoa, hBa⟩; obtain ⟨ba, ca, hva, _, hrda⟩ := hoa.read; subst hva) | (go_at_call_of 12 (Value.agg #[Value.int IntKind.i64 y.N, Value.int IntKind.i64 y.start, Value.int IntKind.i64 y.inp, Value.int IntKind.i64 y.out, Value.slice A' y.mvs.length c']); refine (initial_calls wa y hy A' c' ((show RdM W1.drew A' y.mvs from hR.out.ry).below hBa)).mono ?_; rintro e wb ⟨vb, rfl, hob, hBb⟩; obtain ⟨bb, cb, hvb, _, hrdb⟩ := hob.read; subst hvb) | (go_at_call 34; refine (hasPair_calls wb g cg qs (((show RdP W1.drew g qs from hR.out.rp).below hBa).below hBb) (by omega) ba bb ca cb (firstS (sysOf x)) (firstS (sysOf y)) _ _ rfl rfl (hrda.below hBb) hrdb HOK.out.first).mono ?_; rintro e wc ⟨rfl, hBc⟩) | fail)
      have R5 := Sd.mk ((((hR.out.later (below_drew (Below.refl _ _))).later hBa).later hBb).later hBc)
      clear hBa hBb hBc hoa hob hrda hrdb K1
      go_wp2_with fail
      go_loopw [11, 12, 13, 14] (fun i _ _ _ wq => ∃ k : Nat, i = .int .i64 k ∧ k ≤ qs.length ∧ Sd (RelAt w wq x y A A' c c' g qs)) (fun i _ _ _ _ => qs.length - (intOf i).toNat)
      case atStart => exact ⟨0, rfl, Nat.zero_le _, R5⟩
      case round =>
        obtain ⟨W6, hW6⟩ : ∃ W : World, W = wr := ⟨wr, rfl⟩
        subst hW6
        obtain ⟨k, rfl, hk, hR6⟩ := hrel
        by_cases hkl : k < qs.length
        · have hm : qs.getD k (0, 0) ∈ qs := by rw [List.getD_eq_getElem?_getD, List.getElem?_eq_getElem hkl]; exact List.getElem_mem hkl
          obtain ⟨q, hq⟩ : ∃ q, q = qs.getD k (0, 0) := ⟨_, rfl⟩
          have HQ := Sd.mk hq
          rw [← hq] at hm
          obtain ⟨q1, q2⟩ := q
          have hbd := HOK.out.bd _ hm
          have HC := Sd.mk (HOK.out.closed _ hm)
          have HRi := Sd.mk (HOK.out.right _ hm)
          have HNx := Sd.mk (HOK.out.next _ hm)
          simp only at hbd HC HRi HNx
          have SM1 := small_1024 x hx hbd.1
          clear hq hm
          go_wp2_with fail
          go_loopw [12, 13, 14] (fun i _ _ wq => ∃ e : Nat, i = .int .i64 e ∧ e ≤ x.inp + x.out + 1 ∧ Sd (RelAt w wq x y A A' c c' g qs)) (fun i _ _ _ => x.inp + x.out + 1 - (intOf i).toNat)
          case atStart => exact ⟨0, rfl, Nat.zero_le _, hR6⟩
          case round =>
            obtain ⟨W7, hW7⟩ : ∃ W : World, W = wr := ⟨wr, rfl⟩
            subst hW7
            obtain ⟨e, rfl, he, hR7⟩ := hrel
            have x0 := cell_blk hR7.out.bx 0
            have x1 := cell_blk hR7.out.bx 1
            have x2 := cell_blk hR7.out.bx 2
            have x3 := cell_blk hR7.out.bx 3
            have x4 := cell_blk hR7.out.bx 4
            by_cases hel : e < x.inp + x.out + 1
            · have hd : decide ((e : Int) ≤ (x.inp : Int) + x.out) = true := decide_eq_true (by omega)
              have hax := after_small x hx hbd.1 e
              have hay := after_small y hy hbd.2 e
              go_wp2_with (first | (go_at_call 35; refine (silenceR_calls _ x hx A c).mono ?_; rintro e' w8 ⟨rfl, hB8⟩; have R8 := Sd.mk (hR7.out.later hB8); clear hB8; have y2 := cell_blk R8.out.bx 2) | fail)
              obtain ⟨A1, c1, A2, c2, e1, e2, e3, e4⟩ := R8.out.rp k hkl
              rw [← HQ.out] at e1 e2 e3 e4
              simp only at e1 e2 e3 e4
              have E3 := Sd.mk e3
              have E4 := Sd.mk e4
              have K8 := Sd.mk (rel_mk (R8.out.later (below_drew (Below.refl _ _))).bx (R8.out.later (below_drew (Below.refl _ _))).bY (R8.out.later (below_drew (Below.refl _ _))).below (show w8.drew.cell? _ = _ from e1) (show w8.drew.cell? _ = _ from e2))
              clear e1 e2 e3 e4
              have ND1 : Sd ((bitsL q1).Nodup) := ⟨List.nodup_range.filter _⟩
              have ND2 : Sd ((bitsL q2).Nodup) := ⟨List.nodup_range.filter _⟩
              have LT1 : Sd (∀ a ∈ bitsL q1, a < x.N) := ⟨bitsL_in hbd.1⟩
              have LT2 : Sd (∀ a ∈ bitsL q2, a < y.N) := ⟨bitsL_in hbd.2⟩
              have hey : e ≤ y.inp + y.out := by have := HIO.out; omega
              have hex : e ≤ x.inp + x.out := by omega
              go_region_held3 (fun wx => wx.heap[w.heap.size]? = some (.cells #[.int .i64 x.N, .int .i64 x.start, .int .i64 x.inp, .int .i64 x.out, .slice A x.mvs.length c] 24 (0, 0)) ∧ wx.heap[w.heap.size + 1]? = some (.cells #[.int .i64 y.N, .int .i64 y.start, .int .i64 y.inp, .int .i64 y.out, .slice A' y.mvs.length c'] 24 (0, 0)) ∧ Below w.heap.size w wx ∧ wx.cell? ⟨w.heap.size, 0, none⟩ = some (.int .i64 x.N) ∧ wx.cell? ⟨w.heap.size, 1, none⟩ = some (.int .i64 x.start) ∧ wx.cell? ⟨w.heap.size, 2, none⟩ = some (.int .i64 x.inp) ∧ wx.cell? ⟨w.heap.size, 3, none⟩ = some (.int .i64 x.out) ∧ wx.cell? ⟨w.heap.size, 4, none⟩ = some (.slice A x.mvs.length c) ∧ wx.cell? ⟨w.heap.size + 1, 0, none⟩ = some (.int .i64 y.N) ∧ wx.cell? ⟨w.heap.size + 1, 1, none⟩ = some (.int .i64 y.start) ∧ wx.cell? ⟨w.heap.size + 1, 2, none⟩ = some (.int .i64 y.inp) ∧ wx.cell? ⟨w.heap.size + 1, 3, none⟩ = some (.int .i64 y.out) ∧ wx.cell? ⟨w.heap.size + 1, 4, none⟩ = some (.slice A' y.mvs.length c') ∧ wx.cell? ⟨g, k * 2, none⟩ = some (.slice A1 (bitsL q1).length c1) ∧ wx.cell? ⟨g, k * 2 + 1, none⟩ = some (.slice A2 (bitsL q2).length c2))
                (first | exact K8.out | exact rel_kept ‹_ ∧ _ ∧ _ ∧ _ ∧ _ ∧ _ ∧ _ ∧ _ ∧ _ ∧ _ ∧ _ ∧ _ ∧ _ ∧ _ ∧ _› (by assumption) | fail)
                (first | (go_at_call_of 36 (Value.agg #[Value.int IntKind.i64 x.N, Value.int IntKind.i64 x.start, Value.int IntKind.i64 x.inp, Value.int IntKind.i64 x.out, Value.slice A x.mvs.length c]); refine (closedR_calls w8.drew x hx A c R8.out.rx A1 c1 (bitsL q1) ND1.out LT1.out E3.out).mono ?_; rintro e' wa ⟨va, Ra, rfl, hoa, hca, hBa⟩; obtain rfl := closedL_self x hx q1 hbd.1 HC.out.1 Ra hca; obtain ⟨ba, ca, hva, _, hrda⟩ := hoa.read; subst hva) | (go_at_call_of 15 (Value.agg #[Value.int IntKind.i64 x.N, Value.int IntKind.i64 x.start, Value.int IntKind.i64 x.inp, Value.int IntKind.i64 x.out, Value.slice A x.mvs.length c]); refine (afterR_int wa x hx A c ((show RdM w8.drew A x.mvs from R8.out.rx).below hBa) ba ca _ q1 rfl hbd.1 hrda e hex _ rfl).mono ?_; rintro e' wb ⟨vb, rfl, hob, hBb⟩; obtain ⟨bb, cb, hvb, _, hrdb⟩ := hob.read; subst hvb) | (go_at_call_of 36 (Value.agg #[Value.int IntKind.i64 y.N, Value.int IntKind.i64 y.start, Value.int IntKind.i64 y.inp, Value.int IntKind.i64 y.out, Value.slice A' y.mvs.length c']); refine (closedR_calls wb y hy A' c' (((show RdM w8.drew A' y.mvs from R8.out.ry).below hBa).below hBb) A2 c2 (bitsL q2) ND2.out LT2.out (((show RdI w8.drew A2 (bitsL q2) from E4.out).below hBa).below hBb)).mono ?_; rintro e' wc ⟨vc, Rc, rfl, hoc, hcc, hBc⟩; obtain rfl := closedL_self y hy q2 hbd.2 HC.out.2 Rc hcc; obtain ⟨bc, cc, hvc, _, hrdc⟩ := hoc.read; subst hvc) | (go_at_call_of 15 (Value.agg #[Value.int IntKind.i64 y.N, Value.int IntKind.i64 y.start, Value.int IntKind.i64 y.inp, Value.int IntKind.i64 y.out, Value.slice A' y.mvs.length c']); refine (afterR_int wc y hy A' c' ((((show RdM w8.drew A' y.mvs from R8.out.ry).below hBa).below hBb).below hBc) bc cc _ q2 rfl hbd.2 hrdc e hey _ rfl).mono ?_; rintro e' wd ⟨vd, rfl, hod, hBd⟩; obtain ⟨bd, cd, hvd, _, hrdd⟩ := hod.read; subst hvd) | fail)
              have R9 := Sd.mk (((((R8.out.later (below_drew (Below.refl _ _))).later hBa).later hBb).later hBc).later hBd)
              have D1 := Sd.mk ((hrdb.below hBc).below hBd)
              have D2 := Sd.mk hrdd
              have y2' := cell_blk R9.out.bx 2
              clear hoa hob hoc hod hBa hBb hBc hBd hrda hrdb hrdc hrdd hca hcc y2 x0 x1 x2 x3 x4
              have hpy := bitsL_pos _ (small_1024 y hy hay)
              have hzx := fun hz => (bitsL_nil (small_1024 x hx hax)).2 hz
              generalize hnb : (bitsL (afterS (sysOf y) q2 e)).length = nb at *
              generalize hna : (bitsL (afterS (sysOf x) q1 e)).length = na at *
              have HNB := Sd.mk hnb
              have HNA := Sd.mk hna
              clear hnb hna
              rcases hpy with ⟨h1, h2⟩ | ⟨h1, h2⟩
              · have hb0 : ((nb : Int) == 0) = true := by rw [h1]; rfl
                have hb1 : decide ((0 : Int) < (nb : Int)) = false := decide_eq_false (by omega)
                by_cases hei : x.inp ≤ e
                · have hz := hzx (HRi.out e hei hex h2)
                  have hb3 : decide ((0 : Int) < (na : Int)) = false := decide_eq_false (by omega)
                  have hb4 : decide ((x.inp : Int) ≤ (e : Int)) = true := decide_eq_true (by omega)
                  have hb5 : na = 0 := hz
                  clear h2 hz hax hay hzx
                  subst hb5
                  subst h1
                  go_wp2
                  go_roundw
                  case rel => exact ⟨e + 1, by go_num, by omega, R9⟩
                  case measure => simp [intOf]; omega
                · have hb4 : decide ((x.inp : Int) ≤ (e : Int)) = false := decide_eq_false (by omega)
                  clear h2 hax hay hzx
                  subst h1
                  go_wp2
                  go_roundw
                  case rel => exact ⟨e + 1, by go_num, by omega, R9⟩
                  case measure => simp [intOf]; omega
              · have hb0 : ((nb : Int) == 0) = false := by rw [beq_eq_false_iff_ne]; omega
                have hb1 : decide ((0 : Int) < (nb : Int)) = true := decide_eq_true (by omega)
                have HIn := Sd.mk (HNx.out e hex h2)
                clear h2 hax hay hzx
                go_wp2_with (first | (go_at_call 34; refine (hasPair_calls wd g cg qs R9.out.rp (by omega) bb bd cb cd (afterS (sysOf x) q1 e) (afterS (sysOf y) q2 e) _ _ HNA.out.symm HNB.out.symm D1.out D2.out HIn.out).mono ?_; rintro e' we ⟨rfl, hBe⟩; have R10 := Sd.mk (R9.out.later hBe); clear hBe) | fail)
                go_roundw
                case rel => exact ⟨e + 1, by go_num, by omega, R10⟩
                case measure => simp [intOf]; omega
            · obtain rfl : e = x.inp + x.out + 1 := by omega
              have hd : decide ((((x.inp + x.out + 1 : Nat)) : Int) ≤ (x.inp : Int) + x.out) = false := decide_eq_false (by omega)
              have hd2 : decide ((x.inp : Int) + x.out + 1 ≤ (x.inp : Int) + x.out) = false := decide_eq_false (by omega)
              go_wp2_with (first | (go_at_call 35; refine (silenceR_calls _ x hx A c).mono ?_; rintro e' w8 ⟨rfl, hB8⟩; have R8 := Sd.mk (hR7.out.later hB8); clear hB8) | fail)
              go_roundw
              case rel => exact ⟨k + 1, by go_num, by omega, R8⟩
              case measure => simp [intOf]; omega
        · obtain rfl : k = qs.length := by omega
          go_wp2
          go_ret2
          exact ⟨rfl, hR6.out.below⟩
end Go.Proofs.YtcbhaeniahckhaaDoor
end
section
namespace Go.Proofs.YtcbhaeniahckhaaDoor
open Go.RowKit Go.Shelf Go.Deep
theorem closedS_idem (x : Rx) (hx : x.ok) (l : Nat) (hl : l < 2 ^ x.N) : closedS (sysOf x) (closedS (sysOf x) l) = closedS (sysOf x) l := by
  have hf := closeN_fix (sysOf x) hx.hN (x.silb hx) 1024 l hl (by omega)
  show closeN (sysOf x) 1024 (closeN (sysOf x) 1024 l) = closeN (sysOf x) 1024 l
  generalize closeN (sysOf x) 1024 l = c at hf ⊢
  rw [closeN, if_pos hf]
theorem relOK_of (x y : Rx) (hx : x.ok) (hy : y.ok) (hio : x.inp = y.inp ∧ x.out = y.out) (h : (seekS x y).1 = none) (hl : (seekS x y).2.1.length ≤ 300) : RelOK x y (seekS x y).2.1 := by
  obtain ⟨hS, _⟩ := seek_none x y hx hy h
  have hg := seek_good x y hx hy
  have bd : ∀ k, k < (seekS x y).2.1.length → (pr (seekS x y).2 k).1 < 2 ^ x.N ∧ (pr (seekS x y).2 k).2 < 2 ^ y.N := fun k hk => hg.bd _ (by unfold pr; rw [List.getD_eq_getElem?_getD, List.getElem?_eq_getElem hk]; exact List.getElem_mem hk)
  have idx : ∀ q ∈ (seekS x y).2.1, ∃ k, k < (seekS x y).2.1.length ∧ pr (seekS x y).2 k = q := fun q hq => by
    obtain ⟨k, hk, ek⟩ := List.getElem_of_mem hq
    exact ⟨k, hk, by unfold pr; rw [List.getD_eq_getElem?_getD, List.getElem?_eq_getElem hk]; exact ek⟩
  have mem : ∀ k, k < (seekS x y).2.1.length → pr (seekS x y).2 k ∈ (seekS x y).2.1 := fun k hk => by
    unfold pr; rw [List.getD_eq_getElem?_getD, List.getElem?_eq_getElem hk]; exact List.getElem_mem hk
  refine ⟨hl, hg.bd, ?_, ?_, ?_, ?_⟩
  · have := mem 0 hS.pos
    rwa [hS.p0] at this
  · intro q hq
    obtain ⟨k, hk, rfl⟩ := idx q hq
    by_cases h0 : k = 0
    · subst h0
      rw [hS.p0]
      exact ⟨closedS_idem x hx _ (Nat.pow_lt_pow_right (by decide) hx.hs), closedS_idem y hy _ (Nat.pow_lt_pow_right (by decide) hy.hs)⟩
    · obtain ⟨j, e, _, hj, _, _, h5, _⟩ := hS.fr k (by omega) hk
      rw [h5]
      have hb := bd j (by omega)
      exact ⟨closedS_idem x hx _ (outS_lt (sysOf x) (x.byb hx) hb.1), closedS_idem y hy _ (outS_lt (sysOf y) (y.byb hy) hb.2)⟩
  · intro q hq e h1 h2 hz
    obtain ⟨k, hk, rfl⟩ := idx q hq
    have hf := (hS.done k hk).1
    rcases failsFrom_none _ _ _ _ _ hf e h1 (by show e < x.inp + (x.out + 1); omega) with hs | hs
    · unfold showsS at hs
      simp only [Bool.and_eq_false_iff, decide_eq_false_iff_not] at hs
      rcases hs with hs | hs
      · exact absurd h1 hs
      · simpa using hs
    · unfold showsS at hs
      rw [hz] at hs
      simp at hs
  · intro q hq e h1 hne
    obtain ⟨k, hk, rfl⟩ := idx q hq
    obtain ⟨j, hj, ej, _⟩ := (hS.done k hk).2 e h1 hne
    have := mem j hj
    rwa [ej] at this
end Go.Proofs.YtcbhaeniahckhaaDoor
end
