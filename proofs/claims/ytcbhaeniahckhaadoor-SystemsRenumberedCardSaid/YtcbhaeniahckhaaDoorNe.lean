/- The error of a test's node, walked. Conditions: those that each theorem names. -/
import Derived.Test.YtcbhaeniahckhaaDoorMm
import Derived.Test.YtcbhaeniahckhaaDoorNa
set_option linter.unusedSimpArgs false
set_option linter.unusedVariables false
set_option linter.unusedSimpArgs false
namespace Go.Proofs.YtcbhaeniahckhaaDoor
open Go.RowKit Go.Shelf Go.Deep Go.Proofs.YtcbhaeniahckhaaDoorW.PrintLast
def inBad (inp : Nat) (d : Nd) : Bool := decide (d.inp ≠ -1) && !(decide (0 ≤ d.inp) && decide (d.inp ≤ (inp : Int) - 1))
def verBad (d : Nd) : Bool := !(decide ((if leafS d then (1 : Int) else 0) ≤ d.ver) && decide (d.ver ≤ if leafS d then (3 : Int) else 0))
def shapeBad (out : Nat) (d : Nd) : Bool := !leafS d && decide ((d.nx.length : Int) ≠ if d.inp = -1 then (out : Int) + 1 else 1)
def orderBad (n i : Nat) (nx : List Nat) : Bool := nx.any fun k => !(decide ((i : Int) + 1 ≤ k) && decide ((k : Int) ≤ (n : Int) - 1))
def bumpN : List Nat → List Nat → Int × List Nat
  | [], beh => (0, beh)
  | k :: ks, beh => if 1 < beh.getD k 0 + 1 then (13, beh.set k (beh.getD k 0 + 1)) else bumpN ks (beh.set k (beh.getD k 0 + 1))
/-- a node's error, and how often nodes came behind others then -/
def ndErr (inp out n i : Nat) (d : Nd) (beh : List Nat) : Int × List Nat :=
  if inBad inp d || verBad d then (3, beh) else if shapeBad out d then (6, beh) else if orderBad n i d.nx then (14, beh) else bumpN d.nx beh
theorem spans_is (b : Bool) (n lo hi : Int) (h : (decide (lo ≤ n) && decide (n ≤ hi)) = b) (w : World) : Calls Tryd.prog 38 #[.int .i64 n, .int .i64 lo, .int .i64 hi] w fun e w' => e = .returned (.bool b) ∧ w = w' := by
  subst h
  exact spans_calls n lo hi w
theorem leaf_is (b : Bool) (d : Nd) (h : leafS d = b) (w : World) (A : Option Addr) (c : Nat) : Calls Tryd.prog 65 #[.agg #[.int .i64 d.inp, .int .i64 d.ver, .slice A d.nx.length c]] w fun e w' => e = .returned (.bool b) ∧ Below w.heap.size w w' := by
  subst h
  exact isLeaf_calls w _ _ _ _ _
theorem orderBad_take {n i : Nat} {nx : List Nat} (j : Nat) (hj : j < nx.length) (h : orderBad n i (nx.take j) = false) (hk : (decide ((i : Int) + 1 ≤ (nx.getD j 0 : Nat)) && decide (((nx.getD j 0 : Nat) : Int) ≤ (n : Int) - 1)) = true) : orderBad n i (nx.take (j + 1)) = false := by
  unfold orderBad at *
  rw [take_getD (d := 0) nx j hj, List.any_append, h]
  simp only [List.any_cons, List.any_nil, hk]
  rfl
theorem orderBad_at {n i : Nat} {nx : List Nat} (j : Nat) (hj : j < nx.length) (hk : (decide ((i : Int) + 1 ≤ (nx.getD j 0 : Nat)) && decide (((nx.getD j 0 : Nat) : Int) ≤ (n : Int) - 1)) = false) : orderBad n i nx = true := by
  unfold orderBad
  rw [List.any_eq_true]
  exact ⟨_, getD_mem hj, by rw [hk]; rfl⟩
theorem orderBad_mem {n i : Nat} {nx : List Nat} (h : orderBad n i nx = false) {k : Nat} (hk : k ∈ nx) : k < n := by
  unfold orderBad at h
  rw [List.any_eq_false] at h
  have := h k hk
  simp only [Bool.not_eq_true, Bool.not_eq_false', Bool.and_eq_true, decide_eq_true_eq] at this
  omega
def NdPost (gb : Nat) (w : World) (r : Int × List Nat) (e : Ending) (w' : World) : Prop := e = .returned (.int .i64 r.1) ∧ w.grownBy w' (some gb) ∧ w'.heap[gb]? = some (.cells (r.2.map cellI).toArray 3 (0, 0))
theorem set_cellI (l : List Nat) (k v : Nat) : ((l.map cellI).toArray.setIfInBounds k (.int .i64 ((v : Nat) : Int))) = ((l.set k v).map cellI).toArray := by
  rw [List.setIfInBounds_toArray, List.map_set]
  rfl
theorem bumpN_eq (k : Nat) (ks beh : List Nat) : bumpN (k :: ks) beh = if 1 < beh.getD k 0 + 1 then (13, beh.set k (beh.getD k 0 + 1)) else bumpN ks (beh.set k (beh.getD k 0 + 1)) := rfl
/-- the rows behind the nodes that came -/
structure BhAt (w wq : World) (gb : Nat) (nx beh : List Nat) (j : Nat) (b2 : List Nat) : Prop where
  gr : w.grownBy wq (some gb)
  row : wq.heap[gb]? = some (.cells (b2.map cellI).toArray 3 (0, 0))
  eq : bumpN nx beh = bumpN (nx.drop j) b2
  len : b2.length = beh.length
  sm : ∀ k, b2.getD k 0 ≤ 1
theorem getD_set (l : List Nat) (k v i : Nat) : (l.set k v).getD i 0 = if i = k ∧ k < l.length then v else l.getD i 0 := by
  rw [List.getD_eq_getElem?_getD, List.getD_eq_getElem?_getD, List.getElem?_set]
  by_cases h : k = i
  · subst h
    by_cases hl : k < l.length
    · simp [hl]
    · simp [hl]
  · rw [if_neg h, if_neg (fun e => h e.1.symm)]
theorem grown_set {w wq : World} {gb : Nat} (h : w.grownBy wq (some gb)) (k : Nat) (u : Value) : w.grownBy (wq.setCell ⟨gb, k, none⟩ u) (some gb) :=
  ⟨h.os, h.tape, h.output, by have := h.size; simpa [World.setCell] using this, fun b hb hne => by rw [Below.heap_setCell _ _ _ _ (fun e => hne (by rw [e]))]; exact h.block b hb hne⟩
theorem BhAt.step {w wq : World} {gb : Nat} {nx beh b2 : List Nat} {j k : Nat} (h : BhAt w wq gb nx beh j b2) (hj : j < nx.length) (hk : k = nx.getD j 0) (hz : b2.getD k 0 = 0) : BhAt w (wq.setCell ⟨gb, k, none⟩ (.int .i64 1)) gb nx beh (j + 1) (b2.set k 1) := by
  refine ⟨grown_set h.gr _ _, ?_, ?_, by rw [List.length_set, h.len], fun i => ?_⟩
  · rw [blk_set h.row, ← set_cellI]; rfl
  · rw [h.eq, drop_getD nx j hj, ← hk, bumpN_eq, hz, if_neg (by decide)]
  · rw [getD_set]
    split
    · decide
    · exact h.sm i
theorem BhAt.dbl {w wq : World} {gb : Nat} {nx beh b2 : List Nat} {j k : Nat} (h : BhAt w wq gb nx beh j b2) (hj : j < nx.length) (hk : k = nx.getD j 0) (hz : b2.getD k 0 = 1) : bumpN nx beh = (13, b2.set k 2) ∧ w.grownBy (wq.setCell ⟨gb, k, none⟩ (.int .i64 2)) (some gb) ∧ (wq.setCell ⟨gb, k, none⟩ (.int .i64 2)).heap[gb]? = some (.cells ((b2.set k 2).map cellI).toArray 3 (0, 0)) := by
  refine ⟨?_, grown_set h.gr _ _, ?_⟩
  · rw [h.eq, drop_getD nx j hj, ← hk, bumpN_eq, hz, if_pos (by decide)]
  · rw [blk_set h.row, ← set_cellI]; rfl
theorem row_at {w : World} {gb k : Nat} {l : List Nat} (h : w.heap[gb]? = some (.cells (l.map cellI).toArray 3 (0, 0))) (hk : k < l.length) : w.cell? ⟨gb, k, none⟩ = some (.int .i64 (l.getD k 0 : Nat)) := by
  rw [cell_blk h]
  simp only [List.getElem?_toArray, List.getElem?_map, List.getElem?_eq_getElem hk, Option.map_some]
  rw [List.getD_eq_getElem?_getD, List.getElem?_eq_getElem hk]
  rfl
/-- where a node's check begins -/
structure ChkAt (w0 w : World) (g : Nat) (T : List Nd) (gb : Nat) (beh : List Nat) : Prop where
  nodes : NodesAt w0 g T
  kept : KeptC w0 w
  hgb : w0.heap.size ≤ gb
  row : w.heap[gb]? = some (.cells (beh.map cellI).toArray 3 (0, 0))
  len : beh.length = T.length
  sm : ∀ k, beh.getD k 0 ≤ 1
/-- the two boxes of a node's check -/
structure NbAt (w wq : World) (x : Rx) (A : Option Addr) (c : Nat) (di dv : Int) (An : Option Addr) (n cn : Nat) : Prop where
  below : Below w.heap.size w wq
  bx : wq.heap[w.heap.size]? = some (.cells #[.int .i64 x.N, .int .i64 x.start, .int .i64 x.inp, .int .i64 x.out, .slice A x.mvs.length c] 24 (0, 0))
  bn : wq.heap[w.heap.size + 1]? = some (.cells #[.int .i64 di, .int .i64 dv, .slice An n cn] 109 (0, 0))
theorem NbAt.later {w wq w' : World} {x : Rx} {A : Option Addr} {c : Nat} {di dv : Int} {An : Option Addr} {n cn : Nat} (h : NbAt w wq x A c di dv An n cn) (hB : Below wq.heap.size wq w') : NbAt w w' x A c di dv An n cn :=
  ⟨below_then h.below h.below.size hB, (hB.block _ (Array.getElem?_eq_some_iff.1 h.bx).1).trans h.bx, (hB.block _ (Array.getElem?_eq_some_iff.1 h.bn).1).trans h.bn⟩
theorem NbAt.start (w : World) (x : Rx) (A : Option Addr) (c : Nat) (di dv : Int) (An : Option Addr) (n cn : Nat) : NbAt w ((w.alloc (.cells #[.int .i64 x.N, .int .i64 x.start, .int .i64 x.inp, .int .i64 x.out, .slice A x.mvs.length c] 24)).alloc (.cells #[.int .i64 di, .int .i64 dv, .slice An n cn] 109)) x A c di dv An n cn :=
  ⟨(alloc_below _ _).alloc (by simp) _, (heap_alloc_old _ _ (by simp)).trans (heap_alloc_new w _), alloc_at _ _ _ (by simp)⟩
set_option maxHeartbeats 8000000 in
set_option maxRecDepth 100000 in
theorem nodeErr_calls (w0 w : World) (x : Rx) (hx : x.ok) (A : Option Addr) (c g ct : Nat) (T : List Nd) (hT4 : T.length ≤ 1000) (i : Nat) (hi : i < T.length) (gb : Nat) (beh : List Nat) (hC : ChkAt w0 w g T gb beh) (hnl : (T.getD i ndD).nx.length ≤ 1000) :
    Calls Tryd.prog 87 #[rxV x A c, .slice (some ⟨g, 0, none⟩) T.length ct, .int .i64 i, .slice (some ⟨gb, 0, none⟩) T.length T.length] w (NdPost gb w (ndErr x.inp x.out T.length i (T.getD i ndD) beh)) := by
  unfold rxV
  have hin := hx.hi
  have hout := hx.ho
  have HC := Sd.mk hC
  obtain ⟨An, cn, n0, n1, n2, n3⟩ := hC.nodes i hi
  have hgl : gb < w.heap.size := (Array.getElem?_eq_some_iff.1 hC.row).1
  have m0 := hC.kept.cell n0
  have m1 := hC.kept.cell n1
  have m2 := hC.kept.cell n2
  have HR := Sd.mk (n3.keptC hC.kept)
  have hbl := Sd.mk hC.len
  generalize T.getD i ndD = d at *
  have HNE : Sd (∀ j, j < d.nx.length → ∃ ad, An = some ad ∧ (ad.add j).block ≠ gb) := ⟨fun j hj => by obtain ⟨ad, e1, e2⟩ := n3 j hj; have := World.block_lt_of_cell? w0 _ e2; have := hC.hgb; exact ⟨ad, e1, by omega⟩⟩
  clear n0 n1 n2 n3 hC hx
  obtain ⟨di, dv, nx⟩ := d
  simp only at *
  have HB := Sd.mk (alloc_below w (.cells #[.int .i64 x.N, .int .i64 x.start, .int .i64 x.inp, .int .i64 x.out, .slice A x.mvs.length c] 24))
  have m0' := cell_later HB.out m0
  have m1' := cell_later HB.out m1
  have m2' := cell_later HB.out m2
  clear m0 m1 m2
  have K0 := Sd.mk (NbAt.start w x A c di dv An nx.length cn)
  have HP : ∀ e w' r, ndErr x.inp x.out T.length i ⟨di, dv, nx⟩ beh = r → e = .returned (.int .i64 r.1) → w.grownBy w' (some gb) → w'.heap[gb]? = some (.cells (r.2.map cellI).toArray 3 (0, 0)) → NdPost gb w (ndErr x.inp x.out T.length i ⟨di, dv, nx⟩ beh) e w' := fun e w' r h1 h2 h3 h4 => by rw [h1]; exact ⟨h2, h3, h4⟩
  have HP2 : ∀ e w' (k : Int), ndErr x.inp x.out T.length i ⟨di, dv, nx⟩ beh = (k, beh) → e = .returned (.int .i64 k) → Below w.heap.size w w' → NdPost gb w (ndErr x.inp x.out T.length i ⟨di, dv, nx⟩ beh) e w' := fun e w' k h1 h2 h3 => HP e w' _ h1 h2 (grown_of gb h3) ((h3.block gb hgl).trans HC.out.row)
  have HP := Sd.mk HP
  have HP2 := Sd.mk HP2
  by_cases hb3 : (inBad x.inp ⟨di, dv, nx⟩ || verBad ⟨di, dv, nx⟩) = true
  · have HN : Sd (ndErr x.inp x.out T.length i ⟨di, dv, nx⟩ beh = (3, beh)) := ⟨by unfold ndErr; rw [if_pos hb3]⟩
    rcases hlf : leafS ⟨di, dv, nx⟩ with _ | _
    · by_cases hdi : di = -1
      · subst hdi
        have hv : Sd ((decide ((0 : Int) ≤ dv) && decide (dv ≤ 0)) = false) := ⟨by
          simp only [inBad, verBad, hlf, ne_eq, not_true_eq_false, decide_false, Bool.false_and, Bool.false_or, Bool.false_eq_true, if_false, Bool.not_eq_true'] at hb3
          exact hb3⟩
        clear hb3
        have HLf := Sd.mk hlf
        clear hlf
        go_enter Tryd.func87, Tryd.ntmps87
        go_wp2_with (first | (go_at_call 65; refine (leaf_is false ⟨-1, dv, nx⟩ HLf.out _ An cn).mono ?_; rintro e w3 ⟨rfl, hB3⟩; have K1 := Sd.mk (K0.out.later hB3); have q0 := cell_blk K1.out.bn 0; have q1 := cell_blk K1.out.bn 1; have q2 := cell_blk K1.out.bn 2; have p2 := cell_blk K1.out.bx 2; have p3 := cell_blk K1.out.bx 3; clear hB3) | (go_at_call_of 38 (Value.int IntKind.i64 dv); refine (spans_is false _ _ _ hv.out _).mono ?_; rintro e w4 ⟨rfl, rfl⟩) | fail)
        go_ret
        exact HP2.out _ _ 3 HN.out rfl K1.out.below
      · have hd1 : (di == -1) = false := by rw [beq_eq_false_iff_ne]; exact hdi
        have hd2 : (di != -1) = true := by rw [bne_iff_ne]; exact hdi
        have HLf := Sd.mk hlf
        rcases hr : (decide (0 ≤ di) && decide (di ≤ (x.inp : Int) - 1)) with _ | _
        · have HRg := Sd.mk hr
          clear hb3 hlf hr hdi
          go_enter Tryd.func87, Tryd.ntmps87
          go_wp2_with (first | (go_at_call 65; refine (leaf_is false ⟨di, dv, nx⟩ HLf.out _ An cn).mono ?_; rintro e w3 ⟨rfl, hB3⟩; have K1 := Sd.mk (K0.out.later hB3); have q0 := cell_blk K1.out.bn 0; have q1 := cell_blk K1.out.bn 1; have q2 := cell_blk K1.out.bn 2; have p2 := cell_blk K1.out.bx 2; have p3 := cell_blk K1.out.bx 3; clear hB3) | (go_at_call_of 38 (Value.int IntKind.i64 di); refine (spans_is false _ _ _ HRg.out _).mono ?_; rintro e w4 ⟨rfl, rfl⟩) | fail)
          go_ret
          exact HP2.out _ _ 3 HN.out rfl K1.out.below
        · have HRg := Sd.mk hr
          have hv : Sd ((decide ((0 : Int) ≤ dv) && decide (dv ≤ 0)) = false) := ⟨by
            simp only [inBad, verBad, hlf, hr, Bool.not_true, Bool.and_false, Bool.false_or, Bool.false_eq_true, if_false, Bool.not_eq_true'] at hb3
            exact hb3⟩
          clear hb3 hlf hr hdi
          go_enter Tryd.func87, Tryd.ntmps87
          go_wp2_with (first | (go_at_call 65; refine (leaf_is false ⟨di, dv, nx⟩ HLf.out _ An cn).mono ?_; rintro e w3 ⟨rfl, hB3⟩; have K1 := Sd.mk (K0.out.later hB3); have q0 := cell_blk K1.out.bn 0; have q1 := cell_blk K1.out.bn 1; have q2 := cell_blk K1.out.bn 2; have p2 := cell_blk K1.out.bx 2; have p3 := cell_blk K1.out.bx 3; clear hB3) | (go_at_call_of 38 (Value.int IntKind.i64 di); refine (spans_is true _ _ _ HRg.out _).mono ?_; rintro e w4 ⟨rfl, rfl⟩) | (go_at_call_of 38 (Value.int IntKind.i64 dv); refine (spans_is false _ _ _ hv.out _).mono ?_; rintro e w4 ⟨rfl, rfl⟩) | fail)
          go_ret
          exact HP2.out _ _ 3 HN.out rfl K1.out.below
    · obtain ⟨h1, h2⟩ : di = -1 ∧ nx.length = 0 := by unfold leafS at hlf; simpa using hlf
      subst h1
      have hv : Sd ((decide ((1 : Int) ≤ dv) && decide (dv ≤ 3)) = false) := ⟨by
        simp only [inBad, verBad, hlf, ne_eq, not_true_eq_false, decide_false, Bool.false_and, Bool.false_or, if_true, Bool.not_eq_true'] at hb3
        exact hb3⟩
      have HLf := Sd.mk hlf
      clear hb3 hlf h2
      go_enter Tryd.func87, Tryd.ntmps87
      go_wp2_with (first | (go_at_call 65; refine (leaf_is true ⟨-1, dv, nx⟩ HLf.out _ An cn).mono ?_; rintro e w3 ⟨rfl, hB3⟩; have K1 := Sd.mk (K0.out.later hB3); have q0 := cell_blk K1.out.bn 0; have q1 := cell_blk K1.out.bn 1; have q2 := cell_blk K1.out.bn 2; have p2 := cell_blk K1.out.bx 2; have p3 := cell_blk K1.out.bx 3; clear hB3) | (go_at_call_of 38 (Value.int IntKind.i64 dv); refine (spans_is false _ _ _ hv.out _).mono ?_; rintro e w4 ⟨rfl, rfl⟩) | fail)
      go_ret
      exact HP2.out _ _ 3 HN.out rfl K1.out.below
  · rcases hlf : leafS ⟨di, dv, nx⟩ with _ | _
    · have HLf := Sd.mk hlf
      have hv : Sd ((decide ((0 : Int) ≤ dv) && decide (dv ≤ 0)) = true) := ⟨by
        have h := (not_or.1 (fun h => hb3 (by rw [Bool.or_eq_true]; exact h))).2
        simp only [verBad, hlf, Bool.false_eq_true, if_false, Bool.not_eq_true', Bool.not_eq_false] at h
        exact h⟩
      by_cases hb6 : shapeBad x.out ⟨di, dv, nx⟩ = true
      · have HN : Sd (ndErr x.inp x.out T.length i ⟨di, dv, nx⟩ beh = (6, beh)) := ⟨by unfold ndErr; rw [if_neg hb3, if_pos hb6]⟩
        by_cases hdi : di = -1
        · subst hdi
          have hne : ((nx.length : Int) != (x.out : Int) + 1) = true := by
            simp only [shapeBad, hlf, Bool.not_false, Bool.true_and, decide_eq_true_eq, if_true] at hb6
            rw [bne_iff_ne]; exact hb6
          clear hb3 hb6 hlf
          go_enter Tryd.func87, Tryd.ntmps87
          go_wp2_with (first | (go_at_call 65; refine (leaf_is false ⟨-1, dv, nx⟩ HLf.out _ An cn).mono ?_; rintro e w5 ⟨rfl, hB5⟩; have K2 := Sd.mk (K1.out.later hB5); have u0 := cell_blk K2.out.bn 0; have u1 := cell_blk K2.out.bn 1; have u2 := cell_blk K2.out.bn 2; have u3 := cell_blk K2.out.bx 3; clear hB5) | (go_at_call 65; refine (leaf_is false ⟨-1, dv, nx⟩ HLf.out _ An cn).mono ?_; rintro e w3 ⟨rfl, hB3⟩; have K1 := Sd.mk (K0.out.later hB3); have q0 := cell_blk K1.out.bn 0; have q1 := cell_blk K1.out.bn 1; have q2 := cell_blk K1.out.bn 2; have p2 := cell_blk K1.out.bx 2; have p3 := cell_blk K1.out.bx 3; clear hB3) | (go_at_call_of 38 (Value.int IntKind.i64 dv); refine (spans_is true _ _ _ hv.out _).mono ?_; rintro e w4 ⟨rfl, rfl⟩) | fail)
          go_ret
          exact HP2.out _ _ 6 HN.out rfl K2.out.below
        · have hne : ((nx.length : Int) != 1) = true := by
            simp only [shapeBad, hlf, Bool.not_false, Bool.true_and, decide_eq_true_eq, if_neg hdi] at hb6
            rw [bne_iff_ne]; exact hb6
          have HRg : Sd ((decide (0 ≤ di) && decide (di ≤ (x.inp : Int) - 1)) = true) := ⟨by
            have h := (not_or.1 (fun h => hb3 (by rw [Bool.or_eq_true]; exact h))).1
            simp only [inBad, ne_eq, hdi, not_false_eq_true, decide_true, Bool.true_and, Bool.not_eq_true', Bool.not_eq_false] at h
            exact h⟩
          have hd1 : (di == -1) = false := by rw [beq_eq_false_iff_ne]; exact hdi
          have hd2 : (di != -1) = true := by rw [bne_iff_ne]; exact hdi
          clear hb3 hb6 hlf hdi
          go_enter Tryd.func87, Tryd.ntmps87
          go_wp2_with (first | (go_at_call 65; refine (leaf_is false ⟨di, dv, nx⟩ HLf.out _ An cn).mono ?_; rintro e w5 ⟨rfl, hB5⟩; have K2 := Sd.mk (K1.out.later hB5); have u0 := cell_blk K2.out.bn 0; have u1 := cell_blk K2.out.bn 1; have u2 := cell_blk K2.out.bn 2; have u3 := cell_blk K2.out.bx 3; clear hB5) | (go_at_call 65; refine (leaf_is false ⟨di, dv, nx⟩ HLf.out _ An cn).mono ?_; rintro e w3 ⟨rfl, hB3⟩; have K1 := Sd.mk (K0.out.later hB3); have q0 := cell_blk K1.out.bn 0; have q1 := cell_blk K1.out.bn 1; have q2 := cell_blk K1.out.bn 2; have p2 := cell_blk K1.out.bx 2; have p3 := cell_blk K1.out.bx 3; clear hB3) | (go_at_call_of 38 (Value.int IntKind.i64 di); refine (spans_is true _ _ _ HRg.out _).mono ?_; rintro e w4 ⟨rfl, rfl⟩) | (go_at_call_of 38 (Value.int IntKind.i64 dv); refine (spans_is true _ _ _ hv.out _).mono ?_; rintro e w4 ⟨rfl, rfl⟩) | fail)
          go_ret
          exact HP2.out _ _ 6 HN.out rfl K2.out.below
      · have HB3 := Sd.mk hb3
        have HB6 := Sd.mk hb6
        by_cases hdi : di = -1
        · subst hdi
          have hne : ((nx.length : Int) != (x.out : Int) + 1) = false := by
            simp only [shapeBad, hlf, Bool.not_false, Bool.true_and, decide_eq_true_eq, if_true] at hb6
            rw [bne_eq_false_iff_eq]; exact Classical.not_not.1 hb6
          clear hb3 hb6 hlf
          go_enter Tryd.func87, Tryd.ntmps87
          go_wp2_with (first | (go_at_call 65; refine (leaf_is false ⟨-1, dv, nx⟩ HLf.out _ An cn).mono ?_; rintro e w5 ⟨rfl, hB5⟩; have K2 := Sd.mk (K1.out.later hB5); have u0 := cell_blk K2.out.bn 0; have u1 := cell_blk K2.out.bn 1; have u2 := cell_blk K2.out.bn 2; have u3 := cell_blk K2.out.bx 3; clear hB5) | (go_at_call 65; refine (leaf_is false ⟨-1, dv, nx⟩ HLf.out _ An cn).mono ?_; rintro e w3 ⟨rfl, hB3⟩; have K1 := Sd.mk (K0.out.later hB3); have q0 := cell_blk K1.out.bn 0; have q1 := cell_blk K1.out.bn 1; have q2 := cell_blk K1.out.bn 2; have p2 := cell_blk K1.out.bx 2; have p3 := cell_blk K1.out.bx 3; clear hB3) | (go_at_call_of 38 (Value.int IntKind.i64 dv); refine (spans_is true _ _ _ hv.out _).mono ?_; rintro e w4 ⟨rfl, rfl⟩) | fail)
          have hn5 := Sd.mk (HR.out.below K2.out.below)
          have hg5 := Sd.mk ((K2.out.below.block gb hgl).trans HC.out.row)
          go_loop [14, 62] (fun _ t => ∃ j : Nat, t = .int .i64 j ∧ j ≤ nx.length ∧ Sd (orderBad T.length i (nx.take j) = false)) (fun _ t => nx.length - (intOf t).toNat)
          case atStart => exact ⟨0, rfl, Nat.zero_le _, ⟨rfl⟩⟩
          case round =>
            obtain ⟨j, rfl, hj, hO⟩ := hrel
            by_cases hlt : j < nx.length
            · obtain ⟨ad, e1, e2⟩ := hn5.out j hlt
              subst e1
              rcases hk : (decide ((i : Int) + 1 ≤ (nx.getD j 0 : Nat)) && decide (((nx.getD j 0 : Nat) : Int) ≤ (T.length : Int) - 1)) with _ | _
              · have HN : Sd (ndErr x.inp x.out T.length i ⟨-1, dv, nx⟩ beh = (14, beh)) := ⟨by unfold ndErr; rw [if_neg HB3.out, if_neg HB6.out, if_pos (orderBad_at j hlt hk)]⟩
                have HK := Sd.mk hk
                clear hk
                generalize nx.getD j 0 = q at *
                go_wp2_with (first | (go_at_call 38; refine (spans_is false _ _ _ HK.out _).mono ?_; rintro e w6 ⟨rfl, rfl⟩) | fail)
                go_ret
                exact HP2.out _ _ 14 HN.out rfl K2.out.below
              · have HO := Sd.mk (orderBad_take j hlt hO.out hk)
                have HK := Sd.mk hk
                clear hk
                generalize nx.getD j 0 = q at *
                go_wp2_with (first | (go_at_call 38; refine (spans_is true _ _ _ HK.out _).mono ?_; rintro e w6 ⟨rfl, rfl⟩) | fail)
                go_round
                case rel => exact ⟨j + 1, by go_num, by omega, HO⟩
                case measure => simp [intOf]; omega
            · obtain rfl : j = nx.length := by omega
              rw [List.take_length] at hO
              go_wp2_with fail
              go_loopw [16, 78] (fun _ t wq => ∃ (j : Nat) (b2 : List Nat), t = .int .i64 j ∧ j ≤ nx.length ∧ Sd (BhAt w5 wq gb nx beh j b2)) (fun _ t _ => nx.length - (intOf t).toNat)
              case atStart => exact ⟨0, beh, rfl, Nat.zero_le _, ⟨⟨World.grownBy.refl _ _, hg5.out, rfl, rfl, HC.out.sm⟩⟩⟩
              case round =>
                obtain ⟨W1, hW1⟩ : ∃ W : World, W = wr := ⟨wr, rfl⟩
                subst hW1
                obtain ⟨j, b2, rfl, hj, hB⟩ := hrel
                by_cases hlt : j < nx.length
                · obtain ⟨ad, e1, e2⟩ := hn5.out j hlt
                  obtain ⟨ad', e3, e4⟩ := HNE.out j hlt
                  subst e1
                  cases e3
                  have e5 := cell_grown hB.out.gr e2 e4
                  have hq := orderBad_mem hO.out (getD_mem hlt)
                  obtain ⟨q, hqe⟩ : ∃ q, q = nx.getD j 0 := ⟨_, rfl⟩
                  rw [← hqe] at e2 e5 hq
                  have HQ := Sd.mk hqe
                  have hqb : q < b2.length := by rw [hB.out.len, HC.out.len]; exact hq
                  have r0 := row_at hB.out.row hqb
                  have r1 := frz hB.out.row q
                  have hs := hB.out.sm q
                  have hz : b2.getD q 0 = 0 ∨ b2.getD q 0 = 1 := by omega
                  clear e2 e4 hqe hs hqb
                  rcases hz with hz | hz
                  · rw [hz] at r0
                    have HS := Sd.mk (hB.out.step hlt HQ.out hz)
                    clear hz
                    go_wp2_with fail
                    go_roundw
                    case rel => exact ⟨j + 1, b2.set q 1, by go_num, by omega, HS⟩
                    case measure => simp [intOf]; omega
                  · rw [hz] at r0
                    have HS := Sd.mk (hB.out.dbl hlt HQ.out hz)
                    have HN : Sd (ndErr x.inp x.out T.length i ⟨-1, dv, nx⟩ beh = (13, b2.set q 2)) := ⟨by unfold ndErr; rw [if_neg HB3.out, if_neg HB6.out, if_neg (by rw [hO.out]; decide)]; exact HS.out.1⟩
                    clear hz
                    go_wp2_with fail
                    go_ret
                    exact HP.out _ _ _ HN.out rfl ((grown_of gb K2.out.below).trans HS.out.2.1) HS.out.2.2
                · obtain rfl : j = nx.length := by omega
                  have HN : Sd (ndErr x.inp x.out T.length i ⟨-1, dv, nx⟩ beh = (0, b2)) := ⟨by unfold ndErr; rw [if_neg HB3.out, if_neg HB6.out, if_neg (by rw [hO.out]; decide)]; show bumpN nx beh = _; rw [hB.out.eq, List.drop_length]; rfl⟩
                  go_wp2_with fail
                  go_ret
                  exact HP.out _ _ _ HN.out rfl ((grown_of gb K2.out.below).trans hB.out.gr) hB.out.row
        · have hne : ((nx.length : Int) != 1) = false := by
            simp only [shapeBad, hlf, Bool.not_false, Bool.true_and, decide_eq_true_eq, if_neg hdi] at hb6
            rw [bne_eq_false_iff_eq]; exact Classical.not_not.1 hb6
          have HRg : Sd ((decide (0 ≤ di) && decide (di ≤ (x.inp : Int) - 1)) = true) := ⟨by
            have h := (not_or.1 (fun h => hb3 (by rw [Bool.or_eq_true]; exact h))).1
            simp only [inBad, ne_eq, hdi, not_false_eq_true, decide_true, Bool.true_and, Bool.not_eq_true', Bool.not_eq_false] at h
            exact h⟩
          have hd1 : (di == -1) = false := by rw [beq_eq_false_iff_ne]; exact hdi
          have hd2 : (di != -1) = true := by rw [bne_iff_ne]; exact hdi
          clear hb3 hb6 hlf hdi
          go_enter Tryd.func87, Tryd.ntmps87
          go_wp2_with (first | (go_at_call 65; refine (leaf_is false ⟨di, dv, nx⟩ HLf.out _ An cn).mono ?_; rintro e w5 ⟨rfl, hB5⟩; have K2 := Sd.mk (K1.out.later hB5); have u0 := cell_blk K2.out.bn 0; have u1 := cell_blk K2.out.bn 1; have u2 := cell_blk K2.out.bn 2; have u3 := cell_blk K2.out.bx 3; clear hB5) | (go_at_call 65; refine (leaf_is false ⟨di, dv, nx⟩ HLf.out _ An cn).mono ?_; rintro e w3 ⟨rfl, hB3⟩; have K1 := Sd.mk (K0.out.later hB3); have q0 := cell_blk K1.out.bn 0; have q1 := cell_blk K1.out.bn 1; have q2 := cell_blk K1.out.bn 2; have p2 := cell_blk K1.out.bx 2; have p3 := cell_blk K1.out.bx 3; clear hB3) | (go_at_call_of 38 (Value.int IntKind.i64 di); refine (spans_is true _ _ _ HRg.out _).mono ?_; rintro e w4 ⟨rfl, rfl⟩) | (go_at_call_of 38 (Value.int IntKind.i64 dv); refine (spans_is true _ _ _ hv.out _).mono ?_; rintro e w4 ⟨rfl, rfl⟩) | fail)
          have hn5 := Sd.mk (HR.out.below K2.out.below)
          have hg5 := Sd.mk ((K2.out.below.block gb hgl).trans HC.out.row)
          go_loop [14, 62] (fun _ t => ∃ j : Nat, t = .int .i64 j ∧ j ≤ nx.length ∧ Sd (orderBad T.length i (nx.take j) = false)) (fun _ t => nx.length - (intOf t).toNat)
          case atStart => exact ⟨0, rfl, Nat.zero_le _, ⟨rfl⟩⟩
          case round =>
            obtain ⟨j, rfl, hj, hO⟩ := hrel
            by_cases hlt : j < nx.length
            · obtain ⟨ad, e1, e2⟩ := hn5.out j hlt
              subst e1
              rcases hk : (decide ((i : Int) + 1 ≤ (nx.getD j 0 : Nat)) && decide (((nx.getD j 0 : Nat) : Int) ≤ (T.length : Int) - 1)) with _ | _
              · have HN : Sd (ndErr x.inp x.out T.length i ⟨di, dv, nx⟩ beh = (14, beh)) := ⟨by unfold ndErr; rw [if_neg HB3.out, if_neg HB6.out, if_pos (orderBad_at j hlt hk)]⟩
                have HK := Sd.mk hk
                clear hk
                generalize nx.getD j 0 = q at *
                go_wp2_with (first | (go_at_call 38; refine (spans_is false _ _ _ HK.out _).mono ?_; rintro e w6 ⟨rfl, rfl⟩) | fail)
                go_ret
                exact HP2.out _ _ 14 HN.out rfl K2.out.below
              · have HO := Sd.mk (orderBad_take j hlt hO.out hk)
                have HK := Sd.mk hk
                clear hk
                generalize nx.getD j 0 = q at *
                go_wp2_with (first | (go_at_call 38; refine (spans_is true _ _ _ HK.out _).mono ?_; rintro e w6 ⟨rfl, rfl⟩) | fail)
                go_round
                case rel => exact ⟨j + 1, by go_num, by omega, HO⟩
                case measure => simp [intOf]; omega
            · obtain rfl : j = nx.length := by omega
              rw [List.take_length] at hO
              go_wp2_with fail
              go_loopw [16, 78] (fun _ t wq => ∃ (j : Nat) (b2 : List Nat), t = .int .i64 j ∧ j ≤ nx.length ∧ Sd (BhAt w5 wq gb nx beh j b2)) (fun _ t _ => nx.length - (intOf t).toNat)
              case atStart => exact ⟨0, beh, rfl, Nat.zero_le _, ⟨⟨World.grownBy.refl _ _, hg5.out, rfl, rfl, HC.out.sm⟩⟩⟩
              case round =>
                obtain ⟨W1, hW1⟩ : ∃ W : World, W = wr := ⟨wr, rfl⟩
                subst hW1
                obtain ⟨j, b2, rfl, hj, hB⟩ := hrel
                by_cases hlt : j < nx.length
                · obtain ⟨ad, e1, e2⟩ := hn5.out j hlt
                  obtain ⟨ad', e3, e4⟩ := HNE.out j hlt
                  subst e1
                  cases e3
                  have e5 := cell_grown hB.out.gr e2 e4
                  have hq := orderBad_mem hO.out (getD_mem hlt)
                  obtain ⟨q, hqe⟩ : ∃ q, q = nx.getD j 0 := ⟨_, rfl⟩
                  rw [← hqe] at e2 e5 hq
                  have HQ := Sd.mk hqe
                  have hqb : q < b2.length := by rw [hB.out.len, HC.out.len]; exact hq
                  have r0 := row_at hB.out.row hqb
                  have r1 := frz hB.out.row q
                  have hs := hB.out.sm q
                  have hz : b2.getD q 0 = 0 ∨ b2.getD q 0 = 1 := by omega
                  clear e2 e4 hqe hs hqb
                  rcases hz with hz | hz
                  · rw [hz] at r0
                    have HS := Sd.mk (hB.out.step hlt HQ.out hz)
                    clear hz
                    go_wp2_with fail
                    go_roundw
                    case rel => exact ⟨j + 1, b2.set q 1, by go_num, by omega, HS⟩
                    case measure => simp [intOf]; omega
                  · rw [hz] at r0
                    have HS := Sd.mk (hB.out.dbl hlt HQ.out hz)
                    have HN : Sd (ndErr x.inp x.out T.length i ⟨di, dv, nx⟩ beh = (13, b2.set q 2)) := ⟨by unfold ndErr; rw [if_neg HB3.out, if_neg HB6.out, if_neg (by rw [hO.out]; decide)]; exact HS.out.1⟩
                    clear hz
                    go_wp2_with fail
                    go_ret
                    exact HP.out _ _ _ HN.out rfl ((grown_of gb K2.out.below).trans HS.out.2.1) HS.out.2.2
                · obtain rfl : j = nx.length := by omega
                  have HN : Sd (ndErr x.inp x.out T.length i ⟨di, dv, nx⟩ beh = (0, b2)) := ⟨by unfold ndErr; rw [if_neg HB3.out, if_neg HB6.out, if_neg (by rw [hO.out]; decide)]; show bumpN nx beh = _; rw [hB.out.eq, List.drop_length]; rfl⟩
                  go_wp2_with fail
                  go_ret
                  exact HP.out _ _ _ HN.out rfl ((grown_of gb K2.out.below).trans hB.out.gr) hB.out.row
    · obtain ⟨h1, h2⟩ : di = -1 ∧ nx.length = 0 := by unfold leafS at hlf; simpa using hlf
      subst h1
      have hv : Sd ((decide ((1 : Int) ≤ dv) && decide (dv ≤ 3)) = true) := ⟨by
        have h := (not_or.1 (fun h => hb3 (by rw [Bool.or_eq_true]; exact h))).2
        simp only [verBad, hlf, if_true, Bool.not_eq_true', Bool.not_eq_false] at h
        exact h⟩
      have HLf := Sd.mk hlf
      have HB3 := Sd.mk hb3
      have HB6 : Sd (¬ shapeBad x.out ⟨-1, dv, nx⟩ = true) := ⟨by simp [shapeBad, hlf]⟩
      clear hb3 hlf h2
      go_enter Tryd.func87, Tryd.ntmps87
      go_wp2_with (first | (go_at_call 65; refine (leaf_is true ⟨-1, dv, nx⟩ HLf.out _ An cn).mono ?_; rintro e w5 ⟨rfl, hB5⟩; have K2 := Sd.mk (K1.out.later hB5); have u0 := cell_blk K2.out.bn 0; have u1 := cell_blk K2.out.bn 1; have u2 := cell_blk K2.out.bn 2; have u3 := cell_blk K2.out.bx 3; clear hB5) | (go_at_call 65; refine (leaf_is true ⟨-1, dv, nx⟩ HLf.out _ An cn).mono ?_; rintro e w3 ⟨rfl, hB3⟩; have K1 := Sd.mk (K0.out.later hB3); have q0 := cell_blk K1.out.bn 0; have q1 := cell_blk K1.out.bn 1; have q2 := cell_blk K1.out.bn 2; have p2 := cell_blk K1.out.bx 2; have p3 := cell_blk K1.out.bx 3; clear hB3) | (go_at_call_of 38 (Value.int IntKind.i64 dv); refine (spans_is true _ _ _ hv.out _).mono ?_; rintro e w4 ⟨rfl, rfl⟩) | fail)
      have hn5 := Sd.mk (HR.out.below K2.out.below)
      have hg5 := Sd.mk ((K2.out.below.block gb hgl).trans HC.out.row)
      go_loop [14, 62] (fun _ t => ∃ j : Nat, t = .int .i64 j ∧ j ≤ nx.length ∧ Sd (orderBad T.length i (nx.take j) = false)) (fun _ t => nx.length - (intOf t).toNat)
      case atStart => exact ⟨0, rfl, Nat.zero_le _, ⟨rfl⟩⟩
      case round =>
        obtain ⟨j, rfl, hj, hO⟩ := hrel
        by_cases hlt : j < nx.length
        · obtain ⟨ad, e1, e2⟩ := hn5.out j hlt
          subst e1
          rcases hk : (decide ((i : Int) + 1 ≤ (nx.getD j 0 : Nat)) && decide (((nx.getD j 0 : Nat) : Int) ≤ (T.length : Int) - 1)) with _ | _
          · have HN : Sd (ndErr x.inp x.out T.length i ⟨-1, dv, nx⟩ beh = (14, beh)) := ⟨by unfold ndErr; rw [if_neg HB3.out, if_neg HB6.out, if_pos (orderBad_at j hlt hk)]⟩
            have HK := Sd.mk hk
            clear hk
            generalize nx.getD j 0 = q at *
            go_wp2_with (first | (go_at_call 38; refine (spans_is false _ _ _ HK.out _).mono ?_; rintro e w6 ⟨rfl, rfl⟩) | fail)
            go_ret
            exact HP2.out _ _ 14 HN.out rfl K2.out.below
          · have HO := Sd.mk (orderBad_take j hlt hO.out hk)
            have HK := Sd.mk hk
            clear hk
            generalize nx.getD j 0 = q at *
            go_wp2_with (first | (go_at_call 38; refine (spans_is true _ _ _ HK.out _).mono ?_; rintro e w6 ⟨rfl, rfl⟩) | fail)
            go_round
            case rel => exact ⟨j + 1, by go_num, by omega, HO⟩
            case measure => simp [intOf]; omega
        · obtain rfl : j = nx.length := by omega
          rw [List.take_length] at hO
          go_wp2_with fail
          go_loopw [16, 78] (fun _ t wq => ∃ (j : Nat) (b2 : List Nat), t = .int .i64 j ∧ j ≤ nx.length ∧ Sd (BhAt w5 wq gb nx beh j b2)) (fun _ t _ => nx.length - (intOf t).toNat)
          case atStart => exact ⟨0, beh, rfl, Nat.zero_le _, ⟨⟨World.grownBy.refl _ _, hg5.out, rfl, rfl, HC.out.sm⟩⟩⟩
          case round =>
            obtain ⟨W1, hW1⟩ : ∃ W : World, W = wr := ⟨wr, rfl⟩
            subst hW1
            obtain ⟨j, b2, rfl, hj, hB⟩ := hrel
            by_cases hlt : j < nx.length
            · obtain ⟨ad, e1, e2⟩ := hn5.out j hlt
              obtain ⟨ad', e3, e4⟩ := HNE.out j hlt
              subst e1
              cases e3
              have e5 := cell_grown hB.out.gr e2 e4
              have hq := orderBad_mem hO.out (getD_mem hlt)
              obtain ⟨q, hqe⟩ : ∃ q, q = nx.getD j 0 := ⟨_, rfl⟩
              rw [← hqe] at e2 e5 hq
              have HQ := Sd.mk hqe
              have hqb : q < b2.length := by rw [hB.out.len, HC.out.len]; exact hq
              have r0 := row_at hB.out.row hqb
              have r1 := frz hB.out.row q
              have hs := hB.out.sm q
              have hz : b2.getD q 0 = 0 ∨ b2.getD q 0 = 1 := by omega
              clear e2 e4 hqe hs hqb
              rcases hz with hz | hz
              · rw [hz] at r0
                have HS := Sd.mk (hB.out.step hlt HQ.out hz)
                clear hz
                go_wp2_with fail
                go_roundw
                case rel => exact ⟨j + 1, b2.set q 1, by go_num, by omega, HS⟩
                case measure => simp [intOf]; omega
              · rw [hz] at r0
                have HS := Sd.mk (hB.out.dbl hlt HQ.out hz)
                have HN : Sd (ndErr x.inp x.out T.length i ⟨-1, dv, nx⟩ beh = (13, b2.set q 2)) := ⟨by unfold ndErr; rw [if_neg HB3.out, if_neg HB6.out, if_neg (by rw [hO.out]; decide)]; exact HS.out.1⟩
                clear hz
                go_wp2_with fail
                go_ret
                exact HP.out _ _ _ HN.out rfl ((grown_of gb K2.out.below).trans HS.out.2.1) HS.out.2.2
            · obtain rfl : j = nx.length := by omega
              have HN : Sd (ndErr x.inp x.out T.length i ⟨-1, dv, nx⟩ beh = (0, b2)) := ⟨by unfold ndErr; rw [if_neg HB3.out, if_neg HB6.out, if_neg (by rw [hO.out]; decide)]; show bumpN nx beh = _; rw [hB.out.eq, List.drop_length]; rfl⟩
              go_wp2_with fail
              go_ret
              exact HP.out _ _ _ HN.out rfl ((grown_of gb K2.out.below).trans hB.out.gr) hB.out.row
end Go.Proofs.YtcbhaeniahckhaaDoor
