/- The visit of a node in a test's performance, walked. Conditions: those that each theorem names. -/
import Derived.Test.YtcbhaeniahckhaaDoorMj
import Derived.WideLaws
import Derived.Test.YtcbhaeniahckhaaDoorMh
set_option linter.unusedSimpArgs false
set_option linter.unusedVariables false
section
set_option linter.unusedSimpArgs false
namespace Go.Proofs.YtcbhaeniahckhaaDoor
open Go.RowKit Go.Shelf Go.Deep Go.Proofs.YtcbhaeniahckhaaDoorW.PrintLast
theorem run_store_func {P : Program} {w : World} {a : Addr} {m : Mode} (fn : Fn) (x y : Array Value) : (store a (.func fn x y) m).run P w = stored P w a (.func fn x y) m := run_store P w a _ m rfl
attribute [local go_sem] run_store_func
/-- a node as it lies -/
theorem TestAt.node {w : World} {base : Nat} {F : Nat → Prop} {v : Value} {T : List Nd} (h : TestAt w base F v T) (hp : 0 < T.length) : ∃ g c, v = .slice (some ⟨g, 0, none⟩) T.length c ∧ ∀ i, i < T.length → ∃ A c', w.cell? ⟨g, i * 3, none⟩ = some (.int .i64 (T.getD i ndD).inp) ∧ w.cell? ⟨g, i * 3 + 1, none⟩ = some (.int .i64 (T.getD i ndD).ver) ∧
    w.cell? ⟨g, i * 3 + 2, none⟩ = some (.slice A (T.getD i ndD).nx.length c') ∧ RdI w A (T.getD i ndD).nx := by
  obtain ⟨us, h1, h2, h3⟩ := h
  obtain ⟨g, c, rfl⟩ := own_pos h2 hp
  refine ⟨g, c, rfl, fun i hi => ?_⟩
  obtain ⟨A, c', e1, _, e3⟩ := (h3 i hi).1.read
  have ⟨f1, f2, f3⟩ := flatT_get T us i h1 hi
  exact ⟨A, c', (h2.cellAt _ (by omega)).trans f1, (h2.cellAt _ (by omega)).trans f2, ((h2.cellAt _ (by omega)).trans f3).trans (by rw [e1]), e3⟩
end Go.Proofs.YtcbhaeniahckhaaDoor
end
section
set_option linter.unusedSimpArgs false
namespace Go.Proofs.YtcbhaeniahckhaaDoor
open Go.RowKit Go.Shelf Go.Deep Go.Proofs.YtcbhaeniahckhaaDoorW.PrintLast
attribute [local go_sem] run_store_func
def noteCells (A : Option Addr) (c : Nat) (B : Option Addr) (c' : Nat) (r v : Int × List Nat) : Array Value := if betterS r v then #[.slice A r.2.length c, .int .i64 r.1] else #[.slice B v.2.length c', .int .i64 v.1]
set_option maxHeartbeats 4000000 in
set_option maxRecDepth 100000 in
theorem visit_leaf (w : World) (bs bt bn bw gs : Nat) (X : SysP) (hX : Sys w gs X) (hTb : Tab w) (g ct : Nat) (T : List Nd) (node : Nat) (hn : node < T.length) (A A' : Option Addr) (c c' : Nat) (tr : List Nat) (htl : tr.length ≤ 1000000) (hev : ∀ e ∈ tr, e ≤ X.inp + X.out) (hr : RdI w A tr)
    (n0 : w.cell? ⟨g, node * 3, none⟩ = some (.int .i64 (T.getD node ndD).inp)) (n1 : w.cell? ⟨g, node * 3 + 1, none⟩ = some (.int .i64 (T.getD node ndD).ver)) (n2 : w.cell? ⟨g, node * 3 + 2, none⟩ = some (.slice A' (T.getD node ndD).nx.length c'))
    (s0 : w.cell? ⟨bs, 0, none⟩ = some (.pointer (some ⟨gs, 0, none⟩))) (t0 : w.cell? ⟨bt, 0, none⟩ = some (.slice (some ⟨g, 0, none⟩) T.length ct)) (f0 : w.cell? ⟨bn, 0, none⟩ = some (.func (.func 61) #[] #[.pointer (some ⟨bw, 0, none⟩)])) (hlf : leafS (T.getD node ndD) = true) (Bw : Option Addr) (cw : Nat) (v : Int × List Nat) (hvl : v.2.length ≤ 1000000) (hvr : RdI w Bw v.2) (hbw : w.heap[bw]? = some (.cells #[.slice Bw v.2.length cw, .int .i64 v.1] 88 (0, 0))) :
    Calls Tryd.prog 64 #[.int .i64 node, .slice A tr.length c, .pointer (some ⟨bs, 0, none⟩), .pointer (some ⟨bt, 0, none⟩), .pointer (some ⟨bn, 0, none⟩)] w fun e w' => e = .returned (.func (.func 66) #[] #[]) ∧ w'.heap[bw]? = some (.cells (noteCells A c Bw cw ((T.getD node ndD).ver, tr) v) 88 (0, 0)) ∧ w.grownBy w' (some bw) := by
  have HX := Sd.mk hX
  have HT := Sd.mk hTb
  have HR := Sd.mk hr
  have HE := Sd.mk hev
  have HV := Sd.mk hvr
  have HW := Sd.mk hbw
  have HLf := Sd.mk hlf
  clear hX hTb hr hev hvr hbw hlf
  generalize T.getD node ndD = d at *
  obtain ⟨mv, Ab, cb, As, cs, Ar, cr, hX1⟩ := HX.out
  go_enter Tryd.func64, Tryd.ntmps64
  go_wp2_with (first | (go_at_call 52; refine (along_calls _ HT.out gs X A c tr (by omega) HE.out HR.out hX1).mono ?_; rintro e w2 ⟨rfl, hB2⟩; have m0 := cell_later hB2 n0; have m1 := cell_later hB2 n1; have m2 := cell_later hB2 n2; have s2 := cell_later hB2 s0; have t2 := cell_later hB2 t0; have f2 := cell_later hB2 f0; have z0 := World.block_lt_of_cell? w2 _ m0; have z1 := World.block_lt_of_cell? w2 _ t2; have z2 := World.block_lt_of_cell? w2 _ f2; have z3 := World.block_lt_of_cell? w2 _ s2; have HB2 := Sd.mk hB2; clear hB2) | (go_at_call 65; refine (isLeaf_calls _ _ _ _ _ _).mono ?_; rintro e w3 ⟨he, hB3⟩; rw [show (decide (d.inp = -1) && decide (d.nx.length = 0)) = true from HLf.out] at he; subst he; have hB23 : Below w2.heap.size w2 w3 := (((Below.refl _ _).alloc (Nat.le_refl _) _).alloc (by simp) _).trans (hB3.mono (by simp; omega)); have f3 := cell_later hB23 f2; have nb := (hB3.block (w2.heap.size + 1) (by simp)).trans (alloc_at _ _ _ (by simp)); have p1 := cell_blk nb 1; have HB23 := Sd.mk hB23; clear hB23 hB3 nb) | (go_at_call 61; have hBw := below_then HB2.out HB2.out.size HB23.out; refine (note_calls _ bw A Bw c cw (d.ver, tr) v htl hvl (HR.out.below hBw) (HV.out.below hBw) ((hBw.block bw (Array.getElem?_eq_some_iff.1 HW.out).1).trans HW.out)).mono ?_; rintro e w4 ⟨rfl, hb4, hg4⟩; have H4 := Sd.mk (And.intro hb4 hg4); clear hb4 hg4))
  go_ret
  have hBw := below_then HB2.out HB2.out.size HB23.out
  exact ⟨rfl, H4.out.1, ⟨H4.out.2.os.trans hBw.os, H4.out.2.tape.trans hBw.tape, H4.out.2.output.trans hBw.output, Nat.le_trans hBw.size H4.out.2.size, fun k hk hne => (H4.out.2.block k (Nat.lt_of_lt_of_le hk hBw.size) hne).trans (hBw.block k hk)⟩⟩
end Go.Proofs.YtcbhaeniahckhaaDoor
end
section
set_option linter.unusedSimpArgs false
namespace Go.Proofs.YtcbhaeniahckhaaDoor
open Go.RowKit Go.Shelf Go.Deep Go.Proofs.YtcbhaeniahckhaaDoorW.PrintLast
attribute [local go_sem] run_store_func
theorem cell_grown {w w' : World} {b : Nat} (hg : w.grownBy w' (some b)) {p : Addr} {u : Value} (hp : w.cell? p = some u) (hne : p.block ≠ b) : w'.cell? p = some u := by
  have hb := hg.block p.block (World.block_lt_of_cell? w p hp) (fun e => hne (by simpa using e))
  unfold World.cell? at hp ⊢
  rw [hb]
  exact hp
theorem nat_beq0 (n : Nat) : ((n : Int) == 0) = (n == 0) := by rw [Bool.eq_iff_iff]; simp
theorem afters_int (w : World) (hT : Tab w) (g : Nat) (S : SysP) (l e : Nat) (ev : Int) (hev : ev = (e : Int)) (hl : l < 2 ^ S.N) (he : e ≤ S.inp + S.out) (h : Sys w g S) : Calls Tryd.prog 49 #[.pointer (some ⟨g, 0, none⟩), .int .u64 l, .int .i64 ev] w fun e' w' => e' = .returned (.int .u64 (afterS S l e)) ∧ Below w.heap.size w w' := by
  subst hev
  exact afters_calls w hT g S l e hl he h
/-- whether nothing goes on by the first k events -/
def stopB (X : SysP) (d : Nd) (l k : Nat) : Bool := (List.range k).all fun i => afterS X l (evNd X d i) == 0
theorem stopB_succ (X : SysP) (d : Nd) (l k : Nat) : stopB X d l (k + 1) = (stopB X d l k && afterS X l (evNd X d k) == 0) := by
  unfold stopB
  rw [List.range_succ, List.all_append]
  simp
def stopCells (X : SysP) (d : Nd) (A : Option Addr) (c : Nat) (B : Option Addr) (c' : Nat) (tr : List Nat) (v : Int × List Nat) : Array Value := if stopsS X d (alongS X tr) then noteCells A c B c' (1, tr) v else #[.slice B v.2.length c', .int .i64 v.1]
set_option maxHeartbeats 4000000 in
set_option maxRecDepth 100000 in
theorem visit_node (w : World) (bs bt bn bw gs : Nat) (X : SysP) (hX : Sys w gs X) (hTb : Tab w) (g ct : Nat) (T : List Nd) (node : Nat) (hn : node < T.length) (A A' : Option Addr) (c c' : Nat) (tr : List Nat) (htl : tr.length ≤ 1000000) (hev : ∀ e ∈ tr, e ≤ X.inp + X.out) (hr : RdI w A tr)
    (n0 : w.cell? ⟨g, node * 3, none⟩ = some (.int .i64 (T.getD node ndD).inp)) (n1 : w.cell? ⟨g, node * 3 + 1, none⟩ = some (.int .i64 (T.getD node ndD).ver)) (n2 : w.cell? ⟨g, node * 3 + 2, none⟩ = some (.slice A' (T.getD node ndD).nx.length c'))
    (s0 : w.cell? ⟨bs, 0, none⟩ = some (.pointer (some ⟨gs, 0, none⟩))) (t0 : w.cell? ⟨bt, 0, none⟩ = some (.slice (some ⟨g, 0, none⟩) T.length ct)) (f0 : w.cell? ⟨bn, 0, none⟩ = some (.func (.func 61) #[] #[.pointer (some ⟨bw, 0, none⟩)])) (hlf : leafS (T.getD node ndD) = false) (hl : alongS X tr < 2 ^ X.N) (hE : ∀ i, i < (T.getD node ndD).nx.length → evNd X (T.getD node ndD) i ≤ X.inp + X.out) (hnl : (T.getD node ndD).nx.length ≤ 1000) (hin : (T.getD node ndD).inp = -1 ∨ 0 ≤ (T.getD node ndD).inp) (Bw : Option Addr) (cw : Nat) (v : Int × List Nat) (hvl : v.2.length ≤ 1000000) (hvr : RdI w Bw v.2) (hbw : w.heap[bw]? = some (.cells #[.slice Bw v.2.length cw, .int .i64 v.1] 88 (0, 0))) :
    Calls Tryd.prog 64 #[.int .i64 node, .slice A tr.length c, .pointer (some ⟨bs, 0, none⟩), .pointer (some ⟨bt, 0, none⟩), .pointer (some ⟨bn, 0, none⟩)] w fun e w' => ∃ bl, e = .returned (.func (.func 67) #[] #[.pointer (some ⟨bs, 0, none⟩), .pointer (some ⟨bl, 0, none⟩)]) ∧ w.heap.size ≤ bl ∧ w'.cell? ⟨bl, 0, none⟩ = some (.int .u64 (alongS X tr)) ∧ w'.heap[bw]? = some (.cells (stopCells X (T.getD node ndD) A c Bw cw tr v) 88 (0, 0)) ∧ w.grownBy w' (some bw) := by
  have HX := Sd.mk hX
  have HT := Sd.mk hTb
  have HR := Sd.mk hr
  have HE := Sd.mk hev
  have HV := Sd.mk hvr
  have HW := Sd.mk hbw
  have HLf := Sd.mk hlf
  have HEv := Sd.mk hE
  have HIn := Sd.mk hin
  clear hX hTb hr hev hvr hbw hlf hE hin
  generalize T.getD node ndD = d at *
  obtain ⟨mv, Ab, cb, As, cs, Ar, cr, hX1⟩ := HX.out
  go_enter Tryd.func64, Tryd.ntmps64
  go_wp2_with (first | (go_at_call 52; refine (along_calls _ HT.out gs X A c tr (by omega) HE.out HR.out hX1).mono ?_; rintro e w2 ⟨rfl, hB2⟩; have m0 := cell_later hB2 n0; have m1 := cell_later hB2 n1; have m2 := cell_later hB2 n2; have s2 := cell_later hB2 s0; have t2 := cell_later hB2 t0; have f2 := cell_later hB2 f0; have z0 := World.block_lt_of_cell? w2 _ m0; have z1 := World.block_lt_of_cell? w2 _ t2; have z2 := World.block_lt_of_cell? w2 _ f2; have z3 := World.block_lt_of_cell? w2 _ s2; have HB2 := Sd.mk hB2; clear hB2) | (go_at_call 65; refine (isLeaf_calls _ _ _ _ _ _).mono ?_; rintro e w3 ⟨he, hB3⟩; rw [show (decide (d.inp = -1) && decide (d.nx.length = 0)) = false from HLf.out] at he; subst he; have hB23 : Below w2.heap.size w2 w3 := (((Below.refl _ _).alloc (Nat.le_refl _) _).alloc (by simp) _).trans (hB3.mono (by simp; omega)); have f3 := cell_later hB23 f2; have t3 := cell_later hB23 t2; have s3 := cell_later hB23 s2; have k0 := cell_later hB23 m0; have k2 := cell_later hB23 m2; have lv := cell_blk ((hB3.block w2.heap.size (by simp; omega)).trans ((heap_alloc_old _ _ (by simp)).trans (heap_alloc_new w2 _))) 0; have nb := (hB3.block (w2.heap.size + 1) (by simp)).trans (alloc_at _ _ _ (by simp)); have p1 := cell_blk nb 1; have HB23 := Sd.mk hB23; clear hB23 hB3 nb) | (go_at_call 61; have hBw := below_then HB2.out HB2.out.size HB23.out; refine (note_calls _ bw A Bw c cw (d.ver, tr) v htl hvl (HR.out.below hBw) (HV.out.below hBw) ((hBw.block bw (Array.getElem?_eq_some_iff.1 HW.out).1).trans HW.out)).mono ?_; rintro e w4 ⟨rfl, hb4, hg4⟩; have H4 := Sd.mk (And.intro hb4 hg4); clear hb4 hg4))
  have HAL := Sd.mk (below_then HB2.out HB2.out.size HB23.out)
  have SI := Sd.mk (cell_later (below_then HB2.out HB2.out.size HB23.out) (cell_blk hX1.blk 2))
  have hlb := HB2.out.size
  have WL := hX1.hi
  have WO := hX1.ho
  go_loopw [10, 11, 12, 34] (fun v10 _ _ i wq => ∃ (k : Nat), i = .int .i64 k ∧ k ≤ d.nx.length ∧ v10 = .bool (stopB X d (alongS X tr) k) ∧ Sd (Below w3.heap.size w3 wq)) (fun _ _ _ i _ => d.nx.length - (intOf i).toNat)
  case atStart => exact ⟨0, rfl, Nat.zero_le _, rfl, ⟨Below.refl _ _⟩⟩
  case round =>
    obtain ⟨W1, hW1⟩ : ∃ W : World, W = wr := ⟨wr, rfl⟩
    subst hW1
    obtain ⟨k, rfl, hk, rfl, hBq⟩ := hrel
    have t4 := cell_later hBq.out t3
    have s4 := cell_later hBq.out s3
    have f4 := cell_later hBq.out f3
    have h0 := cell_later hBq.out k0
    have l4 := cell_later hBq.out lv
    have i4 := cell_later hBq.out SI.out
    have HSx := Sd.mk ((HX.out.below HB2.out).below HB23.out |>.below hBq.out)
    have HTx := Sd.mk ((HT.out.below HB2.out).below HB23.out |>.below hBq.out)
    by_cases hlt : k < d.nx.length
    · have hev := HEv.out k hlt
      have Hst := Sd.mk (stopB_succ X d (alongS X tr) k)
      by_cases hq : d.inp = -1
      · have he : (d.inp == -1) = true := by rw [hq]; rfl
        have Hev := Sd.mk (show (X.inp : Int) + k = ((evNd X d k : Nat) : Int) by unfold evNd; rw [if_pos hq]; simp)
        generalize stopB X d (alongS X tr) k = b at *
        generalize evNd X d k = ev at *
        clear hq
        rcases b with _ | _
        · go_wp2
          go_roundw
          case rel => exact ⟨k + 1, by go_num, by omega, by rw [Hst.out]; rfl, hBq⟩
          case measure => simp [intOf]; omega
        · go_wp2_with (go_at_call 49; refine (afters_int _ HTx.out gs X _ ev _ Hev.out hl hev HSx.out).mono ?_; rintro e w5 ⟨rfl, hB5⟩)
          go_roundw
          case rel => exact ⟨k + 1, by go_num, by omega, by rw [Hst.out, Bool.true_and]; simp; exact nat_beq0 _, ⟨below_then hBq.out hBq.out.size hB5⟩⟩
          case measure => simp [intOf]; omega
      · have he : (d.inp == -1) = false := by rw [beq_eq_false_iff_ne]; exact hq
        have Hev := Sd.mk (show d.inp = ((evNd X d k : Nat) : Int) by unfold evNd; rw [if_neg hq, Int.toNat_of_nonneg (HIn.out.resolve_left hq)])
        generalize stopB X d (alongS X tr) k = b at *
        generalize evNd X d k = ev at *
        clear hq
        rcases b with _ | _
        · go_wp2
          go_roundw
          case rel => exact ⟨k + 1, by go_num, by omega, by rw [Hst.out]; rfl, hBq⟩
          case measure => simp [intOf]; omega
        · go_wp2_with (go_at_call 49; refine (afters_int _ HTx.out gs X _ ev _ Hev.out hl hev HSx.out).mono ?_; rintro e w5 ⟨rfl, hB5⟩)
          go_roundw
          case rel => exact ⟨k + 1, by go_num, by omega, by rw [Hst.out, Bool.true_and]; simp; exact nat_beq0 _, ⟨below_then hBq.out hBq.out.size hB5⟩⟩
          case measure => simp [intOf]; omega
    · obtain rfl : k = d.nx.length := by omega
      have HA2 := Sd.mk (below_then HAL.out HAL.out.size hBq.out)
      rcases hsb : stopB X d (alongS X tr) d.nx.length with _ | _
      · have HC := Sd.mk (show stopCells X d A c Bw cw tr v = #[.slice Bw v.2.length cw, .int .i64 v.1] by unfold stopCells; exact if_neg (by rw [show stopsS X d (alongS X tr) = stopB X d (alongS X tr) d.nx.length from rfl, hsb]; decide))
        clear hsb
        go_wp2
        go_ret
        exact ⟨w2.heap.size, rfl, hlb, l4, by rw [HC.out]; exact (HA2.out.block bw (Array.getElem?_eq_some_iff.1 HW.out).1).trans HW.out, ⟨HA2.out.os, HA2.out.tape, HA2.out.output, HA2.out.size, fun q hq _ => HA2.out.block q hq⟩⟩
      · have HC := Sd.mk (show stopCells X d A c Bw cw tr v = noteCells A c Bw cw (1, tr) v by unfold stopCells; exact if_pos (by rw [show stopsS X d (alongS X tr) = stopB X d (alongS X tr) d.nx.length from rfl, hsb]))
        clear hsb
        go_wp2_with (go_at_call 61; refine (note_calls _ bw A Bw c cw (1, tr) v htl hvl (HR.out.below HA2.out) (HV.out.below HA2.out) ((HA2.out.block bw (Array.getElem?_eq_some_iff.1 HW.out).1).trans HW.out)).mono ?_; rintro e w6 ⟨rfl, hb6, hg6⟩; have H6 := Sd.mk (And.intro hb6 hg6); clear hb6 hg6)
        go_ret
        have hw6 := H6.out.2
        have hlbw : w2.heap.size ≠ bw := fun e => by have := (Array.getElem?_eq_some_iff.1 HW.out).1; omega
        refine ⟨w2.heap.size, rfl, hlb, ?_, by rw [HC.out]; exact H6.out.1, ⟨hw6.os.trans HA2.out.os, hw6.tape.trans HA2.out.tape, hw6.output.trans HA2.out.output, Nat.le_trans HA2.out.size hw6.size, fun q hq hne => (hw6.block q (Nat.lt_of_lt_of_le hq HA2.out.size) hne).trans (HA2.out.block q hq)⟩⟩
        exact cell_grown hw6 l4 hlbw
end Go.Proofs.YtcbhaeniahckhaaDoor
end
section
set_option linter.unusedSimpArgs false
namespace Go.Proofs.YtcbhaeniahckhaaDoor
open Go.RowKit Go.Shelf Go.Deep Go.Proofs.YtcbhaeniahckhaaDoorW.PrintLast
def NodesAt (w : World) (g : Nat) (T : List Nd) : Prop := ∀ i, i < T.length → ∃ A c', w.cell? ⟨g, i * 3, none⟩ = some (.int .i64 (T.getD i ndD).inp) ∧ w.cell? ⟨g, i * 3 + 1, none⟩ = some (.int .i64 (T.getD i ndD).ver) ∧ w.cell? ⟨g, i * 3 + 2, none⟩ = some (.slice A (T.getD i ndD).nx.length c') ∧ RdI w A (T.getD i ndD).nx
theorem KeptC.grown {w0 w w' : World} {bw : Nat} (h : KeptC w0 w) (hb : w0.heap.size ≤ bw) (hg : w.grownBy w' (some bw)) : KeptC w0 w' := fun k cs t fr hk => by
  have h1 := h k cs t fr hk
  have hl := (Array.getElem?_eq_some_iff.1 hk).1
  exact (hg.block k (Array.getElem?_eq_some_iff.1 h1).1 (fun e => by cases e; omega)).trans h1
theorem RdI.keptC {w0 w : World} {A : Option Addr} {xs : List Nat} (h : RdI w0 A xs) (hk : KeptC w0 w) : RdI w A xs := fun i hi => let ⟨ad, e1, e2⟩ := h i hi; ⟨ad, e1, hk.cell e2⟩
theorem NodesAt.keptC {w0 w : World} {g : Nat} {T : List Nd} (h : NodesAt w0 g T) (hk : KeptC w0 w) : NodesAt w g T := fun i hi => let ⟨A, c, h1, h2, h3, h4⟩ := h i hi; ⟨A, c, hk.cell h1, hk.cell h2, hk.cell h3, h4.keptC hk⟩
/-- a row of numbers outside of the worst run's block -/
def RdO (w : World) (bw : Nat) (A : Option Addr) (xs : List Nat) : Prop := RdI w A xs ∧ ∀ ad, A = some ad → bw < ad.block
theorem add_block (ad : Addr) (i : Nat) : (ad.add i).block = ad.block := by unfold Addr.add; split <;> rfl
theorem RdO.grown {w w' : World} {bw : Nat} {A : Option Addr} {xs : List Nat} (h : RdO w bw A xs) (hg : w.grownBy w' (some bw)) : RdO w' bw A xs :=
  ⟨fun i hi => let ⟨ad, e1, e2⟩ := h.1 i hi; ⟨ad, e1, cell_grown hg e2 (by rw [add_block]; exact Nat.ne_of_gt (h.2 ad e1))⟩, h.2⟩
def WorstAt (w : World) (bw : Nat) (v : Int × List Nat) : Prop := ∃ B c, w.heap[bw]? = some (.cells #[.slice B v.2.length c, .int .i64 v.1] 88 (0, 0)) ∧ RdO w bw B v.2
theorem WorstAt.below {w w' : World} {bw : Nat} {v : Int × List Nat} (h : WorstAt w bw v) (hB : Below w.heap.size w w') : WorstAt w' bw v :=
  let ⟨B, c, h1, h2⟩ := h; ⟨B, c, (hB.block bw (Array.getElem?_eq_some_iff.1 h1).1).trans h1, h2.1.below hB, h2.2⟩
theorem grown_of {w w' : World} (bw : Nat) (hB : Below w.heap.size w w') : w.grownBy w' (some bw) := ⟨hB.os, hB.tape, hB.output, hB.size, fun k hk _ => hB.block k hk⟩
structure PerfAt (w : World) (bs bt bn bw gs g ct : Nat) (X : SysP) (T : List Nd) : Prop where
  base : ∃ w0 : World, w0.heap.size ≤ bw ∧ KeptC w0 w ∧ Sys w0 gs X ∧ Tab w0 ∧ NodesAt w0 g T
  s0 : w.cell? ⟨bs, 0, none⟩ = some (.pointer (some ⟨gs, 0, none⟩))
  t0 : w.cell? ⟨bt, 0, none⟩ = some (.slice (some ⟨g, 0, none⟩) T.length ct)
  f0 : w.cell? ⟨bn, 0, none⟩ = some (.func (.func 61) #[] #[.pointer (some ⟨bw, 0, none⟩)])
  s1 : bs ≠ bw
  t1 : bt ≠ bw
  f1 : bn ≠ bw
theorem PerfAt.grown {w w' : World} {bs bt bn bw gs g ct : Nat} {X : SysP} {T : List Nd} (h : PerfAt w bs bt bn bw gs g ct X T) (hg : w.grownBy w' (some bw)) : PerfAt w' bs bt bn bw gs g ct X T :=
  ⟨let ⟨w0, h1, h2, h3⟩ := h.base; ⟨w0, h1, h2.grown h1 hg, h3⟩, cell_grown hg h.s0 h.s1, cell_grown hg h.t0 h.t1, cell_grown hg h.f0 h.f1, h.s1, h.t1, h.f1⟩
theorem PerfAt.sys {w : World} {bs bt bn bw gs g ct : Nat} {X : SysP} {T : List Nd} (h : PerfAt w bs bt bn bw gs g ct X T) : Sys w gs X := let ⟨_, _, h2, h3, _⟩ := h.base; h3.keptC h2
theorem PerfAt.tab {w : World} {bs bt bn bw gs g ct : Nat} {X : SysP} {T : List Nd} (h : PerfAt w bs bt bn bw gs g ct X T) : Tab w := let ⟨_, _, h2, _, h4, _⟩ := h.base; h4.keptC h2
theorem PerfAt.nodes {w : World} {bs bt bn bw gs g ct : Nat} {X : SysP} {T : List Nd} (h : PerfAt w bs bt bn bw gs g ct X T) : NodesAt w g T := let ⟨_, _, h2, _, _, h5⟩ := h.base; h5.keptC h2
theorem worst_note {w w' : World} {bw : Nat} {A B : Option Addr} {c c' : Nat} {r v : Int × List Nat} (h : w'.heap[bw]? = some (.cells (noteCells A c B c' r v) 88 (0, 0))) (hA : RdO w bw A r.2) (hB : RdO w bw B v.2) (hg : w.grownBy w' (some bw)) : WorstAt w' bw (noteS r v) := by
  unfold noteCells at h
  unfold noteS
  split at h
  · rename_i hb; rw [if_pos hb]; exact ⟨A, c, h, hA.grown hg⟩
  · rename_i hb; rw [if_neg hb]; exact ⟨B, c', h, hB.grown hg⟩
theorem evNd_le {X : SysP} {T : List Nd} {node : Nat} (h : NdOK X T node) {i : Nat} (hi : i < (T.getD node ndD).nx.length) : evNd X (T.getD node ndD) i ≤ X.inp + X.out := by
  obtain ⟨h1, h2, _⟩ := h
  unfold evNd
  split
  · omega
  · rename_i hn
    have := h1.resolve_left hn
    omega
theorem visit_calls {w : World} {bs bt bn bw gs g ct : Nat} {X : SysP} {T : List Nd} (hP : PerfAt w bs bt bn bw gs g ct X T) (hok : ∀ i, i < T.length → NdOK X T i) (hT6 : T.length ≤ 1000000) (node : Nat) (hn : node < T.length) (A : Option Addr) (c : Nat) (tr : List Nat) (htl : tr.length ≤ T.length) (hev : ∀ e ∈ tr, e ≤ X.inp + X.out) (hr : RdO w bw A tr) (hl : alongS X tr < 2 ^ X.N)
    (v : Int × List Nat) (hvl : v.2.length ≤ T.length) (hv : WorstAt w bw v) (hso : X.out ≤ 4) :
    Calls Tryd.prog 64 #[.int .i64 node, .slice A tr.length c, .pointer (some ⟨bs, 0, none⟩), .pointer (some ⟨bt, 0, none⟩), .pointer (some ⟨bn, 0, none⟩)] w fun e w' => ∃ u, e = .returned u ∧ (leafS (T.getD node ndD) = false → ∃ bl, bl ≠ bw ∧ u = .func (.func 67) #[] #[.pointer (some ⟨bs, 0, none⟩), .pointer (some ⟨bl, 0, none⟩)] ∧ w'.cell? ⟨bl, 0, none⟩ = some (.int .u64 (alongS X tr))) ∧
      WorstAt w' bw (visitS X T node tr v) ∧ w.grownBy w' (some bw) := by
  obtain ⟨B, cB, hw, hB⟩ := hv
  obtain ⟨A', c', m0, m1, m2, m3⟩ := hP.nodes node hn
  have hbl := (Array.getElem?_eq_some_iff.1 hw).1
  cases hlf : leafS (T.getD node ndD)
  · refine (visit_node w bs bt bn bw gs X hP.sys hP.tab g ct T node hn A A' c c' tr (by omega) hev hr.1 m0 m1 m2 hP.s0 hP.t0 hP.f0 hlf hl (fun i hi => evNd_le (hok node hn) hi) (by have := (hok node hn).2.1; omega) (by rcases (hok node hn).1 with h | h; exact .inl h; exact .inr h.1) B cB v (by omega) hB.1 hw).mono ?_
    rintro e w' ⟨bl, rfl, h1, h2, h3, h4⟩
    refine ⟨_, rfl, fun _ => ⟨bl, by omega, rfl, h2⟩, ?_, h4⟩
    unfold visitS
    rw [hlf, if_neg (by decide)]
    unfold stopCells at h3
    split at h3
    · rename_i hs; rw [if_pos hs]; exact worst_note h3 hr hB h4
    · rename_i hs; rw [if_neg hs]; exact ⟨B, cB, h3, hB.grown h4⟩
  · refine (visit_leaf w bs bt bn bw gs X hP.sys hP.tab g ct T node hn A A' c c' tr (by omega) hev hr.1 m0 m1 m2 hP.s0 hP.t0 hP.f0 hlf B cB v (by omega) hB.1 hw).mono ?_
    rintro e w' ⟨rfl, h3, h4⟩
    refine ⟨_, rfl, fun h => by simp at h, ?_, h4⟩
    unfold visitS
    rw [hlf, if_pos rfl]
    exact worst_note h3 hr hB h4
structure DownAt (w : World) (bs bt bn bw gs g ct bv bt2 bx bd : Nat) (X : SysP) (T : List Nd) : Prop where
  perf : PerfAt w bs bt bn bw gs g ct X T
  v0 : w.cell? ⟨bv, 0, none⟩ = some (.func (.func 64) #[] #[.pointer (some ⟨bs, 0, none⟩), .pointer (some ⟨bt, 0, none⟩), .pointer (some ⟨bn, 0, none⟩)])
  q0 : w.cell? ⟨bt2, 0, none⟩ = some (.slice (some ⟨g, 0, none⟩) T.length ct)
  x0 : w.cell? ⟨bx, 2, none⟩ = some (.int .i64 X.inp)
  d0 : w.cell? ⟨bd, 0, none⟩ = some (.func (.func 82) #[] #[.pointer (some ⟨bv, 0, none⟩), .pointer (some ⟨bt2, 0, none⟩), .pointer (some ⟨bx, 0, none⟩), .pointer (some ⟨bd, 0, none⟩)])
  v1 : bv ≠ bw
  q1 : bt2 ≠ bw
  x1 : bx ≠ bw
  d1 : bd ≠ bw
theorem DownAt.grown {w w' : World} {bs bt bn bw gs g ct bv bt2 bx bd : Nat} {X : SysP} {T : List Nd} (h : DownAt w bs bt bn bw gs g ct bv bt2 bx bd X T) (hg : w.grownBy w' (some bw)) : DownAt w' bs bt bn bw gs g ct bv bt2 bx bd X T :=
  ⟨h.perf.grown hg, cell_grown hg h.v0 h.v1, cell_grown hg h.q0 h.q1, cell_grown hg h.x0 h.x1, cell_grown hg h.d0 h.d1, h.v1, h.q1, h.x1, h.d1⟩
def downK (X : SysP) (T : List Nd) (f node : Nat) (tr : List Nat) (v : Int × List Nat) (k : Nat) : Int × List Nat :=
  (List.range k).foldl (fun v i => if afterS X (alongS X tr) (evNd X (T.getD node ndD) i) != 0 then downS X T f ((T.getD node ndD).nx.getD i 0) (tr ++ [evNd X (T.getD node ndD) i]) v else v) (visitS X T node tr v)
theorem downK_succ (X : SysP) (T : List Nd) (f node : Nat) (tr : List Nat) (v : Int × List Nat) (k : Nat) : downK X T f node tr v (k + 1) = if afterS X (alongS X tr) (evNd X (T.getD node ndD) k) != 0 then downS X T f ((T.getD node ndD).nx.getD k 0) (tr ++ [evNd X (T.getD node ndD) k]) (downK X T f node tr v k) else downK X T f node tr v k := by
  unfold downK
  rw [List.range_succ, List.foldl_append]
  rfl
theorem downS_eq (X : SysP) (T : List Nd) (f node : Nat) (tr : List Nat) (v : Int × List Nat) : downS X T (f + 1) node tr v = downK X T f node tr v (T.getD node ndD).nx.length := rfl
theorem visitS_len (X : SysP) (T : List Nd) (node : Nat) (tr : List Nat) (v : Int × List Nat) (n : Nat) (h1 : tr.length ≤ n) (h2 : v.2.length ≤ n) : (visitS X T node tr v).2.length ≤ n := by
  unfold visitS noteS
  split
  · split <;> assumption
  · split
    · split <;> assumption
    · exact h2
theorem downS_len (X : SysP) (T : List Nd) (hok : ∀ i, i < T.length → NdOK X T i) : ∀ (f node : Nat) (tr : List Nat) (v : Int × List Nat), node < T.length → tr.length ≤ node → v.2.length ≤ T.length → (downS X T f node tr v).2.length ≤ T.length
  | 0, _, _, _, _, _, h => h
  | f + 1, node, tr, v, hn, htr, hv => by
    rw [downS_eq]
    have key : ∀ k, k ≤ (T.getD node ndD).nx.length → (downK X T f node tr v k).2.length ≤ T.length := by
      intro k
      induction k with
      | zero => exact fun _ => visitS_len X T node tr v _ (by omega) hv
      | succ k ih =>
        intro hk
        rw [downK_succ]
        have hc := (hok node hn).2.2 k (by omega)
        split
        · exact downS_len X T hok f _ _ _ hc.2 (by simp only [List.length_append, List.length_singleton]; omega) (ih (by omega))
        · exact ih (by omega)
    exact key _ (Nat.le_refl _)
theorem goes_int (w : World) (hT : Tab w) (a b gs : Nat) (S : SysP) (hS : Sys w gs S) (l e : Nat) (ev : Int) (hev : ev = (e : Int)) (hl : l < 2 ^ S.N) (he : e ≤ S.inp + S.out) (ha : w.cell? ⟨a, 0, none⟩ = some (.pointer (some ⟨gs, 0, none⟩))) (hb : w.cell? ⟨b, 0, none⟩ = some (.int .u64 l)) :
    Calls Tryd.prog 67 #[.int .i64 ev, .pointer (some ⟨a, 0, none⟩), .pointer (some ⟨b, 0, none⟩)] w fun e' w' => e' = .returned (.bool (afterS S l e != 0)) ∧ Below w.heap.size w w' := by
  subst hev
  exact goes_calls w hT a b gs S hS l e hl he ha hb
end Go.Proofs.YtcbhaeniahckhaaDoor
end
