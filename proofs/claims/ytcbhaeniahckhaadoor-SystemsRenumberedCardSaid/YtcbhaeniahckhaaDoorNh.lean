/- SystemsRenumbered answers true for every input, and its arguments read as before, where the two tables of math/bits hold what the text of the program lays. Conditions: those of the given row alone. -/
import Derived.Test.YtcbhaeniahckhaaDoorNg
import Derived.Test.YtcbhaeniahckhaaDoorMu
import Derived.WalkKit
set_option linter.unusedSimpArgs false
set_option linter.unusedVariables false
set_option linter.unusedSimpArgs false
namespace Go.Proofs.YtcbhaeniahckhaaDoor
open Go Go.ChangeShapes Go.WideShapes Go.ChangeAt Go.RowKit Go.Deep
section
variable {H : Type} {enc : TypeId × Value → H} {W : World}

set_option maxRecDepth 100000 in
theorem open_order {n : Nat} {v : Value} {x : DataW H × List MemPlace} (hv : ∃ r b, Value.okWide Tryd.prog W r b 43 v) (h : DataW.trod enc Tryd.prog W 0 (fun _ => true) true n 43 v.cells.toList = some x) : ∃ (B : Option Addr) (m c : Nat), v = .slice B m c ∧ m ≤ maxLen ∧ RdB W B m := by
  obtain ⟨r, b, hv⟩ := hv
  obtain ⟨a0, len0, cap0, rfl⟩ := okWide_slice Tryd.underlying43 hv
  have c5 : Tryd.prog.cellsOf 5 = 1 := by kernel_rfl
  simp only [Value.cells] at h
  rcases open_slice1 Tryd.underlying43 c5 h with ⟨e4, _⟩ | ⟨a, len, cap, m, n', V, D, Pl, e4, _, hle, hcap, hmm, _, hx⟩
  · cases e4
    exact ⟨none, 0, 0, rfl, Nat.zero_le _, fun i hi => by omega⟩
  · cases e4
    refine ⟨some a, _, _, rfl, Nat.le_trans hle hcap, fun i hi => ?_⟩
    have him : i < m := by rw [hmm]; simp only [if_true]; omega
    obtain ⟨h1, h2⟩ := hx i him
    obtain ⟨z, e, _, hwf⟩ := DataW.trod_int Tryd.underlying5 h2
    have e1 : V i = .int .u8 z := by injection e
    rw [e1] at h1
    refine ⟨a, z, rfl, h1, ?_⟩
    simp [Lit.wf] at hwf
    have k1 : IntKind.u8.min = 0 := by decide
    have k2 : IntKind.u8.max = 255 := by decide
    omega
end
theorem small43 : 43 < Tryd.prog.types.size := of_decide_eq_true (by kernel_rfl)
set_option maxHeartbeats 4000000 in
set_option maxRecDepth 100000 in
theorem renum_bad (w : World) (hT : Tab w) (x y : Raw) (A A' : Option Addr) (c c' : Nat) (Bo : Option Addr) (mo co : Nat) (hr : RdMz w A x.mvs) (hr' : RdMz w A' y.mvs) (hb : ¬ (x.good ∧ y.good ∧ x.inp = y.inp ∧ x.out = y.out)) :
    Calls Tryd.prog 4 #[rawV x A c, rawV y A' c', .slice Bo mo co] w fun e w' => e = .returned (.bool true) ∧ Below w.heap.size w w' := by
  unfold rawV
  have hB0 : Below w.heap.size w ((w.alloc (.cells #[.int .i64 x.N, .int .i64 x.start, .int .i64 x.inp, .int .i64 x.out, .slice A x.mvs.length c] 24)).alloc (.cells #[.int .i64 y.N, .int .i64 y.start, .int .i64 y.inp, .int .i64 y.out, .slice A' y.mvs.length c'] 24)) := (alloc_below _ _).alloc (by simp) _
  have HR := Sd.mk (hr.below hB0)
  have HR' := Sd.mk (hr'.below hB0)
  have HT := Sd.mk (hT.below hB0)
  have HB0 := Sd.mk hB0
  have HBd := Sd.mk hb
  have K0 := Sd.mk (two_boxes (w := w) (W := ((w.alloc (.cells #[.int .i64 x.N, .int .i64 x.start, .int .i64 x.inp, .int .i64 x.out, .slice A x.mvs.length c] 24)).alloc (.cells #[.int .i64 y.N, .int .i64 y.start, .int .i64 y.inp, .int .i64 y.out, .slice A' y.mvs.length c'] 24))) ((heap_alloc_old _ _ (by simp)).trans (heap_alloc_new w _)) (alloc_at _ _ (w.heap.size + 1) (by simp)) hB0)
  clear hr hr' hT hB0 hb
  go_enter Tryd.func4, Tryd.ntmps4
  go_upto_region 3 with (first | (go_at_call 5; refine (awake_calls _ HT.out).mono ?_; rintro e w1 ⟨rfl, hB1⟩; have HB1 := Sd.mk hB1; have K1 := Sd.mk (two_kept K0.out.1 K0.out.2.1 K0.out.2.2.1 hB1); clear hB1) | fail)
  obtain ⟨x0, x1, x2, x3, x4, y0, y1, y2, y3, y4⟩ := K1.out.2.2.2
  go_wp2_with (first | (go_at_call 6; refine (twoErr_calls _ x y A A' c c' (HR.out.below HB1.out) (HR'.out.below HB1.out)).mono ?_; rintro e w2 ⟨code, rfl, hB2, hg⟩; have hc : (code != 0) = true := (bne_iff_ne.2 (fun h => HBd.out (hg h))); have HB2 := Sd.mk (below_then K1.out.2.2.1 K1.out.2.2.1.size hB2); clear hB2 hg) | fail)
  go_ret
  exact ⟨rfl, HB2.out⟩
theorem renum_calls (w : World) (hT : Tab w) (x y : Raw) (A A' : Option Addr) (c c' : Nat) (Bo : Option Addr) (mo co : Nat) (hmo : mo ≤ maxLen) (hbo : RdB w Bo mo) (hr : RdMz w A x.mvs) (hr' : RdMz w A' y.mvs) :
    Calls Tryd.prog 4 #[rawV x A c, rawV y A' c', .slice Bo mo co] w fun e w' => e = .returned (.bool true) ∧ Below w.heap.size w w' := by
  by_cases hG : x.good ∧ y.good ∧ x.inp = y.inp ∧ x.out = y.out
  · obtain ⟨gx, gy, hi, ho⟩ := hG
    have hio : x.toRx.inp = y.toRx.inp ∧ x.toRx.out = y.toRx.out := ⟨by show x.inp.toNat = y.inp.toNat; rw [hi], by show x.out.toNat = y.out.toNat; rw [ho]⟩
    rw [toRx_val gx, toRx_val gy]
    exact renum_good w hT x.toRx y.toRx (toRx_ok gx) (toRx_ok gy) hio A A' c c' (toRx_read gx hr) (toRx_read gy hr') Bo mo co hmo hbo
  · exact renum_bad w hT x y A A' c c' Bo mo co hr hr' hG
/-- what the row's list gives: the table of math/bits -/
theorem tab_of4 {W : World} (h : laidMetH Tryd.prog Rows.systemsRenumberedRow.laid W) : Tab W := by
  rw [MakeChecks.laidMetH_plain _ _ _ (by kernel_rfl)] at h
  have h2 : laidMet Tryd.prog [("math/bits.deBruijn64tab", Rows.laid_math_bits_deBruijn64tab)] W := laidMet.tail h
  have hg : Tryd.prog.globalNamed "math/bits.deBruijn64tab" = some 1 := by kernel_rfl
  rw [laid64] at h2
  have ht := Lib.tabIs_of_head (rest := []) (t := 147) hg (by kernel_rfl) Tryd.underlying147 Tryd.underlying5 (by kernel_rfl) (by kernel_rfl) h2
  intro j hj
  have hc := ht.cell hg j (by simpa using hj)
  rw [hc, List.getD_eq_getElem?_getD, List.getD_eq_getElem?_getD, List.getElem?_map, List.getElem?_eq_getElem hj]
  rfl
set_option maxRecDepth 100000 in
/-- what the walk gives, for every argument and every world that holds the tables -/
theorem contract4 (H : Type) (enc : TypeId × Value → H) (W : World) (base : Nat) (args : Array Value) (ds gs : List (DataW H)) (before : List MemPlace)
    (hval : ∀ (j : Nat) t v, Tryd.f4.params[j]? = some t → args[j]? = some v → Value.okWide Tryd.prog W .any base t v)
    (hW : DataW.Whole enc Tryd.prog Tryd.f4.params.toList Rows.systemsRenumberedSpec.vars false W args.toList ds gs before) (hL : laidMetH Tryd.prog Rows.systemsRenumberedRow.laid W) :
    Calls Tryd.prog 4 args W fun e W' => ∃ v, e = .returned v ∧ Rows.systemsRenumberedSpec.post enc Tryd.prog Tryd.f4 false true false false W args v W' := by
  have hW' := hW
  obtain ⟨p, q, hA0, hV, rfl, hfz, hnd⟩ := hW
  have hA : DataW.TrodAll enc Tryd.prog W 0 (fun _ => true) true Tryd.f4.params.toList args.toList ds p := hA0
  have hAk := hA
  rw [Tryd.params4] at hA hval
  obtain ⟨v0, vs0, d0, ds0, p0, q0, hargs, rfl, rfl, h0, r0⟩ := trodAll_cons hA
  obtain ⟨v1, vs1, d1, ds1, p1, q1, hargs1, rfl, rfl, h1, r1⟩ := trodAll_cons r0
  obtain ⟨v2, vs2, d2, ds2, p2, q2, hargs2, rfl, rfl, h2, r2⟩ := trodAll_cons r1
  obtain ⟨rfl, rfl, rfl⟩ := trodAll_nil r2
  subst hargs2
  subst hargs1
  obtain rfl : args = #[v0, v1, v2] := by cases args; simp_all
  obtain ⟨rfl, rfl⟩ := trodVars_none hV
  obtain ⟨n0, g0⟩ := h0
  obtain ⟨n1, g1⟩ := h1
  obtain ⟨n2, g2⟩ := h2
  obtain ⟨x, A, c, rfl, rx⟩ := open_raw (hval 0 24 v0 rfl rfl) g0
  obtain ⟨y, A', c', rfl, ry⟩ := open_raw (hval 1 24 v1 rfl rfl) g1
  obtain ⟨Bo, mo, co, rfl, hmo, rb⟩ := open_order ⟨_, _, hval 2 43 v2 rfl rfl⟩ g2
  refine (renum_calls W (tab_of4 hL) x y A A' c c' Bo mo co hmo rb rx ry).mono fun e W' ⟨he, hB⟩ => ?_
  subst he
  have hlt := hW'.lt
  refine ⟨_, rfl, _, _, _, [], p0 ++ (p1 ++ (p2 ++ [])), [], hW', ?_, ?_, ?_, kept_below hB _, fun h => by cases h⟩
  · exact trodAll_cons_mk (shut_bool Tryd.underlying4 _) trodAll_mk0
  · exact DataW.TrodAll.respare kidsP fullP (by rw [Tryd.params4]; intro t ht; have h24 : t = 24 ∨ t = 43 := (by simpa using ht); rcases h24 with h24 | h24 <;> subst h24; exact small24; exact small43) (trodAll_below hB hAk (fun z hz => hlt z (by simpa using hz))) (fun z hz => by simpa using hlt z (by simpa using hz))
  · rfl
def zeroV4 : Value := .agg #[.int .i64 0, .int .i64 0, .int .i64 0, .int .i64 0, .slice none 0 0]
def tab8_r (l : List Nat) : Array Value := (l.map fun n : Nat => Value.int .u8 (n : Int)).toArray
/-- a block's cells put in the place of its own -/
def setTab_r (cs : Array Value) : Obj → Obj
  | .cells _ t frozen => .cells cs t frozen
  | o => o
def tab32_r : List Nat := [0, 1, 28, 2, 29, 14, 24, 3, 30, 22, 20, 15, 25, 17, 4, 8, 31, 27, 13, 23, 21, 19, 16, 7, 26, 12, 18, 6, 11, 5, 10, 9]
/-- a world for the witness: the settled one, the tables holding what their initialisers lay -/
noncomputable def laidWorld_r (os : Os) : World :=
  { World.holding Tryd.prog os ⟨#[], #[], []⟩ with heap := ((World.holding Tryd.prog os ⟨#[], #[], []⟩).heap.modify 0 (setTab_r (tab8_r tab32_r))).modify 1 (setTab_r (tab8_r Lib.deBruijn64tab)) }
theorem laid_met_r (os : Os) : laidMet Tryd.prog Rows.systemsRenumberedRow.laid ((laidWorld_r os).forCall (fun _ _ => 0) ⟨#[], #[zeroV4, zeroV4, .slice none 0 0], []⟩).memory :=
  laidMet_of_run' 8 (by kernel_rfl) (by kernel_rfl)
theorem reads_r (os : Os) {H : Type} (enc : TypeId × Value → H) : ∃ places, DataW.whole enc Tryd.prog ((laidWorld_r os).forCall (fun _ _ => 0) ⟨#[], #[zeroV4, zeroV4, .slice none 0 0], []⟩).memory Tryd.f4.params.toList Rows.systemsRenumberedSpec.vars false #[zeroV4, zeroV4, .slice none 0 0].toList 8 = some ([.agg [.lit (.int .i64 0), .lit (.int .i64 0), .lit (.int .i64 0), .lit (.int .i64 0), .nil], .agg [.lit (.int .i64 0), .lit (.int .i64 0), .lit (.int .i64 0), .lit (.int .i64 0), .nil], .nil], [], places) :=
  ⟨[], by kernel_rfl⟩
set_option maxRecDepth 100000 in
theorem lifted_r (os : Os) (started : os.Started) (H : Type) (enc : TypeId × Value → H) (F : Stop.Interp) :
    ReturnsInHanded {} Tryd.checked os 4 .any ((OpenSpec.ofChange Rows.systemsRenumberedSpec).preRow enc Tryd.prog Tryd.f4 Rows.systemsRenumberedRow.domain false Rows.systemsRenumberedRow.laid) (((OpenSpec.ofChange Rows.systemsRenumberedSpec).at F).post enc Tryd.prog Tryd.f4 false true false false) := by
  obtain ⟨places, hx⟩ := reads_r os enc
  refine returnsInHanded_of_row (C := Tryd.checked) (s := OpenSpec.ofChange Rows.systemsRenumberedSpec) own started (by kernel_rfl) Tryd.func4
    (witness_row_at (enc := enc) (C := Tryd.checked) false (laidWorld_r os) #[zeroV4, zeroV4, .slice none 0 0] rfl (by kernel_rfl) (by kernel_rfl) (by kernel_rfl)
      (OpenSpec.preRow_of_cond 8 hx (by kernel_rfl) (fun k hk => by cases hk) (by kernel_rfl) (laid_met_r os))) ?_
  intro W base args ds gs before hval hW _ _ _ hL _ _
  exact contract4 H enc W base args ds gs before hval hW hL
theorem said_r : Rows.SystemsRenumberedSaid :=
  OpenClaim.holds_of_cond 4 Tryd.f4 rfl rfl rfl rfl rfl rfl rfl ⟨rfl, rfl, rfl, rfl, rfl⟩ rfl rfl rfl rfl rfl (by kernel_rfl) Tryd.func4 (by kernel_rfl)
    (of_decide_eq_true (by kernel_rfl)) (by unfold Func.isWrapper; first | (rw [if_pos (by decide +kernel)]; kernel_rfl) | (rw [if_neg (by decide +kernel)]; exact ⟨rfl, rfl⟩))
    (fun os started H enc _ F => by rw [OpenClaim.pre_eq_preRow]; exact lifted_r os started H enc F)
/-- No parameter wants a stand-in; the program's own looks are off: what the card asks. -/
theorem plain_r (f : FuncId) (fn : Func) (hf : Tryd.pinned.checked.prog.funcNamed "examiner/examinertop.SystemsRenumbered" = some f) (hfn : Tryd.pinned.checked.prog.funcs[f]? = some fn) :
    false = Tryd.pinned.checked.prog.looks [] ∧ ∀ (j : Nat) t, fn.params[j]? = some t → Tryd.pinned.checked.prog.wantsStandIn t = false := by
  obtain rfl : f = 4 := Option.some.inj ((show Tryd.prog.funcNamed "examiner/examinertop.SystemsRenumbered" = some 4 by kernel_rfl).symm.trans hf) |>.symm
  obtain rfl : fn = Tryd.f4 := (Option.some.inj (Tryd.func4.symm.trans hfn)).symm
  refine ⟨by kernel_rfl, fun j t ht => ?_⟩
  rw [Tryd.params4] at ht
  have h24 : t = 24 ∨ t = 43 := by simpa using Array.mem_of_getElem? ht
  rcases h24 with h24 | h24
  · subst h24
    exact (show Tryd.prog.wantsStandIn 24 = false by kernel_rfl)
  · subst h24
    exact (show Tryd.prog.wantsStandIn 43 = false by kernel_rfl)
/-- THE CARD -/
theorem systemsRenumbered_card_holds : Rows.SystemsRenumberedCardSaid :=
  Claim7.holds_tied_plain_at .later [] _ _ _ _ said_r (fun _ h => by cases h) (by kernel_rfl) (fun _ h => by cases h) systemsRenumbered_row_tie rfl ⟨rfl, rfl⟩ (by kernel_rfl) rfl plain_r (by kernel_rfl)
#print axioms systemsRenumbered_card_holds
end Go.Proofs.YtcbhaeniahckhaaDoor
