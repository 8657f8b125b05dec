/- The arguments of ConformProved opened and read again: the contract that the row asks. Conditions: the two tables of math/bits lie as laid. -/
import Derived.Test.YtcbhaeniahckhaaDoorMt
import Derived.Test.YtcbhaeniahckhaaDoorRows
import Derived.Test.YtcbhaeniahckhaaDoorTie
import Derived.Test.YtcbhaeniahckhaaDoorCards
import Derived.ReadAgain
import Derived.ChangeSame
import Derived.Deep.Slices
import Derived.ProofKit
import Derived.OpenShut
import Derived.Deep.DeepHandedRow
import Derived.Lib.LaidTab
import Derived.Stop.LaidErr
import Derived.SevenTiedAt
import Derived.MakeChecks
set_option linter.unusedSimpArgs false
set_option linter.unusedVariables false
set_option linter.unusedSimpArgs false
namespace Go.Proofs.YtcbhaeniahckhaaDoor
open Go Go.ChangeShapes Go.WideShapes Go.ChangeAt Go.RowKit Go.Deep
section
variable {H : Type} {enc : TypeId × Value → H} {W W' : World}
theorem kept_below (hB : Below W.heap.size W W') (may : MemPlace → Prop) : W.keptBut W' may := ⟨hB.os, hB.output, fun i hi => by rw [hB.block i hi]; exact (World.keptBut_refl W may).2.2 i hi⟩
theorem same_below (hB : Below W.heap.size W W') (p : MemPlace) (hp : p.block < W.heap.size) : W.sameAt W' p := by
  cases p with
  | cell b o => exact cell_same (p := ⟨b, o, none⟩) (hB.block b hp)
  | map b => exact hB.block b hp
theorem trodAll_below {P : Program} {b : Nat} {sp : Nat → Bool} {held : Bool} (hB : Below W.heap.size W W') : ∀ {ts : List TypeId} {vs : List Value} {ds : List (DataW H)} {ps : List MemPlace}, DataW.TrodAll enc P W b sp held ts vs ds ps → (∀ p ∈ ps, p.block < W.heap.size) → DataW.TrodAll enc P W' b sp held ts vs ds ps
  | [], [], [], _, h, _ => h
  | _ :: _, _ :: _, _ :: _, _, ⟨p, q, ⟨n, h1⟩, h2, e⟩, hl => ⟨p, q, ⟨n, DataW.trod_carry n _ _ _ h1 (fun x hx => same_below hB x (hl x (by rw [e]; exact List.mem_append_left _ hx)))⟩, trodAll_below hB h2 (fun x hx => hl x (by rw [e]; exact List.mem_append_right _ hx)), e⟩
set_option maxRecDepth 100000 in
/-- four numbers of a move -/
theorem open_move {sp : Nat → Bool} {held : Bool} {b n : Nat} {cs : List Value} {x : DataW H × List MemPlace} (h : DataW.trod enc Tryd.prog W b sp held n 94 cs = some x) : ∃ m : Mz, cs = [.int .i64 m.frm, .int .i64 m.kind, .int .i64 m.lab, .int .i64 m.tgt] := by
  obtain ⟨xs, k, _, _, hl, hxl, hf⟩ := DataW.trod_struct Tryd.underlying94 h
  have hl4 : cs.length = 4 := hl.trans (by kernel_rfl)
  have c3 : Tryd.prog.cellsOf 3 = 1 := by kernel_rfl
  match xs, hxl, cs, hl4 with
  | [y0, y1, y2, y3], _, [v0, v1, v2, v3], _ =>
    have g0 := hf 0 _ rfl
    have g1 := hf 1 _ rfl
    have g2 := hf 2 _ rfl
    have g3 := hf 3 _ rfl
    simp [c3] at g0 g1 g2 g3
    obtain ⟨z0, e0, _⟩ := DataW.trod_int Tryd.underlying3 g0
    obtain ⟨z1, e1, _⟩ := DataW.trod_int Tryd.underlying3 g1
    obtain ⟨z2, e2, _⟩ := DataW.trod_int Tryd.underlying3 g2
    obtain ⟨z3, e3, _⟩ := DataW.trod_int Tryd.underlying3 g3
    cases e0; cases e1; cases e2; cases e3
    exact ⟨⟨z0, z1, z2, z3⟩, rfl⟩
set_option maxRecDepth 100000 in
set_option maxHeartbeats 2000000 in
theorem open_raw {r : Reach} {b n : Nat} {v : Value} {x : DataW H × List MemPlace} (hv : Value.okWide Tryd.prog W r b 24 v) (h : DataW.trod enc Tryd.prog W 0 (fun _ => true) true n 24 v.cells.toList = some x) : ∃ (s : Raw) (A : Option Addr) (c : Nat), v = rawV s A c ∧ RdMz W A s.mvs := by
  obtain ⟨cs, rfl, hcs⟩ := okWide_struct Tryd.underlying24 hv
  have c3 : Tryd.prog.cellsOf 3 = 1 := by kernel_rfl
  have c22 : Tryd.prog.cellsOf 22 = 1 := by kernel_rfl
  have c94 : Tryd.prog.cellsOf 94 = 4 := by kernel_rfl
  have hs5 : cs.size = 5 := hcs.trans (by kernel_rfl)
  obtain ⟨xs, k, _, _, hl, hxl, hf⟩ := DataW.trod_struct Tryd.underlying24 h
  obtain ⟨l⟩ := cs
  match l, hs5, xs, hxl with
  | [v0, v1, v2, v3, v4], _, [y0, y1, y2, y3, y4], _ =>
    have g0 := hf 0 _ rfl
    have g1 := hf 1 _ rfl
    have g2 := hf 2 _ rfl
    have g3 := hf 3 _ rfl
    have g4 := hf 4 _ rfl
    simp [c3, c22, Value.cells] at g0 g1 g2 g3 g4
    obtain ⟨z0, e0, _⟩ := DataW.trod_int Tryd.underlying3 g0
    obtain ⟨z1, e1, _⟩ := DataW.trod_int Tryd.underlying3 g1
    obtain ⟨z2, e2, _⟩ := DataW.trod_int Tryd.underlying3 g2
    obtain ⟨z3, e3, _⟩ := DataW.trod_int Tryd.underlying3 g3
    cases e0; cases e1; cases e2; cases e3
    rcases open_slice Tryd.underlying22 g4 with ⟨e4, _⟩ | ⟨a, len, cap, m, n', D, Pl, e4, _, hle, _, hmm, _, hx⟩
    · cases e4
      exact ⟨⟨z0, z1, z2, z3, []⟩, none, 0, rfl, fun i hi => by simp at hi⟩
    · cases e4
      simp only [if_true] at hmm
      have each : ∀ i, ∃ mz : Mz, i < len → W.cell? (a.add (i * 4)) = some (.int .i64 mz.frm) ∧ W.cell? ⟨(a.add (i * 4)).block, (a.add (i * 4)).off + 1, none⟩ = some (.int .i64 mz.kind) ∧ W.cell? ⟨(a.add (i * 4)).block, (a.add (i * 4)).off + 2, none⟩ = some (.int .i64 mz.lab) ∧ W.cell? ⟨(a.add (i * 4)).block, (a.add (i * 4)).off + 3, none⟩ = some (.int .i64 mz.tgt) := by
        intro i
        by_cases hi : i < len
        · obtain ⟨cs', h1, h2⟩ := hx i (by omega)
          obtain ⟨mz, rfl⟩ := open_move h2
          rw [c94] at h1
          obtain ⟨_, _, hc⟩ := World.cells?_some h1
          refine ⟨mz, fun _ => ?_⟩
          have k0 := hc 0 (by decide)
          have k1 := hc 1 (by decide)
          have k2 := hc 2 (by decide)
          have k3 := hc 3 (by decide)
          have ad : ∀ j, 0 < j → (a.add (i * 4)).add j = ⟨(a.add (i * 4)).block, (a.add (i * 4)).off + j, none⟩ := fun j hj => by
            generalize a.add (i * 4) = a'
            unfold Addr.add
            rw [if_neg (by omega)]
          rw [ad 1 (by decide)] at k1
          rw [ad 2 (by decide)] at k2
          rw [ad 3 (by decide)] at k3
          exact ⟨k0, k1, k2, k3⟩
        · exact ⟨mzZ, fun h => absurd h hi⟩
      refine ⟨⟨z0, z1, z2, z3, (List.range len).map fun i => Classical.choose (each i)⟩, some a, cap, by unfold rawV; simp, fun i hi => ?_⟩
      have hi' : i < len := by simpa using hi
      have hg : ((List.range len).map fun i => Classical.choose (each i)).getD i mzZ = Classical.choose (each i) := by
        rw [List.getD_eq_getElem?_getD, List.getElem?_map, List.getElem?_eq_getElem (by simpa using hi')]
        simp
      rw [hg]
      exact ⟨a, rfl, Classical.choose_spec (each i) hi'⟩
end
theorem laid64 : (Rows.laid_math_bits_deBruijn64tab : DataW Unit) = Lib.tabData .u8 (Lib.deBruijn64tab.map fun n : Nat => (n : Int)) := rfl
/-- what the row's list gives: the table of math/bits -/
theorem tab_of {W : World} (h : laidMetH Tryd.prog Rows.conformProvedRow.laid W) : Tab W := by
  rw [MakeChecks.laidMetH_plain _ _ _ (by kernel_rfl)] at h
  have h2 : laidMet Tryd.prog [("math/bits.deBruijn64tab", Rows.laid_math_bits_deBruijn64tab)] W := laidMet.tail h
  have hg : Tryd.prog.globalNamed "math/bits.deBruijn64tab" = some 1 := by kernel_rfl
  rw [laid64] at h2
  have ht := Lib.tabIs_of_head (rest := []) (t := 147) hg (by kernel_rfl) Tryd.underlying147 Tryd.underlying5 (by kernel_rfl) (by kernel_rfl) h2
  intro j hj
  have hc := ht.cell hg j (by simpa using hj)
  rw [hc, List.getD_eq_getElem?_getD, List.getD_eq_getElem?_getD, List.getElem?_map, List.getElem?_eq_getElem hj]
  rfl
theorem kidsP : Kids Tryd.prog (· < Tryd.prog.types.size) := kids_rows (by kernel_rfl) (by kernel_rfl)
theorem fullP : ∀ t e, t < Tryd.prog.types.size → Tryd.prog.underlying t = some (.slice e) → 0 < Tryd.prog.cellsOf e := slices_full_of Tryd.prog (by kernel_rfl)
theorem small24 : 24 < Tryd.prog.types.size := of_decide_eq_true (by kernel_rfl)
theorem own : ownKnob Tryd.prog.godebug = none := by kernel_rfl
set_option maxRecDepth 100000 in
/-- what the walk gives, for every argument and every world that holds the tables -/
theorem contract (H : Type) (enc : TypeId × Value → H) (W : World) (base : Nat) (args : Array Value) (ds gs : List (DataW H)) (before : List MemPlace)
    (hval : ∀ (j : Nat) t v, Tryd.f3.params[j]? = some t → args[j]? = some v → Value.okWide Tryd.prog W .any base t v)
    (hW : DataW.Whole enc Tryd.prog Tryd.f3.params.toList Rows.conformProvedSpec.vars false W args.toList ds gs before) (hL : laidMetH Tryd.prog Rows.conformProvedRow.laid W) :
    Calls Tryd.prog 3 args W fun e W' => ∃ v, e = .returned v ∧ Rows.conformProvedSpec.post enc Tryd.prog Tryd.f3 false true false false W args v W' := by
  have hW' := hW
  obtain ⟨p, q, hA0, hV, rfl, hfz, hnd⟩ := hW
  have hA : DataW.TrodAll enc Tryd.prog W 0 (fun _ => true) true Tryd.f3.params.toList args.toList ds p := hA0
  have hAk := hA
  rw [Tryd.params3] at hA hval
  obtain ⟨v0, vs0, d0, ds0, p0, q0, hargs, rfl, rfl, h0, r0⟩ := trodAll_cons hA
  obtain ⟨v1, vs1, d1, ds1, p1, q1, hargs1, rfl, rfl, h1, r1⟩ := trodAll_cons r0
  obtain ⟨rfl, rfl, rfl⟩ := trodAll_nil r1
  subst hargs1
  obtain rfl : args = #[v0, v1] := by cases args; simp_all
  obtain ⟨rfl, rfl⟩ := trodVars_none hV
  obtain ⟨n0, g0⟩ := h0
  obtain ⟨n1, g1⟩ := h1
  obtain ⟨x, A, c, rfl, rx⟩ := open_raw (hval 0 24 v0 rfl rfl) g0
  obtain ⟨y, A', c', rfl, ry⟩ := open_raw (hval 1 24 v1 rfl rfl) g1
  refine (proved_calls W (tab_of hL) x y A A' c c' rx ry).mono fun e W' ⟨he, hB⟩ => ?_
  subst he
  have hlt := hW'.lt
  refine ⟨_, rfl, _, _, _, [], p0 ++ (p1 ++ []), [], hW', ?_, ?_, ?_, kept_below hB _, fun h => by cases h⟩
  · exact trodAll_cons_mk (shut_bool Tryd.underlying4 _) trodAll_mk0
  · exact DataW.TrodAll.respare kidsP fullP (by rw [Tryd.params3]; intro t ht; have h24 : t = 24 := (by simpa using ht); subst h24; exact small24) (trodAll_below hB hAk (fun z hz => hlt z (by simpa using hz))) (fun z hz => by simpa using hlt z (by simpa using hz))
  · rfl
end Go.Proofs.YtcbhaeniahckhaaDoor
