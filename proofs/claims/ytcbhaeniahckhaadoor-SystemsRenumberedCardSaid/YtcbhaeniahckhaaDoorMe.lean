/- The search's step at an old pair, the failing of a pair, slices.Reverse, two systems compared. Conditions: those that each theorem names. -/
import Derived.Test.YtcbhaeniahckhaaDoorMc
import Derived.Test.YtcbhaeniahckhaaDoorMb
import Derived.Test.YtcbhaeniahckhaaDoorMd
import Derived.Deep.LoopGhost
import Derived.Lib.Walk
import Derived.Sort.WalkB12
import Derived.Lib.SlicesMore
import Derived.Lib.OwnBridge
import Derived.Deep.DeepCutAuto
set_option linter.unusedSimpArgs false
set_option linter.unusedVariables false
section
set_option linter.unusedSimpArgs false
namespace Go.Proofs.YtcbhaeniahckhaaDoor
open Go.RowKit Go.Shelf Go.Deep Go.Proofs.YtcbhaeniahckhaaDoorW.PrintLast
theorem CmpAt.step {wb w w' : World} {g gx gs bm : Nat} {vp vf vb : Value} {ps : List (Nat × Nat)} {fr bs : List Int} (h : CmpAt wb w g gx gs bm vp vf vb ps fr bs) (hB : Below w.heap.size w w') : CmpAt wb w' g gx gs bm vp vf vb ps fr bs := by
  have hg : w.grownBy w' none := ⟨hB.os, hB.tape, hB.output, hB.size, fun k hk _ => hB.block k hk⟩
  have hn : ∀ v : Value, v.ownBlock = none ∨ v.ownBlock ≠ none := fun v => by cases v.ownBlock <;> simp
  refine ⟨below_then h.below h.below.size hB, h.gg, h.gm, (hB.block g (Array.getElem?_eq_some_iff.1 h.blk).1).trans h.blk, h.rp.kept hg (hn _), h.rf.kept hg (hn _), h.rb.kept hg (hn _), h.ne, ?_⟩
  obtain ⟨es, clock, hb, he⟩ := h.map
  exact ⟨es, clock, (hB.block bm (Array.getElem?_eq_some_iff.1 hb).1).trans hb, he⟩
set_option maxHeartbeats 1000000 in
theorem add_old (wb w : World) (g gx gs bm : Nat) (vp vf vb : Value) (ps : List (Nat × Nat)) (fr bs : List Int) (h : CmpAt wb w g gx gs bm vp vf vb ps fr bs) (q : Nat × Nat) (hq : q ∈ ps) (f b : Int) :
    Calls Tryd.prog 55 #[.pointer (some ⟨g, 0, none⟩), .agg #[.int .u64 (q.1 : Int), .int .u64 (q.2 : Int)], .int .i64 f, .int .i64 b] w fun e w' => e = .returned (.tuple #[]) ∧ Below w.heap.size w w' := by
  have H := Sd.mk h
  clear h
  have c5 := cell_blk H.out.blk 5
  have hgl := (Array.getElem?_eq_some_iff.1 H.out.blk).1
  obtain ⟨o0, ho0⟩ : ∃ o, o = Obj.cells #[.int .u64 (q.1 : Int), .int .u64 (q.2 : Int)] 75 := ⟨_, rfl⟩
  have hm0 : ∀ n, MapIs ((w.alloc o0).drewN n) bm ps := fun n => by
    obtain ⟨es, clock, hb, he⟩ := H.out.map
    exact ⟨es, clock, (heap_alloc_old w o0 (Array.getElem?_eq_some_iff.1 hb).1).trans hb, he⟩
  subst ho0
  have hlk : ∀ n, (Instr.lookup 69 (.map (some bm)) (.agg #[.int .u64 (q.1 : Int), .int .u64 (q.2 : Int)]) false).run Tryd.prog ((w.alloc (Obj.cells #[.int .u64 (q.1 : Int), .int .u64 (q.2 : Int)] 75)).drewN n) = .ok (.bool true) ((w.alloc (Obj.cells #[.int .u64 (q.1 : Int), .int .u64 (q.2 : Int)] 75)).drewN n) := fun n => by
    have := run_lookup_set _ bm ps (hm0 n) q
    rw [decide_eq_true hq] at this
    exact this
  clear hm0
  go_enter Tryd.func55, Tryd.ntmps55
  go_wp2
  go_quiet (fail)
  clear hlk
  go_wp2
  go_end0
  exact ⟨rfl, below_drewN ((Below.refl _ _).alloc (Nat.le_refl _) _) _⟩
/-- the least event from e on, so many left, that the first set can show and the second cannot -/
def failsFrom (X S : SysP) (p : Nat × Nat) : Nat → Nat → Option Nat
  | 0, _ => none
  | n + 1, e => if showsS X p.1 e && !showsS S p.2 e then some e else failsFrom X S p n (e + 1)
theorem failsFrom_step (X S : SysP) (p : Nat × Nat) (n e : Nat) : failsFrom X S p (n + 1) e = if showsS X p.1 e && !showsS S p.2 e then some e else failsFrom X S p n (e + 1) := rfl
theorem fs_kept {w0 W W2 : World} {g b : Nat} {u0 u1 v0 v1 : Value} {ob : Obj} (h : W.cell? ⟨g, 0, none⟩ = some u0 ∧ W.cell? ⟨g, 1, none⟩ = some u1 ∧ W.cell? ⟨b, 0, none⟩ = some v0 ∧ W.cell? ⟨b, 1, none⟩ = some v1 ∧ Below w0.heap.size w0 W ∧ W.heap[b]? = some ob) (k : Below W.heap.size W W2) :
    W2.cell? ⟨g, 0, none⟩ = some u0 ∧ W2.cell? ⟨g, 1, none⟩ = some u1 ∧ W2.cell? ⟨b, 0, none⟩ = some v0 ∧ W2.cell? ⟨b, 1, none⟩ = some v1 ∧ Below w0.heap.size w0 W2 ∧ W2.heap[b]? = some ob := by
  obtain ⟨h0, h1, h2, h3, hB, hb⟩ := h
  have hg := World.block_lt_of_cell? W _ h0
  have hb' := (Array.getElem?_eq_some_iff.1 hb).1
  exact ⟨(k.cell (p := ⟨g, 0, none⟩) hg).trans h0, (k.cell (p := ⟨g, 1, none⟩) hg).trans h1, (k.cell (p := ⟨b, 0, none⟩) hb').trans h2, (k.cell (p := ⟨b, 1, none⟩) hb').trans h3, below_then hB hB.size k, (k.block _ hb').trans hb⟩
def failsS (X S : SysP) (p : Nat × Nat) : Option Nat := failsFrom X S p (X.out + 1) X.inp
set_option maxHeartbeats 4000000 in
set_option maxRecDepth 100000 in
theorem fails_calls (wb w : World) (g gx gs bm : Nat) (vp vf vb : Value) (ps : List (Nat × Nat)) (fr bs : List Int) (h : CmpAt wb w g gx gs bm vp vf vb ps fr bs) (X S : SysP) (hX : Sys w gx X) (hS : Sys w gs S) (hT : Tab w) (hio : X.inp = S.inp ∧ X.out = S.out) (q : Nat × Nat) (hq1 : q.1 < 2 ^ X.N) (hq2 : q.2 < 2 ^ S.N) :
    Calls Tryd.prog 56 #[.pointer (some ⟨g, 0, none⟩), .agg #[.int .u64 (q.1 : Int), .int .u64 (q.2 : Int)]] w fun e w' => e = .returned (.tuple #[.int .i64 (((failsS X S q).getD 0 : Nat) : Int), .bool (failsS X S q).isSome]) ∧ Below w.heap.size w w' := by
  obtain ⟨mvX, AbX, cbX, AsX, csX, ArX, crX, hX⟩ := hX
  obtain ⟨mvS, AbS, cbS, AsS, csS, ArS, crS, hS⟩ := hS
  have H := Sd.mk h
  clear h
  have hXi := hX.hi
  have hXo := hX.ho
  have hSW := Sd.mk (fun w1 (h1 : Below w.heap.size w w1) => hS.below h1)
  have hXW := Sd.mk (fun w1 (h1 : Below w.heap.size w w1) => hX.below h1)
  have hTW := Sd.mk (fun w1 (h1 : Below w.heap.size w w1) => hT.below h1)
  have hCW := Sd.mk (fun w1 (h1 : Below w.heap.size w w1) => H.out.step h1)
  clear hX hS hT
  have c0 := cell_blk H.out.blk 0
  have c1 := cell_blk H.out.blk 1
  have hgl := (Array.getElem?_eq_some_iff.1 H.out.blk).1
  have x0 := hXW.out w (Below.refl _ _)
  have xc2 := cell_blk x0.blk 2
  have hgx := (Array.getElem?_eq_some_iff.1 x0.blk).1
  obtain ⟨hio1, hio2⟩ := hio
  have HIO := Sd.mk (And.intro hio1 hio2)
  clear hio1 hio2
  go_enter Tryd.func56, Tryd.ntmps56
  go_wp2
  go_loopw [6] (fun i wr => ∃ (e : Nat), X.inp ≤ e ∧ e ≤ X.inp + X.out + 1 ∧ i = .int .i64 (e : Int) ∧ Sd (failsS X S q = failsFrom X S q (X.inp + X.out + 1 - e) e) ∧ Sd (Below w.heap.size w wr) ∧ Sd (wr.heap[w.heap.size]? = some (.cells #[.int .u64 (q.1 : Int), .int .u64 (q.2 : Int)] 75 (0, 0)))) (fun i _ => X.inp + X.out + 1 - (intOf i).toNat)
  case atStart => exact ⟨X.inp, Nat.le_refl _, by omega, rfl, ⟨by unfold failsS; congr 1; omega⟩, ⟨(Below.refl _ _).alloc (Nat.le_refl _) _⟩, ⟨heap_alloc_new _ _⟩⟩
  case round =>
    obtain ⟨e, hle, hj, rfl, hf, hB, hb⟩ := hrel
    have b0 := cell_blk hb.out 0
    have b1 := cell_blk hb.out 1
    have d0 := cell_blk (hCW.out wr hB.out).blk 0
    have d1 := cell_blk (hCW.out wr hB.out).blk 1
    have hX' := Sd.mk (hXW.out wr hB.out)
    by_cases hlt : e ≤ X.inp + X.out
    · have he1 : e ≤ S.inp + S.out := by have := HIO.out; omega
      have hst : Sd (failsS X S q = if showsS X q.1 e && !showsS S q.2 e then some e else failsFrom X S q (X.inp + X.out + 1 - (e + 1)) (e + 1)) := ⟨by rw [hf.out, show X.inp + X.out + 1 - e = (X.inp + X.out + 1 - (e + 1)) + 1 by omega, failsFrom_step]⟩
      clear hf
      have hSX := Sd.mk (rfl : showsS X q.1 e = showsS X q.1 e)
      have hSS := Sd.mk (rfl : showsS S q.2 e = showsS S q.2 e)
      rcases Bool.eq_false_or_eq_true (showsS X q.1 e) with v1 | v1 <;> rcases Bool.eq_false_or_eq_true (showsS S q.2 e) with v2 | v2 <;> (rw [v1, v2] at hst; have V1 := Sd.mk v1; have V2 := Sd.mk v2; clear v1 v2 hSX hSS)
      · go_wp2_with (go_at_call 48; refine (silence_calls _ gx X (hX'.out)).mono ?_; rintro e' w2 ⟨rfl, hB2⟩)
        have hK0 := Sd.mk (fs_kept (w0 := w) ⟨d0, d1, b0, b1, hB.out, hb.out⟩ (below_drew hB2))
        go_region_held3 (fun wx => wx.cell? ⟨g, 0, none⟩ = some (.pointer (some ⟨gx, 0, none⟩)) ∧ wx.cell? ⟨g, 1, none⟩ = some (.pointer (some ⟨gs, 0, none⟩)) ∧ wx.cell? ⟨w.heap.size, 0, none⟩ = some (.int .u64 (q.1 : Int)) ∧ wx.cell? ⟨w.heap.size, 1, none⟩ = some (.int .u64 (q.2 : Int)) ∧ Below w.heap.size w wx ∧ wx.heap[w.heap.size]? = some (.cells #[.int .u64 (q.1 : Int), .int .u64 (q.2 : Int)] 75 (0, 0))) (first | exact hK0.out | exact fs_kept (by assumption) (by assumption) | (go_split_ands; exact fs_kept ⟨by assumption, by assumption, by assumption, by assumption, by assumption, by assumption⟩ (by assumption))) (first | (go_at_call_of 76 (Value.pointer (some ⟨gx, 0, none⟩)); refine (shows_calls _ (hTW.out _ (by go_split_ands; assumption)) gx X q.1 e hq1 hlt (hXW.out _ (by go_split_ands; assumption))).mono ?_; rintro e' w3 ⟨he', hB3⟩; rw [V1.out] at he'; subst he') | (go_at_call_of 76 (Value.pointer (some ⟨gs, 0, none⟩)); refine (shows_calls _ (hTW.out _ (by go_split_ands; assumption)) gs S q.2 e hq2 he1 (hSW.out _ (by go_split_ands; assumption))).mono ?_; rintro e' w3 ⟨he', hB3⟩; rw [V2.out] at he'; subst he'))
        obtain ⟨-, -, -, -, hBe, hbe⟩ := ‹_ ∧ _ ∧ _ ∧ _ ∧ _ ∧ _›
        have HE := Sd.mk (And.intro hBe hbe)
        clear hBe hbe
        go_wp2
        go_roundw
        case rel => exact ⟨e + 1, by omega, by omega, by go_num, ⟨by rw [hst.out]; rfl⟩, ⟨HE.out.1⟩, ⟨HE.out.2⟩⟩
        case measure => simp [intOf]; omega
      · go_wp2_with (go_at_call 48; refine (silence_calls _ gx X (hX'.out)).mono ?_; rintro e' w2 ⟨rfl, hB2⟩)
        have hK0 := Sd.mk (fs_kept (w0 := w) ⟨d0, d1, b0, b1, hB.out, hb.out⟩ (below_drew hB2))
        go_region_held3 (fun wx => wx.cell? ⟨g, 0, none⟩ = some (.pointer (some ⟨gx, 0, none⟩)) ∧ wx.cell? ⟨g, 1, none⟩ = some (.pointer (some ⟨gs, 0, none⟩)) ∧ wx.cell? ⟨w.heap.size, 0, none⟩ = some (.int .u64 (q.1 : Int)) ∧ wx.cell? ⟨w.heap.size, 1, none⟩ = some (.int .u64 (q.2 : Int)) ∧ Below w.heap.size w wx ∧ wx.heap[w.heap.size]? = some (.cells #[.int .u64 (q.1 : Int), .int .u64 (q.2 : Int)] 75 (0, 0))) (first | exact hK0.out | exact fs_kept (by assumption) (by assumption) | (go_split_ands; exact fs_kept ⟨by assumption, by assumption, by assumption, by assumption, by assumption, by assumption⟩ (by assumption))) (first | (go_at_call_of 76 (Value.pointer (some ⟨gx, 0, none⟩)); refine (shows_calls _ (hTW.out _ (by go_split_ands; assumption)) gx X q.1 e hq1 hlt (hXW.out _ (by go_split_ands; assumption))).mono ?_; rintro e' w3 ⟨he', hB3⟩; rw [V1.out] at he'; subst he') | (go_at_call_of 76 (Value.pointer (some ⟨gs, 0, none⟩)); refine (shows_calls _ (hTW.out _ (by go_split_ands; assumption)) gs S q.2 e hq2 he1 (hSW.out _ (by go_split_ands; assumption))).mono ?_; rintro e' w3 ⟨he', hB3⟩; rw [V2.out] at he'; subst he'))
        obtain ⟨-, -, -, -, hBe, hbe⟩ := ‹_ ∧ _ ∧ _ ∧ _ ∧ _ ∧ _›
        have HE := Sd.mk hBe
        clear hBe hbe
        go_wp2
        go_ret2
        exact ⟨by rw [hst.out]; rfl, HE.out⟩
      · go_wp2_with (go_at_call 48; refine (silence_calls _ gx X (hX'.out)).mono ?_; rintro e' w2 ⟨rfl, hB2⟩)
        have hK0 := Sd.mk (fs_kept (w0 := w) ⟨d0, d1, b0, b1, hB.out, hb.out⟩ (below_drew hB2))
        refine start_ (n := 19) (S := (fun wx => wx.cell? ⟨g, 0, none⟩ = some (.pointer (some ⟨gx, 0, none⟩)) ∧ wx.cell? ⟨g, 1, none⟩ = some (.pointer (some ⟨gs, 0, none⟩)) ∧ wx.cell? ⟨w.heap.size, 0, none⟩ = some (.int .u64 (q.1 : Int)) ∧ wx.cell? ⟨w.heap.size, 1, none⟩ = some (.int .u64 (q.2 : Int)) ∧ Below w.heap.size w wx ∧ wx.heap[w.heap.size]? = some (.cells #[.int .u64 (q.1 : Int), .int .u64 (q.2 : Int)] 75 (0, 0)))) (ds := []) #[false, false, false, false, false, false, false, false, false, false, false, false, false, false, false, false, false, false, false] rfl rfl rfl hK0.out (fun hHeld => ?_)
        refine pure_ (i := 0) (N := some 24) (v := ?_) (a' := ?_) #[true, false, false, false, false, false, false, false, false, false, false, false, false, false, false, false, false, false, false] rfl rfl (by kernel_rfl) (fun _ _ _ h => h) (Or.inl ⟨by rfl, ?_⟩) ?_ ?_
        rotate_left
        · intro w'
          go_simp
          with_reducible rfl
        rotate_left
        · simp only [Act.put, List.setIfInBounds_toArray, List.set_cons_zero, List.set_cons_succ]
          rfl
        refine pure_ (i := 1) (N := some 25) (v := ?_) (a' := ?_) #[true, true, false, false, false, false, false, false, false, false, false, false, false, false, false, false, false, false, false] rfl rfl (by kernel_rfl) (fun _ _ _ h => h) (Or.inl ⟨by rfl, ?_⟩) ?_ ?_
        rotate_left
        · intro w'
          go_simp
          with_reducible rfl
        rotate_left
        · simp only [Act.put, List.setIfInBounds_toArray, List.set_cons_zero, List.set_cons_succ]
          rfl
        refine pure_ (i := 2) (N := some 26) (v := ?_) (a' := ?_) #[true, true, true, false, false, false, false, false, false, false, false, false, false, false, false, false, false, false, false] rfl rfl (by kernel_rfl) (fun _ _ _ h => h) (Or.inl ⟨by rfl, ?_⟩) ?_ ?_
        rotate_left
        · intro w'
          go_simp
          with_reducible rfl
        rotate_left
        · simp only [Act.put, List.setIfInBounds_toArray, List.set_cons_zero, List.set_cons_succ]
          rfl
        refine take_ (i := 3) (N := some 27) (v := ?_) (a' := ?_) #[true, true, true, true, false, false, false, false, false, false, false, false, false, false, false, false, false, false, false] rfl rfl (by kernel_rfl) (fun _ _ _ h => h) (Or.inl ⟨by rfl, ?_⟩) hHeld ?_ ?_
        rotate_left
        · rintro w' hS'
          obtain ⟨q0, q1, q2, q3, -, -⟩ := hS'
          go_simp
          with_reducible rfl
        rotate_left
        · simp only [Act.put, List.setIfInBounds_toArray, List.set_cons_zero, List.set_cons_succ]
          rfl
        refine pure_ (i := 4) (N := some 28) (v := ?_) (a' := ?_) #[true, true, true, true, true, false, false, false, false, false, false, false, false, false, false, false, false, false, false] rfl rfl (by kernel_rfl) (fun _ _ _ h => h) (Or.inl ⟨by rfl, ?_⟩) ?_ ?_
        rotate_left
        · intro w'
          go_simp
          with_reducible rfl
        rotate_left
        · simp only [Act.put, List.setIfInBounds_toArray, List.set_cons_zero, List.set_cons_succ]
          rfl
        refine take_ (i := 5) (N := some 29) (v := ?_) (a' := ?_) #[true, true, true, true, true, true, false, false, false, false, false, false, false, false, false, false, false, false, false] rfl rfl (by kernel_rfl) (fun _ _ _ h => h) (Or.inl ⟨by rfl, ?_⟩) hHeld ?_ ?_
        rotate_left
        · rintro w' hS'
          obtain ⟨q0, q1, q2, q3, -, -⟩ := hS'
          go_simp
          with_reducible rfl
        rotate_left
        · simp only [Act.put, List.setIfInBounds_toArray, List.set_cons_zero, List.set_cons_succ]
          rfl
        refine pure_ (i := 6) (N := some 30) (v := ?_) (a' := ?_) #[true, true, true, true, true, true, true, false, false, false, false, false, false, false, false, false, false, false, false] rfl rfl (by kernel_rfl) (fun _ _ _ h => h) (Or.inl ⟨by rfl, ?_⟩) ?_ ?_
        rotate_left
        · intro w'
          go_simp
          with_reducible rfl
        rotate_left
        · simp only [Act.put, List.setIfInBounds_toArray, List.set_cons_zero, List.set_cons_succ]
          rfl
        refine one_ (i := 7) (N := some 31) #[true, true, true, true, true, true, true, true, false, false, false, false, false, false, false, false, false, false, false] rfl rfl (by kernel_rfl) (by decide) (fun K hK => ?_)
        refine goes_ Tryd.func76 (by kernel_rfl) rfl #[.pointer (some ⟨gx, 0, none⟩), .int .u64 (q.1 : Int), .int .i64 (e : Int)] (by rfl) rfl rfl (by simp [Act.eval]) ?_
        refine (shows_calls _ (hTW.out _ hHeld.2.2.2.2.1) gx X q.1 e hq1 hlt (hXW.out _ hHeld.2.2.2.2.1)).mono ?_
        rintro e' w3 ⟨he', hB3⟩
        rw [V1.out] at he'
        refine ⟨_, he', hK.out _ _ (fs_kept hHeld hB3) (fun hHeld2 => ?_)⟩
        clear hK K
        refine norm_ (a' := ?_) ?_ ?_
        rotate_left
        · simp only [Act.put, List.setIfInBounds_toArray, List.set_cons_zero, List.set_cons_succ]
          rfl
        refine pure_ (i := 8) (N := some 32) (v := ?_) (a' := ?_) #[true, true, true, true, true, true, true, true, true, false, false, false, false, false, false, false, false, false, false] rfl rfl (by kernel_rfl) (fun _ _ _ h => h) (Or.inl ⟨by rfl, ?_⟩) ?_ ?_
        rotate_left
        · intro w'
          go_simp
          with_reducible rfl
        rotate_left
        · simp only [Act.put, List.setIfInBounds_toArray, List.set_cons_zero, List.set_cons_succ]
          rfl
        refine pure_ (i := 9) (N := some 33) (v := undef) (a' := ?_) #[true, true, true, true, true, true, true, true, true, true, false, false, false, false, false, false, false, false, false] rfl rfl (by kernel_rfl) (fun _ _ _ h => h) (Or.inr ⟨by rfl, rfl⟩) ?_ ?_
        rotate_left
        · simp only [Act.put, List.setIfInBounds_toArray, List.set_cons_zero, List.set_cons_succ]
          rfl
        refine pure_ (i := 10) (N := some 34) (v := undef) (a' := ?_) #[true, true, true, true, true, true, true, true, true, true, true, false, false, false, false, false, false, false, false] rfl rfl (by kernel_rfl) (fun _ _ _ h => h) (Or.inr ⟨by rfl, rfl⟩) ?_ ?_
        rotate_left
        · simp only [Act.put, List.setIfInBounds_toArray, List.set_cons_zero, List.set_cons_succ]
          rfl
        refine pure_ (i := 11) (N := some 35) (v := undef) (a' := ?_) #[true, true, true, true, true, true, true, true, true, true, true, true, false, false, false, false, false, false, false] rfl rfl (by kernel_rfl) (fun _ _ _ h => h) (Or.inr ⟨by rfl, rfl⟩) ?_ ?_
        rotate_left
        · simp only [Act.put, List.setIfInBounds_toArray, List.set_cons_zero, List.set_cons_succ]
          rfl
        refine pure_ (i := 12) (N := some 36) (v := undef) (a' := ?_) #[true, true, true, true, true, true, true, true, true, true, true, true, true, false, false, false, false, false, false] rfl rfl (by kernel_rfl) (fun _ _ _ h => h) (Or.inr ⟨by rfl, rfl⟩) ?_ ?_
        rotate_left
        · simp only [Act.put, List.setIfInBounds_toArray, List.set_cons_zero, List.set_cons_succ]
          rfl
        refine pure_ (i := 13) (N := some 37) (v := undef) (a' := ?_) #[true, true, true, true, true, true, true, true, true, true, true, true, true, true, false, false, false, false, false] rfl rfl (by kernel_rfl) (fun _ _ _ h => h) (Or.inr ⟨by rfl, rfl⟩) ?_ ?_
        rotate_left
        · simp only [Act.put, List.setIfInBounds_toArray, List.set_cons_zero, List.set_cons_succ]
          rfl
        refine pure_ (i := 14) (N := some 38) (v := undef) (a' := ?_) #[true, true, true, true, true, true, true, true, true, true, true, true, true, true, true, false, false, false, false] rfl rfl (by kernel_rfl) (fun _ _ _ h => h) (Or.inr ⟨by rfl, rfl⟩) ?_ ?_
        rotate_left
        · simp only [Act.put, List.setIfInBounds_toArray, List.set_cons_zero, List.set_cons_succ]
          rfl
        refine pure_ (i := 15) (N := some 39) (v := undef) (a' := ?_) #[true, true, true, true, true, true, true, true, true, true, true, true, true, true, true, true, false, false, false] rfl rfl (by kernel_rfl) (fun _ _ _ h => h) (Or.inr ⟨by rfl, rfl⟩) ?_ ?_
        rotate_left
        · simp only [Act.put, List.setIfInBounds_toArray, List.set_cons_zero, List.set_cons_succ]
          rfl
        refine pure_ (i := 16) (N := some 40) (v := undef) (a' := ?_) #[true, true, true, true, true, true, true, true, true, true, true, true, true, true, true, true, true, false, false] rfl rfl (by kernel_rfl) (fun _ _ _ h => h) (Or.inr ⟨by rfl, rfl⟩) ?_ ?_
        rotate_left
        · simp only [Act.put, List.setIfInBounds_toArray, List.set_cons_zero, List.set_cons_succ]
          rfl
        refine pure_ (i := 17) (N := some 41) (v := undef) (a' := ?_) #[true, true, true, true, true, true, true, true, true, true, true, true, true, true, true, true, true, true, false] rfl rfl (by kernel_rfl) (fun _ _ _ h => h) (Or.inr ⟨by rfl, rfl⟩) ?_ ?_
        rotate_left
        · simp only [Act.put, List.setIfInBounds_toArray, List.set_cons_zero, List.set_cons_succ]
          rfl
        refine pure_ (i := 18) (N := some 42) (v := ?_) (a' := ?_) #[true, true, true, true, true, true, true, true, true, true, true, true, true, true, true, true, true, true, true] rfl rfl (by kernel_rfl) (fun _ _ _ h => h) (Or.inl ⟨by rfl, ?_⟩) ?_ ?_
        rotate_left
        · intro w'
          go_simp
          with_reducible rfl
        rotate_left
        · simp only [Act.put, List.setIfInBounds_toArray, List.set_cons_zero, List.set_cons_succ]
          rfl
        refine done_ (by kernel_rfl) ?_
        have HE := Sd.mk (And.intro hHeld2.2.2.2.2.1 hHeld2.2.2.2.2.2)
        clear hHeld hHeld2 hB3
        go_wp2
        go_roundw
        case rel => exact ⟨e + 1, by omega, by omega, by go_num, ⟨by rw [hst.out]; rfl⟩, ⟨HE.out.1⟩, ⟨HE.out.2⟩⟩
        case measure => simp [intOf]; omega
      · go_wp2_with (go_at_call 48; refine (silence_calls _ gx X (hX'.out)).mono ?_; rintro e' w2 ⟨rfl, hB2⟩)
        have hK0 := Sd.mk (fs_kept (w0 := w) ⟨d0, d1, b0, b1, hB.out, hb.out⟩ (below_drew hB2))
        refine start_ (n := 19) (S := (fun wx => wx.cell? ⟨g, 0, none⟩ = some (.pointer (some ⟨gx, 0, none⟩)) ∧ wx.cell? ⟨g, 1, none⟩ = some (.pointer (some ⟨gs, 0, none⟩)) ∧ wx.cell? ⟨w.heap.size, 0, none⟩ = some (.int .u64 (q.1 : Int)) ∧ wx.cell? ⟨w.heap.size, 1, none⟩ = some (.int .u64 (q.2 : Int)) ∧ Below w.heap.size w wx ∧ wx.heap[w.heap.size]? = some (.cells #[.int .u64 (q.1 : Int), .int .u64 (q.2 : Int)] 75 (0, 0)))) (ds := []) #[false, false, false, false, false, false, false, false, false, false, false, false, false, false, false, false, false, false, false] rfl rfl rfl hK0.out (fun hHeld => ?_)
        refine pure_ (i := 0) (N := some 24) (v := ?_) (a' := ?_) #[true, false, false, false, false, false, false, false, false, false, false, false, false, false, false, false, false, false, false] rfl rfl (by kernel_rfl) (fun _ _ _ h => h) (Or.inl ⟨by rfl, ?_⟩) ?_ ?_
        rotate_left
        · intro w'
          go_simp
          with_reducible rfl
        rotate_left
        · simp only [Act.put, List.setIfInBounds_toArray, List.set_cons_zero, List.set_cons_succ]
          rfl
        refine pure_ (i := 1) (N := some 25) (v := ?_) (a' := ?_) #[true, true, false, false, false, false, false, false, false, false, false, false, false, false, false, false, false, false, false] rfl rfl (by kernel_rfl) (fun _ _ _ h => h) (Or.inl ⟨by rfl, ?_⟩) ?_ ?_
        rotate_left
        · intro w'
          go_simp
          with_reducible rfl
        rotate_left
        · simp only [Act.put, List.setIfInBounds_toArray, List.set_cons_zero, List.set_cons_succ]
          rfl
        refine pure_ (i := 2) (N := some 26) (v := ?_) (a' := ?_) #[true, true, true, false, false, false, false, false, false, false, false, false, false, false, false, false, false, false, false] rfl rfl (by kernel_rfl) (fun _ _ _ h => h) (Or.inl ⟨by rfl, ?_⟩) ?_ ?_
        rotate_left
        · intro w'
          go_simp
          with_reducible rfl
        rotate_left
        · simp only [Act.put, List.setIfInBounds_toArray, List.set_cons_zero, List.set_cons_succ]
          rfl
        refine take_ (i := 3) (N := some 27) (v := ?_) (a' := ?_) #[true, true, true, true, false, false, false, false, false, false, false, false, false, false, false, false, false, false, false] rfl rfl (by kernel_rfl) (fun _ _ _ h => h) (Or.inl ⟨by rfl, ?_⟩) hHeld ?_ ?_
        rotate_left
        · rintro w' hS'
          obtain ⟨q0, q1, q2, q3, -, -⟩ := hS'
          go_simp
          with_reducible rfl
        rotate_left
        · simp only [Act.put, List.setIfInBounds_toArray, List.set_cons_zero, List.set_cons_succ]
          rfl
        refine pure_ (i := 4) (N := some 28) (v := ?_) (a' := ?_) #[true, true, true, true, true, false, false, false, false, false, false, false, false, false, false, false, false, false, false] rfl rfl (by kernel_rfl) (fun _ _ _ h => h) (Or.inl ⟨by rfl, ?_⟩) ?_ ?_
        rotate_left
        · intro w'
          go_simp
          with_reducible rfl
        rotate_left
        · simp only [Act.put, List.setIfInBounds_toArray, List.set_cons_zero, List.set_cons_succ]
          rfl
        refine take_ (i := 5) (N := some 29) (v := ?_) (a' := ?_) #[true, true, true, true, true, true, false, false, false, false, false, false, false, false, false, false, false, false, false] rfl rfl (by kernel_rfl) (fun _ _ _ h => h) (Or.inl ⟨by rfl, ?_⟩) hHeld ?_ ?_
        rotate_left
        · rintro w' hS'
          obtain ⟨q0, q1, q2, q3, -, -⟩ := hS'
          go_simp
          with_reducible rfl
        rotate_left
        · simp only [Act.put, List.setIfInBounds_toArray, List.set_cons_zero, List.set_cons_succ]
          rfl
        refine pure_ (i := 6) (N := some 30) (v := ?_) (a' := ?_) #[true, true, true, true, true, true, true, false, false, false, false, false, false, false, false, false, false, false, false] rfl rfl (by kernel_rfl) (fun _ _ _ h => h) (Or.inl ⟨by rfl, ?_⟩) ?_ ?_
        rotate_left
        · intro w'
          go_simp
          with_reducible rfl
        rotate_left
        · simp only [Act.put, List.setIfInBounds_toArray, List.set_cons_zero, List.set_cons_succ]
          rfl
        refine one_ (i := 7) (N := some 31) #[true, true, true, true, true, true, true, true, false, false, false, false, false, false, false, false, false, false, false] rfl rfl (by kernel_rfl) (by decide) (fun K hK => ?_)
        refine goes_ Tryd.func76 (by kernel_rfl) rfl #[.pointer (some ⟨gx, 0, none⟩), .int .u64 (q.1 : Int), .int .i64 (e : Int)] (by rfl) rfl rfl (by simp [Act.eval]) ?_
        refine (shows_calls _ (hTW.out _ hHeld.2.2.2.2.1) gx X q.1 e hq1 hlt (hXW.out _ hHeld.2.2.2.2.1)).mono ?_
        rintro e' w3 ⟨he', hB3⟩
        rw [V1.out] at he'
        refine ⟨_, he', hK.out _ _ (fs_kept hHeld hB3) (fun hHeld2 => ?_)⟩
        clear hK K
        refine norm_ (a' := ?_) ?_ ?_
        rotate_left
        · simp only [Act.put, List.setIfInBounds_toArray, List.set_cons_zero, List.set_cons_succ]
          rfl
        refine pure_ (i := 8) (N := some 32) (v := ?_) (a' := ?_) #[true, true, true, true, true, true, true, true, true, false, false, false, false, false, false, false, false, false, false] rfl rfl (by kernel_rfl) (fun _ _ _ h => h) (Or.inl ⟨by rfl, ?_⟩) ?_ ?_
        rotate_left
        · intro w'
          go_simp
          with_reducible rfl
        rotate_left
        · simp only [Act.put, List.setIfInBounds_toArray, List.set_cons_zero, List.set_cons_succ]
          rfl
        refine pure_ (i := 9) (N := some 33) (v := undef) (a' := ?_) #[true, true, true, true, true, true, true, true, true, true, false, false, false, false, false, false, false, false, false] rfl rfl (by kernel_rfl) (fun _ _ _ h => h) (Or.inr ⟨by rfl, rfl⟩) ?_ ?_
        rotate_left
        · simp only [Act.put, List.setIfInBounds_toArray, List.set_cons_zero, List.set_cons_succ]
          rfl
        refine pure_ (i := 10) (N := some 34) (v := undef) (a' := ?_) #[true, true, true, true, true, true, true, true, true, true, true, false, false, false, false, false, false, false, false] rfl rfl (by kernel_rfl) (fun _ _ _ h => h) (Or.inr ⟨by rfl, rfl⟩) ?_ ?_
        rotate_left
        · simp only [Act.put, List.setIfInBounds_toArray, List.set_cons_zero, List.set_cons_succ]
          rfl
        refine pure_ (i := 11) (N := some 35) (v := undef) (a' := ?_) #[true, true, true, true, true, true, true, true, true, true, true, true, false, false, false, false, false, false, false] rfl rfl (by kernel_rfl) (fun _ _ _ h => h) (Or.inr ⟨by rfl, rfl⟩) ?_ ?_
        rotate_left
        · simp only [Act.put, List.setIfInBounds_toArray, List.set_cons_zero, List.set_cons_succ]
          rfl
        refine pure_ (i := 12) (N := some 36) (v := undef) (a' := ?_) #[true, true, true, true, true, true, true, true, true, true, true, true, true, false, false, false, false, false, false] rfl rfl (by kernel_rfl) (fun _ _ _ h => h) (Or.inr ⟨by rfl, rfl⟩) ?_ ?_
        rotate_left
        · simp only [Act.put, List.setIfInBounds_toArray, List.set_cons_zero, List.set_cons_succ]
          rfl
        refine pure_ (i := 13) (N := some 37) (v := undef) (a' := ?_) #[true, true, true, true, true, true, true, true, true, true, true, true, true, true, false, false, false, false, false] rfl rfl (by kernel_rfl) (fun _ _ _ h => h) (Or.inr ⟨by rfl, rfl⟩) ?_ ?_
        rotate_left
        · simp only [Act.put, List.setIfInBounds_toArray, List.set_cons_zero, List.set_cons_succ]
          rfl
        refine pure_ (i := 14) (N := some 38) (v := undef) (a' := ?_) #[true, true, true, true, true, true, true, true, true, true, true, true, true, true, true, false, false, false, false] rfl rfl (by kernel_rfl) (fun _ _ _ h => h) (Or.inr ⟨by rfl, rfl⟩) ?_ ?_
        rotate_left
        · simp only [Act.put, List.setIfInBounds_toArray, List.set_cons_zero, List.set_cons_succ]
          rfl
        refine pure_ (i := 15) (N := some 39) (v := undef) (a' := ?_) #[true, true, true, true, true, true, true, true, true, true, true, true, true, true, true, true, false, false, false] rfl rfl (by kernel_rfl) (fun _ _ _ h => h) (Or.inr ⟨by rfl, rfl⟩) ?_ ?_
        rotate_left
        · simp only [Act.put, List.setIfInBounds_toArray, List.set_cons_zero, List.set_cons_succ]
          rfl
        refine pure_ (i := 16) (N := some 40) (v := undef) (a' := ?_) #[true, true, true, true, true, true, true, true, true, true, true, true, true, true, true, true, true, false, false] rfl rfl (by kernel_rfl) (fun _ _ _ h => h) (Or.inr ⟨by rfl, rfl⟩) ?_ ?_
        rotate_left
        · simp only [Act.put, List.setIfInBounds_toArray, List.set_cons_zero, List.set_cons_succ]
          rfl
        refine pure_ (i := 17) (N := some 41) (v := undef) (a' := ?_) #[true, true, true, true, true, true, true, true, true, true, true, true, true, true, true, true, true, true, false] rfl rfl (by kernel_rfl) (fun _ _ _ h => h) (Or.inr ⟨by rfl, rfl⟩) ?_ ?_
        rotate_left
        · simp only [Act.put, List.setIfInBounds_toArray, List.set_cons_zero, List.set_cons_succ]
          rfl
        refine pure_ (i := 18) (N := some 42) (v := ?_) (a' := ?_) #[true, true, true, true, true, true, true, true, true, true, true, true, true, true, true, true, true, true, true] rfl rfl (by kernel_rfl) (fun _ _ _ h => h) (Or.inl ⟨by rfl, ?_⟩) ?_ ?_
        rotate_left
        · intro w'
          go_simp
          with_reducible rfl
        rotate_left
        · simp only [Act.put, List.setIfInBounds_toArray, List.set_cons_zero, List.set_cons_succ]
          rfl
        refine done_ (by kernel_rfl) ?_
        have HE := Sd.mk (And.intro hHeld2.2.2.2.2.1 hHeld2.2.2.2.2.2)
        clear hHeld hHeld2 hB3
        go_wp2
        go_roundw
        case rel => exact ⟨e + 1, by omega, by omega, by go_num, ⟨by rw [hst.out]; rfl⟩, ⟨HE.out.1⟩, ⟨HE.out.2⟩⟩
        case measure => simp [intOf]; omega
    · obtain rfl : e = X.inp + X.out + 1 := by omega
      have hf' : Sd (failsS X S q = none) := ⟨by rw [hf.out, Nat.sub_self]; rfl⟩
      clear hf
      go_wp2_with (go_at_call 48; refine (silence_calls _ gx X (hX'.out)).mono ?_; rintro e' w2 ⟨rfl, hB2⟩)
      go_ret2
      exact ⟨by rw [hf'.out]; rfl, below_then hB.out hB.out.size hB2⟩
end Go.Proofs.YtcbhaeniahckhaaDoor
end
section
namespace Go.Proofs.YtcbhaeniahckhaaDoor
open Go.RowKit Go.Shelf Go.Deep
section
open Go.Lib Go.Sort

set_option maxHeartbeats 1600000 in
set_option maxRecDepth 1000000 in
theorem reverse_arr (blk off cap : Nat) (d : Array Int) (w : World) (hH : Holds encI w blk off d) (hsz : d.size ≤ 9223372036854775807) :
    Calls Tryd.prog 57 #[.slice (some ⟨blk, off, none⟩) d.size cap] w fun e w' => e = .returned (.tuple #[]) ∧ ∃ n, w' = putRow encI (Sort.ahead w n) blk off d.reverse := by
  go_enter Tryd.func57, Tryd.ntmps57
  go_wp2
  go_loopg [2, 3] d.size (fun k s2 s3 wr => ∃ (i jn : Nat) (jz : Int) (dk : Array Int) (n : Nat), s2 = .int .i64 i ∧ s3 = .int .i64 jz ∧ ((i : Int) < jz → jz = jn ∧ jn < d.size) ∧ (¬ (i : Int) < jz → ¬ i < jn) ∧ jn - i ≤ k ∧
    dk.size = d.size ∧ wr = putRow encI (Sort.ahead w n) blk off dk ∧ reverseLoop i jn dk = reverseLoop 0 (d.size - 1) d)
  case atStart => exact ⟨0, d.size - 1, (d.size : Int) - 1, d, 0, rfl, rfl, fun h => ⟨by omega, by omega⟩, fun h => by omega, by omega, rfl, (putRow_self encI w blk off d hH).symm, rfl⟩
  case round =>
    obtain ⟨i, jn, jz, dk, n, rfl, rfl, h1, h2, hk, hds, hwr, heq⟩ := hrel
    by_cases hlt : (i : Int) < jz
    · obtain ⟨rfl, hjn⟩ := h1 hlt
      have hij : i < jn := by omega
      have hHk : Holds encI wr blk off dk := by rw [hwr]; exact holds_putRow encI _ blk off d dk (holds_ahead encI w n blk off d hH) hds
      obtain ⟨ci, fi⟩ := hHk i (by omega)
      obtain ⟨cj, fj⟩ := hHk jn (by omega)
      have A : Sd (wr = putRow encI (Sort.ahead w n) blk off dk) := ⟨hwr⟩
      clear hwr hHk hH h1 h2
      go_wp2_with fail
      go_region
      go_wp2
      go_roundg (jn - 1 - (i + 1))
      case measure => omega
      case rel =>
        rw [reverseLoop, if_pos hij] at heq
        exact ⟨i + 1, jn - 1, (jn : Int) - 1, swp dk i jn, n + 1, by simp, rfl, fun h => ⟨by omega, by omega⟩, fun h => by omega, Nat.le_refl _, by rw [size_swp]; exact hds,
          swap_world encI (by omega) (by omega) A.out (by first | rfl | simp [encI, getElem!_pos, show jn < dk.size by omega]) (by first | rfl | simp [encI, getElem!_pos, show i < dk.size by omega]), heq⟩
    · have hnot := h2 hlt
      go_wp2
      go_end0
      refine ⟨rfl, n, ?_⟩
      rw [reverseLoop, if_neg hnot] at heq
      rw [← Lib.reverseLoop_reverse, ← heq]

theorem reverse_calls (base w0 : Nat) (w : World) (v : Value) (xs : List Int) (hx : xs ≠ []) (h : w.ownsRow base 3 1 v xs.length (xs.map (Value.int .i64))) (hb : w0 ≤ base) :
    Calls Tryd.prog 57 #[v] w fun e w' => e = .returned (.tuple #[]) ∧ w'.ownsRow base 3 1 v xs.reverse.length (xs.reverse.map (Value.int .i64)) ∧ Below w0 w w' := by
  have hne : v ≠ .slice none 0 0 := by
    rintro rfl
    rcases h.2 with ⟨_, e⟩ | ⟨g, cap, cur, e, _⟩
    · exact hx (List.length_eq_zero_iff.1 e)
    · cases e
  obtain ⟨g, cap, rfl, h1, h2, h3, h4, h5, hH⟩ := holds_of_ownsRow h hne
  have hR := reverse_arr g 0 cap xs.toArray w hH (by simp; unfold maxLen at h4; omega)
  rw [List.size_toArray] at hR
  refine hR.mono ?_
  rintro e w' ⟨rfl, n, rfl⟩
  refine ⟨rfl, ?_, below_putRow (Below.refl _ _) (by omega)⟩
  have := ownsRow_putRow (q := n) (k := xs.length) (ys := xs.reverse) h (by simp) (Nat.le_refl _)
  rw [List.take_of_length_le (by simp)] at this
  rw [List.length_reverse, List.reverse_toArray]
  exact this
end
/-- what a new comparison looks like, before its first pair -/
structure Init (w wx : World) (g gx gs bm : Nat) (X S : SysP) : Prop where
  below : Below w.heap.size w wx
  gg : w.heap.size ≤ g
  gm : w.heap.size ≤ bm
  blk : wx.heap[g]? = some (.cells #[.pointer (some ⟨gx, 0, none⟩), .pointer (some ⟨gs, 0, none⟩), .slice none 0 0, .slice none 0 0, .slice none 0 0, .map (some bm)] 71 (0, 0))
  wc : ∃ wb : World, wb.heap.size ≤ g ∧ Sys wb gx X ∧ Sys wb gs S ∧ Tab wb ∧ Below wb.heap.size wb wx
  map : MapIs wx bm []
theorem Sys.below {w w' : World} {g : Nat} {S : SysP} (h : Sys w g S) (hB : Below w.heap.size w w') : Sys w' g S := by
  obtain ⟨mv, Ab, cb, As, cs, Ar, cr, h⟩ := h
  exact ⟨mv, Ab, cb, As, cs, Ar, cr, h.below hB⟩
theorem Init.later {w wx wy : World} {g gx gs bm : Nat} {X S : SysP} (h : Init w wx g gx gs bm X S) (hB : Below wx.heap.size wx wy) : Init w wy g gx gs bm X S := by
  refine ⟨below_then h.below h.below.size hB, h.gg, h.gm, (hB.block g (Array.getElem?_eq_some_iff.1 h.blk).1).trans h.blk, ?_, ?_⟩
  · obtain ⟨wb, h1, h2, h3, h4, h5⟩ := h.wc
    exact ⟨wb, h1, h2, h3, h4, below_then h5 h5.size hB⟩
  · obtain ⟨es, clock, hb, he⟩ := h.map
    exact ⟨es, clock, (hB.block bm (Array.getElem?_eq_some_iff.1 hb).1).trans hb, he⟩
def KeptC (wb w : World) : Prop := ∀ (k : Nat) (cs : Array Value) (t : TypeId) (fr : Nat × Nat), wb.heap[k]? = some (.cells cs t fr) → w.heap[k]? = some (.cells cs t fr)
theorem KeptC.refl (w : World) : KeptC w w := fun _ _ _ _ h => h
theorem KeptC.below {wb w w' : World} (h : KeptC wb w) (hB : Below w.heap.size w w') : KeptC wb w' := fun k cs t fr hk => (hB.block k (Array.getElem?_eq_some_iff.1 (h k cs t fr hk)).1).trans (h k cs t fr hk)
theorem KeptC.cell {wb w : World} (h : KeptC wb w) {p : Addr} {v : Value} (hp : wb.cell? p = some v) : w.cell? p = some v := by
  unfold World.cell? at hp ⊢
  split at hp
  · next c t fr hb =>
    rw [h _ _ _ _ hb]
    exact hp
  · cases hp
theorem Sys.keptC {wb w : World} {g : Nat} {S : SysP} (h : Sys wb g S) (hk : KeptC wb w) : Sys w g S := by
  obtain ⟨mv, Ab, cb, As, cs, Ar, cr, h⟩ := h
  exact ⟨mv, Ab, cb, As, cs, Ar, cr, hk _ _ _ _ h.blk, h.hs, h.hN, h.hi, h.ho, fun a ha => hk.cell (h.rows a ha), fun a ha e he => let ⟨ad, e1, e2⟩ := h.cells a ha e he; ⟨ad, e1, hk.cell e2⟩, fun a ha => hk.cell (h.sils a ha), h.byb, h.silb⟩
theorem Tab.keptC {wb w : World} (h : Tab wb) (hk : KeptC wb w) : Tab w := fun j hj => hk.cell (h j hj)
/-- a comparison at work -/
structure Comp (w0 w : World) (g gx gs bm : Nat) (vp vf vb : Value) (ps : List (Nat × Nat)) (fr bs : List Int) (X S : SysP) : Prop where
  at_ : CmpAt w0 w g gx gs bm vp vf vb ps fr bs
  wc : ∃ wb : World, wb.heap.size ≤ g ∧ Sys wb gx X ∧ Sys wb gs S ∧ Tab wb ∧ KeptC wb w
  op : ∀ k, vp.ownBlock = some k → g < k
  of : ∀ k, vf.ownBlock = some k → g < k
  ob : ∀ k, vb.ownBlock = some k → g < k
namespace Comp
variable {w0 w w' : World} {g gx gs bm : Nat} {vp vf vb vp' vf' vb' : Value} {ps ps' : List (Nat × Nat)} {fr bs fr' bs' : List Int} {X S : SysP}
theorem sx (h : Comp w0 w g gx gs bm vp vf vb ps fr bs X S) : Sys w gx X := let ⟨_, _, hx, _, _, hk⟩ := h.wc; hx.keptC hk
theorem ss (h : Comp w0 w g gx gs bm vp vf vb ps fr bs X S) : Sys w gs S := let ⟨_, _, _, hx, _, hk⟩ := h.wc; hx.keptC hk
theorem tab (h : Comp w0 w g gx gs bm vp vf vb ps fr bs X S) : Tab w := let ⟨_, _, _, _, hx, hk⟩ := h.wc; hx.keptC hk
theorem later (h : Comp w0 w g gx gs bm vp vf vb ps fr bs X S) (hB : Below w.heap.size w w') : Comp w0 w' g gx gs bm vp vf vb ps fr bs X S :=
  ⟨h.at_.step hB, let ⟨wb, h1, h2, h3, h4, hk⟩ := h.wc; ⟨wb, h1, h2, h3, h4, hk.below hB⟩, h.op, h.of, h.ob⟩
theorem gl (h : Comp w0 w g gx gs bm vp vf vb ps fr bs X S) : g < w.heap.size := (Array.getElem?_eq_some_iff.1 h.at_.blk).1
theorem added (h : Comp w0 w g gx gs bm vp vf vb ps fr bs X S) (hA : CmpAt w0 w' g gx gs bm vp' vf' vb' ps' fr' bs') 
    (hf : ∀ k, k < w.heap.size → k ≠ g → k ≠ bm → vp.ownBlock ≠ some k → vf.ownBlock ≠ some k → vb.ownBlock ≠ some k → w'.heap[k]? = w.heap[k]?) (a1 : J.At w vp vp') (a2 : J.At w vf vf') (a3 : J.At w vb vb') : Comp w0 w' g gx gs bm vp' vf' vb' ps' fr' bs' X S := by
  have hgl := h.gl
  have hown : ∀ {v v' : Value}, (∀ k, v.ownBlock = some k → g < k) → J.At w v v' → ∀ k, v'.ownBlock = some k → g < k := by
    intro v v' h1 ha k hk
    rcases ha with ha | ⟨b, hb, hlt⟩
    · exact h1 k (ha ▸ hk)
    · rw [hb] at hk
      cases hk
      omega
  refine ⟨hA, ?_, hown h.op a1, hown h.of a2, hown h.ob a3⟩
  obtain ⟨wb, h1, h2, h3, h4, hk⟩ := h.wc
  refine ⟨wb, h1, h2, h3, h4, fun k cs t fr hc => ?_⟩
  have hw := hk k cs t fr hc
  have hkb : k < wb.heap.size := (Array.getElem?_eq_some_iff.1 hc).1
  have n1 : ∀ {v : Value}, (∀ k, v.ownBlock = some k → g < k) → v.ownBlock ≠ some k := fun h1 e => by have := h1 k e; omega
  rw [hf k (Array.getElem?_eq_some_iff.1 hw).1 (by omega) ?_ (n1 h.op) (n1 h.of) (n1 h.ob)]
  · exact hw
  · rintro rfl
    obtain ⟨es, clock, hb, _⟩ := h.at_.map
    rw [hw] at hb
    cases hb
end Comp
theorem Comp.held {w0 w : World} {g gx gs bm : Nat} {vp vf vb : Value} {ps : List (Nat × Nat)} {fr bs : List Int} {X S : SysP} (h : Comp w0 w g gx gs bm vp vf vb ps fr bs X S) :
    w.cell? ⟨g, 0, none⟩ = some (.pointer (some ⟨gx, 0, none⟩)) ∧ w.cell? ⟨g, 1, none⟩ = some (.pointer (some ⟨gs, 0, none⟩)) ∧ Sys w gx X ∧ Sys w gs S ∧ Tab w := ⟨cell_blk h.at_.blk 0, cell_blk h.at_.blk 1, h.sx, h.ss, h.tab⟩
theorem Init.held {w0 w : World} {g gx gs bm : Nat} {X S : SysP} (h : Init w0 w g gx gs bm X S) :
    w.drew.cell? ⟨g, 0, none⟩ = some (.pointer (some ⟨gx, 0, none⟩)) ∧ w.drew.cell? ⟨g, 1, none⟩ = some (.pointer (some ⟨gs, 0, none⟩)) ∧ Sys w.drew gx X ∧ Sys w.drew gs S ∧ Tab w.drew := by
  obtain ⟨wb, h1, h2, h3, h4, h5⟩ := h.wc
  have h6 := below_drew h5
  exact ⟨cell_blk (w := w.drew) h.blk 0, cell_blk (w := w.drew) h.blk 1, h2.below h6, h3.below h6, h4.below h6⟩
theorem held_kept {w w' : World} {g gx gs : Nat} {u v : Value} {X S : SysP} (h0 : w.cell? ⟨g, 0, none⟩ = some u) (h1 : w.cell? ⟨g, 1, none⟩ = some v) (hx : Sys w gx X) (hs : Sys w gs S) (hT : Tab w) (hB : Below w.heap.size w w') :
    w'.cell? ⟨g, 0, none⟩ = some u ∧ w'.cell? ⟨g, 1, none⟩ = some v ∧ Sys w' gx X ∧ Sys w' gs S ∧ Tab w' := ⟨cell_later hB h0, cell_later hB h1, hx.below hB, hs.below hB, hT.below hB⟩
theorem Init.cmp {w0 w : World} {g gx gs bm : Nat} {X S : SysP} (h : Init w0 w g gx gs bm X S) : CmpAt w0 w g gx gs bm (.slice none 0 0) (.slice none 0 0) (.slice none 0 0) [] [] [] :=
  ⟨h.below, h.gg, h.gm, h.blk, World.ownsRow_nil _ _ _ _, World.ownsRow_nil _ _ _ _, World.ownsRow_nil _ _ _ _, fun k hk => by simp [Value.ownBlock] at hk, h.map⟩
theorem Init.comp {w0 w w' : World} {g gx gs bm : Nat} {X S : SysP} {vp' vf' vb' : Value} {ps' : List (Nat × Nat)} {fr' bs' : List Int} (h : Init w0 w g gx gs bm X S) (hA : CmpAt w0 w' g gx gs bm vp' vf' vb' ps' fr' bs')
    (hf : ∀ k, k < w.heap.size → k ≠ g → k ≠ bm → (Value.slice none 0 0).ownBlock ≠ some k → (Value.slice none 0 0).ownBlock ≠ some k → (Value.slice none 0 0).ownBlock ≠ some k → w'.heap[k]? = w.heap[k]?) (a1 : J.At w (.slice none 0 0) vp') (a2 : J.At w (.slice none 0 0) vf') (a3 : J.At w (.slice none 0 0) vb') : Comp w0 w' g gx gs bm vp' vf' vb' ps' fr' bs' X S :=
  Comp.added (w := w) (vp := .slice none 0 0) (vf := .slice none 0 0) (vb := .slice none 0 0) (ps := []) (fr := []) (bs := []) ⟨h.cmp, let ⟨wb, h1, h2, h3, h4, h5⟩ := h.wc; ⟨wb, h1, h2, h3, h4, (KeptC.refl wb).below h5⟩, fun k hk => by simp [Value.ownBlock] at hk, fun k hk => by simp [Value.ownBlock] at hk, fun k hk => by simp [Value.ownBlock] at hk⟩ hA hf a1 a2 a3
theorem firsts_calls (w : World) (hT : Tab w) (g : Nat) (S : SysP) (h : Sys w g S) : Calls Tryd.prog 47 #[.pointer (some ⟨g, 0, none⟩)] w fun e w' => e = .returned (.int .u64 (firstS S)) ∧ Below w.heap.size w w' := by
  obtain ⟨mv, Ab, cb, As, cs, Ar, cr, h⟩ := h
  exact first_calls w hT g S h
theorem afters_calls (w : World) (hT : Tab w) (g : Nat) (S : SysP) (l e : Nat) (hl : l < 2 ^ S.N) (he : e ≤ S.inp + S.out) (h : Sys w g S) : Calls Tryd.prog 49 #[.pointer (some ⟨g, 0, none⟩), .int .u64 l, .int .i64 e] w fun e' w' => e' = .returned (.int .u64 (afterS S l e)) ∧ Below w.heap.size w w' := by
  obtain ⟨mv, Ab, cb, As, cs, Ar, cr, h⟩ := h
  exact after_calls w hT g S l e hl he h
theorem two_boxes {w W : World} {n m : Nat} {a0 a1 a2 a3 a4 b0 b1 b2 b3 b4 : Value} {t : TypeId} (hX : W.heap[n]? = some (.cells #[a0, a1, a2, a3, a4] t (0, 0))) (hY : W.heap[m]? = some (.cells #[b0, b1, b2, b3, b4] t (0, 0))) (hB : Below w.heap.size w W) :
    W.heap[n]? = some (.cells #[a0, a1, a2, a3, a4] t (0, 0)) ∧ W.heap[m]? = some (.cells #[b0, b1, b2, b3, b4] t (0, 0)) ∧ Below w.heap.size w W ∧
    W.cell? ⟨n, 0, none⟩ = some a0 ∧ W.cell? ⟨n, 1, none⟩ = some a1 ∧ W.cell? ⟨n, 2, none⟩ = some a2 ∧ W.cell? ⟨n, 3, none⟩ = some a3 ∧ W.cell? ⟨n, 4, none⟩ = some a4 ∧
    W.cell? ⟨m, 0, none⟩ = some b0 ∧ W.cell? ⟨m, 1, none⟩ = some b1 ∧ W.cell? ⟨m, 2, none⟩ = some b2 ∧ W.cell? ⟨m, 3, none⟩ = some b3 ∧ W.cell? ⟨m, 4, none⟩ = some b4 :=
  ⟨hX, hY, hB, cell_blk hX 0, cell_blk hX 1, cell_blk hX 2, cell_blk hX 3, cell_blk hX 4, cell_blk hY 0, cell_blk hY 1, cell_blk hY 2, cell_blk hY 3, cell_blk hY 4⟩
theorem two_kept {w W W2 : World} {n m : Nat} {a0 a1 a2 a3 a4 b0 b1 b2 b3 b4 : Value} {t : TypeId} (hX : W.heap[n]? = some (.cells #[a0, a1, a2, a3, a4] t (0, 0))) (hY : W.heap[m]? = some (.cells #[b0, b1, b2, b3, b4] t (0, 0))) (hB : Below w.heap.size w W) (k : Below W.heap.size W W2) :
    W2.heap[n]? = some (.cells #[a0, a1, a2, a3, a4] t (0, 0)) ∧ W2.heap[m]? = some (.cells #[b0, b1, b2, b3, b4] t (0, 0)) ∧ Below w.heap.size w W2 ∧
    W2.cell? ⟨n, 0, none⟩ = some a0 ∧ W2.cell? ⟨n, 1, none⟩ = some a1 ∧ W2.cell? ⟨n, 2, none⟩ = some a2 ∧ W2.cell? ⟨n, 3, none⟩ = some a3 ∧ W2.cell? ⟨n, 4, none⟩ = some a4 ∧
    W2.cell? ⟨m, 0, none⟩ = some b0 ∧ W2.cell? ⟨m, 1, none⟩ = some b1 ∧ W2.cell? ⟨m, 2, none⟩ = some b2 ∧ W2.cell? ⟨m, 3, none⟩ = some b3 ∧ W2.cell? ⟨m, 4, none⟩ = some b4 :=
  two_boxes ((k.block _ (Array.getElem?_eq_some_iff.1 hX).1).trans hX) ((k.block _ (Array.getElem?_eq_some_iff.1 hY).1).trans hY) (below_then hB hB.size k)
theorem init_mk {w wb : World} {gx gs bm : Nat} {X S : SysP} (n : Nat) (hn : n = wb.heap.size) (hB : Below w.heap.size w wb) (hX : Sys wb gx X) (hS : Sys wb gs S) (hT : Tab wb) (hbm : w.heap.size ≤ bm) (hm : wb.heap[bm]? = some (.map #[] 0)) :
    Init w (wb.alloc (.cells #[.pointer (some ⟨gx, 0, none⟩), .pointer (some ⟨gs, 0, none⟩), .slice none 0 0, .slice none 0 0, .slice none 0 0, .map (some bm)] 71)) n gx gs bm X S := by
  subst hn
  exact   ⟨hB.alloc hB.size _, hB.size, hbm, heap_alloc_new _ _, ⟨wb, Nat.le_refl _, hX, hS, hT, (Below.refl _ _).alloc (Nat.le_refl _) _⟩, ⟨#[], 0, (heap_alloc_old _ _ (Array.getElem?_eq_some_iff.1 hm).1).trans hm, by simp [entOk]⟩⟩
theorem alloc_below (W : World) (o : Obj) : Below W.heap.size W (W.alloc o) := (Below.refl _ _).alloc (Nat.le_refl _) _
set_option maxHeartbeats 4000000 in
set_option maxRecDepth 100000 in
theorem compared_calls (w : World) (hT : Tab w) (x y : Rx) (hx : x.ok) (hy : y.ok) (A A' : Option Addr) (c c' : Nat) (hr : RdM w A x.mvs) (hr' : RdM w A' y.mvs) :
    Calls Tryd.prog 29 #[rxV x A c, rxV y A' c'] w fun e w' => ∃ g gx gs bm vp vf vb, e = .returned (.pointer (some ⟨g, 0, none⟩)) ∧ Comp w w' g gx gs bm vp vf vb [(firstS (sysOf x), firstS (sysOf y))] [-1] [-1] (sysOf x) (sysOf y) := by
  unfold rxV
  have HR := Sd.mk hr
  have HR' := Sd.mk hr'
  have HT := Sd.mk hT
  clear hr hr' hT
  have hmm := @run_makeMap Tryd.prog
  go_enter Tryd.func29, Tryd.ntmps29
  go_upto_region 1 with fail
  go_cut [5] (fun s5 wx => ∃ g gx gs bm, s5 = .pointer (some ⟨g, 0, none⟩) ∧ Init w wx g gx gs bm (sysOf x) (sysOf y))
  case first =>
    have K0 := Sd.mk (two_boxes (w := w) (W := ((w.alloc (.cells #[.int .i64 x.N, .int .i64 x.start, .int .i64 x.inp, .int .i64 x.out, .slice A x.mvs.length c] 24)).alloc (.cells #[.int .i64 y.N, .int .i64 y.start, .int .i64 y.inp, .int .i64 y.out, .slice A' y.mvs.length c'] 24)).drew) ((heap_alloc_old _ _ (by simp)).trans (heap_alloc_new w _)) (alloc_drew_at _ _ (w.heap.size + 1) (by simp)) (below_drew (((Below.refl _ _).alloc (Nat.le_refl _) _).alloc (by simp) _)))
    go_region_held3 (fun wx => wx.heap[w.heap.size]? = some (.cells #[.int .i64 x.N, .int .i64 x.start, .int .i64 x.inp, .int .i64 x.out, .slice A x.mvs.length c] 24 (0, 0)) ∧ wx.heap[w.heap.size + 1]? = some (.cells #[.int .i64 y.N, .int .i64 y.start, .int .i64 y.inp, .int .i64 y.out, .slice A' y.mvs.length c'] 24 (0, 0)) ∧ Below w.heap.size w wx ∧
      wx.cell? ⟨w.heap.size, 0, none⟩ = some (.int .i64 x.N) ∧ wx.cell? ⟨w.heap.size, 1, none⟩ = some (.int .i64 x.start) ∧ wx.cell? ⟨w.heap.size, 2, none⟩ = some (.int .i64 x.inp) ∧ wx.cell? ⟨w.heap.size, 3, none⟩ = some (.int .i64 x.out) ∧ wx.cell? ⟨w.heap.size, 4, none⟩ = some (.slice A x.mvs.length c) ∧
      wx.cell? ⟨w.heap.size + 1, 0, none⟩ = some (.int .i64 y.N) ∧ wx.cell? ⟨w.heap.size + 1, 1, none⟩ = some (.int .i64 y.start) ∧ wx.cell? ⟨w.heap.size + 1, 2, none⟩ = some (.int .i64 y.inp) ∧ wx.cell? ⟨w.heap.size + 1, 3, none⟩ = some (.int .i64 y.out) ∧ wx.cell? ⟨w.heap.size + 1, 4, none⟩ = some (.slice A' y.mvs.length c'))
      (first | exact K0.out | (go_split_ands; exact two_kept (by assumption) (by assumption) (by assumption) (by assumption)) | (go_split_ands; exact two_kept (by assumption) (by assumption) (by assumption) (alloc_below _ _)))
      (first | (go_at_call_of 39 (Value.agg #[Value.int IntKind.i64 x.N, Value.int IntKind.i64 x.start, Value.int IntKind.i64 x.inp, Value.int IntKind.i64 x.out, Value.slice A x.mvs.length c]); refine (systemOf_calls _ x hx A c (HR.out.below (by go_split_ands; assumption))).mono ?_; rintro e' w2 ⟨gx, rfl, hsX, hBX⟩) | (go_at_call_of 39 (Value.agg #[Value.int IntKind.i64 y.N, Value.int IntKind.i64 y.start, Value.int IntKind.i64 y.inp, Value.int IntKind.i64 y.out, Value.slice A' y.mvs.length c']); refine (systemOf_calls _ y hy A' c' (HR'.out.below (by go_split_ands; assumption))).mono ?_; rintro e' w3 ⟨gs, rfl, hsS, hBS⟩))
    all_goals (go_wp2_with fail; go_meet)
    · have B2 := below_then K0.out.2.2.1 K0.out.2.2.1.size hBX
      have B3 := below_then B2 B2.size hBS
      have Bm := alloc_below w3 (Obj.map #[] 0)
      exact ⟨w3.heap.size + 1, gx, gs, w3.heap.size, rfl, init_mk _ (by simp) (below_then B3 B3.size Bm) ((hsX.below hBS).below Bm) (hsS.below Bm) (HT.out.below (below_then B3 B3.size Bm)) B3.size (heap_alloc_new _ _)⟩
    · have B2 := below_then K0.out.2.2.1 K0.out.2.2.1.size hBX
      have Bm := alloc_below w2 (Obj.map #[] 0)
      have Bn := below_then B2 B2.size Bm
      have B3 := below_then Bn Bn.size hBS
      exact ⟨w3.heap.size, gx, gs, w2.heap.size, rfl, init_mk _ rfl B3 ((hsX.below Bm).below hBS) hsS (HT.out.below B3) B2.size ((hBS.block _ (by simp)).trans (heap_alloc_new _ _))⟩
    · have B0 := K0.out.2.2.1
      have Bn := below_then B0 B0.size (alloc_below _ (Obj.map #[] 0))
      have B2 := below_then Bn Bn.size hBX
      have B3 := below_then B2 B2.size hBS
      exact ⟨w3.heap.size, gx, gs, _, rfl, init_mk _ rfl B3 (hsX.below hBS) hsS (HT.out.below B3) (by have := B0.size; simp; omega) ((hBS.block _ (Nat.lt_of_lt_of_le (by simp) hBX.size)).trans ((hBX.block _ (by simp)).trans (alloc_drew_at _ _ _ (by simp))))⟩
  case rest =>
    obtain ⟨g, gx, gs, bm, rfl, hI⟩ := hcut
    have i0 := cell_blk hI.blk 0
    have i1 := cell_blk hI.blk 1
    have HI := Sd.mk hI
    clear hI
    have hgl := (Array.getElem?_eq_some_iff.1 HI.out.blk).1
    have KX := Sd.mk (fun (w1 : World) (h1 : Below _ _ w1) => HI.out.later h1)
    have K0 := Sd.mk (HI.out.held)
    go_wp2_with fail
    go_region_held3 (fun wx => wx.cell? ⟨g, 0, none⟩ = some (.pointer (some ⟨gx, 0, none⟩)) ∧ wx.cell? ⟨g, 1, none⟩ = some (.pointer (some ⟨gs, 0, none⟩)) ∧ Sys wx gx (sysOf x) ∧ Sys wx gs (sysOf y) ∧ Tab wx)
      (first | exact K0.out | (go_split_ands; exact held_kept (by assumption) (by assumption) (by assumption) (by assumption) (by assumption) (by assumption)) | exact hCo.held)
      (first | (go_at_call_of 47 (Value.pointer (some ⟨gx, 0, none⟩)); refine (firsts_calls _ (by go_split_ands; assumption) gx (sysOf x) (by go_split_ands; assumption)).mono ?_; rintro e' w2 ⟨rfl, hB2⟩) | (go_at_call_of 47 (Value.pointer (some ⟨gs, 0, none⟩)); refine (firsts_calls _ (by go_split_ands; assumption) gs (sysOf y) (by go_split_ands; assumption)).mono ?_; rintro e' w3 ⟨rfl, hB3⟩) |
        (go_at_call 55; have hI3 := (KX.out w2 ((below_drew (Below.refl _ _)).trans hB2)).later hB3; refine (add_new w _ g gx gs bm _ _ _ [] [] [] hI3.cmp (firstS (sysOf x), firstS (sysOf y)) (by simp) (-1) (-1) (by simp) (by simp) (by simp)).mono ?_; rintro e' w4 ⟨rfl, vp, vf, vb, hA, hsz4, hf4, a1, a2, a3⟩; have hCo := hI3.comp hA hf4 a1 a2 a3; clear hA hsz4 hf4 a1 a2 a3 hI3))
    have HC := Sd.mk hCo
    clear hCo
    go_wp2
    go_ret
    exact ⟨g, gx, gs, bm, vp, vf, vb, rfl, HC.out⟩
end Go.Proofs.YtcbhaeniahckhaaDoor
end
