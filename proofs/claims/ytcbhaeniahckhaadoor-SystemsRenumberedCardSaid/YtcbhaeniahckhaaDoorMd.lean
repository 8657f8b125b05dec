/- The search's step at a new pair, walked. Conditions: those that the theorem names. -/
import Derived.Test.YtcbhaeniahckhaaDoorMc
set_option linter.unusedSimpArgs false
set_option linter.unusedVariables false
namespace Go.Proofs.YtcbhaeniahckhaaDoor
open Go.RowKit Go.Shelf Go.Deep Go.Proofs.YtcbhaeniahckhaaDoorW.PrintLast

theorem CmpAt.moved {wb w w2 : World} {g gx gs bm : Nat} {vp vf vb : Value} {ps ps' : List (Nat × Nat)} {fr bs : List Int} (h : CmpAt wb w g gx gs bm vp vf vb ps fr bs) (hg : w.grownBy w2 (some bm)) (hm : MapIs w2 bm ps') :
    Below wb.heap.size wb w2 ∧ w2.heap[g]? = some (.cells #[.pointer (some ⟨gx, 0, none⟩), .pointer (some ⟨gs, 0, none⟩), vp, vf, vb, .map (some bm)] 71 (0, 0)) ∧ w2.ownsRow wb.heap.size 75 2 vp ps.length (ps.flatMap pcells) ∧ w2.ownsRow wb.heap.size 3 1 vf fr.length (fr.map (Value.int .i64)) ∧ w2.ownsRow wb.heap.size 3 1 vb bs.length (bs.map (Value.int .i64)) ∧ MapIs w2 bm ps' := by
  have hmb : ∀ {v : Value} {e size n : Nat} {xs : List Value}, w.ownsRow wb.heap.size e size v n xs → v.ownBlock = none ∨ v.ownBlock ≠ some bm := by
    intro v e size n xs ho
    rcases ho.2 with ⟨rfl, _⟩ | ⟨k, cap, cur, rfl, _, hk, _⟩
    · exact .inl rfl
    · refine .inr (fun e => ?_)
      simp [Value.ownBlock] at e
      subst e
      obtain ⟨es, clock, hb, _⟩ := h.map
      rw [hk] at hb
      simp at hb
  refine ⟨h.below.grown hg (h.below.size) (fun k hk => by cases hk; exact h.gm), ?_, h.rp.kept hg (hmb h.rp), h.rf.kept hg (hmb h.rf), h.rb.kept hg (hmb h.rb), hm⟩
  refine (hg.block g (Array.getElem?_eq_some_iff.1 h.blk).1 (fun e => ?_)).trans h.blk
  cases e
  obtain ⟨es, clock, hb, _⟩ := h.map
  rw [h.blk] at hb
  simp at hb

theorem own_ne_blk {w : World} {B e size n g : Nat} {t : TypeId} {cs : Array Value} {fr : Nat × Nat} {v : Value} {xs : List Value} (h : w.ownsRow B e size v n xs) (hb : w.heap[g]? = some (.cells cs t fr)) (hne : e ≠ t) : v.ownBlock ≠ some g := by
  intro hk
  rcases h.2 with ⟨rfl, _⟩ | ⟨k, cap, cur, rfl, _, hg, _⟩
  · simp [Value.ownBlock] at hk
  · simp [Value.ownBlock] at hk
    subst hk
    rw [hb] at hg
    simp at hg
    exact hne hg.2.1.symm
theorem own_ne_map {w : World} {B e size n g : Nat} {ps : List (Nat × Nat)} {v : Value} {xs : List Value} (h : w.ownsRow B e size v n xs) (hb : MapIs w g ps) : v.ownBlock ≠ some g := by
  intro hk
  obtain ⟨es, clock, hb, _⟩ := hb
  rcases h.2 with ⟨rfl, _⟩ | ⟨k, cap, cur, rfl, _, hg, _⟩
  · simp [Value.ownBlock] at hk
  · simp [Value.ownBlock] at hk
    subst hk
    rw [hb] at hg
    simp at hg
theorem grownBy_setCell (w : World) (g i : Nat) (v : Value) : w.grownBy (w.setCell ⟨g, i, none⟩ v) (some g) :=
  ⟨rfl, rfl, rfl, by simp [World.setCell], fun k _ hk => Below.heap_setCell _ _ _ _ (fun e => hk (by rw [e]))⟩
theorem own_set {w : World} {B e size n g : Nat} {v : Value} {xs : List Value} (h : w.ownsRow B e size v n xs) (hne : v.ownBlock ≠ some g) (i : Nat) (u : Value) : (w.setCell ⟨g, i, none⟩ u).ownsRow B e size v n xs :=
  h.kept (grownBy_setCell w g i u) (.inr hne)
theorem blk_set {w : World} {g : Nat} {t : TypeId} {cs : Array Value} (h : w.heap[g]? = some (.cells cs t (0, 0))) (i : Nat) (u : Value) : (w.setCell ⟨g, i, none⟩ u).heap[g]? = some (.cells (cs.setIfInBounds i u) t (0, 0)) := by
  simp [World.setCell, Array.getElem?_modify, h]
theorem CmpAt.close {wb w w3 w4 : World} {g gx gs bm : Nat} {vp vf vb v1 v2 v3 : Value} {ps ps' : List (Nat × Nat)} {fr bs fr' bs' : List Int} {bp bf bb : Option Nat} {op of ob : Obj} {np nf nb : Nat} {cp cf cb : List Value}
    (H : CmpAt wb w g gx gs bm vp vf vb ps fr bs) (hg : w.grownBy w3 (some bm)) (hm : MapIs w3 bm ps') (hb3 : w3.heap[g]? = some (.cells #[.pointer (some ⟨gx, 0, none⟩), .pointer (some ⟨gs, 0, none⟩), vp, vf, vb, .map (some bm)] 71 (0, 0)))
    (r1 : w3.ownsRow wb.heap.size 75 2 vp ps.length (ps.flatMap pcells)) (r2 : w3.ownsRow wb.heap.size 3 1 vf fr.length (fr.map (Value.int .i64))) (r3 : w3.ownsRow wb.heap.size 3 1 vb bs.length (bs.map (Value.int .i64)))
    (hJ : J wb.heap.size w3 w4 vp vf vb v1 v2 v3 np nf nb cp cf cb bp bf bb op of ob) (e1 : np = ps'.length) (e2 : nf = fr'.length) (e3 : nb = bs'.length) (e4 : cp = ps'.flatMap pcells) (e5 : cf = fr'.map (Value.int .i64)) (e6 : cb = bs'.map (Value.int .i64))
    (a1 : J.At w3 vp v1) (a2 : J.At w3 vf v2) (a3 : J.At w3 vb v3) :
    CmpAt wb (((w4.setCell ⟨g, 2, none⟩ v1).setCell ⟨g, 3, none⟩ v2).setCell ⟨g, 4, none⟩ v3) g gx gs bm v1 v2 v3 ps' fr' bs' ∧
      w.heap.size ≤ (((w4.setCell ⟨g, 2, none⟩ v1).setCell ⟨g, 3, none⟩ v2).setCell ⟨g, 4, none⟩ v3).heap.size ∧ (∀ k, k < w.heap.size → k ≠ g → k ≠ bm → vp.ownBlock ≠ some k → vf.ownBlock ≠ some k → vb.ownBlock ≠ some k → (((w4.setCell ⟨g, 2, none⟩ v1).setCell ⟨g, 3, none⟩ v2).setCell ⟨g, 4, none⟩ v3).heap[k]? = w.heap[k]?) ∧ J.At w vp v1 ∧ J.At w vf v2 ∧ J.At w vb v3 := by
  subst e1 e2 e3 e4 e5 e6
  have hl3 : g < w3.heap.size := (Array.getElem?_eq_some_iff.1 hb3).1
  have hb4 : w4.heap[g]? = _ := (hJ.keep g hl3 (own_ne_blk r1 hb3 (by decide)) (own_ne_blk r2 hb3 (by decide)) (own_ne_blk r3 hb3 (by decide))).trans hb3
  have hm4 : MapIs w4 bm ps' := by
    have n1 := own_ne_map r1 hm
    have n2 := own_ne_map r2 hm
    have n3 := own_ne_map r3 hm
    obtain ⟨es, clock, hb, he⟩ := hm
    exact ⟨es, clock, (hJ.keep bm (Array.getElem?_eq_some_iff.1 hb).1 n1 n2 n3).trans hb, he⟩
  have hgbm : bm ≠ g := by
    rintro rfl
    obtain ⟨es, clock, hb, _⟩ := hm
    rw [hb3] at hb
    simp at hb
  have n1 := own_ne_blk hJ.rp hb4 (by decide)
  have n2 := own_ne_blk hJ.rf hb4 (by decide)
  have n3 := own_ne_blk hJ.rb hb4 (by decide)
  have hoth : ∀ k, k ≠ g → (((w4.setCell ⟨g, 2, none⟩ v1).setCell ⟨g, 3, none⟩ v2).setCell ⟨g, 4, none⟩ v3).heap[k]? = w4.heap[k]? := fun k hk =>
    (Below.heap_setCell _ _ _ _ hk).trans ((Below.heap_setCell _ _ _ _ hk).trans (Below.heap_setCell _ _ _ _ hk))
  have hbw4 : Below wb.heap.size wb w4 := ⟨hJ.os.trans (hg.os.trans H.below.os), hJ.tape.trans (hg.tape.trans H.below.tape), hJ.output.trans (hg.output.trans H.below.output), Nat.le_trans H.below.size (Nat.le_trans hg.size hJ.size), fun k hk => by
    have b1 : ∀ v e size n xs, w3.ownsRow wb.heap.size e size v n xs → v.ownBlock ≠ some k := fun v e size n xs ho hv => by have := (ho.lt k hv).1; omega
    rw [hJ.keep k (by have := hg.size; have := H.below.size; omega) (b1 _ _ _ _ _ r1) (b1 _ _ _ _ _ r2) (b1 _ _ _ _ _ r3), hg.block k (by have := H.below.size; omega) (fun e => by cases e; have := H.gm; omega)]
    exact H.below.block k hk⟩
  refine ⟨⟨((hbw4.setCell H.gg _).setCell H.gg _).setCell H.gg _, H.gg, H.gm, ?_, own_set (own_set (own_set hJ.rp n1 _ _) n1 _ _) n1 _ _, own_set (own_set (own_set hJ.rf n2 _ _) n2 _ _) n2 _ _, own_set (own_set (own_set hJ.rb n3 _ _) n3 _ _) n3 _ _, hJ.nfb, ?_⟩, ?_, ?_, a1.mono hg.size, a2.mono hg.size, a3.mono hg.size⟩
  · rw [blk_set (blk_set (blk_set hb4 2 v1) 3 v2) 4 v3]
    rfl
  · obtain ⟨es, clock, hb, he⟩ := hm4
    exact ⟨es, clock, (hoth bm hgbm).trans hb, he⟩
  · simp only [World.setCell, Array.size_modify]
    exact Nat.le_trans hg.size hJ.size
  · intro k hk kg kb c1 c2 c3
    rw [hoth k kg, hJ.keep k (by have := hg.size; omega) c1 c2 c3]
    exact hg.block k hk (fun e => kb (by cases e; rfl))

set_option maxHeartbeats 16000000 in
set_option maxRecDepth 100000 in
theorem add_new (wb w : World) (g gx gs bm : Nat) (vp vf vb : Value) (ps : List (Nat × Nat)) (fr bs : List Int) (h : CmpAt wb w g gx gs bm vp vf vb ps fr bs) (q : Nat × Nat) (hq : q ∉ ps) (f b : Int)
    (h1 : ps.length ≤ 4294967296) (h2 : fr.length ≤ 4294967296) (h3 : bs.length ≤ 4294967296) :
    Calls Tryd.prog 55 #[.pointer (some ⟨g, 0, none⟩), .agg #[.int .u64 (q.1 : Int), .int .u64 (q.2 : Int)], .int .i64 f, .int .i64 b] w fun e w' => e = .returned (.tuple #[]) ∧ ∃ vp' vf' vb', CmpAt wb w' g gx gs bm vp' vf' vb' (ps ++ [q]) (fr ++ [f]) (bs ++ [b]) ∧
      w.heap.size ≤ w'.heap.size ∧ (∀ k, k < w.heap.size → k ≠ g → k ≠ bm → vp.ownBlock ≠ some k → vf.ownBlock ≠ some k → vb.ownBlock ≠ some k → w'.heap[k]? = w.heap[k]?) ∧ J.At w vp vp' ∧ J.At w vf vf' ∧ J.At w vb vb' := by
  have H := Sd.mk h
  clear h
  have c5 := cell_blk H.out.blk 5
  have hgl := (Array.getElem?_eq_some_iff.1 H.out.blk).1
  obtain ⟨o0, ho0⟩ : ∃ o, o = Obj.cells #[.int .u64 (q.1 : Int), .int .u64 (q.2 : Int)] 75 := ⟨_, rfl⟩
  have hm0 : ∀ n, MapIs ((w.alloc o0).drewN n) bm ps := fun n => by
    obtain ⟨es, clock, hb, he⟩ := H.out.map
    exact ⟨es, clock, (heap_alloc_old w o0 (Array.getElem?_eq_some_iff.1 hb).1).trans hb, he⟩
  subst ho0
  have hlk : ∀ n, (Instr.lookup 69 (.map (some bm)) (.agg #[.int .u64 (q.1 : Int), .int .u64 (q.2 : Int)]) false).run Tryd.prog ((w.alloc (Obj.cells #[.int .u64 (q.1 : Int), .int .u64 (q.2 : Int)] 75)).drewN n) = .ok (.bool false) ((w.alloc (Obj.cells #[.int .u64 (q.1 : Int), .int .u64 (q.2 : Int)] 75)).drewN n) := fun n => by
    have := run_lookup_set _ bm ps (hm0 n) q
    rw [decide_eq_false hq] at this
    exact this
  go_enter Tryd.func55, Tryd.ntmps55
  go_wp2
  go_quiet (fail)
  clear hlk
  go_wp2
  obtain ⟨w2, hup, hmap2, hk2, hs2, hos2, htp2, hou2⟩ := run_update_set ((w.alloc (Obj.cells #[.int .u64 (q.1 : Int), .int .u64 (q.2 : Int)] 75)).drewN (nq + 1)) bm ps (hm0 _) q hq
  unfold keyV at hup
  have hsz0 : ((w.alloc (Obj.cells #[.int .u64 (q.1 : Int), .int .u64 (q.2 : Int)] 75)).drewN (nq + 1)).heap.size = w.heap.size + 1 := by show (w.alloc _).heap.size = _; simp
  have hgr : w.grownBy w2 (some bm) := ⟨hos2, htp2, hou2, by omega, fun k hk hne => (hk2 k (fun e => hne (by rw [e]))).trans (heap_alloc_old w _ hk)⟩
  have hbm : bm < w.heap.size := by obtain ⟨es, clock, hb, _⟩ := H.out.map; exact (Array.getElem?_eq_some_iff.1 hb).1
  have hbox : w2.heap[w.heap.size]? = some (Obj.cells #[.int .u64 (q.1 : Int), .int .u64 (q.2 : Int)] 75) := (hk2 _ (by omega)).trans (heap_alloc_new w _)
  have HM := Sd.mk (H.out.moved hgr hmap2)
  have HG := Sd.mk hgr
  have HX := Sd.mk hbox
  clear hmap2 hk2 hos2 htp2 hou2 hm0 hgr hbox
  go_region
  clear hup
  go_wp2
  have hsz2 : w2.heap.size = w.heap.size + 1 := by omega
  clear hs2 hsz0
  refine start_ (n := 33) (S := fun wx => wx.heap[g]? = some (.cells #[.pointer (some ⟨gx, 0, none⟩), .pointer (some ⟨gs, 0, none⟩), vp, vf, vb, .map (some bm)] 71 (0, 0)) ∧ wx.heap[w.heap.size]? = some (Obj.cells #[.int .u64 (q.1 : Int), .int .u64 (q.2 : Int)] 75)) (ds := [26, 29, 32]) #[false, false, false, false, false, false, false, false, false, false, false, false, false, false, false, false, false, false, false, false, false, false, false, false, false, false, false, false, false, false, false, false, false] (by kernel_rfl) rfl rfl ⟨HM.out.2.1, HX.out⟩ (fun hHeld => ?_)
  have HM3 : Sd (Below wb.heap.size wb w2.drew ∧ w2.drew.ownsRow wb.heap.size 75 2 vp ps.length (ps.flatMap pcells) ∧ w2.drew.ownsRow wb.heap.size 3 1 vf fr.length (fr.map (Value.int .i64)) ∧ w2.drew.ownsRow wb.heap.size 3 1 vb bs.length (bs.map (Value.int .i64)) ∧ MapIs w2.drew bm (ps ++ [q])) := ⟨below_drew HM.out.1, HM.out.2.2.1, HM.out.2.2.2.1, HM.out.2.2.2.2.1, HM.out.2.2.2.2.2⟩
  have HG3 : Sd (w.grownBy w2.drew (some bm)) := ⟨⟨HG.out.os, HG.out.tape, HG.out.output, HG.out.size, HG.out.block⟩⟩
  have hsz3 : Sd (w2.drew.heap.size = w.heap.size + 1) := ⟨hsz2⟩
  clear HM HG HX hsz2
  generalize w2.drew = w3 at *
  refine pure_ (i := 0) (N := some 20) (v := ?_) (a' := ?_) #[true, false, false, false, false, false, false, false, false, false, false, false, false, false, false, false, false, false, false, false, false, false, false, false, false, false, false, false, false, false, false, false, false] rfl rfl (by kernel_rfl) (fun _ _ _ h => h) (Or.inl ⟨by rfl, ?_⟩) ?_ ?_
  rotate_left
  · intro w'
    go_simp
    with_reducible rfl
  rotate_left
  · simp only [Act.put, List.setIfInBounds_toArray, List.set_cons_zero, List.set_cons_succ]
    rfl
  refine pure_ (i := 1) (N := some 21) (v := ?_) (a' := ?_) #[true, true, false, false, false, false, false, false, false, false, false, false, false, false, false, false, false, false, false, false, false, false, false, false, false, false, false, false, false, false, false, false, false] rfl rfl (by kernel_rfl) (fun _ _ _ h => h) (Or.inl ⟨by rfl, ?_⟩) ?_ ?_
  rotate_left
  · intro w'
    go_simp
    with_reducible rfl
  rotate_left
  · simp only [Act.put, List.setIfInBounds_toArray, List.set_cons_zero, List.set_cons_succ]
    rfl
  refine pure_ (i := 2) (N := some 22) (v := ?_) (a' := ?_) #[true, true, true, false, false, false, false, false, false, false, false, false, false, false, false, false, false, false, false, false, false, false, false, false, false, false, false, false, false, false, false, false, false] rfl rfl (by kernel_rfl) (fun _ _ _ h => h) (Or.inl ⟨by rfl, ?_⟩) ?_ ?_
  rotate_left
  · intro w'
    go_simp
    with_reducible rfl
  rotate_left
  · simp only [Act.put, List.setIfInBounds_toArray, List.set_cons_zero, List.set_cons_succ]
    rfl
  refine pure_ (i := 3) (N := some 23) (v := ?_) (a' := ?_) #[true, true, true, true, false, false, false, false, false, false, false, false, false, false, false, false, false, false, false, false, false, false, false, false, false, false, false, false, false, false, false, false, false] rfl rfl (by kernel_rfl) (fun _ _ _ h => h) (Or.inl ⟨by rfl, ?_⟩) ?_ ?_
  rotate_left
  · intro w'
    go_simp
    with_reducible rfl
  rotate_left
  · simp only [Act.put, List.setIfInBounds_toArray, List.set_cons_zero, List.set_cons_succ]
    rfl
  refine pure_ (i := 4) (N := some 24) (v := ?_) (a' := ?_) #[true, true, true, true, true, false, false, false, false, false, false, false, false, false, false, false, false, false, false, false, false, false, false, false, false, false, false, false, false, false, false, false, false] rfl rfl (by kernel_rfl) (fun _ _ _ h => h) (Or.inl ⟨by rfl, ?_⟩) ?_ ?_
  rotate_left
  · intro w'
    go_simp
    with_reducible rfl
  rotate_left
  · simp only [Act.put, List.setIfInBounds_toArray, List.set_cons_zero, List.set_cons_succ]
    rfl
  refine pure_ (i := 5) (N := some 25) (v := ?_) (a' := ?_) #[true, true, true, true, true, true, false, false, false, false, false, false, false, false, false, false, false, false, false, false, false, false, false, false, false, false, false, false, false, false, false, false, false] rfl rfl (by kernel_rfl) (fun _ _ _ h => h) (Or.inl ⟨by rfl, ?_⟩) ?_ ?_
  rotate_left
  · intro w'
    go_simp
    with_reducible rfl
  rotate_left
  · simp only [Act.put, List.setIfInBounds_toArray, List.set_cons_zero, List.set_cons_succ]
    rfl
  refine take_ (i := 6) (N := some 26) (v := ?_) (a' := ?_) #[true, true, true, true, true, true, true, false, false, false, false, false, false, false, false, false, false, false, false, false, false, false, false, false, false, false, false, false, false, false, false, false, false] rfl rfl (by kernel_rfl) (fun _ _ _ h => h) (Or.inl ⟨by rfl, ?_⟩) hHeld ?_ ?_
  rotate_left
  · rintro w' ⟨s0, s1⟩
    have q2 := cell_blk s0 2
    have q3 := cell_blk s0 3
    have q4 := cell_blk s0 4
    have p0 := cell_blk s1 0
    have p1 := cell_blk s1 1
    go_simp
    with_reducible rfl
  rotate_left
  · simp only [Act.put, List.setIfInBounds_toArray, List.set_cons_zero, List.set_cons_succ]
    rfl
  refine take_ (i := 7) (N := some 27) (v := ?_) (a' := ?_) #[true, true, true, true, true, true, true, true, false, false, false, false, false, false, false, false, false, false, false, false, false, false, false, false, false, false, false, false, false, false, false, false, false] rfl rfl (by kernel_rfl) (fun _ _ _ h => h) (Or.inl ⟨by rfl, ?_⟩) hHeld ?_ ?_
  rotate_left
  · rintro w' ⟨s0, s1⟩
    have q2 := cell_blk s0 2
    have q3 := cell_blk s0 3
    have q4 := cell_blk s0 4
    have p0 := cell_blk s1 0
    have p1 := cell_blk s1 1
    go_simp
    with_reducible rfl
  rotate_left
  · simp only [Act.put, List.setIfInBounds_toArray, List.set_cons_zero, List.set_cons_succ]
    rfl
  refine pure_ (i := 10) (N := some 30) (v := ?_) (a' := ?_) #[true, true, true, true, true, true, true, true, false, false, true, false, false, false, false, false, false, false, false, false, false, false, false, false, false, false, false, false, false, false, false, false, false] rfl rfl (by kernel_rfl) (fun _ _ _ h => h) (Or.inl ⟨by rfl, ?_⟩) ?_ ?_
  rotate_left
  · intro w'
    go_simp
    with_reducible rfl
  rotate_left
  · simp only [Act.put, List.setIfInBounds_toArray, List.set_cons_zero, List.set_cons_succ]
    rfl
  refine pure_ (i := 11) (N := some 31) (v := ?_) (a' := ?_) #[true, true, true, true, true, true, true, true, false, false, true, true, false, false, false, false, false, false, false, false, false, false, false, false, false, false, false, false, false, false, false, false, false] rfl rfl (by kernel_rfl) (fun _ _ _ h => h) (Or.inl ⟨by rfl, ?_⟩) ?_ ?_
  rotate_left
  · intro w'
    go_simp
    with_reducible rfl
  rotate_left
  · simp only [Act.put, List.setIfInBounds_toArray, List.set_cons_zero, List.set_cons_succ]
    rfl
  refine pure_ (i := 12) (N := some 32) (v := ?_) (a' := ?_) #[true, true, true, true, true, true, true, true, false, false, true, true, true, false, false, false, false, false, false, false, false, false, false, false, false, false, false, false, false, false, false, false, false] rfl rfl (by kernel_rfl) (fun _ _ _ h => h) (Or.inl ⟨by rfl, ?_⟩) ?_ ?_
  rotate_left
  · intro w'
    go_simp
    with_reducible rfl
  rotate_left
  · simp only [Act.put, List.setIfInBounds_toArray, List.set_cons_zero, List.set_cons_succ]
    rfl
  refine take_ (i := 13) (N := some 33) (v := ?_) (a' := ?_) #[true, true, true, true, true, true, true, true, false, false, true, true, true, true, false, false, false, false, false, false, false, false, false, false, false, false, false, false, false, false, false, false, false] rfl rfl (by kernel_rfl) (fun _ _ _ h => h) (Or.inl ⟨by rfl, ?_⟩) hHeld ?_ ?_
  rotate_left
  · rintro w' ⟨s0, s1⟩
    have q2 := cell_blk s0 2
    have q3 := cell_blk s0 3
    have q4 := cell_blk s0 4
    have p0 := cell_blk s1 0
    have p1 := cell_blk s1 1
    go_simp
    with_reducible rfl
  rotate_left
  · simp only [Act.put, List.setIfInBounds_toArray, List.set_cons_zero, List.set_cons_succ]
    rfl
  refine pure_ (i := 14) (N := some 34) (v := ?_) (a' := ?_) #[true, true, true, true, true, true, true, true, false, false, true, true, true, true, true, false, false, false, false, false, false, false, false, false, false, false, false, false, false, false, false, false, false] rfl rfl (by kernel_rfl) (fun _ _ _ h => h) (Or.inl ⟨by rfl, ?_⟩) ?_ ?_
  rotate_left
  · intro w'
    go_simp
    with_reducible rfl
  rotate_left
  · simp only [Act.put, List.setIfInBounds_toArray, List.set_cons_zero, List.set_cons_succ]
    rfl
  refine pure_ (i := 17) (N := some 37) (v := ?_) (a' := ?_) #[true, true, true, true, true, true, true, true, false, false, true, true, true, true, true, false, false, true, false, false, false, false, false, false, false, false, false, false, false, false, false, false, false] rfl rfl (by kernel_rfl) (fun _ _ _ h => h) (Or.inl ⟨by rfl, ?_⟩) ?_ ?_
  rotate_left
  · intro w'
    go_simp
    with_reducible rfl
  rotate_left
  · simp only [Act.put, List.setIfInBounds_toArray, List.set_cons_zero, List.set_cons_succ]
    rfl
  refine pure_ (i := 18) (N := some 38) (v := ?_) (a' := ?_) #[true, true, true, true, true, true, true, true, false, false, true, true, true, true, true, false, false, true, true, false, false, false, false, false, false, false, false, false, false, false, false, false, false] rfl rfl (by kernel_rfl) (fun _ _ _ h => h) (Or.inl ⟨by rfl, ?_⟩) ?_ ?_
  rotate_left
  · intro w'
    go_simp
    with_reducible rfl
  rotate_left
  · simp only [Act.put, List.setIfInBounds_toArray, List.set_cons_zero, List.set_cons_succ]
    rfl
  refine pure_ (i := 19) (N := some 39) (v := ?_) (a' := ?_) #[true, true, true, true, true, true, true, true, false, false, true, true, true, true, true, false, false, true, true, true, false, false, false, false, false, false, false, false, false, false, false, false, false] rfl rfl (by kernel_rfl) (fun _ _ _ h => h) (Or.inl ⟨by rfl, ?_⟩) ?_ ?_
  rotate_left
  · intro w'
    go_simp
    with_reducible rfl
  rotate_left
  · simp only [Act.put, List.setIfInBounds_toArray, List.set_cons_zero, List.set_cons_succ]
    rfl
  refine take_ (i := 20) (N := some 40) (v := ?_) (a' := ?_) #[true, true, true, true, true, true, true, true, false, false, true, true, true, true, true, false, false, true, true, true, true, false, false, false, false, false, false, false, false, false, false, false, false] rfl rfl (by kernel_rfl) (fun _ _ _ h => h) (Or.inl ⟨by rfl, ?_⟩) hHeld ?_ ?_
  rotate_left
  · rintro w' ⟨s0, s1⟩
    have q2 := cell_blk s0 2
    have q3 := cell_blk s0 3
    have q4 := cell_blk s0 4
    have p0 := cell_blk s1 0
    have p1 := cell_blk s1 1
    go_simp
    with_reducible rfl
  rotate_left
  · simp only [Act.put, List.setIfInBounds_toArray, List.set_cons_zero, List.set_cons_succ]
    rfl
  refine pure_ (i := 21) (N := some 41) (v := ?_) (a' := ?_) #[true, true, true, true, true, true, true, true, false, false, true, true, true, true, true, false, false, true, true, true, true, true, false, false, false, false, false, false, false, false, false, false, false] rfl rfl (by kernel_rfl) (fun _ _ _ h => h) (Or.inl ⟨by rfl, ?_⟩) ?_ ?_
  rotate_left
  · intro w'
    go_simp
    with_reducible rfl
  rotate_left
  · simp only [Act.put, List.setIfInBounds_toArray, List.set_cons_zero, List.set_cons_succ]
    rfl
  have hS : ∀ wx vp' vf' vb' np nf nb cp cf cb bp bf bb, J wb.heap.size w3 wx vp vf vb vp' vf' vb' np nf nb cp cf cb bp bf bb (.cells #[.int .u64 (q.1 : Int), .int .u64 (q.2 : Int)] 75) (.cells #[.int .i64 f] 3) (.cells #[.int .i64 b] 3) → wx.heap[g]? = some (.cells #[.pointer (some ⟨gx, 0, none⟩), .pointer (some ⟨gs, 0, none⟩), vp, vf, vb, .map (some bm)] 71 (0, 0)) ∧ wx.heap[w.heap.size]? = some (Obj.cells #[.int .u64 (q.1 : Int), .int .u64 (q.2 : Int)] 75) := fun wx vp' vf' vb' np nf nb cp cf cb bp bf bb hj => by
    have hw := hHeld.2
    refine ⟨(hj.keep g (Array.getElem?_eq_some_iff.1 hHeld.1).1 (own_ne_blk HM3.out.2.1 hHeld.1 (by decide)) (own_ne_blk HM3.out.2.2.1 hHeld.1 (by decide)) (own_ne_blk HM3.out.2.2.2.1 hHeld.1 (by decide))).trans hHeld.1, (hj.keep _ (Array.getElem?_eq_some_iff.1 hw).1 ?_ ?_ ?_).trans hw⟩
    · exact fun e => by have := (H.out.rp.lt _ e).2; omega
    · exact fun e => by have := (H.out.rf.lt _ e).2; omega
    · exact fun e => by have := (H.out.rb.lt _ e).2; omega
  refine join_ (σ := Value × Value × Value × Nat × Nat × Nat) 9 #[true, true, true, true, true, true, true, true, true, true, true, true, true, true, true, true, true, true, true, true, true, true, true, true, false, false, false, false, false, false, false, false, false] (fun s => [(28, .slice (some ⟨s.2.2.2.1, 0, none⟩) 1 1), (35, .slice (some ⟨s.2.2.2.2.1, 0, none⟩) 1 1), (42, .slice (some ⟨s.2.2.2.2.2, 0, none⟩) 1 1), (29, s.1), (36, s.2.1), (43, s.2.2.1)])
    (fun s w' => J wb.heap.size w3 w' vp vf vb s.1 s.2.1 s.2.2.1 (ps.length + 1) (fr.length + 1) (bs.length + 1) (ps.flatMap pcells ++ pcells q) (fr.map (Value.int .i64) ++ [.int .i64 f]) (bs.map (Value.int .i64) ++ [.int .i64 b]) (some s.2.2.2.1) (some s.2.2.2.2.1) (some s.2.2.2.2.2) (.cells #[.int .u64 (q.1 : Int), .int .u64 (q.2 : Int)] 75) (.cells #[.int .i64 f] 3) (.cells #[.int .i64 b] 3) ∧
      (∃ g cap, s.1 = .slice (some ⟨g, 0, none⟩) (ps.length + 1) cap) ∧ (∃ g cap, s.2.1 = .slice (some ⟨g, 0, none⟩) (fr.length + 1) cap) ∧ (∃ g cap, s.2.2.1 = .slice (some ⟨g, 0, none⟩) (bs.length + 1) cap) ∧ J.At w3 vp s.1 ∧ J.At w3 vf s.2.1 ∧ J.At w3 vb s.2.2.1) ?_ ?_
  rotate_left
  · intro hcont
    have hj0 : J wb.heap.size w3 w3 vp vf vb vp vf vb ps.length fr.length bs.length (ps.flatMap pcells) (fr.map (Value.int .i64)) (bs.map (Value.int .i64)) none none none (.cells #[.int .u64 (q.1 : Int), .int .u64 (q.2 : Int)] 75) (.cells #[.int .i64 f] 3) (.cells #[.int .i64 b] 3) := J.start w3 HM3.out.1.size HM3.out.2.1 HM3.out.2.2.1 HM3.out.2.2.2.1 H.out.ne
    refine three_ (i := 8) (j := 15) (k := 22) (Ni := some 28) (Nj := some 35) (Nk := some 42) #[true, true, true, true, true, true, true, true, true, false, true, true, true, true, true, false, false, true, true, true, true, true, false, false, false, false, false, false, false, false, false, false, false] #[true, true, true, true, true, true, true, true, false, false, true, true, true, true, true, true, false, true, true, true, true, true, false, false, false, false, false, false, false, false, false, false, false] #[true, true, true, true, true, true, true, true, false, false, true, true, true, true, true, false, false, true, true, true, true, true, true, false, false, false, false, false, false, false, false, false, false] rfl rfl rfl rfl rfl rfl (by kernel_rfl) (by decide) (by decide) (by decide) (fun K hK => ?_) (fun K hK => ?_) (fun K hK => ?_)
    · refine value_ (v := .slice (some ⟨w3.heap.size, 0, none⟩) 1 1) (w1 := (w3.alloc (.cells #[.int .u64 (q.1 : Int), .int .u64 (q.2 : Int)] 75))) (by rfl) rfl (by go_simp) ?_
      have hj1 := hj0.allocP (w3.heap.size) (by simp)
      refine hK.out _ _ (hS _ _ _ _ _ _ _ _ _ _ _ _ _ hj1) (fun _ => ?_)
      clear hK K
      refine norm_ (a' := ?_) ?_ ?_
      rotate_left
      · simp only [Act.put, List.setIfInBounds_toArray, List.set_cons_zero, List.set_cons_succ]
        rfl
      refine three_ (i := 9) (j := 15) (k := 22) (Ni := some 29) (Nj := some 35) (Nk := some 42) #[true, true, true, true, true, true, true, true, true, true, true, true, true, true, true, false, false, true, true, true, true, true, false, false, false, false, false, false, false, false, false, false, false] #[true, true, true, true, true, true, true, true, true, false, true, true, true, true, true, true, false, true, true, true, true, true, false, false, false, false, false, false, false, false, false, false, false] #[true, true, true, true, true, true, true, true, true, false, true, true, true, true, true, false, false, true, true, true, true, true, true, false, false, false, false, false, false, false, false, false, false] rfl rfl rfl rfl rfl rfl (by kernel_rfl) (by decide) (by decide) (by decide) (fun K hK => ?_) (fun K hK => ?_) (fun K hK => ?_)
      · refine J.stepP q hj1 rfl (.tmp 26) (.tmp 28) rfl rfl rfl (by omega) ?_
        intro v1 u1 hv1 hat1 hj2
        refine hK.out _ _ (hS _ _ _ _ _ _ _ _ _ _ _ _ _ hj2) (fun _ => ?_)
        clear hK K
        refine norm_ (a' := ?_) ?_ ?_
        rotate_left
        · simp only [Act.put, List.setIfInBounds_toArray, List.set_cons_zero, List.set_cons_succ]
          rfl
        refine two_ (i := 15) (j := 22) (Ni := some 35) (Nj := some 42) #[true, true, true, true, true, true, true, true, true, true, true, true, true, true, true, true, false, true, true, true, true, true, false, false, false, false, false, false, false, false, false, false, false] #[true, true, true, true, true, true, true, true, true, true, true, true, true, true, true, false, false, true, true, true, true, true, true, false, false, false, false, false, false, false, false, false, false] rfl rfl rfl rfl (by kernel_rfl) (by decide) (by decide) (fun K hK => ?_) (fun K hK => ?_)
        · refine value_ (v := .slice (some ⟨u1.heap.size, 0, none⟩) 1 1) (w1 := (u1.alloc (.cells #[.int .i64 f] 3))) (by rfl) rfl (by go_simp) ?_
          have hj3 := hj2.allocF (u1.heap.size) (by simp)
          refine hK.out _ _ (hS _ _ _ _ _ _ _ _ _ _ _ _ _ hj3) (fun _ => ?_)
          clear hK K
          refine norm_ (a' := ?_) ?_ ?_
          rotate_left
          · simp only [Act.put, List.setIfInBounds_toArray, List.set_cons_zero, List.set_cons_succ]
            rfl
          refine two_ (i := 16) (j := 22) (Ni := some 36) (Nj := some 42) #[true, true, true, true, true, true, true, true, true, true, true, true, true, true, true, true, true, true, true, true, true, true, false, false, false, false, false, false, false, false, false, false, false] #[true, true, true, true, true, true, true, true, true, true, true, true, true, true, true, true, false, true, true, true, true, true, true, false, false, false, false, false, false, false, false, false, false] rfl rfl rfl rfl (by kernel_rfl) (by decide) (by decide) (fun K hK => ?_) (fun K hK => ?_)
          · refine J.stepF f hj3 rfl (.tmp 33) (.tmp 35) rfl rfl rfl (by omega) ?_
            intro v3 u3 hv3 hat3 hj4
            refine hK.out _ _ (hS _ _ _ _ _ _ _ _ _ _ _ _ _ hj4) (fun _ => ?_)
            clear hK K
            refine norm_ (a' := ?_) ?_ ?_
            rotate_left
            · simp only [Act.put, List.setIfInBounds_toArray, List.set_cons_zero, List.set_cons_succ]
              rfl
            refine one_ (i := 22) (N := some 42) #[true, true, true, true, true, true, true, true, true, true, true, true, true, true, true, true, true, true, true, true, true, true, true, false, false, false, false, false, false, false, false, false, false] rfl rfl (by kernel_rfl) (by decide) (fun K hK => ?_)
            · refine value_ (v := .slice (some ⟨u3.heap.size, 0, none⟩) 1 1) (w1 := (u3.alloc (.cells #[.int .i64 b] 3))) (by rfl) rfl (by go_simp) ?_
              have hj5 := hj4.allocB (u3.heap.size) (by simp)
              refine hK.out _ _ (hS _ _ _ _ _ _ _ _ _ _ _ _ _ hj5) (fun _ => ?_)
              clear hK K
              refine norm_ (a' := ?_) ?_ ?_
              rotate_left
              · simp only [Act.put, List.setIfInBounds_toArray, List.set_cons_zero, List.set_cons_succ]
                rfl
              refine one_ (i := 23) (N := some 43) #[true, true, true, true, true, true, true, true, true, true, true, true, true, true, true, true, true, true, true, true, true, true, true, true, false, false, false, false, false, false, false, false, false] rfl rfl (by kernel_rfl) (by decide) (fun K hK => ?_)
              · refine J.stepB b hj5 rfl (.tmp 40) (.tmp 42) rfl rfl rfl (by omega) ?_
                intro v5 u5 hv5 hat5 hj6
                refine hK.out _ _ (hS _ _ _ _ _ _ _ _ _ _ _ _ _ hj6) (fun _ => ?_)
                clear hK K
                refine norm_ (a' := ?_) ?_ ?_
                rotate_left
                · simp only [Act.put, List.setIfInBounds_toArray, List.set_cons_zero, List.set_cons_succ]
                  rfl
                exact hcont (v1, v3, v5, w3.heap.size, u1.heap.size, u3.heap.size) _ ⟨hj6, hv1, hv3, hv5, hat1.mono hj1.size, hat3.mono hj3.size, hat5.mono hj5.size⟩
          · refine value_ (v := .slice (some ⟨u1.heap.size + 1, 0, none⟩) 1 1) (w1 := ((u1.alloc (.cells #[.int .i64 f] 3)).alloc (.cells #[.int .i64 b] 3))) (by rfl) rfl (by go_simp) ?_
            have hj4 := hj3.allocB (u1.heap.size + 1) (by simp)
            refine hK.out _ _ (hS _ _ _ _ _ _ _ _ _ _ _ _ _ hj4) (fun _ => ?_)
            clear hK K
            refine norm_ (a' := ?_) ?_ ?_
            rotate_left
            · simp only [Act.put, List.setIfInBounds_toArray, List.set_cons_zero, List.set_cons_succ]
              rfl
            refine one_ (i := 16) (N := some 36) #[true, true, true, true, true, true, true, true, true, true, true, true, true, true, true, true, true, true, true, true, true, true, true, false, false, false, false, false, false, false, false, false, false] rfl rfl (by kernel_rfl) (by decide) (fun K hK => ?_)
            · refine J.stepF f hj4 rfl (.tmp 33) (.tmp 35) rfl rfl rfl (by omega) ?_
              intro v4 u4 hv4 hat4 hj5
              refine hK.out _ _ (hS _ _ _ _ _ _ _ _ _ _ _ _ _ hj5) (fun _ => ?_)
              clear hK K
              refine norm_ (a' := ?_) ?_ ?_
              rotate_left
              · simp only [Act.put, List.setIfInBounds_toArray, List.set_cons_zero, List.set_cons_succ]
                rfl
              refine one_ (i := 23) (N := some 43) #[true, true, true, true, true, true, true, true, true, true, true, true, true, true, true, true, true, true, true, true, true, true, true, true, false, false, false, false, false, false, false, false, false] rfl rfl (by kernel_rfl) (by decide) (fun K hK => ?_)
              · refine J.stepB b hj5 rfl (.tmp 40) (.tmp 42) rfl rfl rfl (by omega) ?_
                intro v5 u5 hv5 hat5 hj6
                refine hK.out _ _ (hS _ _ _ _ _ _ _ _ _ _ _ _ _ hj6) (fun _ => ?_)
                clear hK K
                refine norm_ (a' := ?_) ?_ ?_
                rotate_left
                · simp only [Act.put, List.setIfInBounds_toArray, List.set_cons_zero, List.set_cons_succ]
                  rfl
                exact hcont (v1, v4, v5, w3.heap.size, u1.heap.size, u1.heap.size + 1) _ ⟨hj6, hv1, hv4, hv5, hat1.mono hj1.size, hat4.mono hj4.size, hat5.mono hj5.size⟩
        · refine value_ (v := .slice (some ⟨u1.heap.size, 0, none⟩) 1 1) (w1 := (u1.alloc (.cells #[.int .i64 b] 3))) (by rfl) rfl (by go_simp) ?_
          have hj3 := hj2.allocB (u1.heap.size) (by simp)
          refine hK.out _ _ (hS _ _ _ _ _ _ _ _ _ _ _ _ _ hj3) (fun _ => ?_)
          clear hK K
          refine norm_ (a' := ?_) ?_ ?_
          rotate_left
          · simp only [Act.put, List.setIfInBounds_toArray, List.set_cons_zero, List.set_cons_succ]
            rfl
          refine one_ (i := 15) (N := some 35) #[true, true, true, true, true, true, true, true, true, true, true, true, true, true, true, true, false, true, true, true, true, true, true, false, false, false, false, false, false, false, false, false, false] rfl rfl (by kernel_rfl) (by decide) (fun K hK => ?_)
          · refine value_ (v := .slice (some ⟨u1.heap.size + 1, 0, none⟩) 1 1) (w1 := ((u1.alloc (.cells #[.int .i64 b] 3)).alloc (.cells #[.int .i64 f] 3))) (by rfl) rfl (by go_simp) ?_
            have hj4 := hj3.allocF (u1.heap.size + 1) (by simp)
            refine hK.out _ _ (hS _ _ _ _ _ _ _ _ _ _ _ _ _ hj4) (fun _ => ?_)
            clear hK K
            refine norm_ (a' := ?_) ?_ ?_
            rotate_left
            · simp only [Act.put, List.setIfInBounds_toArray, List.set_cons_zero, List.set_cons_succ]
              rfl
            refine one_ (i := 16) (N := some 36) #[true, true, true, true, true, true, true, true, true, true, true, true, true, true, true, true, true, true, true, true, true, true, true, false, false, false, false, false, false, false, false, false, false] rfl rfl (by kernel_rfl) (by decide) (fun K hK => ?_)
            · refine J.stepF f hj4 rfl (.tmp 33) (.tmp 35) rfl rfl rfl (by omega) ?_
              intro v4 u4 hv4 hat4 hj5
              refine hK.out _ _ (hS _ _ _ _ _ _ _ _ _ _ _ _ _ hj5) (fun _ => ?_)
              clear hK K
              refine norm_ (a' := ?_) ?_ ?_
              rotate_left
              · simp only [Act.put, List.setIfInBounds_toArray, List.set_cons_zero, List.set_cons_succ]
                rfl
              refine one_ (i := 23) (N := some 43) #[true, true, true, true, true, true, true, true, true, true, true, true, true, true, true, true, true, true, true, true, true, true, true, true, false, false, false, false, false, false, false, false, false] rfl rfl (by kernel_rfl) (by decide) (fun K hK => ?_)
              · refine J.stepB b hj5 rfl (.tmp 40) (.tmp 42) rfl rfl rfl (by omega) ?_
                intro v5 u5 hv5 hat5 hj6
                refine hK.out _ _ (hS _ _ _ _ _ _ _ _ _ _ _ _ _ hj6) (fun _ => ?_)
                clear hK K
                refine norm_ (a' := ?_) ?_ ?_
                rotate_left
                · simp only [Act.put, List.setIfInBounds_toArray, List.set_cons_zero, List.set_cons_succ]
                  rfl
                exact hcont (v1, v4, v5, w3.heap.size, u1.heap.size + 1, u1.heap.size) _ ⟨hj6, hv1, hv4, hv5, hat1.mono hj1.size, hat4.mono hj4.size, hat5.mono hj5.size⟩
      · refine value_ (v := .slice (some ⟨w3.heap.size + 1, 0, none⟩) 1 1) (w1 := ((w3.alloc (.cells #[.int .u64 (q.1 : Int), .int .u64 (q.2 : Int)] 75)).alloc (.cells #[.int .i64 f] 3))) (by rfl) rfl (by go_simp) ?_
        have hj2 := hj1.allocF (w3.heap.size + 1) (by simp)
        refine hK.out _ _ (hS _ _ _ _ _ _ _ _ _ _ _ _ _ hj2) (fun _ => ?_)
        clear hK K
        refine norm_ (a' := ?_) ?_ ?_
        rotate_left
        · simp only [Act.put, List.setIfInBounds_toArray, List.set_cons_zero, List.set_cons_succ]
          rfl
        refine two_ (i := 9) (j := 22) (Ni := some 29) (Nj := some 42) #[true, true, true, true, true, true, true, true, true, true, true, true, true, true, true, true, false, true, true, true, true, true, false, false, false, false, false, false, false, false, false, false, false] #[true, true, true, true, true, true, true, true, true, false, true, true, true, true, true, true, false, true, true, true, true, true, true, false, false, false, false, false, false, false, false, false, false] rfl rfl rfl rfl (by kernel_rfl) (by decide) (by decide) (fun K hK => ?_) (fun K hK => ?_)
        · refine J.stepP q hj2 rfl (.tmp 26) (.tmp 28) rfl rfl rfl (by omega) ?_
          intro v2 u2 hv2 hat2 hj3
          refine hK.out _ _ (hS _ _ _ _ _ _ _ _ _ _ _ _ _ hj3) (fun _ => ?_)
          clear hK K
          refine norm_ (a' := ?_) ?_ ?_
          rotate_left
          · simp only [Act.put, List.setIfInBounds_toArray, List.set_cons_zero, List.set_cons_succ]
            rfl
          refine two_ (i := 16) (j := 22) (Ni := some 36) (Nj := some 42) #[true, true, true, true, true, true, true, true, true, true, true, true, true, true, true, true, true, true, true, true, true, true, false, false, false, false, false, false, false, false, false, false, false] #[true, true, true, true, true, true, true, true, true, true, true, true, true, true, true, true, false, true, true, true, true, true, true, false, false, false, false, false, false, false, false, false, false] rfl rfl rfl rfl (by kernel_rfl) (by decide) (by decide) (fun K hK => ?_) (fun K hK => ?_)
          · refine J.stepF f hj3 rfl (.tmp 33) (.tmp 35) rfl rfl rfl (by omega) ?_
            intro v3 u3 hv3 hat3 hj4
            refine hK.out _ _ (hS _ _ _ _ _ _ _ _ _ _ _ _ _ hj4) (fun _ => ?_)
            clear hK K
            refine norm_ (a' := ?_) ?_ ?_
            rotate_left
            · simp only [Act.put, List.setIfInBounds_toArray, List.set_cons_zero, List.set_cons_succ]
              rfl
            refine one_ (i := 22) (N := some 42) #[true, true, true, true, true, true, true, true, true, true, true, true, true, true, true, true, true, true, true, true, true, true, true, false, false, false, false, false, false, false, false, false, false] rfl rfl (by kernel_rfl) (by decide) (fun K hK => ?_)
            · refine value_ (v := .slice (some ⟨u3.heap.size, 0, none⟩) 1 1) (w1 := (u3.alloc (.cells #[.int .i64 b] 3))) (by rfl) rfl (by go_simp) ?_
              have hj5 := hj4.allocB (u3.heap.size) (by simp)
              refine hK.out _ _ (hS _ _ _ _ _ _ _ _ _ _ _ _ _ hj5) (fun _ => ?_)
              clear hK K
              refine norm_ (a' := ?_) ?_ ?_
              rotate_left
              · simp only [Act.put, List.setIfInBounds_toArray, List.set_cons_zero, List.set_cons_succ]
                rfl
              refine one_ (i := 23) (N := some 43) #[true, true, true, true, true, true, true, true, true, true, true, true, true, true, true, true, true, true, true, true, true, true, true, true, false, false, false, false, false, false, false, false, false] rfl rfl (by kernel_rfl) (by decide) (fun K hK => ?_)
              · refine J.stepB b hj5 rfl (.tmp 40) (.tmp 42) rfl rfl rfl (by omega) ?_
                intro v5 u5 hv5 hat5 hj6
                refine hK.out _ _ (hS _ _ _ _ _ _ _ _ _ _ _ _ _ hj6) (fun _ => ?_)
                clear hK K
                refine norm_ (a' := ?_) ?_ ?_
                rotate_left
                · simp only [Act.put, List.setIfInBounds_toArray, List.set_cons_zero, List.set_cons_succ]
                  rfl
                exact hcont (v2, v3, v5, w3.heap.size, w3.heap.size + 1, u3.heap.size) _ ⟨hj6, hv2, hv3, hv5, hat2.mono hj2.size, hat3.mono hj3.size, hat5.mono hj5.size⟩
          · refine value_ (v := .slice (some ⟨u2.heap.size, 0, none⟩) 1 1) (w1 := (u2.alloc (.cells #[.int .i64 b] 3))) (by rfl) rfl (by go_simp) ?_
            have hj4 := hj3.allocB (u2.heap.size) (by simp)
            refine hK.out _ _ (hS _ _ _ _ _ _ _ _ _ _ _ _ _ hj4) (fun _ => ?_)
            clear hK K
            refine norm_ (a' := ?_) ?_ ?_
            rotate_left
            · simp only [Act.put, List.setIfInBounds_toArray, List.set_cons_zero, List.set_cons_succ]
              rfl
            refine one_ (i := 16) (N := some 36) #[true, true, true, true, true, true, true, true, true, true, true, true, true, true, true, true, true, true, true, true, true, true, true, false, false, false, false, false, false, false, false, false, false] rfl rfl (by kernel_rfl) (by decide) (fun K hK => ?_)
            · refine J.stepF f hj4 rfl (.tmp 33) (.tmp 35) rfl rfl rfl (by omega) ?_
              intro v4 u4 hv4 hat4 hj5
              refine hK.out _ _ (hS _ _ _ _ _ _ _ _ _ _ _ _ _ hj5) (fun _ => ?_)
              clear hK K
              refine norm_ (a' := ?_) ?_ ?_
              rotate_left
              · simp only [Act.put, List.setIfInBounds_toArray, List.set_cons_zero, List.set_cons_succ]
                rfl
              refine one_ (i := 23) (N := some 43) #[true, true, true, true, true, true, true, true, true, true, true, true, true, true, true, true, true, true, true, true, true, true, true, true, false, false, false, false, false, false, false, false, false] rfl rfl (by kernel_rfl) (by decide) (fun K hK => ?_)
              · refine J.stepB b hj5 rfl (.tmp 40) (.tmp 42) rfl rfl rfl (by omega) ?_
                intro v5 u5 hv5 hat5 hj6
                refine hK.out _ _ (hS _ _ _ _ _ _ _ _ _ _ _ _ _ hj6) (fun _ => ?_)
                clear hK K
                refine norm_ (a' := ?_) ?_ ?_
                rotate_left
                · simp only [Act.put, List.setIfInBounds_toArray, List.set_cons_zero, List.set_cons_succ]
                  rfl
                exact hcont (v2, v4, v5, w3.heap.size, w3.heap.size + 1, u2.heap.size) _ ⟨hj6, hv2, hv4, hv5, hat2.mono hj2.size, hat4.mono hj4.size, hat5.mono hj5.size⟩
        · refine value_ (v := .slice (some ⟨w3.heap.size + 1 + 1, 0, none⟩) 1 1) (w1 := (((w3.alloc (.cells #[.int .u64 (q.1 : Int), .int .u64 (q.2 : Int)] 75)).alloc (.cells #[.int .i64 f] 3)).alloc (.cells #[.int .i64 b] 3))) (by rfl) rfl (by go_simp) ?_
          have hj3 := hj2.allocB (w3.heap.size + 1 + 1) (by simp)
          refine hK.out _ _ (hS _ _ _ _ _ _ _ _ _ _ _ _ _ hj3) (fun _ => ?_)
          clear hK K
          refine norm_ (a' := ?_) ?_ ?_
          rotate_left
          · simp only [Act.put, List.setIfInBounds_toArray, List.set_cons_zero, List.set_cons_succ]
            rfl
          refine one_ (i := 9) (N := some 29) #[true, true, true, true, true, true, true, true, true, true, true, true, true, true, true, true, false, true, true, true, true, true, true, false, false, false, false, false, false, false, false, false, false] rfl rfl (by kernel_rfl) (by decide) (fun K hK => ?_)
          · refine J.stepP q hj3 rfl (.tmp 26) (.tmp 28) rfl rfl rfl (by omega) ?_
            intro v3 u3 hv3 hat3 hj4
            refine hK.out _ _ (hS _ _ _ _ _ _ _ _ _ _ _ _ _ hj4) (fun _ => ?_)
            clear hK K
            refine norm_ (a' := ?_) ?_ ?_
            rotate_left
            · simp only [Act.put, List.setIfInBounds_toArray, List.set_cons_zero, List.set_cons_succ]
              rfl
            refine one_ (i := 16) (N := some 36) #[true, true, true, true, true, true, true, true, true, true, true, true, true, true, true, true, true, true, true, true, true, true, true, false, false, false, false, false, false, false, false, false, false] rfl rfl (by kernel_rfl) (by decide) (fun K hK => ?_)
            · refine J.stepF f hj4 rfl (.tmp 33) (.tmp 35) rfl rfl rfl (by omega) ?_
              intro v4 u4 hv4 hat4 hj5
              refine hK.out _ _ (hS _ _ _ _ _ _ _ _ _ _ _ _ _ hj5) (fun _ => ?_)
              clear hK K
              refine norm_ (a' := ?_) ?_ ?_
              rotate_left
              · simp only [Act.put, List.setIfInBounds_toArray, List.set_cons_zero, List.set_cons_succ]
                rfl
              refine one_ (i := 23) (N := some 43) #[true, true, true, true, true, true, true, true, true, true, true, true, true, true, true, true, true, true, true, true, true, true, true, true, false, false, false, false, false, false, false, false, false] rfl rfl (by kernel_rfl) (by decide) (fun K hK => ?_)
              · refine J.stepB b hj5 rfl (.tmp 40) (.tmp 42) rfl rfl rfl (by omega) ?_
                intro v5 u5 hv5 hat5 hj6
                refine hK.out _ _ (hS _ _ _ _ _ _ _ _ _ _ _ _ _ hj6) (fun _ => ?_)
                clear hK K
                refine norm_ (a' := ?_) ?_ ?_
                rotate_left
                · simp only [Act.put, List.setIfInBounds_toArray, List.set_cons_zero, List.set_cons_succ]
                  rfl
                exact hcont (v3, v4, v5, w3.heap.size, w3.heap.size + 1, w3.heap.size + 1 + 1) _ ⟨hj6, hv3, hv4, hv5, hat3.mono hj3.size, hat4.mono hj4.size, hat5.mono hj5.size⟩
      · refine value_ (v := .slice (some ⟨w3.heap.size + 1, 0, none⟩) 1 1) (w1 := ((w3.alloc (.cells #[.int .u64 (q.1 : Int), .int .u64 (q.2 : Int)] 75)).alloc (.cells #[.int .i64 b] 3))) (by rfl) rfl (by go_simp) ?_
        have hj2 := hj1.allocB (w3.heap.size + 1) (by simp)
        refine hK.out _ _ (hS _ _ _ _ _ _ _ _ _ _ _ _ _ hj2) (fun _ => ?_)
        clear hK K
        refine norm_ (a' := ?_) ?_ ?_
        rotate_left
        · simp only [Act.put, List.setIfInBounds_toArray, List.set_cons_zero, List.set_cons_succ]
          rfl
        refine two_ (i := 9) (j := 15) (Ni := some 29) (Nj := some 35) #[true, true, true, true, true, true, true, true, true, true, true, true, true, true, true, false, false, true, true, true, true, true, true, false, false, false, false, false, false, false, false, false, false] #[true, true, true, true, true, true, true, true, true, false, true, true, true, true, true, true, false, true, true, true, true, true, true, false, false, false, false, false, false, false, false, false, false] rfl rfl rfl rfl (by kernel_rfl) (by decide) (by decide) (fun K hK => ?_) (fun K hK => ?_)
        · refine J.stepP q hj2 rfl (.tmp 26) (.tmp 28) rfl rfl rfl (by omega) ?_
          intro v2 u2 hv2 hat2 hj3
          refine hK.out _ _ (hS _ _ _ _ _ _ _ _ _ _ _ _ _ hj3) (fun _ => ?_)
          clear hK K
          refine norm_ (a' := ?_) ?_ ?_
          rotate_left
          · simp only [Act.put, List.setIfInBounds_toArray, List.set_cons_zero, List.set_cons_succ]
            rfl
          refine one_ (i := 15) (N := some 35) #[true, true, true, true, true, true, true, true, true, true, true, true, true, true, true, true, false, true, true, true, true, true, true, false, false, false, false, false, false, false, false, false, false] rfl rfl (by kernel_rfl) (by decide) (fun K hK => ?_)
          · refine value_ (v := .slice (some ⟨u2.heap.size, 0, none⟩) 1 1) (w1 := (u2.alloc (.cells #[.int .i64 f] 3))) (by rfl) rfl (by go_simp) ?_
            have hj4 := hj3.allocF (u2.heap.size) (by simp)
            refine hK.out _ _ (hS _ _ _ _ _ _ _ _ _ _ _ _ _ hj4) (fun _ => ?_)
            clear hK K
            refine norm_ (a' := ?_) ?_ ?_
            rotate_left
            · simp only [Act.put, List.setIfInBounds_toArray, List.set_cons_zero, List.set_cons_succ]
              rfl
            refine one_ (i := 16) (N := some 36) #[true, true, true, true, true, true, true, true, true, true, true, true, true, true, true, true, true, true, true, true, true, true, true, false, false, false, false, false, false, false, false, false, false] rfl rfl (by kernel_rfl) (by decide) (fun K hK => ?_)
            · refine J.stepF f hj4 rfl (.tmp 33) (.tmp 35) rfl rfl rfl (by omega) ?_
              intro v4 u4 hv4 hat4 hj5
              refine hK.out _ _ (hS _ _ _ _ _ _ _ _ _ _ _ _ _ hj5) (fun _ => ?_)
              clear hK K
              refine norm_ (a' := ?_) ?_ ?_
              rotate_left
              · simp only [Act.put, List.setIfInBounds_toArray, List.set_cons_zero, List.set_cons_succ]
                rfl
              refine one_ (i := 23) (N := some 43) #[true, true, true, true, true, true, true, true, true, true, true, true, true, true, true, true, true, true, true, true, true, true, true, true, false, false, false, false, false, false, false, false, false] rfl rfl (by kernel_rfl) (by decide) (fun K hK => ?_)
              · refine J.stepB b hj5 rfl (.tmp 40) (.tmp 42) rfl rfl rfl (by omega) ?_
                intro v5 u5 hv5 hat5 hj6
                refine hK.out _ _ (hS _ _ _ _ _ _ _ _ _ _ _ _ _ hj6) (fun _ => ?_)
                clear hK K
                refine norm_ (a' := ?_) ?_ ?_
                rotate_left
                · simp only [Act.put, List.setIfInBounds_toArray, List.set_cons_zero, List.set_cons_succ]
                  rfl
                exact hcont (v2, v4, v5, w3.heap.size, u2.heap.size, w3.heap.size + 1) _ ⟨hj6, hv2, hv4, hv5, hat2.mono hj2.size, hat4.mono hj4.size, hat5.mono hj5.size⟩
        · refine value_ (v := .slice (some ⟨w3.heap.size + 1 + 1, 0, none⟩) 1 1) (w1 := (((w3.alloc (.cells #[.int .u64 (q.1 : Int), .int .u64 (q.2 : Int)] 75)).alloc (.cells #[.int .i64 b] 3)).alloc (.cells #[.int .i64 f] 3))) (by rfl) rfl (by go_simp) ?_
          have hj3 := hj2.allocF (w3.heap.size + 1 + 1) (by simp)
          refine hK.out _ _ (hS _ _ _ _ _ _ _ _ _ _ _ _ _ hj3) (fun _ => ?_)
          clear hK K
          refine norm_ (a' := ?_) ?_ ?_
          rotate_left
          · simp only [Act.put, List.setIfInBounds_toArray, List.set_cons_zero, List.set_cons_succ]
            rfl
          refine one_ (i := 9) (N := some 29) #[true, true, true, true, true, true, true, true, true, true, true, true, true, true, true, true, false, true, true, true, true, true, true, false, false, false, false, false, false, false, false, false, false] rfl rfl (by kernel_rfl) (by decide) (fun K hK => ?_)
          · refine J.stepP q hj3 rfl (.tmp 26) (.tmp 28) rfl rfl rfl (by omega) ?_
            intro v3 u3 hv3 hat3 hj4
            refine hK.out _ _ (hS _ _ _ _ _ _ _ _ _ _ _ _ _ hj4) (fun _ => ?_)
            clear hK K
            refine norm_ (a' := ?_) ?_ ?_
            rotate_left
            · simp only [Act.put, List.setIfInBounds_toArray, List.set_cons_zero, List.set_cons_succ]
              rfl
            refine one_ (i := 16) (N := some 36) #[true, true, true, true, true, true, true, true, true, true, true, true, true, true, true, true, true, true, true, true, true, true, true, false, false, false, false, false, false, false, false, false, false] rfl rfl (by kernel_rfl) (by decide) (fun K hK => ?_)
            · refine J.stepF f hj4 rfl (.tmp 33) (.tmp 35) rfl rfl rfl (by omega) ?_
              intro v4 u4 hv4 hat4 hj5
              refine hK.out _ _ (hS _ _ _ _ _ _ _ _ _ _ _ _ _ hj5) (fun _ => ?_)
              clear hK K
              refine norm_ (a' := ?_) ?_ ?_
              rotate_left
              · simp only [Act.put, List.setIfInBounds_toArray, List.set_cons_zero, List.set_cons_succ]
                rfl
              refine one_ (i := 23) (N := some 43) #[true, true, true, true, true, true, true, true, true, true, true, true, true, true, true, true, true, true, true, true, true, true, true, true, false, false, false, false, false, false, false, false, false] rfl rfl (by kernel_rfl) (by decide) (fun K hK => ?_)
              · refine J.stepB b hj5 rfl (.tmp 40) (.tmp 42) rfl rfl rfl (by omega) ?_
                intro v5 u5 hv5 hat5 hj6
                refine hK.out _ _ (hS _ _ _ _ _ _ _ _ _ _ _ _ _ hj6) (fun _ => ?_)
                clear hK K
                refine norm_ (a' := ?_) ?_ ?_
                rotate_left
                · simp only [Act.put, List.setIfInBounds_toArray, List.set_cons_zero, List.set_cons_succ]
                  rfl
                exact hcont (v3, v4, v5, w3.heap.size, w3.heap.size + 1 + 1, w3.heap.size + 1) _ ⟨hj6, hv3, hv4, hv5, hat3.mono hj3.size, hat4.mono hj4.size, hat5.mono hj5.size⟩
    · refine value_ (v := .slice (some ⟨w3.heap.size, 0, none⟩) 1 1) (w1 := (w3.alloc (.cells #[.int .i64 f] 3))) (by rfl) rfl (by go_simp) ?_
      have hj1 := hj0.allocF (w3.heap.size) (by simp)
      refine hK.out _ _ (hS _ _ _ _ _ _ _ _ _ _ _ _ _ hj1) (fun _ => ?_)
      clear hK K
      refine norm_ (a' := ?_) ?_ ?_
      rotate_left
      · simp only [Act.put, List.setIfInBounds_toArray, List.set_cons_zero, List.set_cons_succ]
        rfl
      refine two_ (i := 8) (j := 22) (Ni := some 28) (Nj := some 42) #[true, true, true, true, true, true, true, true, true, false, true, true, true, true, true, true, false, true, true, true, true, true, false, false, false, false, false, false, false, false, false, false, false] #[true, true, true, true, true, true, true, true, false, false, true, true, true, true, true, true, false, true, true, true, true, true, true, false, false, false, false, false, false, false, false, false, false] rfl rfl rfl rfl (by kernel_rfl) (by decide) (by decide) (fun K hK => ?_) (fun K hK => ?_)
      · refine value_ (v := .slice (some ⟨w3.heap.size + 1, 0, none⟩) 1 1) (w1 := ((w3.alloc (.cells #[.int .i64 f] 3)).alloc (.cells #[.int .u64 (q.1 : Int), .int .u64 (q.2 : Int)] 75))) (by rfl) rfl (by go_simp) ?_
        have hj2 := hj1.allocP (w3.heap.size + 1) (by simp)
        refine hK.out _ _ (hS _ _ _ _ _ _ _ _ _ _ _ _ _ hj2) (fun _ => ?_)
        clear hK K
        refine norm_ (a' := ?_) ?_ ?_
        rotate_left
        · simp only [Act.put, List.setIfInBounds_toArray, List.set_cons_zero, List.set_cons_succ]
          rfl
        refine two_ (i := 9) (j := 22) (Ni := some 29) (Nj := some 42) #[true, true, true, true, true, true, true, true, true, true, true, true, true, true, true, true, false, true, true, true, true, true, false, false, false, false, false, false, false, false, false, false, false] #[true, true, true, true, true, true, true, true, true, false, true, true, true, true, true, true, false, true, true, true, true, true, true, false, false, false, false, false, false, false, false, false, false] rfl rfl rfl rfl (by kernel_rfl) (by decide) (by decide) (fun K hK => ?_) (fun K hK => ?_)
        · refine J.stepP q hj2 rfl (.tmp 26) (.tmp 28) rfl rfl rfl (by omega) ?_
          intro v2 u2 hv2 hat2 hj3
          refine hK.out _ _ (hS _ _ _ _ _ _ _ _ _ _ _ _ _ hj3) (fun _ => ?_)
          clear hK K
          refine norm_ (a' := ?_) ?_ ?_
          rotate_left
          · simp only [Act.put, List.setIfInBounds_toArray, List.set_cons_zero, List.set_cons_succ]
            rfl
          refine two_ (i := 16) (j := 22) (Ni := some 36) (Nj := some 42) #[true, true, true, true, true, true, true, true, true, true, true, true, true, true, true, true, true, true, true, true, true, true, false, false, false, false, false, false, false, false, false, false, false] #[true, true, true, true, true, true, true, true, true, true, true, true, true, true, true, true, false, true, true, true, true, true, true, false, false, false, false, false, false, false, false, false, false] rfl rfl rfl rfl (by kernel_rfl) (by decide) (by decide) (fun K hK => ?_) (fun K hK => ?_)
          · refine J.stepF f hj3 rfl (.tmp 33) (.tmp 35) rfl rfl rfl (by omega) ?_
            intro v3 u3 hv3 hat3 hj4
            refine hK.out _ _ (hS _ _ _ _ _ _ _ _ _ _ _ _ _ hj4) (fun _ => ?_)
            clear hK K
            refine norm_ (a' := ?_) ?_ ?_
            rotate_left
            · simp only [Act.put, List.setIfInBounds_toArray, List.set_cons_zero, List.set_cons_succ]
              rfl
            refine one_ (i := 22) (N := some 42) #[true, true, true, true, true, true, true, true, true, true, true, true, true, true, true, true, true, true, true, true, true, true, true, false, false, false, false, false, false, false, false, false, false] rfl rfl (by kernel_rfl) (by decide) (fun K hK => ?_)
            · refine value_ (v := .slice (some ⟨u3.heap.size, 0, none⟩) 1 1) (w1 := (u3.alloc (.cells #[.int .i64 b] 3))) (by rfl) rfl (by go_simp) ?_
              have hj5 := hj4.allocB (u3.heap.size) (by simp)
              refine hK.out _ _ (hS _ _ _ _ _ _ _ _ _ _ _ _ _ hj5) (fun _ => ?_)
              clear hK K
              refine norm_ (a' := ?_) ?_ ?_
              rotate_left
              · simp only [Act.put, List.setIfInBounds_toArray, List.set_cons_zero, List.set_cons_succ]
                rfl
              refine one_ (i := 23) (N := some 43) #[true, true, true, true, true, true, true, true, true, true, true, true, true, true, true, true, true, true, true, true, true, true, true, true, false, false, false, false, false, false, false, false, false] rfl rfl (by kernel_rfl) (by decide) (fun K hK => ?_)
              · refine J.stepB b hj5 rfl (.tmp 40) (.tmp 42) rfl rfl rfl (by omega) ?_
                intro v5 u5 hv5 hat5 hj6
                refine hK.out _ _ (hS _ _ _ _ _ _ _ _ _ _ _ _ _ hj6) (fun _ => ?_)
                clear hK K
                refine norm_ (a' := ?_) ?_ ?_
                rotate_left
                · simp only [Act.put, List.setIfInBounds_toArray, List.set_cons_zero, List.set_cons_succ]
                  rfl
                exact hcont (v2, v3, v5, w3.heap.size + 1, w3.heap.size, u3.heap.size) _ ⟨hj6, hv2, hv3, hv5, hat2.mono hj2.size, hat3.mono hj3.size, hat5.mono hj5.size⟩
          · refine value_ (v := .slice (some ⟨u2.heap.size, 0, none⟩) 1 1) (w1 := (u2.alloc (.cells #[.int .i64 b] 3))) (by rfl) rfl (by go_simp) ?_
            have hj4 := hj3.allocB (u2.heap.size) (by simp)
            refine hK.out _ _ (hS _ _ _ _ _ _ _ _ _ _ _ _ _ hj4) (fun _ => ?_)
            clear hK K
            refine norm_ (a' := ?_) ?_ ?_
            rotate_left
            · simp only [Act.put, List.setIfInBounds_toArray, List.set_cons_zero, List.set_cons_succ]
              rfl
            refine one_ (i := 16) (N := some 36) #[true, true, true, true, true, true, true, true, true, true, true, true, true, true, true, true, true, true, true, true, true, true, true, false, false, false, false, false, false, false, false, false, false] rfl rfl (by kernel_rfl) (by decide) (fun K hK => ?_)
            · refine J.stepF f hj4 rfl (.tmp 33) (.tmp 35) rfl rfl rfl (by omega) ?_
              intro v4 u4 hv4 hat4 hj5
              refine hK.out _ _ (hS _ _ _ _ _ _ _ _ _ _ _ _ _ hj5) (fun _ => ?_)
              clear hK K
              refine norm_ (a' := ?_) ?_ ?_
              rotate_left
              · simp only [Act.put, List.setIfInBounds_toArray, List.set_cons_zero, List.set_cons_succ]
                rfl
              refine one_ (i := 23) (N := some 43) #[true, true, true, true, true, true, true, true, true, true, true, true, true, true, true, true, true, true, true, true, true, true, true, true, false, false, false, false, false, false, false, false, false] rfl rfl (by kernel_rfl) (by decide) (fun K hK => ?_)
              · refine J.stepB b hj5 rfl (.tmp 40) (.tmp 42) rfl rfl rfl (by omega) ?_
                intro v5 u5 hv5 hat5 hj6
                refine hK.out _ _ (hS _ _ _ _ _ _ _ _ _ _ _ _ _ hj6) (fun _ => ?_)
                clear hK K
                refine norm_ (a' := ?_) ?_ ?_
                rotate_left
                · simp only [Act.put, List.setIfInBounds_toArray, List.set_cons_zero, List.set_cons_succ]
                  rfl
                exact hcont (v2, v4, v5, w3.heap.size + 1, w3.heap.size, u2.heap.size) _ ⟨hj6, hv2, hv4, hv5, hat2.mono hj2.size, hat4.mono hj4.size, hat5.mono hj5.size⟩
        · refine value_ (v := .slice (some ⟨w3.heap.size + 1 + 1, 0, none⟩) 1 1) (w1 := (((w3.alloc (.cells #[.int .i64 f] 3)).alloc (.cells #[.int .u64 (q.1 : Int), .int .u64 (q.2 : Int)] 75)).alloc (.cells #[.int .i64 b] 3))) (by rfl) rfl (by go_simp) ?_
          have hj3 := hj2.allocB (w3.heap.size + 1 + 1) (by simp)
          refine hK.out _ _ (hS _ _ _ _ _ _ _ _ _ _ _ _ _ hj3) (fun _ => ?_)
          clear hK K
          refine norm_ (a' := ?_) ?_ ?_
          rotate_left
          · simp only [Act.put, List.setIfInBounds_toArray, List.set_cons_zero, List.set_cons_succ]
            rfl
          refine one_ (i := 9) (N := some 29) #[true, true, true, true, true, true, true, true, true, true, true, true, true, true, true, true, false, true, true, true, true, true, true, false, false, false, false, false, false, false, false, false, false] rfl rfl (by kernel_rfl) (by decide) (fun K hK => ?_)
          · refine J.stepP q hj3 rfl (.tmp 26) (.tmp 28) rfl rfl rfl (by omega) ?_
            intro v3 u3 hv3 hat3 hj4
            refine hK.out _ _ (hS _ _ _ _ _ _ _ _ _ _ _ _ _ hj4) (fun _ => ?_)
            clear hK K
            refine norm_ (a' := ?_) ?_ ?_
            rotate_left
            · simp only [Act.put, List.setIfInBounds_toArray, List.set_cons_zero, List.set_cons_succ]
              rfl
            refine one_ (i := 16) (N := some 36) #[true, true, true, true, true, true, true, true, true, true, true, true, true, true, true, true, true, true, true, true, true, true, true, false, false, false, false, false, false, false, false, false, false] rfl rfl (by kernel_rfl) (by decide) (fun K hK => ?_)
            · refine J.stepF f hj4 rfl (.tmp 33) (.tmp 35) rfl rfl rfl (by omega) ?_
              intro v4 u4 hv4 hat4 hj5
              refine hK.out _ _ (hS _ _ _ _ _ _ _ _ _ _ _ _ _ hj5) (fun _ => ?_)
              clear hK K
              refine norm_ (a' := ?_) ?_ ?_
              rotate_left
              · simp only [Act.put, List.setIfInBounds_toArray, List.set_cons_zero, List.set_cons_succ]
                rfl
              refine one_ (i := 23) (N := some 43) #[true, true, true, true, true, true, true, true, true, true, true, true, true, true, true, true, true, true, true, true, true, true, true, true, false, false, false, false, false, false, false, false, false] rfl rfl (by kernel_rfl) (by decide) (fun K hK => ?_)
              · refine J.stepB b hj5 rfl (.tmp 40) (.tmp 42) rfl rfl rfl (by omega) ?_
                intro v5 u5 hv5 hat5 hj6
                refine hK.out _ _ (hS _ _ _ _ _ _ _ _ _ _ _ _ _ hj6) (fun _ => ?_)
                clear hK K
                refine norm_ (a' := ?_) ?_ ?_
                rotate_left
                · simp only [Act.put, List.setIfInBounds_toArray, List.set_cons_zero, List.set_cons_succ]
                  rfl
                exact hcont (v3, v4, v5, w3.heap.size + 1, w3.heap.size, w3.heap.size + 1 + 1) _ ⟨hj6, hv3, hv4, hv5, hat3.mono hj3.size, hat4.mono hj4.size, hat5.mono hj5.size⟩
      · refine value_ (v := .slice (some ⟨w3.heap.size + 1, 0, none⟩) 1 1) (w1 := ((w3.alloc (.cells #[.int .i64 f] 3)).alloc (.cells #[.int .i64 b] 3))) (by rfl) rfl (by go_simp) ?_
        have hj2 := hj1.allocB (w3.heap.size + 1) (by simp)
        refine hK.out _ _ (hS _ _ _ _ _ _ _ _ _ _ _ _ _ hj2) (fun _ => ?_)
        clear hK K
        refine norm_ (a' := ?_) ?_ ?_
        rotate_left
        · simp only [Act.put, List.setIfInBounds_toArray, List.set_cons_zero, List.set_cons_succ]
          rfl
        refine one_ (i := 8) (N := some 28) #[true, true, true, true, true, true, true, true, true, false, true, true, true, true, true, true, false, true, true, true, true, true, true, false, false, false, false, false, false, false, false, false, false] rfl rfl (by kernel_rfl) (by decide) (fun K hK => ?_)
        · refine value_ (v := .slice (some ⟨w3.heap.size + 1 + 1, 0, none⟩) 1 1) (w1 := (((w3.alloc (.cells #[.int .i64 f] 3)).alloc (.cells #[.int .i64 b] 3)).alloc (.cells #[.int .u64 (q.1 : Int), .int .u64 (q.2 : Int)] 75))) (by rfl) rfl (by go_simp) ?_
          have hj3 := hj2.allocP (w3.heap.size + 1 + 1) (by simp)
          refine hK.out _ _ (hS _ _ _ _ _ _ _ _ _ _ _ _ _ hj3) (fun _ => ?_)
          clear hK K
          refine norm_ (a' := ?_) ?_ ?_
          rotate_left
          · simp only [Act.put, List.setIfInBounds_toArray, List.set_cons_zero, List.set_cons_succ]
            rfl
          refine one_ (i := 9) (N := some 29) #[true, true, true, true, true, true, true, true, true, true, true, true, true, true, true, true, false, true, true, true, true, true, true, false, false, false, false, false, false, false, false, false, false] rfl rfl (by kernel_rfl) (by decide) (fun K hK => ?_)
          · refine J.stepP q hj3 rfl (.tmp 26) (.tmp 28) rfl rfl rfl (by omega) ?_
            intro v3 u3 hv3 hat3 hj4
            refine hK.out _ _ (hS _ _ _ _ _ _ _ _ _ _ _ _ _ hj4) (fun _ => ?_)
            clear hK K
            refine norm_ (a' := ?_) ?_ ?_
            rotate_left
            · simp only [Act.put, List.setIfInBounds_toArray, List.set_cons_zero, List.set_cons_succ]
              rfl
            refine one_ (i := 16) (N := some 36) #[true, true, true, true, true, true, true, true, true, true, true, true, true, true, true, true, true, true, true, true, true, true, true, false, false, false, false, false, false, false, false, false, false] rfl rfl (by kernel_rfl) (by decide) (fun K hK => ?_)
            · refine J.stepF f hj4 rfl (.tmp 33) (.tmp 35) rfl rfl rfl (by omega) ?_
              intro v4 u4 hv4 hat4 hj5
              refine hK.out _ _ (hS _ _ _ _ _ _ _ _ _ _ _ _ _ hj5) (fun _ => ?_)
              clear hK K
              refine norm_ (a' := ?_) ?_ ?_
              rotate_left
              · simp only [Act.put, List.setIfInBounds_toArray, List.set_cons_zero, List.set_cons_succ]
                rfl
              refine one_ (i := 23) (N := some 43) #[true, true, true, true, true, true, true, true, true, true, true, true, true, true, true, true, true, true, true, true, true, true, true, true, false, false, false, false, false, false, false, false, false] rfl rfl (by kernel_rfl) (by decide) (fun K hK => ?_)
              · refine J.stepB b hj5 rfl (.tmp 40) (.tmp 42) rfl rfl rfl (by omega) ?_
                intro v5 u5 hv5 hat5 hj6
                refine hK.out _ _ (hS _ _ _ _ _ _ _ _ _ _ _ _ _ hj6) (fun _ => ?_)
                clear hK K
                refine norm_ (a' := ?_) ?_ ?_
                rotate_left
                · simp only [Act.put, List.setIfInBounds_toArray, List.set_cons_zero, List.set_cons_succ]
                  rfl
                exact hcont (v3, v4, v5, w3.heap.size + 1 + 1, w3.heap.size, w3.heap.size + 1) _ ⟨hj6, hv3, hv4, hv5, hat3.mono hj3.size, hat4.mono hj4.size, hat5.mono hj5.size⟩
    · refine value_ (v := .slice (some ⟨w3.heap.size, 0, none⟩) 1 1) (w1 := (w3.alloc (.cells #[.int .i64 b] 3))) (by rfl) rfl (by go_simp) ?_
      have hj1 := hj0.allocB (w3.heap.size) (by simp)
      refine hK.out _ _ (hS _ _ _ _ _ _ _ _ _ _ _ _ _ hj1) (fun _ => ?_)
      clear hK K
      refine norm_ (a' := ?_) ?_ ?_
      rotate_left
      · simp only [Act.put, List.setIfInBounds_toArray, List.set_cons_zero, List.set_cons_succ]
        rfl
      refine two_ (i := 8) (j := 15) (Ni := some 28) (Nj := some 35) #[true, true, true, true, true, true, true, true, true, false, true, true, true, true, true, false, false, true, true, true, true, true, true, false, false, false, false, false, false, false, false, false, false] #[true, true, true, true, true, true, true, true, false, false, true, true, true, true, true, true, false, true, true, true, true, true, true, false, false, false, false, false, false, false, false, false, false] rfl rfl rfl rfl (by kernel_rfl) (by decide) (by decide) (fun K hK => ?_) (fun K hK => ?_)
      · refine value_ (v := .slice (some ⟨w3.heap.size + 1, 0, none⟩) 1 1) (w1 := ((w3.alloc (.cells #[.int .i64 b] 3)).alloc (.cells #[.int .u64 (q.1 : Int), .int .u64 (q.2 : Int)] 75))) (by rfl) rfl (by go_simp) ?_
        have hj2 := hj1.allocP (w3.heap.size + 1) (by simp)
        refine hK.out _ _ (hS _ _ _ _ _ _ _ _ _ _ _ _ _ hj2) (fun _ => ?_)
        clear hK K
        refine norm_ (a' := ?_) ?_ ?_
        rotate_left
        · simp only [Act.put, List.setIfInBounds_toArray, List.set_cons_zero, List.set_cons_succ]
          rfl
        refine two_ (i := 9) (j := 15) (Ni := some 29) (Nj := some 35) #[true, true, true, true, true, true, true, true, true, true, true, true, true, true, true, false, false, true, true, true, true, true, true, false, false, false, false, false, false, false, false, false, false] #[true, true, true, true, true, true, true, true, true, false, true, true, true, true, true, true, false, true, true, true, true, true, true, false, false, false, false, false, false, false, false, false, false] rfl rfl rfl rfl (by kernel_rfl) (by decide) (by decide) (fun K hK => ?_) (fun K hK => ?_)
        · refine J.stepP q hj2 rfl (.tmp 26) (.tmp 28) rfl rfl rfl (by omega) ?_
          intro v2 u2 hv2 hat2 hj3
          refine hK.out _ _ (hS _ _ _ _ _ _ _ _ _ _ _ _ _ hj3) (fun _ => ?_)
          clear hK K
          refine norm_ (a' := ?_) ?_ ?_
          rotate_left
          · simp only [Act.put, List.setIfInBounds_toArray, List.set_cons_zero, List.set_cons_succ]
            rfl
          refine one_ (i := 15) (N := some 35) #[true, true, true, true, true, true, true, true, true, true, true, true, true, true, true, true, false, true, true, true, true, true, true, false, false, false, false, false, false, false, false, false, false] rfl rfl (by kernel_rfl) (by decide) (fun K hK => ?_)
          · refine value_ (v := .slice (some ⟨u2.heap.size, 0, none⟩) 1 1) (w1 := (u2.alloc (.cells #[.int .i64 f] 3))) (by rfl) rfl (by go_simp) ?_
            have hj4 := hj3.allocF (u2.heap.size) (by simp)
            refine hK.out _ _ (hS _ _ _ _ _ _ _ _ _ _ _ _ _ hj4) (fun _ => ?_)
            clear hK K
            refine norm_ (a' := ?_) ?_ ?_
            rotate_left
            · simp only [Act.put, List.setIfInBounds_toArray, List.set_cons_zero, List.set_cons_succ]
              rfl
            refine one_ (i := 16) (N := some 36) #[true, true, true, true, true, true, true, true, true, true, true, true, true, true, true, true, true, true, true, true, true, true, true, false, false, false, false, false, false, false, false, false, false] rfl rfl (by kernel_rfl) (by decide) (fun K hK => ?_)
            · refine J.stepF f hj4 rfl (.tmp 33) (.tmp 35) rfl rfl rfl (by omega) ?_
              intro v4 u4 hv4 hat4 hj5
              refine hK.out _ _ (hS _ _ _ _ _ _ _ _ _ _ _ _ _ hj5) (fun _ => ?_)
              clear hK K
              refine norm_ (a' := ?_) ?_ ?_
              rotate_left
              · simp only [Act.put, List.setIfInBounds_toArray, List.set_cons_zero, List.set_cons_succ]
                rfl
              refine one_ (i := 23) (N := some 43) #[true, true, true, true, true, true, true, true, true, true, true, true, true, true, true, true, true, true, true, true, true, true, true, true, false, false, false, false, false, false, false, false, false] rfl rfl (by kernel_rfl) (by decide) (fun K hK => ?_)
              · refine J.stepB b hj5 rfl (.tmp 40) (.tmp 42) rfl rfl rfl (by omega) ?_
                intro v5 u5 hv5 hat5 hj6
                refine hK.out _ _ (hS _ _ _ _ _ _ _ _ _ _ _ _ _ hj6) (fun _ => ?_)
                clear hK K
                refine norm_ (a' := ?_) ?_ ?_
                rotate_left
                · simp only [Act.put, List.setIfInBounds_toArray, List.set_cons_zero, List.set_cons_succ]
                  rfl
                exact hcont (v2, v4, v5, w3.heap.size + 1, u2.heap.size, w3.heap.size) _ ⟨hj6, hv2, hv4, hv5, hat2.mono hj2.size, hat4.mono hj4.size, hat5.mono hj5.size⟩
        · refine value_ (v := .slice (some ⟨w3.heap.size + 1 + 1, 0, none⟩) 1 1) (w1 := (((w3.alloc (.cells #[.int .i64 b] 3)).alloc (.cells #[.int .u64 (q.1 : Int), .int .u64 (q.2 : Int)] 75)).alloc (.cells #[.int .i64 f] 3))) (by rfl) rfl (by go_simp) ?_
          have hj3 := hj2.allocF (w3.heap.size + 1 + 1) (by simp)
          refine hK.out _ _ (hS _ _ _ _ _ _ _ _ _ _ _ _ _ hj3) (fun _ => ?_)
          clear hK K
          refine norm_ (a' := ?_) ?_ ?_
          rotate_left
          · simp only [Act.put, List.setIfInBounds_toArray, List.set_cons_zero, List.set_cons_succ]
            rfl
          refine one_ (i := 9) (N := some 29) #[true, true, true, true, true, true, true, true, true, true, true, true, true, true, true, true, false, true, true, true, true, true, true, false, false, false, false, false, false, false, false, false, false] rfl rfl (by kernel_rfl) (by decide) (fun K hK => ?_)
          · refine J.stepP q hj3 rfl (.tmp 26) (.tmp 28) rfl rfl rfl (by omega) ?_
            intro v3 u3 hv3 hat3 hj4
            refine hK.out _ _ (hS _ _ _ _ _ _ _ _ _ _ _ _ _ hj4) (fun _ => ?_)
            clear hK K
            refine norm_ (a' := ?_) ?_ ?_
            rotate_left
            · simp only [Act.put, List.setIfInBounds_toArray, List.set_cons_zero, List.set_cons_succ]
              rfl
            refine one_ (i := 16) (N := some 36) #[true, true, true, true, true, true, true, true, true, true, true, true, true, true, true, true, true, true, true, true, true, true, true, false, false, false, false, false, false, false, false, false, false] rfl rfl (by kernel_rfl) (by decide) (fun K hK => ?_)
            · refine J.stepF f hj4 rfl (.tmp 33) (.tmp 35) rfl rfl rfl (by omega) ?_
              intro v4 u4 hv4 hat4 hj5
              refine hK.out _ _ (hS _ _ _ _ _ _ _ _ _ _ _ _ _ hj5) (fun _ => ?_)
              clear hK K
              refine norm_ (a' := ?_) ?_ ?_
              rotate_left
              · simp only [Act.put, List.setIfInBounds_toArray, List.set_cons_zero, List.set_cons_succ]
                rfl
              refine one_ (i := 23) (N := some 43) #[true, true, true, true, true, true, true, true, true, true, true, true, true, true, true, true, true, true, true, true, true, true, true, true, false, false, false, false, false, false, false, false, false] rfl rfl (by kernel_rfl) (by decide) (fun K hK => ?_)
              · refine J.stepB b hj5 rfl (.tmp 40) (.tmp 42) rfl rfl rfl (by omega) ?_
                intro v5 u5 hv5 hat5 hj6
                refine hK.out _ _ (hS _ _ _ _ _ _ _ _ _ _ _ _ _ hj6) (fun _ => ?_)
                clear hK K
                refine norm_ (a' := ?_) ?_ ?_
                rotate_left
                · simp only [Act.put, List.setIfInBounds_toArray, List.set_cons_zero, List.set_cons_succ]
                  rfl
                exact hcont (v3, v4, v5, w3.heap.size + 1, w3.heap.size + 1 + 1, w3.heap.size) _ ⟨hj6, hv3, hv4, hv5, hat3.mono hj3.size, hat4.mono hj4.size, hat5.mono hj5.size⟩
      · refine value_ (v := .slice (some ⟨w3.heap.size + 1, 0, none⟩) 1 1) (w1 := ((w3.alloc (.cells #[.int .i64 b] 3)).alloc (.cells #[.int .i64 f] 3))) (by rfl) rfl (by go_simp) ?_
        have hj2 := hj1.allocF (w3.heap.size + 1) (by simp)
        refine hK.out _ _ (hS _ _ _ _ _ _ _ _ _ _ _ _ _ hj2) (fun _ => ?_)
        clear hK K
        refine norm_ (a' := ?_) ?_ ?_
        rotate_left
        · simp only [Act.put, List.setIfInBounds_toArray, List.set_cons_zero, List.set_cons_succ]
          rfl
        refine one_ (i := 8) (N := some 28) #[true, true, true, true, true, true, true, true, true, false, true, true, true, true, true, true, false, true, true, true, true, true, true, false, false, false, false, false, false, false, false, false, false] rfl rfl (by kernel_rfl) (by decide) (fun K hK => ?_)
        · refine value_ (v := .slice (some ⟨w3.heap.size + 1 + 1, 0, none⟩) 1 1) (w1 := (((w3.alloc (.cells #[.int .i64 b] 3)).alloc (.cells #[.int .i64 f] 3)).alloc (.cells #[.int .u64 (q.1 : Int), .int .u64 (q.2 : Int)] 75))) (by rfl) rfl (by go_simp) ?_
          have hj3 := hj2.allocP (w3.heap.size + 1 + 1) (by simp)
          refine hK.out _ _ (hS _ _ _ _ _ _ _ _ _ _ _ _ _ hj3) (fun _ => ?_)
          clear hK K
          refine norm_ (a' := ?_) ?_ ?_
          rotate_left
          · simp only [Act.put, List.setIfInBounds_toArray, List.set_cons_zero, List.set_cons_succ]
            rfl
          refine one_ (i := 9) (N := some 29) #[true, true, true, true, true, true, true, true, true, true, true, true, true, true, true, true, false, true, true, true, true, true, true, false, false, false, false, false, false, false, false, false, false] rfl rfl (by kernel_rfl) (by decide) (fun K hK => ?_)
          · refine J.stepP q hj3 rfl (.tmp 26) (.tmp 28) rfl rfl rfl (by omega) ?_
            intro v3 u3 hv3 hat3 hj4
            refine hK.out _ _ (hS _ _ _ _ _ _ _ _ _ _ _ _ _ hj4) (fun _ => ?_)
            clear hK K
            refine norm_ (a' := ?_) ?_ ?_
            rotate_left
            · simp only [Act.put, List.setIfInBounds_toArray, List.set_cons_zero, List.set_cons_succ]
              rfl
            refine one_ (i := 16) (N := some 36) #[true, true, true, true, true, true, true, true, true, true, true, true, true, true, true, true, true, true, true, true, true, true, true, false, false, false, false, false, false, false, false, false, false] rfl rfl (by kernel_rfl) (by decide) (fun K hK => ?_)
            · refine J.stepF f hj4 rfl (.tmp 33) (.tmp 35) rfl rfl rfl (by omega) ?_
              intro v4 u4 hv4 hat4 hj5
              refine hK.out _ _ (hS _ _ _ _ _ _ _ _ _ _ _ _ _ hj5) (fun _ => ?_)
              clear hK K
              refine norm_ (a' := ?_) ?_ ?_
              rotate_left
              · simp only [Act.put, List.setIfInBounds_toArray, List.set_cons_zero, List.set_cons_succ]
                rfl
              refine one_ (i := 23) (N := some 43) #[true, true, true, true, true, true, true, true, true, true, true, true, true, true, true, true, true, true, true, true, true, true, true, true, false, false, false, false, false, false, false, false, false] rfl rfl (by kernel_rfl) (by decide) (fun K hK => ?_)
              · refine J.stepB b hj5 rfl (.tmp 40) (.tmp 42) rfl rfl rfl (by omega) ?_
                intro v5 u5 hv5 hat5 hj6
                refine hK.out _ _ (hS _ _ _ _ _ _ _ _ _ _ _ _ _ hj6) (fun _ => ?_)
                clear hK K
                refine norm_ (a' := ?_) ?_ ?_
                rotate_left
                · simp only [Act.put, List.setIfInBounds_toArray, List.set_cons_zero, List.set_cons_succ]
                  rfl
                exact hcont (v3, v4, v5, w3.heap.size + 1 + 1, w3.heap.size + 1, w3.heap.size) _ ⟨hj6, hv3, hv4, hv5, hat3.mono hj3.size, hat4.mono hj4.size, hat5.mono hj5.size⟩
  · rintro ⟨v1, v2, v3, b1, b2, b3⟩ w4 ⟨hJ, ⟨k1, cap1, rfl⟩, ⟨k2, cap2, rfl⟩, ⟨k3, cap3, rfl⟩, hat1, hat2, hat3⟩
    refine norm_ (a' := ?_) ?_ ?_
    rotate_left
    · simp only [putAll, Act.put, List.setIfInBounds_toArray, List.set_cons_zero, List.set_cons_succ]
      rfl
    have hs4 := (hS _ _ _ _ _ _ _ _ _ _ _ _ _ hJ).1
    have HC := Sd.mk (H.out.close HG3.out HM3.out.2.2.2.2 hHeld.1 HM3.out.2.1 HM3.out.2.2.1 HM3.out.2.2.2.1 hJ (ps' := ps ++ [q]) (fr' := fr ++ [f]) (bs' := bs ++ [b]) (by simp) (by simp) (by simp) (by simp) (by simp) (by simp) hat1 hat2 hat3)
    have k2c := cell_blk hs4 2
    have k3c := cell_blk hs4 3
    have k4c := cell_blk hs4 4
    have k2f := frz hs4 2
    have k3f := frz hs4 3
    have k4f := frz hs4 4
    clear hs4 hS hJ hat1 hat2 hat3 hHeld
    refine pure_ (i := 24) (N := some 44) (v := ?_) (a' := ?_) #[true, true, true, true, true, true, true, true, true, true, true, true, true, true, true, true, true, true, true, true, true, true, true, true, true, false, false, false, false, false, false, false, false] rfl rfl (by kernel_rfl) (fun _ _ _ h => h) (Or.inl ⟨by rfl, ?_⟩) ?_ ?_
    rotate_left
    · intro w'
      go_simp
      with_reducible rfl
    rotate_left
    · simp only [Act.put, List.setIfInBounds_toArray, List.set_cons_zero, List.set_cons_succ]
      rfl
    refine pure_ (i := 25) (N := some 45) (v := ?_) (a' := ?_) #[true, true, true, true, true, true, true, true, true, true, true, true, true, true, true, true, true, true, true, true, true, true, true, true, true, true, false, false, false, false, false, false, false] rfl rfl (by kernel_rfl) (fun _ _ _ h => h) (Or.inl ⟨by rfl, ?_⟩) ?_ ?_
    rotate_left
    · intro w'
      go_simp
      with_reducible rfl
    rotate_left
    · simp only [Act.put, List.setIfInBounds_toArray, List.set_cons_zero, List.set_cons_succ]
      rfl
    refine last_ (i := 26) (N := none) #[true, true, true, true, true, true, true, true, true, true, true, true, true, true, true, true, true, true, true, true, true, true, true, true, true, true, true, false, false, false, false, false, false] rfl rfl (by kernel_rfl) (by decide) (fun K hK => ?_)
    refine skip_ (w1 := ?_) (by rfl) rfl ?_ ?_
    rotate_left
    · go_simp
      rfl
    refine hK.out _ _ ?_
    clear hK K
    refine pure_ (i := 27) (N := some 46) (v := ?_) (a' := ?_) #[true, true, true, true, true, true, true, true, true, true, true, true, true, true, true, true, true, true, true, true, true, true, true, true, true, true, true, true, false, false, false, false, false] rfl rfl (by kernel_rfl) (fun _ _ _ h => h) (Or.inl ⟨by rfl, ?_⟩) ?_ ?_
    rotate_left
    · intro w'
      go_simp
      with_reducible rfl
    rotate_left
    · simp only [Act.put, List.setIfInBounds_toArray, List.set_cons_zero, List.set_cons_succ]
      rfl
    refine pure_ (i := 28) (N := some 47) (v := ?_) (a' := ?_) #[true, true, true, true, true, true, true, true, true, true, true, true, true, true, true, true, true, true, true, true, true, true, true, true, true, true, true, true, true, false, false, false, false] rfl rfl (by kernel_rfl) (fun _ _ _ h => h) (Or.inl ⟨by rfl, ?_⟩) ?_ ?_
    rotate_left
    · intro w'
      go_simp
      with_reducible rfl
    rotate_left
    · simp only [Act.put, List.setIfInBounds_toArray, List.set_cons_zero, List.set_cons_succ]
      rfl
    refine last_ (i := 29) (N := none) #[true, true, true, true, true, true, true, true, true, true, true, true, true, true, true, true, true, true, true, true, true, true, true, true, true, true, true, true, true, true, false, false, false] rfl rfl (by kernel_rfl) (by decide) (fun K hK => ?_)
    refine skip_ (w1 := ?_) (by rfl) rfl ?_ ?_
    rotate_left
    · go_simp
      rfl
    refine hK.out _ _ ?_
    clear hK K
    refine pure_ (i := 30) (N := some 48) (v := ?_) (a' := ?_) #[true, true, true, true, true, true, true, true, true, true, true, true, true, true, true, true, true, true, true, true, true, true, true, true, true, true, true, true, true, true, true, false, false] rfl rfl (by kernel_rfl) (fun _ _ _ h => h) (Or.inl ⟨by rfl, ?_⟩) ?_ ?_
    rotate_left
    · intro w'
      go_simp
      with_reducible rfl
    rotate_left
    · simp only [Act.put, List.setIfInBounds_toArray, List.set_cons_zero, List.set_cons_succ]
      rfl
    refine pure_ (i := 31) (N := some 49) (v := ?_) (a' := ?_) #[true, true, true, true, true, true, true, true, true, true, true, true, true, true, true, true, true, true, true, true, true, true, true, true, true, true, true, true, true, true, true, true, false] rfl rfl (by kernel_rfl) (fun _ _ _ h => h) (Or.inl ⟨by rfl, ?_⟩) ?_ ?_
    rotate_left
    · intro w'
      go_simp
      with_reducible rfl
    rotate_left
    · simp only [Act.put, List.setIfInBounds_toArray, List.set_cons_zero, List.set_cons_succ]
      rfl
    refine last_ (i := 32) (N := none) #[true, true, true, true, true, true, true, true, true, true, true, true, true, true, true, true, true, true, true, true, true, true, true, true, true, true, true, true, true, true, true, true, true] rfl rfl (by kernel_rfl) (by decide) (fun K hK => ?_)
    refine skip_ (w1 := ?_) (by rfl) rfl ?_ ?_
    rotate_left
    · go_simp
      rfl
    refine hK.out _ _ ?_
    clear hK K
    refine done_ (by kernel_rfl) ?_
    go_wp2
    go_end0
    exact ⟨rfl, _, _, _, HC.out⟩
end Go.Proofs.YtcbhaeniahckhaaDoor
