/- Clone, Compare, and the small parts of a test's performance, walked. Conditions: those that each theorem names. -/
import Derived.Test.YtcbhaeniahckhaaDoorMi
import Derived.Lib.SliceRun
set_option linter.unusedSimpArgs false
set_option linter.unusedVariables false
section
set_option linter.unusedSimpArgs false
namespace Go.Proofs.YtcbhaeniahckhaaDoor
open Go.RowKit Go.Shelf Go.Deep Go.Proofs.YtcbhaeniahckhaaDoorW.PrintLast
set_option maxHeartbeats 2000000 in
set_option maxRecDepth 100000 in
theorem clone_calls (w : World) (A : Option Addr) (c : Nat) (xs : List Nat) (hl : xs.length ≤ 1000000) (hr : RdI w A xs) :
    Calls Tryd.prog 60 #[.slice A xs.length c] w fun e w' => ∃ v, e = .returned v ∧ OwnI w' w.heap.size v xs ∧ Below w.heap.size w w' := by
  have q27 : ∀ (w : World) (a : Option Addr) (n c n' c' : Nat), (binOp .eql 27 (.slice a n c) (.slice none n' c')).run Tryd.prog w = .ok (.bool a.isNone) w := fun w a n c n' c' => Lib.run_eql_slice_nil w _ _ a n c n' c' Tryd.underlying27
  cases A with
  | none =>
    have h0 : xs = [] := by
      cases xs with
      | nil => rfl
      | cons a xs => obtain ⟨ad, h1, _⟩ := hr 0 (by simp); cases h1
    subst h0
    go_enter Tryd.func60, Tryd.ntmps60
    go_wp2
    go_ret
    exact ⟨_, rfl, World.ownsRow_nil _ _ _ _, Below.refl _ _⟩
  | some ad =>
    obtain ⟨i0, hi, hz0, hz1, hz2⟩ := info_parts Tryd.info3
    have HR := Sd.mk hr
    clear hr
    go_enter Tryd.func60, Tryd.ntmps60
    go_wp2_with (at_builtin; refine wpList_append_own _ rfl _ _ 27 rfl w.heap.size 3 i0 (.int .i64 0) 1 8 Tryd.underlying27 hi hz0 hz1 hz2 rfl (by decide) _ _ _ rfl (World.ownsRow_made w #[] 0 (Nat.le_refl _) (Nat.zero_le _) rfl) ad xs.length c (xs.map fun (x : Nat) => Value.int .i64 (x : Int)) rfl ?qc1 ?qc2 ?qc3 ?qc4 ?qc5 ?qc6 ?_)
    case qc1 => simp
    case qc2 =>
      intro j u hj
      have hjn : j < xs.length := by have := (List.getElem?_eq_some_iff.1 hj).1; simpa using this
      obtain ⟨ad', h1, h2⟩ := HR.out j hjn
      cases h1
      refine cell_later (alloc_below w _) (h2.trans ?_)
      rw [← hj, List.getElem?_map, List.getElem?_eq_getElem hjn]
      simp [List.getD_eq_getElem?_getD, List.getElem?_eq_getElem hjn]
    case qc3 => intro u hu; obtain ⟨x, _, rfl⟩ := List.mem_map.1 hu; rfl
    case qc4 => unfold maxLen; omega
    case qc5 => omega
    case qc6 => simp
    intro v' w1 hown hgrow hnil
    go_wp2
    go_ret
    refine ⟨v', rfl, by unfold OwnI; simpa using hown, ?_⟩
    exact ((Below.refl _ w).alloc (Nat.le_refl _) _).grown hgrow (by simp) (by intro k hk; simp [Value.ownBlock] at hk; omega)
end Go.Proofs.YtcbhaeniahckhaaDoor
end
section
set_option linter.unusedSimpArgs false
namespace Go.Proofs.YtcbhaeniahckhaaDoor
open Go.RowKit Go.Shelf Go.Deep Go.Proofs.YtcbhaeniahckhaaDoorW.PrintLast
def cmpL : List Nat → List Nat → Int
  | [], [] => 0
  | [], _ :: _ => -1
  | _ :: _, [] => 1
  | a :: xs, b :: ys => if cmpI a b = 0 then cmpL xs ys else cmpI a b
theorem drop_getD (xs : List Nat) (j : Nat) (h : j < xs.length) : xs.drop j = xs.getD j 0 :: xs.drop (j + 1) := by
  rw [List.drop_eq_getElem_cons h, List.getD_eq_getElem?_getD, List.getElem?_eq_getElem h]
  rfl
set_option maxHeartbeats 4000000 in
set_option maxRecDepth 100000 in
theorem compareL_calls (w : World) (A B : Option Addr) (c c' : Nat) (xs ys : List Nat) (hx : xs.length ≤ 1000000) (_ : ys.length ≤ 1000000) (hr : RdI w A xs) (hr' : RdI w B ys) :
    Calls Tryd.prog 81 #[.slice A xs.length c, .slice B ys.length c'] w fun e w' => e = .returned (.int .i64 (cmpL xs ys)) ∧ w = w' := by
  have HR := Sd.mk hr
  have HR' := Sd.mk hr'
  clear hr hr'
  go_enter Tryd.func81, Tryd.ntmps81
  go_wp2
  go_loop [11] (fun i => ∃ (j : Nat), j ≤ xs.length ∧ j ≤ ys.length ∧ i = .int .i64 j ∧ Sd (cmpL (xs.drop j) (ys.drop j) = cmpL xs ys)) (fun i => xs.length - (intOf i).toNat)
  case atStart => exact ⟨0, Nat.zero_le _, Nat.zero_le _, rfl, ⟨rfl⟩⟩
  case round =>
    obtain ⟨j, hj, hj', rfl, ho⟩ := hrel
    by_cases hlt : j < xs.length
    · obtain ⟨ad, e1, e2⟩ := HR.out j hlt
      cases e1
      by_cases hlt' : j < ys.length
      · obtain ⟨bd, e3, e4⟩ := HR'.out j hlt'
        cases e3
        have hd := Sd.mk (show cmpL (xs.drop j) (ys.drop j) = if cmpI (xs.getD j 0) (ys.getD j 0) = 0 then cmpL (xs.drop (j + 1)) (ys.drop (j + 1)) else cmpI (xs.getD j 0) (ys.getD j 0) by rw [drop_getD xs j hlt, drop_getD ys j hlt']; rfl)
        generalize xs.getD j 0 = a at *
        generalize ys.getD j 0 = b at *
        by_cases hz : cmpI (a : Int) (b : Int) = 0
        · have HZ := Sd.mk hz
          have hz0 : ((0 : Int) != 0) = false := rfl
          clear hz
          go_wp2_with (go_at_call 80; refine (compare_calls _ _ _).mono ?_; rintro e w1 ⟨he, rfl⟩; rw [HZ.out] at he; subst he)
          go_round
          case rel => exact ⟨j + 1, by omega, by omega, by go_num, ⟨by rw [← ho.out, hd.out, if_pos HZ.out]⟩⟩
          case measure => simp [intOf]; omega
        · have hz0 : (cmpI (a : Int) (b : Int) != 0) = true := by rw [bne_iff_ne]; exact hz
          have HZ : Sd (cmpL xs ys = cmpI (a : Int) (b : Int)) := ⟨by rw [← ho.out, hd.out, if_neg hz]⟩
          clear hz
          go_wp2_with (go_at_call 80; refine (compare_calls _ _ _).mono ?_; rintro e w1 ⟨rfl, rfl⟩)
          go_ret
          exact ⟨ret_i64 (by rw [HZ.out]), rfl⟩
      · obtain rfl : j = ys.length := by omega
        have hz : Sd (cmpL xs ys = 1) := ⟨by rw [← ho.out, List.drop_length, drop_getD xs _ hlt]; rfl⟩
        go_wp2
        go_ret
        exact ⟨ret_i64 (by rw [hz.out]), rfl⟩
    · obtain rfl : j = xs.length := by omega
      by_cases hlt' : xs.length < ys.length
      · have hz : Sd (cmpL xs ys = -1) := ⟨by rw [← ho.out, List.drop_length, drop_getD ys _ hlt']; rfl⟩
        go_wp2
        go_ret
        exact ⟨ret_i64 (by rw [hz.out]), rfl⟩
      · have he : xs.length = ys.length := by omega
        have hz : Sd (cmpL xs ys = 0) := ⟨by rw [← ho.out, List.drop_length, he, List.drop_length]; rfl⟩
        have hn : ¬ ((xs.length : Int) < ys.length) := by omega
        clear he
        go_wp2
        go_ret
        exact ⟨ret_i64 (by rw [hz.out]), rfl⟩
end Go.Proofs.YtcbhaeniahckhaaDoor
end
section
set_option linter.unusedSimpArgs false
namespace Go.Proofs.YtcbhaeniahckhaaDoor
open Go.RowKit Go.Shelf Go.Deep Go.Proofs.YtcbhaeniahckhaaDoorW.PrintLast
/-- a trace comes before another one -/
def beforeS (xs ys : List Nat) : Bool := decide (orL [cmpI xs.length ys.length, cmpL xs ys] < 0)
set_option maxHeartbeats 4000000 in
set_option maxRecDepth 100000 in
theorem before_calls (w : World) (A B : Option Addr) (c c' : Nat) (xs ys : List Nat) (hx : xs.length ≤ 1000000) (hy : ys.length ≤ 1000000) (hr : RdI w A xs) (hr' : RdI w B ys) :
    Calls Tryd.prog 62 #[.slice A xs.length c, .slice B ys.length c'] w fun e w' => e = .returned (.bool (beforeS xs ys)) ∧ Below w.heap.size w w' := by
  have HR := Sd.mk hr
  have HR' := Sd.mk hr'
  clear hr hr'
  go_enter Tryd.func62, Tryd.ntmps62
  go_wp2_with (first | (go_at_call 80; refine (compare_calls _ _ _).mono ?_; rintro e w1 ⟨rfl, rfl⟩) | (go_at_call 81; refine (compareL_calls _ A B c c' xs ys hx hy HR.out HR'.out).mono ?_; rintro e w2 ⟨rfl, rfl⟩) | (go_at_call 79; refine (or79_calls _ _ [cmpI xs.length ys.length, cmpL xs ys] (by simp) _ (rdZ_new _ [cmpI xs.length ys.length, cmpL xs ys] _ _ rfl)).mono ?_; rintro e w3 ⟨rfl, rfl⟩))
  go_ret
  exact ⟨rfl, alloc_below _ _⟩
set_option maxHeartbeats 4000000 in
set_option maxRecDepth 100000 in
theorem isLeaf_calls (w : World) (a b : Int) (A : Option Addr) (n c : Nat) :
    Calls Tryd.prog 65 #[.agg #[.int .i64 a, .int .i64 b, .slice A n c]] w fun e w' => e = .returned (.bool (decide (a = -1) && decide (n = 0))) ∧ Below w.heap.size w w' := by
  by_cases ha : a = -1
  · subst ha
    by_cases hn : n = 0
    · subst hn
      go_enter Tryd.func65, Tryd.ntmps65
      go_wp2
      go_ret
      exact ⟨rfl, alloc_below _ _⟩
    · have hd : ((n : Int) == 0) = false := by rw [beq_eq_false_iff_ne]; omega
      have H := Sd.mk hn
      clear hn
      go_enter Tryd.func65, Tryd.ntmps65
      go_wp2
      go_ret
      exact ⟨ret_bool (by simp [H.out]), alloc_below _ _⟩
  · have hd : (a == -1) = false := by rw [beq_eq_false_iff_ne]; exact ha
    have H := Sd.mk ha
    clear ha
    go_enter Tryd.func65, Tryd.ntmps65
    go_wp2
    go_ret
    exact ⟨ret_bool (by simp [H.out]), alloc_below _ _⟩
end Go.Proofs.YtcbhaeniahckhaaDoor
end
section
set_option linter.unusedSimpArgs false
namespace Go.Proofs.YtcbhaeniahckhaaDoor
open Go.RowKit Go.Shelf Go.Deep Go.Proofs.YtcbhaeniahckhaaDoorW.PrintLast
def betterS (r v : Int × List Nat) : Bool := decide (v.1 < r.1) || (decide (r.1 = v.1) && beforeS r.2 v.2)
theorem note_same (w : World) (bw : Nat) {cs : Array Value} {t : TypeId} {o : Obj} (hb : w.heap[bw]? = some (.cells cs t (0, 0))) : (w.alloc o).heap[bw]? = some (.cells cs t (0, 0)) ∧ w.grownBy (w.alloc o) (some bw) :=
  ⟨(heap_alloc_old w o (Array.getElem?_eq_some_iff.1 hb).1).trans hb, ⟨rfl, rfl, rfl, by simp, fun _ hk _ => heap_alloc_old w o hk⟩⟩
theorem note_set (w : World) (bw : Nat) (u0 u1 : Value) {x y : Value} {t : TypeId} {o : Obj} (hb : w.heap[bw]? = some (.cells #[x, y] t (0, 0))) :
    (((w.setCell ⟨bw, 0, none⟩ u0).setCell ⟨bw, 1, none⟩ u1).alloc o).heap[bw]? = some (.cells #[u0, u1] t (0, 0)) ∧ w.grownBy (((w.setCell ⟨bw, 0, none⟩ u0).setCell ⟨bw, 1, none⟩ u1).alloc o) (some bw) := by
  have h1 := blk_set (blk_set hb 0 u0) 1 u1
  have hs : ((w.setCell ⟨bw, 0, none⟩ u0).setCell ⟨bw, 1, none⟩ u1).heap.size = w.heap.size := by simp [World.setCell]
  refine ⟨(heap_alloc_old _ o (Array.getElem?_eq_some_iff.1 h1).1).trans h1, ⟨rfl, rfl, rfl, by simp, fun k hk hne => ?_⟩⟩
  have hkb : k ≠ bw := fun e => hne (by rw [e])
  rw [heap_alloc_old _ o (by omega)]
  exact (Below.heap_setCell _ _ _ _ hkb).trans (Below.heap_setCell _ _ _ _ hkb)
theorem grown_below {w w1 w2 : World} {b : Nat} (h : w.grownBy w1 (some b)) (k : Below w1.heap.size w1 w2) : w.grownBy w2 (some b) :=
  ⟨k.os.trans h.os, k.tape.trans h.tape, k.output.trans h.output, Nat.le_trans h.size k.size, fun n hn hne => (k.block n (Nat.lt_of_lt_of_le hn h.size)).trans (h.block n hn hne)⟩
set_option maxHeartbeats 4000000 in
set_option maxRecDepth 100000 in
theorem note_calls (w : World) (bw : Nat) (A B : Option Addr) (c c' : Nat) (r v : Int × List Nat) (hx : r.2.length ≤ 1000000) (hy : v.2.length ≤ 1000000) (hr : RdI w A r.2) (hr' : RdI w B v.2) (hb : w.heap[bw]? = some (.cells #[.slice B v.2.length c', .int .i64 v.1] 88 (0, 0))) :
    Calls Tryd.prog 61 #[.agg #[.slice A r.2.length c, .int .i64 r.1], .pointer (some ⟨bw, 0, none⟩)] w fun e w' => e = .returned (.tuple #[]) ∧
      w'.heap[bw]? = some (.cells (if betterS r v then #[.slice A r.2.length c, .int .i64 r.1] else #[.slice B v.2.length c', .int .i64 v.1]) 88 (0, 0)) ∧ w.grownBy w' (some bw) := by
  have HR := Sd.mk hr
  have HR' := Sd.mk hr'
  have HB := Sd.mk hb
  have c0 := cell_blk hb 0
  have c1 := cell_blk hb 1
  have f0 := frz hb 0
  have f1 := frz hb 1
  have hbl := (Array.getElem?_eq_some_iff.1 hb).1
  clear hr hr' hb
  have hsame := note_same w bw (o := .cells #[.slice A r.2.length c, .int .i64 r.1] 88) HB.out
  have hset := note_set w bw (.slice A r.2.length c) (.int .i64 r.1) (o := .cells #[.slice A r.2.length c, .int .i64 r.1] 88) HB.out
  have HS1 := Sd.mk hsame
  have HS2 := Sd.mk hset
  clear hsame hset
  obtain ⟨rv, rt⟩ := r
  obtain ⟨vv, vt⟩ := v
  simp only at *
  rcases Int.lt_trichotomy vv rv with h | h | h
  · have hbt : Sd (betterS (rv, rt) (vv, vt) = true) := ⟨by unfold betterS; simp [h]⟩
    rw [if_pos hbt.out]
    go_enter Tryd.func61, Tryd.ntmps61
    go_wp2
    go_end0
    exact ⟨rfl, HS2.out.1, HS2.out.2⟩
  · subst h
    have hr0 := HR.out.below (alloc_below w (.cells #[.slice A rt.length c, .int .i64 vv] 88))
    have hr1 := HR'.out.below (alloc_below w (.cells #[.slice A rt.length c, .int .i64 vv] 88))
    have H0 := Sd.mk hr0
    have H1 := Sd.mk hr1
    clear hr0 hr1
    rcases hbe : beforeS rt vt with _ | _
    · have hbt : Sd (betterS (vv, rt) (vv, vt) = false) := ⟨by unfold betterS; simp [hbe]⟩
      have V := Sd.mk hbe
      clear hbe
      rw [hbt.out]
      go_enter Tryd.func61, Tryd.ntmps61
      go_wp2_with (go_at_call 62; refine (before_calls _ A B c c' rt vt hx hy H0.out H1.out).mono ?_; rintro e w2 ⟨he, hB2⟩; rw [V.out] at he; subst he)
      go_end0
      have hg := grown_below HS1.out.2 hB2
      exact ⟨rfl, (hB2.block _ (by simp; omega)).trans HS1.out.1, hg⟩
    · have hbt : Sd (betterS (vv, rt) (vv, vt) = true) := ⟨by unfold betterS; simp [hbe]⟩
      have V := Sd.mk hbe
      clear hbe
      rw [if_pos hbt.out]
      go_enter Tryd.func61, Tryd.ntmps61
      go_wp2_with (go_at_call 62; refine (before_calls _ A B c c' rt vt hx hy H0.out H1.out).mono ?_; rintro e w2 ⟨he, hB2⟩; rw [V.out] at he; subst he; have HB2 := Sd.mk hB2; have hb2 := (hB2.block _ (by simp; omega)).trans HS1.out.1; clear hB2; have d0 := cell_blk hb2 0; have d1 := cell_blk hb2 1; have g0 := frz hb2 0; have g1 := frz hb2 1; have hbox := (HB2.out.block _ (by simp)).trans (heap_alloc_new w _); have b0 := cell_blk hbox 0; have b1 := cell_blk hbox 1; have Hb2 := Sd.mk hb2; clear hb2 hbox)
      go_end0
      have hg := grown_below HS1.out.2 HB2.out
      refine ⟨rfl, blk_set (blk_set Hb2.out 0 _) 1 _, ?_⟩
      exact ⟨hg.os, hg.tape, hg.output, by simpa [World.setCell] using hg.size, fun k hk hne => (Below.heap_setCell _ _ _ _ (fun e => hne (by rw [e]))).trans ((Below.heap_setCell _ _ _ _ (fun e => hne (by rw [e]))).trans (hg.block k hk hne))⟩
  · have hbt : Sd (betterS (rv, rt) (vv, vt) = false) := ⟨by unfold betterS; simp; omega⟩
    have hd : (rv == vv) = false := by rw [beq_eq_false_iff_ne]; omega
    rw [hbt.out]
    go_enter Tryd.func61, Tryd.ntmps61
    go_wp2
    go_end0
    exact ⟨rfl, HS1.out.1, HS1.out.2⟩
end Go.Proofs.YtcbhaeniahckhaaDoor
end
section
set_option linter.unusedSimpArgs false
namespace Go.Proofs.YtcbhaeniahckhaaDoor
open Go.RowKit Go.Shelf Go.Deep Go.Proofs.YtcbhaeniahckhaaDoorW.PrintLast
theorem never_calls (w : World) (e : Int) : Calls Tryd.prog 66 #[.int .i64 e] w fun e' w' => e' = .returned (.bool false) ∧ w = w' := by
  go_enter Tryd.func66, Tryd.ntmps66
  go_wp2
  go_ret
  exact ⟨rfl, rfl⟩
set_option maxHeartbeats 4000000 in
set_option maxRecDepth 100000 in
theorem goes_calls (w : World) (hT : Tab w) (a b gs : Nat) (S : SysP) (hS : Sys w gs S) (l e : Nat) (hl : l < 2 ^ S.N) (he : e ≤ S.inp + S.out) (ha : w.cell? ⟨a, 0, none⟩ = some (.pointer (some ⟨gs, 0, none⟩))) (hb : w.cell? ⟨b, 0, none⟩ = some (.int .u64 l)) :
    Calls Tryd.prog 67 #[.int .i64 e, .pointer (some ⟨a, 0, none⟩), .pointer (some ⟨b, 0, none⟩)] w fun e' w' => e' = .returned (.bool (afterS S l e != 0)) ∧ Below w.heap.size w w' := by
  go_enter Tryd.func67, Tryd.ntmps67
  go_wp2_with (go_at_call 49; refine (afters_calls _ hT gs S l e hl he hS).mono ?_; rintro e' w2 ⟨rfl, hB2⟩)
  go_ret
  exact ⟨ret_bool (by rw [Bool.eq_iff_iff]; simp), hB2⟩
end Go.Proofs.YtcbhaeniahckhaaDoor
end
section
namespace Go.Proofs.YtcbhaeniahckhaaDoor
open Go.RowKit Go.Shelf Go.Deep
/-- the event by which node number i behind a node is reached -/
def evNd (X : SysP) (d : Nd) (i : Nat) : Nat := if d.inp = -1 then X.inp + i else d.inp.toNat
def leafS (d : Nd) : Bool := decide (d.inp = -1) && decide (d.nx.length = 0)
def noteS (r v : Int × List Nat) : Int × List Nat := if betterS r v then r else v
def stopsS (X : SysP) (d : Nd) (l : Nat) : Bool := (List.range d.nx.length).all fun i => afterS X l (evNd X d i) == 0
def visitS (X : SysP) (T : List Nd) (node : Nat) (tr : List Nat) (v : Int × List Nat) : Int × List Nat :=
  if leafS (T.getD node ndD) then noteS ((T.getD node ndD).ver, tr) v else if stopsS X (T.getD node ndD) (alongS X tr) then noteS (1, tr) v else v
/-- the worst run so far, behind a node -/
def downS (X : SysP) (T : List Nd) : Nat → Nat → List Nat → Int × List Nat → Int × List Nat
  | 0, _, _, v => v
  | f + 1, node, tr, v => (List.range (T.getD node ndD).nx.length).foldl (fun v i => if afterS X (alongS X tr) (evNd X (T.getD node ndD) i) != 0 then downS X T f ((T.getD node ndD).nx.getD i 0) (tr ++ [evNd X (T.getD node ndD) i]) v else v) (visitS X T node tr v)
def performS (X : SysP) (T : List Nd) : Int × List Nat := downS X T (T.length + 1) 0 [] (-1, [])
end Go.Proofs.YtcbhaeniahckhaaDoor
end
