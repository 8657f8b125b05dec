/- The reference's lists and its closure, walked. Conditions: those that each theorem names. -/
import Derived.Test.YtcbhaeniahckhaaDoorMn
import Derived.Lib.SliceRun
set_option linter.unusedSimpArgs false
set_option linter.unusedVariables false
section
set_option linter.unusedSimpArgs false
namespace Go.Proofs.YtcbhaeniahckhaaDoor
open Go.RowKit Go.Shelf Go.Deep Go.Proofs.YtcbhaeniahckhaaDoorW.PrintLast
theorem silenceR_calls (w : World) (x : Rx) (hx : x.ok) (A : Option Addr) (c : Nat) : Calls Tryd.prog 35 #[rxV x A c] w fun e w' => e = .returned (.int .i64 ((x.inp + x.out : Nat) : Int)) ∧ Below w.heap.size w w' := by
  unfold rxV
  have hi := hx.hi
  have ho := hx.ho
  go_enter Tryd.func35, Tryd.ntmps35
  go_wp2
  go_ret
  exact ⟨ret_i64 (by omega), alloc_below _ _⟩
def quietR (x : Rx) (s : Nat) : Bool := x.mvs.all fun m => !(decide (m.frm = s) && decide (m.kind ≠ 0))
set_option maxHeartbeats 4000000 in
set_option maxRecDepth 100000 in
theorem quietR_calls (w : World) (x : Rx) (hx : x.ok) (A : Option Addr) (c : Nat) (hr : RdM w A x.mvs) (s : Nat) : Calls Tryd.prog 43 #[rxV x A c, .int .i64 s] w fun e w' => e = .returned (.bool (quietR x s)) ∧ Below w.heap.size w w' := by
  unfold rxV
  have HR := Sd.mk hr
  have hm := hx.hm
  clear hr
  go_enter Tryd.func43, Tryd.ntmps43
  go_wp2
  go_loopw [5] (fun i wq => ∃ j : Nat, i = .int .i64 j ∧ j ≤ x.mvs.length ∧ Sd (quietR x s = (x.mvs.drop j).all fun m => !(decide (m.frm = s) && decide (m.kind ≠ 0))) ∧ Sd (Below w.heap.size w wq) ∧ Sd (wq.heap[w.heap.size]? = some (.cells #[.int .i64 x.N, .int .i64 x.start, .int .i64 x.inp, .int .i64 x.out, .slice A x.mvs.length c] 24 (0, 0)))) (fun i _ => x.mvs.length - (intOf i).toNat)
  case atStart => exact ⟨0, rfl, Nat.zero_le _, ⟨rfl⟩, ⟨alloc_below _ _⟩, ⟨heap_alloc_new _ _⟩⟩
  case round =>
    obtain ⟨W1, hW1⟩ : ∃ W : World, W = wr := ⟨wr, rfl⟩
    subst hW1
    obtain ⟨j, rfl, hj, hq, hB, hb⟩ := hrel
    have c4 := cell_blk hb.out 4
    by_cases hlt : j < x.mvs.length
    · obtain ⟨ad, e1, e2, e3, e4, e5⟩ := (HR.out.below hB.out) j hlt
      subst e1
      have hst : Sd (quietR x s = (!(decide ((x.mvs.getD j mvZ).frm = s) && decide ((x.mvs.getD j mvZ).kind ≠ 0)) && (x.mvs.drop (j + 1)).all fun m => !(decide (m.frm = s) && decide (m.kind ≠ 0)))) := ⟨by rw [hq.out, List.drop_eq_getElem_cons hlt, List.all_cons, List.getD_eq_getElem?_getD, List.getElem?_eq_getElem hlt]; rfl⟩
      generalize x.mvs.getD j mvZ = m at *
      by_cases hf : m.frm = s
      · have b0 : ((m.frm : Int) == (s : Int)) = true := by rw [hf]; simp
        by_cases hk : m.kind = 0
        · have b1 : ((m.kind : Int) != 0) = false := by rw [hk]; rfl
          have HN : Sd (quietR x s = (x.mvs.drop (j + 1)).all fun m => !(decide (m.frm = s) && decide (m.kind ≠ 0))) := ⟨by rw [hst.out]; simp [hk]⟩
          clear hf hk
          go_wp2
          go_roundw
          case rel => exact ⟨j + 1, by go_num, by omega, HN, hB, hb⟩
          case measure => simp [intOf]; omega
        · have b1 : ((m.kind : Int) != 0) = true := by rw [bne_iff_ne]; omega
          have HN : Sd (quietR x s = false) := ⟨by rw [hst.out]; simp [hk, hf]⟩
          clear hf hk
          go_wp2
          go_ret
          exact ⟨ret_bool HN.out.symm, hB.out⟩
      · have b0 : ((m.frm : Int) == (s : Int)) = false := by rw [beq_eq_false_iff_ne]; omega
        have HN : Sd (quietR x s = (x.mvs.drop (j + 1)).all fun m => !(decide (m.frm = s) && decide (m.kind ≠ 0))) := ⟨by rw [hst.out]; simp [hf]⟩
        clear hf
        go_wp2
        go_roundw
        case rel => exact ⟨j + 1, by go_num, by omega, HN, hB, hb⟩
        case measure => simp [intOf]; omega
    · obtain rfl : j = x.mvs.length := by omega
      have HN : Sd (quietR x s = true) := ⟨by rw [hq.out, List.drop_length]; rfl⟩
      go_wp2
      go_ret
      exact ⟨ret_bool HN.out.symm, hB.out⟩
set_option maxHeartbeats 4000000 in
set_option maxRecDepth 100000 in
theorem has_calls (w : World) (A : Option Addr) (c : Nat) (xs : List Nat) (hl : xs.length ≤ 1000000) (hr : RdI w A xs) (a : Nat) : Calls Tryd.prog 14 #[.slice A xs.length c, .int .i64 a] w fun e w' => e = .returned (.bool (decide (a ∈ xs))) ∧ w = w' := by
  have HR := Sd.mk hr
  clear hr
  go_enter Tryd.func14, Tryd.ntmps14
  go_wp2
  go_loop [5] (fun i => ∃ j : Nat, i = .int .i64 j ∧ j ≤ xs.length ∧ Sd (decide (a ∈ xs) = decide (a ∈ xs.drop j))) (fun i => xs.length - (intOf i).toNat)
  case atStart => exact ⟨0, rfl, Nat.zero_le _, ⟨rfl⟩⟩
  case round =>
    obtain ⟨j, rfl, hj, hq⟩ := hrel
    by_cases hlt : j < xs.length
    · obtain ⟨ad, e1, e2⟩ := HR.out j hlt
      subst e1
      have hst : Sd (decide (a ∈ xs) = (decide (a = xs.getD j 0) || decide (a ∈ xs.drop (j + 1)))) := ⟨by rw [hq.out, drop_getD xs j hlt, Bool.eq_iff_iff]; simp⟩
      generalize xs.getD j 0 = b at *
      by_cases hf : b = a
      · have b0 : ((b : Int) == (a : Int)) = true := by rw [hf]; simp
        have HN : Sd (decide (a ∈ xs) = true) := ⟨by rw [hst.out]; simp [hf]⟩
        clear hf
        go_wp2
        go_ret
        exact ⟨ret_bool HN.out.symm, rfl⟩
      · have b0 : ((b : Int) == (a : Int)) = false := by rw [beq_eq_false_iff_ne]; omega
        have HN : Sd (decide (a ∈ xs) = decide (a ∈ xs.drop (j + 1))) := ⟨by rw [hst.out, decide_eq_false (fun h => hf h.symm), Bool.false_or]⟩
        clear hf
        go_wp2
        go_round
        case rel => exact ⟨j + 1, by go_num, by omega, HN⟩
        case measure => simp [intOf]; omega
    · obtain rfl : j = xs.length := by omega
      have HN : Sd (decide (a ∈ xs) = false) := ⟨by rw [hq.out, List.drop_length]; simp⟩
      go_wp2
      go_ret
      exact ⟨ret_bool HN.out.symm, rfl⟩
set_option maxHeartbeats 4000000 in
set_option maxRecDepth 100000 in
theorem same_calls (w : World) (A B : Option Addr) (c c' : Nat) (xs ys : List Nat) (hl : xs.length ≤ 1000000) (hl' : ys.length ≤ 1000000) (hr : RdI w A xs) (hr' : RdI w B ys) : Calls Tryd.prog 19 #[.slice A xs.length c, .slice B ys.length c'] w fun e w' => e = .returned (.bool (decide (xs = ys))) ∧ Below w.heap.size w w' := by
  have HR := Sd.mk hr
  have HR' := Sd.mk hr'
  clear hr hr'
  by_cases hlen : xs.length = ys.length
  · have hbl : ((xs.length : Int) != (ys.length : Int)) = false := by rw [hlen]; simp
    have HL := Sd.mk hlen
    clear hlen
    go_enter Tryd.func19, Tryd.ntmps19
    go_wp2
    go_loopw [5] (fun i wq => ∃ j : Nat, i = .int .i64 j ∧ j ≤ xs.length ∧ Sd (decide (xs = ys) = decide (xs.drop j = ys.drop j)) ∧ Sd (Below w.heap.size w wq)) (fun i _ => xs.length - (intOf i).toNat)
    case atStart => exact ⟨0, rfl, Nat.zero_le _, ⟨rfl⟩, ⟨Below.refl _ _⟩⟩
    case round =>
      obtain ⟨W1, hW1⟩ : ∃ W : World, W = wr := ⟨wr, rfl⟩
      subst hW1
      obtain ⟨j, rfl, hj, hq, hB⟩ := hrel
      by_cases hlt : j < xs.length
      · have hlt2 : Sd (j < ys.length) := ⟨by have := HL.out; omega⟩
        obtain ⟨ad, e1, e2⟩ := (HR.out.below hB.out) j hlt
        obtain ⟨bd, e3, e4⟩ := (HR'.out.below hB.out) j hlt2.out
        subst e1
        subst e3
        have hlt3 := hlt2.out
        have hst : Sd (decide (xs = ys) = (decide (xs.getD j 0 = ys.getD j 0) && decide (xs.drop (j + 1) = ys.drop (j + 1)))) := ⟨by rw [hq.out, drop_getD xs j hlt, drop_getD ys j hlt2.out, Bool.eq_iff_iff]; simp⟩
        generalize xs.getD j 0 = a at *
        generalize ys.getD j 0 = b at *
        by_cases hf : a = b
        · have b0 : ((a : Int) != (b : Int)) = false := by rw [hf]; simp
          have HN : Sd (decide (xs = ys) = decide (xs.drop (j + 1) = ys.drop (j + 1))) := ⟨by rw [hst.out, decide_eq_true hf, Bool.true_and]⟩
          clear hf
          go_wp2_with fail
          go_quiet (fail)
          go_wp2
          go_roundw
          case rel => exact ⟨j + 1, by go_num, by omega, HN, ⟨below_drewN hB.out _⟩⟩
          case measure => simp [intOf]; omega
        · have b0 : ((a : Int) != (b : Int)) = true := by rw [bne_iff_ne]; omega
          have HN : Sd (decide (xs = ys) = false) := ⟨by rw [hst.out, decide_eq_false hf, Bool.false_and]⟩
          clear hf
          go_wp2_with fail
          go_quiet (fail)
          go_wp2
          go_ret
          exact ⟨ret_bool HN.out.symm, below_drewN hB.out _⟩
      · obtain rfl : j = xs.length := by omega
        have HN : Sd (decide (xs = ys) = true) := ⟨by rw [hq.out, List.drop_length, HL.out, List.drop_length]; simp⟩
        clear hbl
        go_wp2
        go_ret
        exact ⟨ret_bool HN.out.symm, hB.out⟩
  · have hbl : ((xs.length : Int) != (ys.length : Int)) = true := by rw [bne_iff_ne]; omega
    have HN : Sd (decide (xs = ys) = false) := ⟨decide_eq_false (fun h => hlen (by rw [h]))⟩
    clear hlen
    go_enter Tryd.func19, Tryd.ntmps19
    go_wp2
    go_ret
    exact ⟨ret_bool HN.out.symm, Below.refl _ _⟩
set_option maxHeartbeats 4000000 in
set_option maxRecDepth 100000 in
theorem asc_calls (w : World) (b cap N : Nat) (hN : N ≤ 10) (f : Nat → Bool) (hf : w.rowIs b 4 N (fun i => .bool (f i))) : Calls Tryd.prog 44 #[.slice (some ⟨b, 0, none⟩) N cap] w fun e w' => ∃ v, e = .returned v ∧ OwnI w' w.heap.size v ((List.range N).filter f) ∧ Below w.heap.size w w' := by
  have HF := Sd.mk hf
  clear hf
  go_enter Tryd.func44, Tryd.ntmps44
  go_wp2
  go_loopw [3, 4] (fun v i wq => ∃ j : Nat, i = .int .i64 j ∧ j ≤ N ∧ Sd (OwnI wq w.heap.size v ((List.range j).filter f)) ∧ Sd (Below w.heap.size w wq)) (fun _ i _ => N - (intOf i).toNat)
  case atStart => exact ⟨0, rfl, Nat.zero_le _, ⟨World.ownsRow_nil _ _ _ _⟩, ⟨Below.refl _ _⟩⟩
  case round =>
    obtain ⟨W1, hW1⟩ : ∃ W : World, W = wr := ⟨wr, rfl⟩
    subst hW1
    obtain ⟨j, rfl, hj, hO, hB⟩ := hrel
    by_cases hlt : j < N
    · have hcell : W1.cell? ⟨b, j, none⟩ = some (.bool (f j)) := by
        obtain ⟨cs, h1, h2, h3⟩ := HF.out
        rw [cell_blk ((hB.out.block b (Array.getElem?_eq_some_iff.1 h1).1).trans h1), h3 j hlt]
      have hst := Sd.mk (show (List.range (j + 1)).filter f = (List.range j).filter f ++ (if f j then [j] else []) by rw [List.range_succ, List.filter_append]; congr 1; cases h : f j <;> simp [h])
      have hll : ((List.range j).filter f).length ≤ 10 := Nat.le_trans (List.length_filter_le _ _) (by simp; omega)
      rcases hfj : f j with _ | _
      · rw [hfj] at hcell
        have HN : Sd ((List.range (j + 1)).filter f = (List.range j).filter f) := ⟨by rw [hst.out, hfj]; simp⟩
        clear hfj hst
        go_wp2
        go_roundw
        case rel => exact ⟨j + 1, by go_num, by omega, by rw [HN.out]; exact hO, hB⟩
        case measure => simp [intOf]; omega
      · rw [hfj] at hcell
        have HN : Sd ((List.range (j + 1)).filter f = (List.range j).filter f ++ [j]) := ⟨by rw [hst.out, hfj]; simp⟩
        clear hfj hst
        generalize (List.range j).filter f = xs at *
        go_wp2_with (at_builtin; refine app1 rfl _ _ 27 rfl 3 (.int .i64 0) 1 8 Tryd.underlying27 Tryd.info3 rfl (by decide) w.heap.size hB.out w.heap.size (Nat.le_refl _) hB.out.size _ xs.length _ hO.out ?c1 ?c2 [.int .i64 (j : Int)] rfl rfl rfl ?c3 ?_)
        case c1 => omega
        case c2 => omega
        case c3 => intro u hu; simp at hu; subst hu; rfl
        intro v7 w7 ho7 hB7 hg7 ha7
        have HO7 : Sd (OwnI w7 w.heap.size v7 (xs ++ [j])) := ⟨by unfold OwnI; rw [List.length_append, List.length_singleton, List.map_append]; exact ho7⟩
        have HB7 := Sd.mk hB7
        clear ho7 hB7 hg7 ha7
        go_wp2
        go_roundw
        case rel => exact ⟨j + 1, by go_num, by omega, by rw [HN.out]; exact HO7, HB7⟩
        case measure => simp [intOf]; omega
    · obtain rfl : j = N := by omega
      obtain ⟨a, n, c, rfl⟩ := own_slice hO.out
      have hn := own_len hO.out
      obtain ⟨a', c', e⟩ := hn
      have hne : n = ((List.range j).filter f).length := by cases e; rfl
      have hsz : HF.out.choose.size = j := HF.out.choose_spec.2.1
      go_wp2
      go_ret
      exact ⟨_, rfl, hO.out, hB.out⟩
end Go.Proofs.YtcbhaeniahckhaaDoor
end
section
set_option linter.unusedSimpArgs false
namespace Go.Proofs.YtcbhaeniahckhaaDoor
open Go.RowKit Go.Shelf Go.Deep Go.Proofs.YtcbhaeniahckhaaDoorW.PrintLast
set_option maxHeartbeats 2000000 in
set_option maxRecDepth 100000 in
theorem ownInts_calls (w : World) (A : Option Addr) (c : Nat) (xs : List Nat) (hl : xs.length ≤ 1000000) (hr : RdI w A xs) :
    Calls Tryd.prog 21 #[.slice A xs.length c] w fun e w' => ∃ v, e = .returned v ∧ OwnI w' w.heap.size v xs ∧ Below w.heap.size w w' := by
  cases A with
  | none =>
    have h0 : xs = [] := by
      cases xs with
      | nil => rfl
      | cons a xs => obtain ⟨ad, h1, _⟩ := hr 0 (by simp); cases h1
    subst h0
    go_enter Tryd.func21, Tryd.ntmps21
    go_wp2
    go_ret
    exact ⟨_, rfl, World.ownsRow_made w #[] 0 (Nat.le_refl _) (Nat.zero_le _) rfl, alloc_below _ _⟩
  | some ad =>
    obtain ⟨i0, hi, hz0, hz1, hz2⟩ := info_parts Tryd.info3
    have HR := Sd.mk hr
    clear hr
    go_enter Tryd.func21, Tryd.ntmps21
    go_wp2_with (at_builtin; refine wpList_append_own _ rfl _ _ 27 rfl w.heap.size 3 i0 (.int .i64 0) 1 8 Tryd.underlying27 hi hz0 hz1 hz2 rfl (by decide) _ _ _ rfl (World.ownsRow_made w #[] 0 (Nat.le_refl _) (Nat.zero_le _) rfl) ad xs.length c (xs.map fun (x : Nat) => Value.int .i64 (x : Int)) rfl ?qc1 ?qc2 ?qc3 ?qc4 ?qc5 ?qc6 ?_)
    case qc1 => simp
    case qc2 =>
      intro j u hj
      have hjn : j < xs.length := by have := (List.getElem?_eq_some_iff.1 hj).1; simpa using this
      obtain ⟨ad', h1, h2⟩ := HR.out j hjn
      cases h1
      refine cell_later (alloc_below w _) (h2.trans ?_)
      rw [← hj, List.getElem?_map, List.getElem?_eq_getElem hjn]
      simp [List.getD_eq_getElem?_getD, List.getElem?_eq_getElem hjn]
    case qc3 => intro u hu; obtain ⟨x, _, rfl⟩ := List.mem_map.1 hu; rfl
    case qc4 => unfold maxLen; omega
    case qc5 => omega
    case qc6 => simp
    intro v' w1 hown hgrow hnil
    go_wp2
    go_ret
    refine ⟨v', rfl, by unfold OwnI; simpa using hown, ?_⟩
    exact ((Below.refl _ w).alloc (Nat.le_refl _) _).grown hgrow (by simp) (by intro k hk; simp [Value.ownBlock] at hk; omega)
theorem add_off (ad : Addr) (n : Nat) : (ad.add n).off = ad.off + n := by unfold Addr.add; split <;> simp_all
theorem add_more (ad : Addr) (n k : Nat) (hk : 0 < k) : ad.add (n + k) = ⟨(ad.add n).block, (ad.add n).off + k, none⟩ := by
  rw [add_block, add_off]
  unfold Addr.add
  rw [if_neg (by omega), Nat.add_assoc]
/-- moves as they lie, cell by cell -/
theorem RdM.cellAt {w : World} {ad : Addr} {xs : List Mv} (h : RdM w (some ad) xs) (j : Nat) (u : Value) (hj : (xs.flatMap mvCells)[j]? = some u) (hf : (xs.flatMap mvCells).length = xs.length * 4) (hr : ∀ i, i < xs.length → (xs.flatMap mvCells)[i * 4]? = some (.int .i64 (xs.getD i mvZ).frm) ∧ (xs.flatMap mvCells)[i * 4 + 1]? = some (.int .i64 (xs.getD i mvZ).kind) ∧ (xs.flatMap mvCells)[i * 4 + 2]? = some (.int .i64 (xs.getD i mvZ).lab) ∧ (xs.flatMap mvCells)[i * 4 + 3]? = some (.int .i64 (xs.getD i mvZ).tgt)) : w.cell? (ad.add j) = some u := by
  have hjn : j < xs.length * 4 := by have := (List.getElem?_eq_some_iff.1 hj).1; omega
  obtain ⟨ad', h1, h2, h3, h4, h5⟩ := h (j / 4) (by omega)
  cases h1
  obtain ⟨g1, g2, g3, g4⟩ := hr (j / 4) (by omega)
  have hmod : j = j / 4 * 4 ∨ j = j / 4 * 4 + 1 ∨ j = j / 4 * 4 + 2 ∨ j = j / 4 * 4 + 3 := by omega
  rcases hmod with e | e | e | e
  · rw [← e] at g1 h2
    rw [h2, ← g1, hj]
  · rw [e, g2] at hj
    rw [e, add_more _ _ _ (by decide), h3]
    exact hj
  · rw [e, g3] at hj
    rw [e, add_more _ _ _ (by decide), h4]
    exact hj
  · rw [e, g4] at hj
    rw [e, add_more _ _ _ (by decide), h5]
    exact hj
/-- moves in a row of the call's own -/
theorem own_rdM {w : World} {B n : Nat} {v : Value} {xs : List Mv} (hn : n = xs.length) (h : w.ownsRow B 94 4 v n (xs.flatMap mvCells)) (hf : (xs.flatMap mvCells).length = xs.length * 4) (hr : ∀ i, i < xs.length → (xs.flatMap mvCells)[i * 4]? = some (.int .i64 (xs.getD i mvZ).frm) ∧ (xs.flatMap mvCells)[i * 4 + 1]? = some (.int .i64 (xs.getD i mvZ).kind) ∧ (xs.flatMap mvCells)[i * 4 + 2]? = some (.int .i64 (xs.getD i mvZ).lab) ∧ (xs.flatMap mvCells)[i * 4 + 3]? = some (.int .i64 (xs.getD i mvZ).tgt)) : ∃ A c, v = .slice A xs.length c ∧ RdM w A xs := by
  subst hn
  rcases Nat.eq_zero_or_pos xs.length with h0 | h0
  · obtain ⟨a, c, rfl⟩ := own_len h
    exact ⟨a, c, rfl, fun i hi => by omega⟩
  · obtain ⟨g, c, rfl⟩ := own_pos h h0
    refine ⟨_, c, rfl, fun i hi => ⟨⟨g, 0, none⟩, rfl, ?_⟩⟩
    have e : (⟨g, 0, none⟩ : Addr).add (i * 4) = ⟨g, i * 4, none⟩ := by unfold Addr.add; split <;> simp_all
    rw [e]
    obtain ⟨g1, g2, g3, g4⟩ := hr i hi
    exact ⟨(h.cellAt (i * 4) (by omega)).trans g1, (h.cellAt (i * 4 + 1) (by omega)).trans g2, (h.cellAt (i * 4 + 2) (by omega)).trans g3, (h.cellAt (i * 4 + 3) (by omega)).trans g4⟩
theorem cell_same {w w' : World} {p : Addr} (hb : w'.heap[p.block]? = w.heap[p.block]?) : w'.cell? p = w.cell? p := by unfold World.cell?; rw [hb]
theorem RdM.of_block {w w' : World} {A : Option Addr} {xs : List Mv} (h : RdM w A xs) (hb : ∀ ad, A = some ad → w'.heap[ad.block]? = w.heap[ad.block]?) : RdM w' A xs := fun i hi => by
  obtain ⟨ad, e1, e2, e3, e4, e5⟩ := h i hi
  have hbl : ∀ k, w'.heap[(ad.add k).block]? = w.heap[(ad.add k).block]? := fun k => by rw [add_block]; exact hb ad e1
  exact ⟨ad, e1, (cell_same (hbl (i * 4))).trans e2, (cell_same (p := ⟨(ad.add (i * 4)).block, (ad.add (i * 4)).off + 1, none⟩) (hbl (i * 4))).trans e3, (cell_same (p := ⟨(ad.add (i * 4)).block, (ad.add (i * 4)).off + 2, none⟩) (hbl (i * 4))).trans e4, (cell_same (p := ⟨(ad.add (i * 4)).block, (ad.add (i * 4)).off + 3, none⟩) (hbl (i * 4))).trans e5⟩
theorem Tryd.info94 : (Tryd.prog.info? 94).map (fun i => (i.zero, i.size, i.bytes)) = some (some (.agg #[.int .i64 0, .int .i64 0, .int .i64 0, .int .i64 0]), 4, 32) := by kernel_rfl
theorem Tryd.info4 : (Tryd.prog.info? 4).map (fun i => (i.zero, i.size, i.bytes)) = some (some (.bool false), 1, 1) := by kernel_rfl
theorem flat_mv : ∀ (xs : List Mv), (xs.flatMap mvCells).length = xs.length * 4 ∧ ∀ i, i < xs.length → (xs.flatMap mvCells)[i * 4]? = some (.int .i64 (xs.getD i mvZ).frm) ∧ (xs.flatMap mvCells)[i * 4 + 1]? = some (.int .i64 (xs.getD i mvZ).kind) ∧ (xs.flatMap mvCells)[i * 4 + 2]? = some (.int .i64 (xs.getD i mvZ).lab) ∧ (xs.flatMap mvCells)[i * 4 + 3]? = some (.int .i64 (xs.getD i mvZ).tgt)
  | [] => ⟨rfl, fun i hi => by simp at hi⟩
  | m :: xs => by
    obtain ⟨h1, h2⟩ := flat_mv xs
    refine ⟨by rw [List.flatMap_cons, List.length_append, h1]; simp [mvCells]; omega, fun i hi => ?_⟩
    rw [List.flatMap_cons]
    cases i with
    | zero => exact ⟨rfl, rfl, rfl, rfl⟩
    | succ i =>
      have h3 := h2 i (by simpa using hi)
      have hl : (mvCells m).length = 4 := rfl
      rw [List.getElem?_append_right (by omega), List.getElem?_append_right (by omega), List.getElem?_append_right (by omega), List.getElem?_append_right (by omega), hl, show (i + 1) * 4 - 4 = i * 4 by omega, show (i + 1) * 4 + 1 - 4 = i * 4 + 1 by omega, show (i + 1) * 4 + 2 - 4 = i * 4 + 2 by omega, show (i + 1) * 4 + 3 - 4 = i * 4 + 3 by omega]
      simpa [List.getD_eq_getElem?_getD] using h3
set_option maxHeartbeats 2000000 in
set_option maxRecDepth 100000 in
theorem own_calls (w : World) (x : Rx) (hx : x.ok) (A : Option Addr) (c : Nat) (hr : RdM w A x.mvs) :
    Calls Tryd.prog 8 #[rxV x A c] w fun e w' => ∃ A' c', e = .returned (rxV x A' c') ∧ RdM w' A' x.mvs ∧ Below w.heap.size w w' := by
  unfold rxV
  have hm := hx.hm
  have box : ∀ {w' : World} {v : Value} (g : Nat), w'.heap[g]? = some (.cells #[.int .i64 x.N, .int .i64 x.start, .int .i64 x.inp, .int .i64 x.out, v] 24 (0, 0)) → True := fun _ _ => trivial
  clear box
  cases A with
  | none =>
    have h0 : x.mvs = [] := by
      rcases e : x.mvs with _ | ⟨m, l⟩
      · rfl
      · obtain ⟨ad, h1, _⟩ := hr 0 (by rw [e]; simp)
        cases h1
    have H0 := Sd.mk h0
    rw [h0]
    clear hr h0 hm
    go_enter Tryd.func8, Tryd.ntmps8
    go_wp2
    (try simp only [Exit.inBlock, Exit.then])
    refine bodyPost_ret (results_cell_row (P := Tryd.prog) rfl _ _ (w.heap.size + 1) 24 #[.int .i64 x.N, .int .i64 x.start, .int .i64 x.inp, .int .i64 x.out, .slice (some ⟨w.heap.size + 1 + 1, 0, none⟩) 0 0] (0, 0) _ rfl ((heap_alloc_old _ _ (by simp)).trans (alloc_at _ _ _ (by simp))) Tryd.underlying24 rfl (by kernel_rfl)) rfl ?_
    exact ⟨_, _, rfl, fun i hi => by simp at hi, ((alloc_below _ _).alloc (by simp) _).alloc (by simp <;> omega) _⟩
  | some ad =>
    obtain ⟨i0, hi, hz0, hz1, hz2⟩ := info_parts Tryd.info94
    have HR := Sd.mk hr
    clear hr
    have hmade : ∀ o0 o1 : Obj, (((w.alloc o0).alloc o1).alloc (.cells #[] 94)).ownsRow (w.heap.size + 1 + 1) 94 4 (.slice (some ⟨w.heap.size + 1 + 1, 0, none⟩) 0 0) 0 [] := fun o0 o1 => by
      have h := World.ownsRow_made (base := w.heap.size + 1 + 1) (e := 94) (size := 4) ((w.alloc o0).alloc o1) #[] 0 (by simp) (Nat.zero_le _) rfl
      rw [show ((w.alloc o0).alloc o1).heap.size = w.heap.size + 1 + 1 by simp] at h
      exact h
    go_enter Tryd.func8, Tryd.ntmps8
    go_wp2_with (at_builtin; refine wpList_append_own _ rfl _ _ 22 rfl (w.heap.size + 1 + 1) 94 i0 (.agg #[.int .i64 0, .int .i64 0, .int .i64 0, .int .i64 0]) 4 32 Tryd.underlying22 hi hz0 hz1 hz2 rfl (by decide) _ _ _ rfl (hmade _ _) ad x.mvs.length c (x.mvs.flatMap mvCells) rfl ?qc1 ?qc2 ?qc3 ?qc4 ?qc5 ?qc6 ?_)
    case qc1 => exact (flat_mv x.mvs).1
    case qc2 =>
      intro j u hj
      have hB : Below w.heap.size w (((w.alloc (.cells #[.int .i64 x.N, .int .i64 x.start, .int .i64 x.inp, .int .i64 x.out, .slice (some ad) x.mvs.length c] 24)).alloc (.cells #[.int .i64 0, .int .i64 0, .int .i64 0, .int .i64 0, .slice none 0 0] 24)).alloc (.cells #[] 94)) := ((alloc_below _ _).alloc (by simp) _).alloc (by simp <;> omega) _
      exact cell_later hB (HR.out.cellAt j u hj (flat_mv x.mvs).1 (flat_mv x.mvs).2)
    case qc3 =>
      intro u hu
      obtain ⟨m, _, hm2⟩ := List.mem_flatMap.1 hu
      simp only [mvCells, List.mem_cons, List.not_mem_nil, or_false] at hm2
      rcases hm2 with rfl | rfl | rfl | rfl <;> rfl
    case qc4 => unfold maxLen; omega
    case qc5 => omega
    case qc6 => simp
    intro v' w1 hown hgrow hnil
    have hB1 := Below.grown (B := w.heap.size + 1 + 1) (Below.refl _ (((w.alloc (.cells #[.int .i64 x.N, .int .i64 x.start, .int .i64 x.inp, .int .i64 x.out, .slice (some ad) x.mvs.length c] 24)).alloc (.cells #[.int .i64 0, .int .i64 0, .int .i64 0, .int .i64 0, .slice none 0 0] 24)).alloc (.cells #[] 94))) hgrow (by simp <;> omega) (fun k hk => by simp [Value.ownBlock] at hk; omega)
    have hBw : Below w.heap.size w (((w.alloc (.cells #[.int .i64 x.N, .int .i64 x.start, .int .i64 x.inp, .int .i64 x.out, .slice (some ad) x.mvs.length c] 24)).alloc (.cells #[.int .i64 0, .int .i64 0, .int .i64 0, .int .i64 0, .slice none 0 0] 24)).alloc (.cells #[] 94)) := ((alloc_below _ _).alloc (by simp) _).alloc (by simp <;> omega) _
    have HBx := Sd.mk (hBw.trans (hB1.mono (by omega)))
    have hbx := (hB1.block w.heap.size (by omega)).trans ((heap_alloc_old _ _ (by simp <;> omega)).trans ((heap_alloc_old _ _ (by simp)).trans (heap_alloc_new w _)))
    have hrs := (hB1.block (w.heap.size + 1) (by omega)).trans ((heap_alloc_old _ _ (by simp)).trans (alloc_at _ _ _ (by simp)))
    have HRs := Sd.mk hrs
    obtain ⟨A2, c2, hv2, hrd⟩ := own_rdM (xs := x.mvs) (n := x.mvs.length) rfl hown (flat_mv x.mvs).1 (flat_mv x.mvs).2
    have hvl := fun k hk => (hown.lt k hk).1
    subst hv2
    have HVL := Sd.mk hvl
    clear hvl
    have HRD := Sd.mk hrd
    have b0 := cell_blk hbx 0
    have b1 := cell_blk hbx 1
    have b2 := cell_blk hbx 2
    have b3 := cell_blk hbx 3
    have b4 := cell_blk hbx 4
    have f4 := frz hbx 4
    have r0 := cell_blk hrs 0
    have r1 := cell_blk hrs 1
    have r2 := cell_blk hrs 2
    have r3 := cell_blk hrs 3
    have r4 := cell_blk hrs 4
    have g0 := frz hrs 0
    have g1 := frz hrs 1
    have g2 := frz hrs 2
    have g3 := frz hrs 3
    have g4 := frz hrs 4
    clear hbx hrs hB1 hBw hgrow hown hnil hrd
    go_wp2
    (try simp only [Exit.inBlock, Exit.then])
    have HW : ∀ (k : Nat), k ≠ w.heap.size → k ≠ w.heap.size + 1 → ∀ u0 u1 u2 u3 u4 u5 : Value, ((((((w1.setCell ⟨w.heap.size, 4, none⟩ u0).setCell ⟨w.heap.size + 1, 0, none⟩ u1).setCell ⟨w.heap.size + 1, 1, none⟩ u2).setCell ⟨w.heap.size + 1, 2, none⟩ u3).setCell ⟨w.heap.size + 1, 3, none⟩ u4).setCell ⟨w.heap.size + 1, 4, none⟩ u5).heap[k]? = w1.heap[k]? := fun k h1 h2 u0 u1 u2 u3 u4 u5 => by
      rw [Below.heap_setCell _ _ _ _ h2, Below.heap_setCell _ _ _ _ h2, Below.heap_setCell _ _ _ _ h2, Below.heap_setCell _ _ _ _ h2, Below.heap_setCell _ _ _ _ h2, Below.heap_setCell _ _ _ _ h1]
    refine bodyPost_ret (results_cell_row (P := Tryd.prog) rfl _ _ (w.heap.size + 1) 24 #[.int .i64 x.N, .int .i64 x.start, .int .i64 x.inp, .int .i64 x.out, .slice A2 x.mvs.length c2] (0, 0) _ rfl (blk_set (blk_set (blk_set (blk_set (blk_set ((Below.heap_setCell _ _ _ _ (by show w.heap.size + 1 ≠ w.heap.size; omega)).trans HRs.out) 0 _) 1 _) 2 _) 3 _) 4 _) Tryd.underlying24 rfl (by kernel_rfl)) rfl ?_
    refine ⟨A2, c2, rfl, HRD.out.of_block (fun ad2 ha => ?_), ((((((HBx.out.setCell (Nat.le_refl _) _).setCell (by simp) _).setCell (by simp) _).setCell (by simp) _).setCell (by simp) _).setCell (by simp) _)⟩
    subst ha
    have := HVL.out ad2.block rfl
    exact HW _ (by omega) (by omega) _ _ _ _ _ _
end Go.Proofs.YtcbhaeniahckhaaDoor
end
section
set_option linter.unusedSimpArgs false
namespace Go.Proofs.YtcbhaeniahckhaaDoor
open Go.RowKit Go.Shelf Go.Deep Go.Proofs.YtcbhaeniahckhaaDoorW.PrintLast
def rxBox (x : Rx) (A : Option Addr) (c : Nat) : Obj := .cells #[.int .i64 x.N, .int .i64 x.start, .int .i64 x.inp, .int .i64 x.out, .slice A x.mvs.length c] 24
/-- the marks of states, beside the system's box -/
structure MkAt (w wq : World) (x : Rx) (A : Option Addr) (c b : Nat) (f : Nat → Bool) : Prop where
  below : Below w.heap.size w wq
  box : wq.heap[w.heap.size]? = some (rxBox x A c)
  bb : w.heap.size < b
  row : wq.rowIs b 4 x.N (fun a => .bool (f a))
namespace MkAt
variable {w wq w' : World} {x : Rx} {A : Option Addr} {c b : Nat} {f g : Nat → Bool}
theorem later (h : MkAt w wq x A c b f) (hB : Below wq.heap.size wq w') : MkAt w w' x A c b f :=
  ⟨below_then h.below h.below.size hB, (hB.block _ (Array.getElem?_eq_some_iff.1 h.box).1).trans h.box, h.bb, h.row.of_block (hB.block b h.row.lt)⟩
theorem congr (h : MkAt w wq x A c b f) (hfg : ∀ a, a < x.N → f a = g a) : MkAt w wq x A c b g := ⟨h.below, h.box, h.bb, h.row.congr (fun a ha => by rw [hfg a ha])⟩
theorem mark (h : MkAt w wq x A c b f) (a : Nat) : MkAt w (wq.setCell ⟨b, a, none⟩ (.bool true)) x A c b (fun i => decide (i = a) || f i) := by
  have hb := h.bb
  refine ⟨h.below.setCell (by show w.heap.size ≤ b; omega) _, (Below.heap_setCell _ _ _ _ (by show w.heap.size ≠ b; omega)).trans h.box, h.bb, ?_⟩
  exact (h.row.set a (.bool true)).congr (fun i _ => by by_cases e : i = a <;> simp [e])
theorem grown {r : Option Nat} (h : MkAt w wq x A c b f) (hg : wq.grownBy w' r) (hr : ∀ k, r = some k → w.heap.size < k ∧ k ≠ b) : MkAt w w' x A c b f := by
  have hbx := (Array.getElem?_eq_some_iff.1 h.box).1
  refine ⟨h.below.grown hg h.below.size (fun k hk => by have := (hr k hk).1; omega), (hg.block _ hbx (fun e => by have := (hr _ e.symm).1; omega)).trans h.box, h.bb, h.row.of_block (hg.block b h.row.lt (fun e => (hr _ e.symm).2 rfl))⟩
theorem cell (h : MkAt w wq x A c b f) (i : Nat) : wq.cell? ⟨w.heap.size, i, none⟩ = #[Value.int .i64 x.N, .int .i64 x.start, .int .i64 x.inp, .int .i64 x.out, .slice A x.mvs.length c][i]? := cell_blk h.box i
theorem there (h : MkAt w wq x A c b f) (i : Nat) (hi : i < x.N) : wq.cell? ⟨b, i, none⟩ = some (.bool (f i)) ∧ wq.frozen? ⟨b, i, none⟩ = false := by
  obtain ⟨cs, h1, h2, h3⟩ := h.row
  exact ⟨(cell_blk h1 i).trans (h3 i hi), frz h1 i⟩
end MkAt
/-- a row of numbers is no row of marks -/
theorem own_ne_mk {w : World} {B b n N : Nat} {v : Value} {xs : List Value} {f : Nat → Value} (h : w.ownsRow B 3 1 v n xs) (hm : w.rowIs b 4 N f) : v.ownBlock ≠ some b := by
  obtain ⟨cs, h1, _⟩ := hm
  exact own_ne_blk h h1 (by decide)
theorem OwnI.setCell {w : World} {B b n N : Nat} {v u : Value} {xs : List Nat} {f : Nat → Value} (h : OwnI w B v xs) (hm : w.rowIs b 4 N f) : OwnI (w.setCell ⟨b, n, none⟩ u) B v xs := by
  have hne := own_ne_mk h hm
  exact h.kept (row := some b) ⟨rfl, rfl, rfl, by simp [World.setCell], fun k hk hk2 => Below.heap_setCell _ _ _ _ (fun e => hk2 (by rw [e]))⟩ (by
    by_cases e : v.ownBlock = none
    · exact .inl e
    · exact .inr hne)
/-- the states reached by silent moves so far: behind the first i of them all, behind the next one those by the first k moves -/
structure ClW (x : Rx) (xs L : List Nat) (i k : Nat) : Prop where
  nd : L.Nodup
  lt : ∀ a ∈ L, a < x.N
  sub : ∀ a ∈ xs, a ∈ L
  min : ∀ P : Nat → Prop, (∀ a ∈ xs, P a) → (∀ m ∈ x.mvs, m.kind = 2 → P m.frm → P m.tgt) → ∀ a ∈ L, P a
  done : ∀ j, j < i → ∀ m ∈ x.mvs, m.kind = 2 → m.frm = L.getD j 0 → m.tgt ∈ L
  part : ∀ q, q < k → (x.mvs.getD q mvZ).kind = 2 → (x.mvs.getD q mvZ).frm = L.getD i 0 → (x.mvs.getD q mvZ).tgt ∈ L
theorem ClW.skip {x : Rx} {xs L : List Nat} {i k : Nat} (h : ClW x xs L i k) (hs : (x.mvs.getD k mvZ).kind = 2 → (x.mvs.getD k mvZ).frm = L.getD i 0 → (x.mvs.getD k mvZ).tgt ∈ L) : ClW x xs L i (k + 1) :=
  ⟨h.nd, h.lt, h.sub, h.min, h.done, fun q hq => by
    by_cases e : q = k
    · subst e; exact hs
    · exact h.part q (by omega)⟩
theorem ClW.more {x : Rx} (hx : x.ok) {xs L : List Nat} {i k : Nat} (h : ClW x xs L i k) (hk : k < x.mvs.length) (hi : i < L.length) (h1 : (x.mvs.getD k mvZ).kind = 2) (h2 : (x.mvs.getD k mvZ).frm = L.getD i 0) (h3 : (x.mvs.getD k mvZ).tgt ∉ L) : ClW x xs (L ++ [(x.mvs.getD k mvZ).tgt]) i (k + 1) := by
  have hm : x.mvs.getD k mvZ ∈ x.mvs := by rw [List.getD_eq_getElem?_getD, List.getElem?_eq_getElem hk]; exact List.getElem_mem hk
  have hiL : L.getD i 0 ∈ L := getD_mem hi
  refine ⟨?_, ?_, fun a ha => List.mem_append_left _ (h.sub a ha), ?_, ?_, ?_⟩
  · rw [List.nodup_append]
    exact ⟨h.nd, by simp, fun a ha b hb e => by rw [List.mem_singleton] at hb; subst hb; subst e; exact h3 ha⟩
  · intro a ha
    rcases List.mem_append.1 ha with ha | ha
    · exact h.lt a ha
    · rw [List.mem_singleton] at ha; subst ha; exact (hx.mv _ hm).2.1
  · intro P p1 p2 a ha
    rcases List.mem_append.1 ha with ha | ha
    · exact h.min P p1 p2 a ha
    · rw [List.mem_singleton] at ha; subst ha
      exact p2 _ hm h1 (by rw [h2]; exact h.min P p1 p2 _ hiL)
  · intro j hj m hmm k1 k2
    rw [gd_lt (by omega)] at k2
    exact List.mem_append_left _ (h.done j hj m hmm k1 k2)
  · intro q hq k1 k2
    rw [gd_lt hi] at k2
    by_cases e : q = k
    · subst e; simp
    · exact List.mem_append_left _ (h.part q (by omega) k1 k2)
theorem ClW.next {x : Rx} {xs L : List Nat} {i : Nat} (h : ClW x xs L i x.mvs.length) : ClW x xs L (i + 1) 0 :=
  ⟨h.nd, h.lt, h.sub, h.min, fun j hj => by
    by_cases e : j = i
    · subst e
      intro m hm k1 k2
      obtain ⟨q, hq, eq⟩ := List.getElem_of_mem hm
      have eg : x.mvs.getD q mvZ = m := by rw [List.getD_eq_getElem?_getD, List.getElem?_eq_getElem hq]; exact eq
      have := h.part q hq (by rw [eg]; exact k1) (by rw [eg]; exact k2)
      rwa [eg] at this
    · exact h.done j (by omega), fun q hq => by omega⟩
theorem ClW.len {x : Rx} (hx : x.ok) {xs L : List Nat} {i k : Nat} (h : ClW x xs L i k) : L.length ≤ 10 := Nat.le_trans (nodup_le x.N L h.nd h.lt) hx.hN
/-- what Closed hands back: the closure -/
def ClosedL (x : Rx) (xs : List Nat) (R : List Nat) : Prop := ∃ L, ClW x xs L L.length 0 ∧ R = (List.range x.N).filter (fun a => decide (a ∈ L))
set_option maxHeartbeats 16000000 in
set_option maxRecDepth 100000 in
theorem closedR_calls (w : World) (x : Rx) (hx : x.ok) (A : Option Addr) (c : Nat) (hr : RdM w A x.mvs) (B : Option Addr) (c' : Nat) (xs : List Nat) (hnd : xs.Nodup) (hlt : ∀ a ∈ xs, a < x.N) (hr' : RdI w B xs) :
    Calls Tryd.prog 36 #[rxV x A c, .slice B xs.length c'] w fun e w' => ∃ v R, e = .returned v ∧ OwnI w' w.heap.size v R ∧ ClosedL x xs R ∧ Below w.heap.size w w' := by
  unfold rxV
  have HR := Sd.mk hr
  have HR' := Sd.mk hr'
  have hN := hx.hN
  have hm := hx.hm
  have hxl : xs.length ≤ 10 := Nat.le_trans (nodup_le x.N xs hnd hlt) hx.hN
  have HND := Sd.mk hnd
  have HLT := Sd.mk hlt
  clear hr hr' hnd hlt
  have hmk := run_make_row' (P := Tryd.prog) 91 4 (.bool false) 1 Tryd.underlying91 Tryd.info4 rfl .i64 .i64 x.N (by omega) (by omega)
  go_enter Tryd.func36, Tryd.ntmps36
  go_wp2_with (first | (go_at_call 21; refine (ownInts_calls _ B c' xs (by omega) (HR'.out.below ((alloc_below _ _).alloc (by simp) _))).mono ?_; rintro e w2 ⟨v2, rfl, ho2, hB2⟩; have HO2 := Sd.mk ho2; have HB2 := Sd.mk hB2; clear ho2 hB2) | fail)
  have hbal := (alloc_below w (rxBox x A c)).alloc (by simp) (.cells (madeCells #[.bool false] x.N) 4)
  have hmk0 : MkAt w ((w.alloc (rxBox x A c)).alloc (.cells (madeCells #[.bool false] x.N) 4)) x A c (w.heap.size + 1) (fun _ => false) := by
    refine ⟨hbal, (heap_alloc_old _ _ (by simp)).trans (heap_alloc_new w _), by omega, ?_⟩
    have h1 := World.rowIs_made (w.alloc (rxBox x A c)) (.bool false) x.N 4
    rwa [show (w.alloc (rxBox x A c)).heap.size = w.heap.size + 1 by simp] at h1
  have HM2 := Sd.mk (hmk0.later HB2.out)
  have HO2' := Sd.mk (HO2.out.mono (Nat.le_trans (by show w.heap.size ≤ ((w.alloc (rxBox x A c)).alloc (.cells (madeCells #[.bool false] x.N) 4)).heap.size; simp; omega) (Nat.le_refl _)))
  clear hbal hmk0 hmk HO2
  go_loopw [6, 7, 8] (fun v i _ wq => ∃ (L : List Nat) (k : Nat), i = .int .i64 k ∧ k ≤ L.length ∧ Sd (MkAt w wq x A c (w.heap.size + 1) (fun a => decide (a ∈ L.take k))) ∧ Sd (OwnI wq w.heap.size v L) ∧ Sd (ClW x xs L k 0)) (fun _ i _ _ => 11 - (intOf i).toNat)
  case atStart => exact ⟨xs, 0, rfl, Nat.zero_le _, ⟨HM2.out.congr (fun a _ => by simp)⟩, HO2', ⟨⟨HND.out, HLT.out, fun a h => h, fun P h _ a ha => h a ha, fun j hj => by omega, fun q hq => by omega⟩⟩⟩
  case round =>
    obtain ⟨W1, hW1⟩ : ∃ W : World, W = wr := ⟨wr, rfl⟩
    subst hW1
    obtain ⟨L, k, rfl, hk, hM, hO, hC⟩ := hrel
    have hll := hC.out.len hx
    by_cases hkl : k < L.length
    · obtain ⟨Al, cl, hve, _, hrd⟩ := hO.out.read
      subst hve
      obtain ⟨al, e1, e2⟩ := hrd k hkl
      subst e1
      have hkN : L.getD k 0 < x.N := hC.out.lt _ (getD_mem hkl)
      obtain ⟨a, ha⟩ : ∃ a, a = L.getD k 0 := ⟨_, rfl⟩
      have HA := Sd.mk ha
      rw [← ha] at e2 hkN
      obtain ⟨t1, t2⟩ := hM.out.there a hkN
      have HM3 : Sd (MkAt w (W1.setCell ⟨w.heap.size + 1, a, none⟩ (.bool true)) x A c (w.heap.size + 1) (fun b => decide (b ∈ L.take (k + 1)))) := ⟨(hM.out.mark a).congr (fun b _ => by rw [take_getD (d := 0) L k hkl, ← HA.out, Bool.eq_iff_iff]; simp; exact Or.comm)⟩
      have HO3 := Sd.mk (OwnI.setCell (n := a) (u := .bool true) hO.out hM.out.row)
      clear ha hrd
      go_wp2_with fail
      clear e2 t1 t2
      generalize W1.setCell ⟨w.heap.size + 1, a, none⟩ (.bool true) = W3 at *
      go_loopw [6, 8] (fun v i wq => ∃ (L' : List Nat) (q : Nat), i = .int .i64 q ∧ q ≤ x.mvs.length ∧ Sd (MkAt w wq x A c (w.heap.size + 1) (fun b => decide (b ∈ L.take (k + 1)))) ∧ Sd (OwnI wq w.heap.size v L') ∧ Sd (ClW x xs L' k q) ∧ k < L'.length ∧ Sd (L'.getD k 0 = a ∧ L'.take (k + 1) = L.take (k + 1))) (fun _ i _ => x.mvs.length - (intOf i).toNat)
      case atStart => exact ⟨L, 0, rfl, Nat.zero_le _, HM3, HO3, hC, hkl, ⟨HA.out.symm, rfl⟩⟩
      case round =>
        obtain ⟨W4, hW4⟩ : ∃ W : World, W = wr := ⟨wr, rfl⟩
        subst hW4
        obtain ⟨L', q, rfl, hq, hM4, hO4, hC4, hk4, hE4⟩ := hrel
        have hll4 := hC4.out.len hx
        have c4 := hM4.out.cell 4
        by_cases hql : q < x.mvs.length
        · obtain ⟨Al4, cl4, hve, _, hrd⟩ := hO4.out.read
          subst hve
          obtain ⟨al4, f1, f2⟩ := hrd k hk4
          subst f1
          rw [hE4.out.1] at f2
          have HRD := Sd.mk hrd
          obtain ⟨ad, g1, g2, g3, g4, g5⟩ := (HR.out.below hM4.out.below) q hql
          subst g1
          obtain ⟨m, hmm⟩ : ∃ m, m = x.mvs.getD q mvZ := ⟨_, rfl⟩
          have HMM := Sd.mk hmm
          rw [← hmm] at g2 g3 g4 g5
          clear hmm hrd
          by_cases hf : m.frm = a
          · by_cases h2 : m.kind = 2
            · have b0 : ((m.frm : Int) == (a : Int)) = true := by rw [hf]; simp
              have b1 : ((m.kind : Int) == 2) = true := by rw [h2]; rfl
              by_cases hin : m.tgt ∈ L'
              · have HH : Sd (decide (m.tgt ∈ L') = true) := ⟨decide_eq_true hin⟩
                have HS := Sd.mk (hC4.out.skip (fun _ _ => by rw [← HMM.out]; exact hin))
                clear hf h2 hin
                go_wp2_with fail
                go_region_held3 (fun wx => wx.cell? ⟨w.heap.size, 4, none⟩ = some (.slice (some ad) x.mvs.length c) ∧ wx.cell? (ad.add (q * 4)) = some (.int .i64 m.frm) ∧ wx.cell? ⟨(ad.add (q * 4)).block, (ad.add (q * 4)).off + 1, none⟩ = some (.int .i64 m.kind) ∧ wx.cell? ⟨(ad.add (q * 4)).block, (ad.add (q * 4)).off + 3, none⟩ = some (.int .i64 m.tgt) ∧ wx.cell? (al4.add k) = some (.int .i64 a) ∧ RdI wx (some al4) L')
                  (first | exact ⟨c4, g2, g3, g5, f2, HRD.out⟩ | fail)
                  (first | (go_at_call 14; refine (has_calls _ (some al4) cl4 L' (by omega) (by go_split_ands; assumption) m.tgt).mono ?_; rintro e w5 ⟨he, rfl⟩; rw [HH.out] at he; subst he) | fail)
                go_wp2
                go_roundw
                case rel => exact ⟨L', q + 1, by go_num, by omega, ⟨hM4.out.later (below_drew (Below.refl _ _))⟩, ⟨hO4.out.below (below_drew (Below.refl _ _))⟩, HS, hk4, hE4⟩
                case measure => simp [intOf]; omega
              · have HH : Sd (decide (m.tgt ∈ L') = false) := ⟨decide_eq_false hin⟩
                have HS := Sd.mk (hC4.out.more hx hql hk4 (by rw [← HMM.out]; exact h2) (by rw [← HMM.out, hE4.out.1]; exact hf) (by rw [← HMM.out]; exact hin))
                rw [← HMM.out] at HS
                clear hf h2 hin
                go_wp2_with fail
                go_region_held3 (fun wx => wx.cell? ⟨w.heap.size, 4, none⟩ = some (.slice (some ad) x.mvs.length c) ∧ wx.cell? (ad.add (q * 4)) = some (.int .i64 m.frm) ∧ wx.cell? ⟨(ad.add (q * 4)).block, (ad.add (q * 4)).off + 1, none⟩ = some (.int .i64 m.kind) ∧ wx.cell? ⟨(ad.add (q * 4)).block, (ad.add (q * 4)).off + 3, none⟩ = some (.int .i64 m.tgt) ∧ wx.cell? (al4.add k) = some (.int .i64 a) ∧ RdI wx (some al4) L')
                  (first | exact ⟨c4, g2, g3, g5, f2, HRD.out⟩ | fail)
                  (first | (go_at_call 14; refine (has_calls _ (some al4) cl4 L' (by omega) (by go_split_ands; assumption) m.tgt).mono ?_; rintro e w5 ⟨he, rfl⟩; rw [HH.out] at he; subst he) | fail)
                have HM5 := Sd.mk (hM4.out.later (below_drew (Below.refl _ _)))
                have HO5 := Sd.mk (hO4.out.below (below_drew (Below.refl _ _)))
                clear c4 g2 g3 g4 g5 f2
                go_wp2_with (at_builtin; refine app1 rfl _ _ 27 rfl 3 (.int .i64 0) 1 8 Tryd.underlying27 Tryd.info3 rfl (by decide) w.heap.size HM5.out.below w.heap.size (Nat.le_refl _) HM5.out.below.size _ L'.length _ HO5.out ?c1 ?c2 [.int .i64 (m.tgt : Int)] rfl rfl rfl ?c3 ?_)
                case c1 => omega
                case c2 => omega
                case c3 => intro u hu; simp at hu; subst hu; rfl
                intro v7 w7 ho7 hB7 hg7 ha7
                have HO7 : Sd (OwnI w7 w.heap.size v7 (L' ++ [m.tgt])) := ⟨by unfold OwnI; rw [List.length_append, List.length_singleton, List.map_append]; exact ho7⟩
                have HM7 := Sd.mk (HM5.out.grown hg7 (fun j hj => ⟨by have := (HO5.out.lt j hj).1; have := own_ne_blk HO5.out HM5.out.box (by decide); have h3 : j ≠ w.heap.size := (fun e => this (by rw [hj, e])); omega, fun e => own_ne_mk HO5.out HM5.out.row (by rw [hj, e])⟩))
                clear ho7 hB7 hg7 ha7
                go_wp2
                go_roundw
                case rel => exact ⟨L' ++ [m.tgt], q + 1, by go_num, by omega, HM7, HO7, HS, by rw [List.length_append]; omega, ⟨(gd_lt hk4).trans hE4.out.1, by rw [List.take_append_of_le_length (by omega)]; exact hE4.out.2⟩⟩
                case measure => simp [intOf]; omega
            · have b0 : ((m.frm : Int) == (a : Int)) = true := by rw [hf]; simp
              have b1 : ((m.kind : Int) == 2) = false := by rw [beq_eq_false_iff_ne]; omega
              have HS := Sd.mk (hC4.out.skip (fun h _ => absurd (by rw [HMM.out]; exact h) h2))
              clear hf h2
              go_wp2_with fail
              go_quiet (fail)
              go_wp2
              go_roundw
              case rel => exact ⟨L', q + 1, by go_num, by omega, ⟨hM4.out.later (below_drewN (Below.refl _ _) _)⟩, ⟨hO4.out.below (below_drewN (Below.refl _ _) _)⟩, HS, hk4, hE4⟩
              case measure => simp [intOf]; omega
          · have b0 : ((m.frm : Int) == (a : Int)) = false := by rw [beq_eq_false_iff_ne]; omega
            have HS := Sd.mk (hC4.out.skip (fun _ h => absurd (by rw [HMM.out, h, hE4.out.1]) hf))
            clear hf
            go_wp2_with fail
            go_quiet (fail)
            go_wp2
            go_roundw
            case rel => exact ⟨L', q + 1, by go_num, by omega, ⟨hM4.out.later (below_drewN (Below.refl _ _) _)⟩, ⟨hO4.out.below (below_drewN (Below.refl _ _) _)⟩, HS, hk4, hE4⟩
            case measure => simp [intOf]; omega
        · obtain rfl : q = x.mvs.length := by omega
          obtain ⟨Al4, cl4, hve, _, hrd⟩ := hO4.out.read
          subst hve
          clear hrd
          go_wp2
          go_roundw
          case rel => exact ⟨L', k + 1, by go_num, by omega, ⟨hM4.out.congr (fun b _ => by rw [hE4.out.2])⟩, hO4, ⟨hC4.out.next⟩⟩
          case measure => simp [intOf]; omega
    · obtain rfl : k = L.length := by omega
      obtain ⟨Al, cl, hve, _, hrd⟩ := hO.out.read
      subst hve
      clear hrd
      have hMf := Sd.mk (hM.out.congr (g := fun a => decide (a ∈ L)) (fun b _ => by rw [List.take_length]))
      go_wp2_with (first | (go_at_call 44; refine (asc_calls _ (w.heap.size + 1) x.N x.N hN (fun a => decide (a ∈ L)) hMf.out.row).mono ?_; rintro e w9 ⟨v9, rfl, ho9, hB9⟩; have HO9 := Sd.mk ho9; have HB9 := Sd.mk hB9; clear ho9 hB9) | fail)
      go_ret
      exact ⟨v9, _, rfl, HO9.out.mono hM.out.below.size, ⟨L, hC.out, rfl⟩, below_then hM.out.below hM.out.below.size HB9.out⟩
end Go.Proofs.YtcbhaeniahckhaaDoor
end
