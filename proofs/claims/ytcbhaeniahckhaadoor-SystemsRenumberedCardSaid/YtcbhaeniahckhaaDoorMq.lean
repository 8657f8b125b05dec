/- The reference's first states, what they show, and its errors, walked. Conditions: those that each theorem names. -/
import Derived.Test.YtcbhaeniahckhaaDoorMp
import Derived.Test.YtcbhaeniahckhaaDoorMn
set_option linter.unusedSimpArgs false
set_option linter.unusedVariables false
section
set_option linter.unusedSimpArgs false
namespace Go.Proofs.YtcbhaeniahckhaaDoor
open Go.RowKit Go.Shelf Go.Deep Go.Proofs.YtcbhaeniahckhaaDoorW.PrintLast
theorem bitsL_nil {n : Nat} (h : n < 1024) : (bitsL n).length = 0 ↔ n = 0 := by
  rw [List.length_eq_zero_iff]
  constructor
  · intro hn
    rw [zero_iff_bits]
    intro i
    rw [Bool.eq_false_iff]
    intro hb
    have hi : i < 10 := lt_of_bit (N := 10) (by omega) hb
    have := (mem_bitsL n i).2 ⟨hi, hb⟩
    rw [hn] at this
    cases this
  · rintro rfl; exact bitsL_zero
theorem bitsL_pos (n : Nat) (h : n < 1024) : ((bitsL n).length = 0 ∧ n = 0) ∨ (0 < (bitsL n).length ∧ n ≠ 0) := by
  have := bitsL_nil h
  rcases Nat.eq_zero_or_pos (bitsL n).length with h1 | h1
  · exact .inl ⟨h1, this.1 h1⟩
  · exact .inr ⟨h1, fun e => by have := this.2 e; omega⟩
theorem bitsL_sorted (n i : Nat) (h : i + 1 < (bitsL n).length) : (bitsL n).getD i 0 < (bitsL n).getD (i + 1) 0 := by
  have hp : (bitsL n).Pairwise (· < ·) := List.pairwise_lt_range.filter _
  rw [List.getD_eq_getElem?_getD, List.getD_eq_getElem?_getD, List.getElem?_eq_getElem (by omega), List.getElem?_eq_getElem h]
  exact List.pairwise_iff_getElem.1 hp i (i + 1) (by omega) h (by omega)
set_option maxHeartbeats 4000000 in
set_option maxRecDepth 100000 in
theorem initial_calls (w : World) (x : Rx) (hx : x.ok) (A : Option Addr) (c : Nat) (hr : RdM w A x.mvs) : Calls Tryd.prog 12 #[rxV x A c] w fun e w' => ∃ v, e = .returned v ∧ OwnI w' w.heap.size v (bitsL (firstS (sysOf x))) ∧ Below w.heap.size w w' := by
  unfold rxV
  have HR := Sd.mk hr
  have hs := hx.hs
  clear hr
  have hlit := own_litI (w.alloc (rxBox x A c)) (w.heap.size) (x.start : Int) (m := x.start) (by simp) rfl
  rw [show (w.alloc (rxBox x A c)).heap.size = w.heap.size + 1 by simp] at hlit
  have HL := Sd.mk hlit
  clear hlit
  go_enter Tryd.func12, Tryd.ntmps12
  go_wp2_with (first | (go_at_call 36; refine (closedR_calls _ x hx A c (HR.out.below ((alloc_below _ _).alloc (by simp) _)) (some ⟨w.heap.size + 1, 0, none⟩) 1 [x.start] (by simp) (by simpa using hs) (by obtain ⟨A1, c1, e1, _, e2⟩ := HL.out.read; cases e1; exact e2)).mono ?_; rintro e w2 ⟨v2, R2, rfl, ho2, hc2, hB2⟩) | fail)
  have hb0 : Below w.heap.size w ((w.alloc (rxBox x A c)).alloc (.cells #[.int .i64 (x.start : Int)] 3)) := (alloc_below _ _).alloc (by simp) _
  have hp : 2 ^ x.start < 2 ^ x.N := Nat.pow_lt_pow_right (by decide) hs
  have hR := closedL_eq x hx [x.start] R2 (2 ^ x.start) hp (fun a => by rw [List.mem_singleton, Nat.testBit_two_pow, decide_eq_true_iff]; exact eq_comm) hc2
  subst hR
  have HO := Sd.mk (ho2.mono hb0.size)
  have HB := Sd.mk (below_then hb0 hb0.size hB2)
  go_ret
  exact ⟨v2, rfl, HO.out, HB.out⟩
/-- what a set can show -/
def shownL (x : Rx) (l n : Nat) : List Nat := ((List.range n).filter fun k => decide (afterS (sysOf x) l (x.inp + k) ≠ 0)).map (x.inp + ·)
theorem shownL_succ (x : Rx) (l n : Nat) : shownL x l (n + 1) = shownL x l n ++ (if afterS (sysOf x) l (x.inp + n) = 0 then [] else [x.inp + n]) := by
  unfold shownL
  rw [List.range_succ, List.filter_append, List.map_append]
  congr 1
  by_cases h : afterS (sysOf x) l (x.inp + n) = 0 <;> simp [h]
theorem shownL_len (x : Rx) (l n : Nat) : (shownL x l n).length ≤ n := by
  unfold shownL
  rw [List.length_map]
  exact Nat.le_trans (List.length_filter_le _ _) (by simp)
theorem after_small (x : Rx) (hx : x.ok) {l : Nat} (hl : l < 2 ^ x.N) (e : Nat) : afterS (sysOf x) l e < 2 ^ x.N := afterS_lt (sysOf x) (x.byb hx) (x.silb hx) hl
theorem small_1024 (x : Rx) (hx : x.ok) {l : Nat} (hl : l < 2 ^ x.N) : l < 1024 := Nat.lt_of_lt_of_le hl (Nat.le_trans (Nat.pow_le_pow_right (by decide) hx.hN) (by decide))
theorem afterR_int (w : World) (x : Rx) (hx : x.ok) (A : Option Addr) (c : Nat) (hr : RdM w A x.mvs) (B : Option Addr) (c' n l : Nat) (hn : n = (bitsL l).length) (hl : l < 2 ^ x.N) (hr' : RdI w B (bitsL l)) (e : Nat) (he : e ≤ x.inp + x.out) (ev : Int) (hev : ev = (e : Int)) :
    Calls Tryd.prog 15 #[.agg #[.int .i64 x.N, .int .i64 x.start, .int .i64 x.inp, .int .i64 x.out, .slice A x.mvs.length c], .slice B n c', .int .i64 ev] w fun e' w' => ∃ v, e' = .returned v ∧ OwnI w' w.heap.size v (bitsL (afterS (sysOf x) l e)) ∧ Below w.heap.size w w' := by
  subst hev
  exact afterR_calls w x hx A c hr B c' n l hn hl hr' e he
set_option maxHeartbeats 8000000 in
set_option maxRecDepth 100000 in
theorem shown_calls (w : World) (x : Rx) (hx : x.ok) (A : Option Addr) (c : Nat) (hr : RdM w A x.mvs) (B : Option Addr) (c' n l : Nat) (hn : n = (bitsL l).length) (hl : l < 2 ^ x.N) (hr' : RdI w B (bitsL l)) :
    Calls Tryd.prog 13 #[rxV x A c, .slice B n c'] w fun e' w' => ∃ v, e' = .returned v ∧ OwnI w' w.heap.size v (shownL x l (x.out + 1)) ∧ Below w.heap.size w w' := by
  unfold rxV
  subst hn
  have HR := Sd.mk hr
  have HR' := Sd.mk hr'
  have hi4 := hx.hi
  have ho4 := hx.ho
  clear hr hr'
  go_enter Tryd.func13, Tryd.ntmps13
  go_wp2_with fail
  go_loopw [5, 6] (fun v i wq => ∃ k : Nat, i = .int .i64 ((x.inp : Int) + k) ∧ k ≤ x.out + 1 ∧ Sd (OwnI wq w.heap.size v (shownL x l k)) ∧ Sd (Below w.heap.size w wq) ∧ Sd (wq.heap[w.heap.size]? = some (rxBox x A c))) (fun _ i _ => x.inp + x.out + 1 - (intOf i).toNat)
  case atStart => exact ⟨0, by simp, Nat.zero_le _, ⟨World.ownsRow_nil _ _ _ _⟩, ⟨alloc_below _ _⟩, ⟨heap_alloc_new _ _⟩⟩
  case round =>
    obtain ⟨W1, hW1⟩ : ∃ W : World, W = wr := ⟨wr, rfl⟩
    subst hW1
    obtain ⟨k, rfl, hk, hO, hB, hb⟩ := hrel
    have c0 := cell_blk hb.out 0
    have c1 := cell_blk hb.out 1
    have c2 := cell_blk hb.out 2
    have c3 := cell_blk hb.out 3
    have c4 := cell_blk hb.out 4
    have hll := shownL_len x l k
    by_cases hlt : k < x.out + 1
    · have hd : decide ((x.inp : Int) + k ≤ (x.inp : Int) + x.out) = true := decide_eq_true (by omega)
      have hst := Sd.mk (shownL_succ x l k)
      have hal := after_small x hx hl (x.inp + k)
      have hcase := bitsL_pos _ (small_1024 x hx hal)
      rcases hcase with ⟨h1, h2⟩ | ⟨h1, h2⟩
      · have HN : Sd (shownL x l (k + 1) = shownL x l k) := ⟨by rw [hst.out, if_pos h2, List.append_nil]⟩
        have H1 := Sd.mk h1
        clear h1 h2 hal
        go_wp2_with (first | (go_at_call 35; refine (silenceR_calls _ x hx A c).mono ?_; rintro e' w3 ⟨rfl, hB3⟩; have hb3 := (hB3.block _ (Array.getElem?_eq_some_iff.1 hb.out).1).trans hb.out; have Hb3 := Sd.mk hb3; have d0 := cell_blk hb3 0; have d1 := cell_blk hb3 1; have d2 := cell_blk hb3 2; have d3 := cell_blk hb3 3; have d4 := cell_blk hb3 4; clear hb3; have HB3 := Sd.mk (below_then hB.out hB.out.size hB3); have HO3 := Sd.mk (hO.out.below hB3); clear hB3) | (go_at_call 15; refine (afterR_int _ x hx A c (HR.out.below HB3.out) B c' _ l rfl hl (HR'.out.below HB3.out) (x.inp + k) (by omega) _ (by omega)).mono ?_; rintro e' w5 ⟨v5, rfl, ho5, hB5⟩; obtain ⟨b5, c5, rfl⟩ := own_len ho5; rw [H1.out]; have HB5 := Sd.mk (below_then HB3.out HB3.out.size hB5); have HO5 := Sd.mk (HO3.out.below hB5); have Hb5 := Sd.mk ((hB5.block _ (Array.getElem?_eq_some_iff.1 Hb3.out).1).trans Hb3.out); clear ho5 hB5) | fail)
        go_roundw
        case rel => exact ⟨k + 1, congrArg (Value.int .i64) (by omega), by omega, by rw [HN.out]; exact HO5, HB5, Hb5⟩
        case measure => simp [intOf]; omega
      · have HN : Sd (shownL x l (k + 1) = shownL x l k ++ [x.inp + k]) := ⟨by rw [hst.out, if_neg h2]⟩
        have H1 : Sd (decide ((0 : Int) < ((bitsL (afterS (sysOf x) l (x.inp + k))).length : Int)) = true) := ⟨decide_eq_true (by omega)⟩
        have hd1 := H1.out
        clear h2 hal
        go_wp2_with (first | (go_at_call 35; refine (silenceR_calls _ x hx A c).mono ?_; rintro e' w3 ⟨rfl, hB3⟩; have hb3 := (hB3.block _ (Array.getElem?_eq_some_iff.1 hb.out).1).trans hb.out; have Hb3 := Sd.mk hb3; have d0 := cell_blk hb3 0; have d1 := cell_blk hb3 1; have d2 := cell_blk hb3 2; have d3 := cell_blk hb3 3; have d4 := cell_blk hb3 4; clear hb3; have HB3 := Sd.mk (below_then hB.out hB.out.size hB3); have HO3 := Sd.mk (hO.out.below hB3); clear hB3) | (go_at_call 15; refine (afterR_int _ x hx A c (HR.out.below HB3.out) B c' _ l rfl hl (HR'.out.below HB3.out) (x.inp + k) (by omega) _ (by omega)).mono ?_; rintro e' w5 ⟨v5, rfl, ho5, hB5⟩; obtain ⟨b5, c5, rfl⟩ := own_len ho5; have HB5 := Sd.mk (below_then HB3.out HB3.out.size hB5); have HO5 := Sd.mk (HO3.out.below hB5); have Hb5 := Sd.mk ((hB5.block _ (Array.getElem?_eq_some_iff.1 Hb3.out).1).trans Hb3.out); clear ho5 hB5) | (at_builtin; refine app1 rfl _ _ 27 rfl 3 (.int .i64 0) 1 8 Tryd.underlying27 Tryd.info3 rfl (by decide) w.heap.size HB5.out w.heap.size (Nat.le_refl _) HB5.out.size _ (shownL x l k).length _ HO5.out ?c1 ?c2 [.int .i64 ((x.inp : Int) + k)] rfl rfl rfl ?c3 ?_))
        case c1 => omega
        case c2 => omega
        case c3 => intro u hu; simp at hu; subst hu; rfl
        intro v7 w7 ho7 hB7 hg7 ha7
        have HO7 : Sd (OwnI w7 w.heap.size v7 (shownL x l k ++ [x.inp + k])) := ⟨by unfold OwnI; rw [List.length_append, List.length_singleton, List.map_append, List.map_singleton, show ((x.inp + k : Nat) : Int) = (x.inp : Int) + k by omega]; exact ho7⟩
        have HB7 := Sd.mk hB7
        have Hb7 := Sd.mk ((hg7.block _ (Array.getElem?_eq_some_iff.1 Hb5.out).1 (fun e => own_ne_blk HO5.out Hb5.out (by decide) e.symm)).trans Hb5.out)
        clear ho7 hB7 hg7 ha7
        go_wp2
        go_roundw
        case rel => exact ⟨k + 1, congrArg (Value.int .i64) (by omega), by omega, by rw [HN.out]; exact HO7, HB7, Hb7⟩
        case measure => simp [intOf]; omega
    · obtain rfl : k = x.out + 1 := by omega
      have hd : decide ((x.out : Int) + 1 ≤ (x.out : Int)) = false := decide_eq_false (by omega)
      go_wp2_with (first | (go_at_call 35; refine (silenceR_calls _ x hx A c).mono ?_; rintro e' w3 ⟨rfl, hB3⟩; have HB3 := Sd.mk (below_then hB.out hB.out.size hB3); have HO3 := Sd.mk (hO.out.below hB3); clear hB3) | fail)
      go_ret
      exact ⟨_, rfl, HO3.out, HB3.out⟩
/-- a set of the program's is right for the reference -/
theorem setErr_calls (w : World) (x : Rx) (hx : x.ok) (A : Option Addr) (c : Nat) (B : Option Addr) (c' l : Nat) (hl : l < 2 ^ x.N) (hr' : RdI w B (bitsL l)) :
    Calls Tryd.prog 33 #[rxV x A c, .slice B (bitsL l).length c'] w fun e' w' => e' = .returned (.int .i64 0) ∧ Below w.heap.size w w' := by
  unfold rxV
  have HR' := Sd.mk hr'
  have hN := hx.hN
  have hN1 := hx.hs
  have HLT := Sd.mk (show ∀ a ∈ bitsL l, a < x.N from bitsL_in hl)
  have HSO := Sd.mk (bitsL_sorted l)
  have hxl := bitsL_len l
  generalize bitsL l = xs at *
  clear hr'
  go_enter Tryd.func33, Tryd.ntmps33
  go_wp2_with fail
  go_loopw [5] (fun i wq => ∃ k : Nat, i = .int .i64 k ∧ k ≤ xs.length ∧ Sd (Below w.heap.size w wq) ∧ Sd (wq.heap[w.heap.size]? = some (rxBox x A c))) (fun i _ => xs.length - (intOf i).toNat)
  case atStart => exact ⟨0, rfl, Nat.zero_le _, ⟨alloc_below _ _⟩, ⟨heap_alloc_new _ _⟩⟩
  case round =>
    obtain ⟨W1, hW1⟩ : ∃ W : World, W = wr := ⟨wr, rfl⟩
    subst hW1
    obtain ⟨k, rfl, hk, hB, hb⟩ := hrel
    have c0 := cell_blk hb.out 0
    by_cases hkl : k < xs.length
    · obtain ⟨ad, e1, e2⟩ := (HR'.out.below hB.out) k hkl
      subst e1
      have haN := HLT.out _ (getD_mem hkl)
      have HPr := Sd.mk (fun h => (HR'.out.below hB.out) (k - 1) h)
      have HS := Sd.mk (HSO.out (k - 1))
      obtain ⟨a, ha⟩ : ∃ a, a = xs.getD k 0 := ⟨_, rfl⟩
      have HA := Sd.mk ha
      rw [← ha] at e2 haN
      clear ha
      by_cases hk0 : k = 0
      · subst hk0
        have hd0 : decide ((0 : Int) < 0) = false := rfl
        rw [show ad.add 0 = ad from rfl] at e2
        go_wp2_with fail
        go_region_held3 (fun wx => wx.cell? ad = some (.int .i64 a) ∧ wx.cell? ⟨w.heap.size, 0, none⟩ = some (.int .i64 x.N))
          (first | exact ⟨e2, c0⟩ | fail)
          (first | (go_at_call 59; refine (within_yes _ _ _ (by omega) (by rw [IntWalk.i64_in _ (by omega)]; omega) _).mono ?_; rintro e w1 ⟨rfl, rfl⟩) | fail)
        go_wp2_with fail
        go_quiet (fail)
        go_wp2
        go_roundw
        case rel => exact ⟨0 + 1, by go_num, by omega, ⟨below_drewN hB.out _⟩, hb⟩
        case measure => simp [intOf]; omega
      · obtain ⟨ad2, q1, q2⟩ := HPr.out (by omega)
        cases q1
        have hs := HS.out (by omega)
        rw [show k - 1 + 1 = k by omega, ← HA.out] at hs
        obtain ⟨j, hj2⟩ : ∃ j, j = k - 1 := ⟨_, rfl⟩
        rw [← hj2] at q2 hs
        have hw : IntKind.i64.wrap ((k : Int) - 1) = (j : Int) := by rw [IntWalk.i64_in _ (by omega)]; omega
        have hi0 : (0 : Int) ≤ (j : Int) := by omega
        have hi1 : (j : Int) < (xs.length : Int) := by omega
        clear hj2 HPr HS
        generalize xs.getD j 0 = b at *
        have hd0 : decide ((0 : Int) < (k : Int)) = true := by simp; omega
        have hd1 : decide (0 < k) = true := by simp; omega
        have hpos : 0 < k := by omega
        have hge : decide ((a : Int) ≤ (b : Int)) = false := decide_eq_false (by omega)
        go_wp2_with fail
        go_region_held3 (fun wx => wx.cell? (ad.add k) = some (.int .i64 a) ∧ wx.cell? ⟨w.heap.size, 0, none⟩ = some (.int .i64 x.N))
          (first | exact ⟨e2, c0⟩ | fail)
          (first | (go_at_call 59; refine (within_yes _ _ _ (by omega) (by rw [IntWalk.i64_in _ (by omega)]; omega) _).mono ?_; rintro e w1 ⟨rfl, rfl⟩) | fail)
        go_wp2_with fail
        go_quiet (fail)
        go_wp2
        go_roundw
        case rel => exact ⟨k + 1, by go_num, by omega, ⟨below_drewN hB.out _⟩, hb⟩
        case measure => simp [intOf]; omega
    · obtain rfl : k = xs.length := by omega
      go_wp2
      go_ret
      exact ⟨rfl, hB.out⟩
end Go.Proofs.YtcbhaeniahckhaaDoor
end
section
set_option linter.unusedSimpArgs false
namespace Go.Proofs.YtcbhaeniahckhaaDoor
open Go.RowKit Go.Shelf Go.Deep Go.Proofs.YtcbhaeniahckhaaDoorW.PrintLast
/-- pairs of sets, read in place -/
def RdP (w : World) (g : Nat) (qs : List (Nat × Nat)) : Prop := ∀ i, i < qs.length → ∃ A c B c', w.cell? ⟨g, i * 2, none⟩ = some (.slice A (bitsL (qs.getD i (0, 0)).1).length c) ∧ w.cell? ⟨g, i * 2 + 1, none⟩ = some (.slice B (bitsL (qs.getD i (0, 0)).2).length c') ∧ RdI w A (bitsL (qs.getD i (0, 0)).1) ∧ RdI w B (bitsL (qs.getD i (0, 0)).2)
theorem RdP.below {w w' : World} {g : Nat} {qs : List (Nat × Nat)} (h : RdP w g qs) (hB : Below w.heap.size w w') : RdP w' g qs := fun i hi => let ⟨A, c, B, c', h1, h2, h3, h4⟩ := h i hi; ⟨A, c, B, c', cell_later hB h1, cell_later hB h2, h3.below hB, h4.below hB⟩
theorem flat2 : ∀ (us : List (Value × Value)) (i : Nat), i < us.length → (us.flatMap fun u => [u.1, u.2])[i * 2]? = some (us.getD i (.bool true, .bool true)).1 ∧ (us.flatMap fun u => [u.1, u.2])[i * 2 + 1]? = some (us.getD i (.bool true, .bool true)).2
  | [], i, h => by simp at h
  | u :: us, i, h => by
    rw [List.flatMap_cons]
    cases i with
    | zero => exact ⟨rfl, rfl⟩
    | succ i =>
      have h3 := flat2 us i (by simpa using h)
      have hl : [u.1, u.2].length = 2 := rfl
      rw [List.getElem?_append_right (by omega), List.getElem?_append_right (by omega), hl, show (i + 1) * 2 - 2 = i * 2 by omega, show (i + 1) * 2 + 1 - 2 = i * 2 + 1 by omega]
      simpa [List.getD_eq_getElem?_getD] using h3
theorem PairsAt.read {w : World} {base : Nat} {v : Value} {qs : List (Nat × Nat)} (h : PairsAt w base v qs) (hp : 0 < qs.length) : ∃ g c, v = .slice (some ⟨g, 0, none⟩) qs.length c ∧ RdP w g qs := by
  obtain ⟨us, h1, h2, h3⟩ := h
  obtain ⟨g, c, rfl⟩ := own_pos h2 hp
  refine ⟨g, c, rfl, fun i hi => ?_⟩
  obtain ⟨A, c1, e1, _, e3⟩ := (h3 i hi).1.read
  obtain ⟨B, c2, f1, _, f3⟩ := (h3 i hi).2.read
  obtain ⟨k1, k2⟩ := flat2 us i (by omega)
  exact ⟨A, c1, B, c2, (h2.cellAt _ (by omega)).trans (k1.trans (by rw [e1])), (h2.cellAt _ (by omega)).trans (k2.trans (by rw [f1])), e3, f3⟩
set_option maxHeartbeats 8000000 in
set_option maxRecDepth 100000 in
theorem hasPair_calls (w : World) (g cg : Nat) (qs : List (Nat × Nat)) (hq : RdP w g qs) (hlq : qs.length ≤ 1000000) (A B : Option Addr) (c c' a b n n' : Nat) (hn : n = (bitsL a).length) (hn' : n' = (bitsL b).length) (hA : RdI w A (bitsL a)) (hB : RdI w B (bitsL b)) (hin : (a, b) ∈ qs) :
    Calls Tryd.prog 34 #[.slice (some ⟨g, 0, none⟩) qs.length cg, .slice A n c, .slice B n' c'] w fun e w' => e = .returned (.bool true) ∧ Below w.heap.size w w' := by
  subst hn
  subst hn'
  have HQ := Sd.mk hq
  have HA := Sd.mk hA
  have HB := Sd.mk hB
  obtain ⟨i0, hi0, ei0⟩ := List.getElem_of_mem hin
  have hI : Sd (qs.getD i0 (0, 0) = (a, b)) := ⟨by rw [List.getD_eq_getElem?_getD, List.getElem?_eq_getElem hi0]; exact ei0⟩
  have ha10 := bitsL_len a
  have hb10 := bitsL_len b
  clear hq hA hB hin ei0
  go_enter Tryd.func34, Tryd.ntmps34
  go_wp2_with fail
  go_loopw [7] (fun i wq => ∃ k : Nat, i = .int .i64 k ∧ k ≤ i0 ∧ Sd (Below w.heap.size w wq)) (fun i _ => i0 + 1 - (intOf i).toNat)
  case atStart => exact ⟨0, rfl, Nat.zero_le _, ⟨Below.refl _ _⟩⟩
  case round =>
    obtain ⟨W1, hW1⟩ : ∃ W : World, W = wr := ⟨wr, rfl⟩
    subst hW1
    obtain ⟨k, rfl, hk, hBl⟩ := hrel
    have hkl : k < qs.length := by omega
    obtain ⟨A1, c1, A2, c2, e1, e2, e3, e4⟩ := (HQ.out.below hBl.out) k hkl
    have hne : Sd (qs.getD k (0, 0) ≠ (a, b) → k < i0) := ⟨fun h => by
      rcases Nat.lt_or_ge k i0 with h1 | h1
      · exact h1
      · have : k = i0 := by omega
        subst this; exact absurd hI.out h⟩
    generalize qs.getD k (0, 0) = q at *
    obtain ⟨q1, q2⟩ := q
    simp only at e1 e2 e3 e4
    have E3 := Sd.mk e3
    have E4 := Sd.mk e4
    have hq10 := bitsL_len q1
    have hq20 := bitsL_len q2
    have HN : Sd ((decide (bitsL q1 = bitsL a) && decide (bitsL q2 = bitsL b)) = false → k < i0) := ⟨fun h => hne.out (fun e => by cases e; simp at h)⟩
    clear e3 e4 hne
    rcases hd1 : decide (bitsL q1 = bitsL a) with _ | _
    · have D1 := Sd.mk hd1
      have hlt := HN.out (by rw [hd1]; rfl)
      clear hd1 HN
      go_wp2_with (first | (go_at_call 19; refine (same_calls _ A1 A c1 c (bitsL q1) (bitsL a) (by omega) (by omega) E3.out (HA.out.below hBl.out)).mono ?_; rintro e w3 ⟨he, hB3⟩; rw [D1.out] at he; subst he; have HB3 := Sd.mk (below_then hBl.out hBl.out.size hB3); clear hB3) | fail)
      go_roundw
      case rel => exact ⟨k + 1, by go_num, by omega, HB3⟩
      case measure => simp [intOf]; omega
    · have D1 := Sd.mk hd1
      rw [hd1, Bool.true_and] at HN
      clear hd1
      rcases hd2 : decide (bitsL q2 = bitsL b) with _ | _
      · have D2 := Sd.mk hd2
        have hlt := HN.out hd2
        clear hd2 HN
        go_wp2_with (first | (go_at_call_of 19 (Value.slice A1 (bitsL q1).length c1); refine (same_calls _ A1 A c1 c (bitsL q1) (bitsL a) (by omega) (by omega) E3.out (HA.out.below hBl.out)).mono ?_; rintro e w3 ⟨he, hB3⟩; rw [D1.out] at he; subst he; have HB3 := Sd.mk (below_then hBl.out hBl.out.size hB3); have f1 := cell_later hB3 e2; have E5 := Sd.mk (E4.out.below hB3); clear hB3) | (go_at_call 19; refine (same_calls _ A2 B c2 c' (bitsL q2) (bitsL b) (by omega) (by omega) E5.out (HB.out.below HB3.out)).mono ?_; rintro e w4 ⟨he, hB4⟩; rw [D2.out] at he; subst he; have HB4 := Sd.mk (below_then HB3.out HB3.out.size hB4); clear hB4) | fail)
        go_roundw
        case rel => exact ⟨k + 1, by go_num, by omega, HB4⟩
        case measure => simp [intOf]; omega
      · have D2 := Sd.mk hd2
        clear hd2 HN
        go_wp2_with (first | (go_at_call_of 19 (Value.slice A1 (bitsL q1).length c1); refine (same_calls _ A1 A c1 c (bitsL q1) (bitsL a) (by omega) (by omega) E3.out (HA.out.below hBl.out)).mono ?_; rintro e w3 ⟨he, hB3⟩; rw [D1.out] at he; subst he; have HB3 := Sd.mk (below_then hBl.out hBl.out.size hB3); have f1 := cell_later hB3 e2; have E5 := Sd.mk (E4.out.below hB3); clear hB3) | (go_at_call 19; refine (same_calls _ A2 B c2 c' (bitsL q2) (bitsL b) (by omega) (by omega) E5.out (HB.out.below HB3.out)).mono ?_; rintro e w4 ⟨he, hB4⟩; rw [D2.out] at he; subst he; have HB4 := Sd.mk (below_then HB3.out HB3.out.size hB4); clear hB4) | fail)
        go_ret
        exact ⟨rfl, HB4.out⟩
/-- a system with whatever numbers, as a value -/
def rawV (x : Raw) (A : Option Addr) (c : Nat) : Value := .agg #[.int .i64 x.N, .int .i64 x.start, .int .i64 x.inp, .int .i64 x.out, .slice A x.mvs.length c]
theorem err_calls (w : World) (x : Raw) (A : Option Addr) (c : Nat) (hr : RdMz w A x.mvs) : Calls Tryd.prog 27 #[rawV x A c] w fun e w' => ∃ code, e = .returned (.int .i64 code) ∧ Below w.heap.size w w' ∧ (code = 0 → x.good) := by
  unfold rawV
  have HR := Sd.mk hr
  clear hr
  go_enter Tryd.func27, Tryd.ntmps27
  go_wp2_with (first | (go_at_call 54; refine (react_calls _ x A c (HR.out.below (alloc_below _ _))).mono ?_; rintro e w2 ⟨i, code, rfl, hB, hg⟩; have HB := Sd.mk hB; have HG := Sd.mk hg; clear hB hg) | fail)
  go_ret
  exact ⟨code, rfl, below_then (alloc_below _ _) (alloc_below _ _).size HB.out, HG.out⟩
set_option maxHeartbeats 8000000 in
set_option maxRecDepth 100000 in
theorem twoErr_calls (w : World) (x y : Raw) (A A' : Option Addr) (c c' : Nat) (hr : RdMz w A x.mvs) (hr' : RdMz w A' y.mvs) : Calls Tryd.prog 6 #[rawV x A c, rawV y A' c'] w fun e w' => ∃ code, e = .returned (.int .i64 code) ∧ Below w.heap.size w w' ∧ (code = 0 → x.good ∧ y.good ∧ x.inp = y.inp ∧ x.out = y.out) := by
  unfold rawV
  have HR := Sd.mk hr
  have HR' := Sd.mk hr'
  clear hr hr'
  have K0 := Sd.mk (two_boxes (w := w) (W := ((w.alloc (.cells #[.int .i64 x.N, .int .i64 x.start, .int .i64 x.inp, .int .i64 x.out, .slice A x.mvs.length c] 24)).alloc (.cells #[.int .i64 y.N, .int .i64 y.start, .int .i64 y.inp, .int .i64 y.out, .slice A' y.mvs.length c'] 24))) ((heap_alloc_old _ _ (by simp)).trans (heap_alloc_new w _)) (alloc_at _ _ (w.heap.size + 1) (by simp)) (((Below.refl _ _).alloc (Nat.le_refl _) _).alloc (by simp) _))
  go_enter Tryd.func6, Tryd.ntmps6
  go_upto_region 2 with (first | (go_at_call 27; refine (err_calls _ x A c (HR.out.below K0.out.2.2.1)).mono ?_; rintro e w2 ⟨cx, rfl, hB2, hg2⟩; have K2 := Sd.mk (two_kept K0.out.1 K0.out.2.1 K0.out.2.2.1 hB2); have G2 := Sd.mk hg2; clear hB2 hg2) | fail)
  by_cases hcx : cx = 0
  · have b0 : (cx != 0) = false := by rw [hcx]; rfl
    have GX := Sd.mk (G2.out hcx)
    have y0 := K2.out.2.2.2.2.2.2.2.2
    obtain ⟨y0, y1, y2, y3, y4⟩ := y0
    have x2 := K2.out.2.2.2.2.2.1
    have x3 := K2.out.2.2.2.2.2.2.1
    go_upto_region 5 with (first | (go_at_call 27; refine (err_calls _ y A' c' (HR'.out.below K2.out.2.2.1)).mono ?_; rintro e w3 ⟨cy, rfl, hB3, hg3⟩; have K3 := Sd.mk (two_kept K2.out.1 K2.out.2.1 K2.out.2.2.1 hB3); have G3 := Sd.mk hg3; clear hB3 hg3) | fail)
    clear y0 y1 y2 y3 y4 x2 x3
    have x2 := K3.out.2.2.2.2.2.1
    have x3 := K3.out.2.2.2.2.2.2.1
    obtain ⟨_, _, y2, y3, _⟩ := K3.out.2.2.2.2.2.2.2.2
    by_cases hcy : cy = 0
    · have b1 : (cy != 0) = false := by rw [hcy]; rfl
      have GY := Sd.mk (G3.out hcy)
      clear hcy hcx
      by_cases hi : x.inp = y.inp
      · have b2 : (x.inp != y.inp) = false := by rw [hi]; simp
        by_cases ho : x.out = y.out
        · have b3 : (x.out != y.out) = false := by rw [ho]; simp
          have HI := Sd.mk hi
          have HO := Sd.mk ho
          clear hi ho
          go_wp2
          go_ret
          exact ⟨0, rfl, K3.out.2.2.1, fun _ => ⟨GX.out, GY.out, HI.out, HO.out⟩⟩
        · have b3 : (x.out != y.out) = true := bne_iff_ne.2 ho
          clear hi ho
          go_wp2
          go_ret
          exact ⟨6, rfl, K3.out.2.2.1, fun h => absurd h (by decide)⟩
      · have b2 : (x.inp != y.inp) = true := bne_iff_ne.2 hi
        clear hi
        go_wp2
        go_ret
        exact ⟨6, rfl, K3.out.2.2.1, fun h => absurd h (by decide)⟩
    · have b1 : (cy != 0) = true := bne_iff_ne.2 hcy
      go_wp2
      go_ret
      exact ⟨cy, rfl, K3.out.2.2.1, fun h => absurd h hcy⟩
  · have b0 : (cx != 0) = true := bne_iff_ne.2 hcx
    go_wp2
    go_ret
    exact ⟨cx, rfl, K2.out.2.2.1, fun h => absurd h hcx⟩
end Go.Proofs.YtcbhaeniahckhaaDoor
end
