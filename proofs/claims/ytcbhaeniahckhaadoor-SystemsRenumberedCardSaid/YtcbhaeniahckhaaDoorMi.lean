/- The nodes of a trace's test, walked; testOf. Conditions: those that each theorem names. -/
import Derived.Test.YtcbhaeniahckhaaDoorMh
set_option linter.unusedSimpArgs false
set_option linter.unusedVariables false
section
set_option linter.unusedSimpArgs false
namespace Go.Proofs.YtcbhaeniahckhaaDoor
open Go.RowKit Go.Shelf Go.Deep Go.Proofs.YtcbhaeniahckhaaDoorW.PrintLast
theorem own_litI (w : World) (B : Nat) (x : Int) {m : Nat} (hB : B ≤ w.heap.size) (hx : x = (m : Int)) : OwnI (w.alloc (.cells #[.int .i64 x] 3)) B (.slice (some ⟨w.heap.size, 0, none⟩) 1 1) [m] := by
  subst hx
  exact World.ownsRow_lit (base := B) (e := 3) (size := 1) w #[.int .i64 (m : Int)] 1 hB (by decide) rfl
set_option maxHeartbeats 8000000 in
set_option maxRecDepth 100000 in
theorem node_inp (w0 : World) (gs : Nat) (S : SysP) (hS : Sys w0 gs S) (hT0 : Tab w0) (At : Option Addr) (ct : Nat) (n : Nat) (b : Nat) (F : Nat → Prop) (hb0 : w0.heap.size ≤ b) (i : Nat) (hi : i < n) (hn : n ≤ 1000) (ev : Nat) (hev : ev < S.inp) (ad : Addr) (hrd : At = some ad ∧ w0.cell? (ad.add i) = some (.int .i64 ev)) (rest : List Nat) (l : Nat) (hl : l < 2 ^ S.N) (T : List Nd) (hTl : T.length ≤ 900000) (vo : Value) (w : World) (hB : Below w0.heap.size w0 w)
    (hb : w.heap[b]? = some (mkObj gs At n ct vo)) (hT : TestAt w w0.heap.size F vo T) (hF : ∀ k, F k → k < w.heap.size)
    (ih : ∀ (T' : List Nd), T'.length = T.length + 1 → ∀ (F' : Nat → Prop) (vo' : Value) (w' : World), Below w0.heap.size w0 w' → w'.heap[b]? = some (mkObj gs At n ct vo') → TestAt w' w0.heap.size F' vo' T' → (∀ k, F' k → k < w'.heap.size) →
      Calls Tryd.prog 68 #[.pointer (some ⟨b, 0, none⟩), .int .i64 ((i + 1 : Nat) : Int), .int .u64 (afterS S l ev)] w' (NodePost w0 gs At n ct b F' T' (nodeS S rest (afterS S l ev) T') vo' w')) :
    Calls Tryd.prog 68 #[.pointer (some ⟨b, 0, none⟩), .int .i64 i, .int .u64 l] w (NodePost w0 gs At n ct b F T (nodeS S (ev :: rest) l T) vo w) := by
  have hio : S.inp ≤ 4 ∧ S.out ≤ 4 := by obtain ⟨mv1, Ab1, cb1, As1, cs1, Ar1, cr1, hS1⟩ := hS; exact ⟨hS1.hi, hS1.ho⟩
  obtain ⟨hio1, hio2⟩ := hio
  have HS := Sd.mk (fun (w1 : World) (h1 : Below w0.heap.size w0 w1) => hS.below h1)
  have HTb := Sd.mk (fun (w1 : World) (h1 : Below w0.heap.size w0 w1) => hT0.below h1)
  have hown : ∀ k, vo.ownBlock = some k → w0.heap.size ≤ k := by obtain ⟨xs, hx⟩ := hT.own; exact fun k hk => (hx.lt k hk).1
  have hbw := hB.size
  obtain ⟨us, h1, hrow, h3⟩ := hT
  obtain ⟨a0, c0', rfl⟩ := own_len hrow
  have HOWN := Sd.mk hown
  unfold mkObj at hb
  have c0 := cell_blk hb 0
  have c1 := cell_blk hb 1
  have c2 := cell_blk hb 2
  have f2 := frz hb 2
  have hbl := (Array.getElem?_eq_some_iff.1 hb).1
  have HR := Sd.mk hrow
  have H3 := Sd.mk h3
  have HL := Sd.mk h1
  have HB := Sd.mk hb
  have HBw := Sd.mk hB
  have HFs := Sd.mk hF
  obtain ⟨rfl, hrd⟩ := hrd
  have hev1 : Sd (nodeS S (ev :: rest) l T = setNx (nodeS S rest (afterS S l ev) (T ++ [⟨ev, 0, []⟩])) T.length [T.length + 1]) := ⟨by rw [nodeS, if_pos hev]⟩
  have r0 := cell_later HBw.out hrd
  have IH := Sd.mk ih
  have hd1 : ((ev : Int) != -1) = true := by rw [bne_iff_ne]; omega
  have hnl := nodeS_len S rest (afterS S l ev) (T ++ [⟨ev, 0, []⟩])
  rw [List.length_append, List.length_singleton] at hnl
  have hgb : gs ≠ b ∧ w.cell? ⟨gs, 2, none⟩ = some (.int .i64 S.inp) := by
    obtain ⟨mv1, Ab1, cb1, As1, cs1, Ar1, cr1, hS1⟩ := HS.out _ HBw.out
    obtain ⟨mv2, Ab2, cb2, As2, cs2, Ar2, cr2, hS2⟩ := HS.out _ (Below.refl _ _)
    have := (Array.getElem?_eq_some_iff.1 hS2.blk).1
    exact ⟨by omega, cell_blk hS1.blk 2⟩
  obtain ⟨hgb, x2⟩ := hgb
  clear hS hT0 hrow h3 h1 hown hb hB hF ih hrd
  go_enter Tryd.func68, Tryd.ntmps68
  go_wp2_with (at_builtin; refine app1 rfl _ _ 50 rfl 109 (.agg #[.int .i64 0, .int .i64 0, .slice none 0 0]) 3 40 Tryd.underlying50 Tryd.info109 rfl (by decide) 0 (Below.refl _ _) w0.heap.size (Nat.zero_le _) hbw _ T.length _ HR.out ?c1 ?c2 [.int .i64 ev, .int .i64 0, .slice none 0 0] rfl rfl rfl ?c3 ?_)
  case c1 => omega
  case c2 => omega
  case c3 => intro u hu; simp only [List.mem_cons, List.not_mem_nil, or_false] at hu; rcases hu with rfl | rfl | rfl <;> rfl
  intro v' w1 ho1 hB1 hg1 hat
  obtain ⟨g', cap', rfl⟩ := own_pos ho1 (Nat.succ_pos _)
  have hne := own_ne_blk HR.out HB.out (by decide)
  have hb1 := (hg1.block b hbl (fun e => hne e.symm)).trans HB.out
  have hT1 := TestAt.more us HL.out H3.out HR.out ev 0 hg1 ho1
  have hset := maker_set hb1 hT1
  have hgr := grew_set (b := b) (grew_of hg1 hat) (.slice (some ⟨g', 0, none⟩) (T.length + 1) cap')
  have hbl1 := (Array.getElem?_eq_some_iff.1 hb1).1
  have d2 := cell_blk hb1 2
  have g2 := frz hb1 2
  have HSet := Sd.mk hset
  have HGr := Sd.mk hgr
  have HBw1 := Sd.mk (hgr.below HBw.out hb0 HOWN.out)
  have e0 := cell_blk hb1 0
  clear hset hgr hb1 hat hg1 ho1 hB1 hT1
  go_wp2_with (first | (go_at_call 49; refine (afters_calls _ (HTb.out _ HBw1.out) gs S l ev hl (by omega) (HS.out _ HBw1.out)).mono ?_; rintro e' w3 ⟨rfl, hB3⟩; have HB3 := Sd.mk hB3; clear hB3) | (go_at_call 68; refine (IH.out (T ++ [⟨ev, 0, []⟩]) (by simp) F _ _ (below_then HBw1.out HBw1.out.size HB3.out) ((HB3.out.block b (Array.getElem?_eq_some_iff.1 HSet.out.1).1).trans HSet.out.1) (HSet.out.2.below HB3.out) (fun k hk => Nat.lt_of_lt_of_le (HFs.out k hk) (Nat.le_trans HGr.out.size HB3.out.size))).mono ?_; rintro e' w4 ⟨rfl, vo4, hb4, hT4, hG4⟩; obtain ⟨xs4, hx4⟩ := hT4.own; obtain ⟨g4, cap4, rfl⟩ := own_pos hx4 (by omega); have hne4 := own_ne_blk hx4 hb4 (by decide); clear hx4 xs4; have q2 := cell_blk hb4 2; obtain ⟨⟨u4, y4⟩, z4⟩ := hT4.slot T.length (by omega); have hbl4 := (Array.getElem?_eq_some_iff.1 hb4).1; have hgl4 := World.block_lt_of_cell? w4 _ y4; have H4 := Sd.mk (And.intro hb4 (And.intro hT4 hG4)); clear hb4 hT4 hG4))
  go_ret
  obtain ⟨hb4, hT4, hG4⟩ := H4.out
  rw [← World.setCell_alloc_past _ g4 _ _ hgl4]
  have hBl := alloc_below w4 (Obj.cells #[.int .i64 ((T.length : Int) + 1)] 3)
  have hlit : OwnI (w4.alloc (Obj.cells #[.int .i64 ((T.length : Int) + 1)] 3)) w0.heap.size (.slice (some ⟨w4.heap.size, 0, none⟩) 1 1) [T.length + 1] := own_litI _ _ _ (by have := HBw.out.size; have := HGr.out.size; have := HB3.out.size; have := hG4.size; omega) (by omega)
  have hw4 : w.heap.size ≤ w4.heap.size := Nat.le_trans HGr.out.size (Nat.le_trans HB3.out.size hG4.size)
  obtain ⟨hs1, hs2⟩ := (hT4.below hBl).setNx (i := T.length) (by omega) hlit (fun k hk hf => by simp [Value.ownBlock] at hk; have := HFs.out k hf; omega)
  rw [← hev1.out] at hs1
  exact ⟨ret_i64 rfl, _, (hs2.block b (by simp; omega) (fun e2 => hne4 (by cases e2; rfl))).trans ((hBl.block b hbl4).trans hb4), hs1, (HGr.out.trans ((Grew.of_below HB3.out b _).trans hG4)).trans ((Grew.of_below hBl b _).trans ⟨hs2.os, hs2.tape, hs2.output, hs2.size, fun k hk _ hn => hs2.block k hk (fun e2 => hn e2.symm), .inl rfl⟩)⟩
end Go.Proofs.YtcbhaeniahckhaaDoor
end
section
set_option linter.unusedSimpArgs false
namespace Go.Proofs.YtcbhaeniahckhaaDoor
open Go.RowKit Go.Shelf Go.Deep Go.Proofs.YtcbhaeniahckhaaDoorW.PrintLast
set_option maxHeartbeats 8000000 in
set_option maxRecDepth 100000 in
theorem node_obs (w0 : World) (gs : Nat) (S : SysP) (hS : Sys w0 gs S) (hT0 : Tab w0) (At : Option Addr) (ct : Nat) (n : Nat) (b : Nat) (F : Nat → Prop) (hb0 : w0.heap.size ≤ b) (i : Nat) (hi : i < n) (hn : n ≤ 1000) (ev : Nat) (hev : ¬ ev < S.inp) (hev9 : ev ≤ S.inp + S.out) (ad : Addr) (hrd : At = some ad ∧ w0.cell? (ad.add i) = some (.int .i64 ev)) (rest : List Nat) (hrl : rest.length ≤ 1000) (l : Nat) (hl : l < 2 ^ S.N) (T : List Nd) (hTl : T.length ≤ 900000) (vo : Value) (w : World) (hB : Below w0.heap.size w0 w)
    (hb : w.heap[b]? = some (mkObj gs At n ct vo)) (hT : TestAt w w0.heap.size F vo T) (hF : ∀ k, F k → k < w.heap.size)
    (ih : ∀ (T' : List Nd), T'.length ≤ T.length + 6 → ∀ (F' : Nat → Prop) (vo' : Value) (w' : World), Below w0.heap.size w0 w' → w'.heap[b]? = some (mkObj gs At n ct vo') → TestAt w' w0.heap.size F' vo' T' → (∀ k, F' k → k < w'.heap.size) →
      Calls Tryd.prog 68 #[.pointer (some ⟨b, 0, none⟩), .int .i64 ((i + 1 : Nat) : Int), .int .u64 (afterS S l ev)] w' (NodePost w0 gs At n ct b F' T' (nodeS S rest (afterS S l ev) T') vo' w')) :
    Calls Tryd.prog 68 #[.pointer (some ⟨b, 0, none⟩), .int .i64 i, .int .u64 l] w (NodePost w0 gs At n ct b F T (nodeS S (ev :: rest) l T) vo w) := by
  have hio : S.inp ≤ 4 ∧ S.out ≤ 4 := by obtain ⟨mv1, Ab1, cb1, As1, cs1, Ar1, cr1, hS1⟩ := hS; exact ⟨hS1.hi, hS1.ho⟩
  obtain ⟨hio1, hio2⟩ := hio
  have HS := Sd.mk (fun (w1 : World) (h1 : Below w0.heap.size w0 w1) => hS.below h1)
  have HTb := Sd.mk (fun (w1 : World) (h1 : Below w0.heap.size w0 w1) => hT0.below h1)
  have hown : ∀ k, vo.ownBlock = some k → w0.heap.size ≤ k := by obtain ⟨xs, hx⟩ := hT.own; exact fun k hk => (hx.lt k hk).1
  have hbw := hB.size
  obtain ⟨us, h1, hrow, h3⟩ := hT
  obtain ⟨a0, c0', rfl⟩ := own_len hrow
  have HOWN := Sd.mk hown
  unfold mkObj at hb
  have c0 := cell_blk hb 0
  have c1 := cell_blk hb 1
  have c2 := cell_blk hb 2
  have f2 := frz hb 2
  have hbl := (Array.getElem?_eq_some_iff.1 hb).1
  have HR := Sd.mk hrow
  have H3 := Sd.mk h3
  have HL := Sd.mk h1
  have HB := Sd.mk hb
  have HBw := Sd.mk hB
  have HFs := Sd.mk hF
  obtain ⟨rfl, hrd⟩ := hrd
  have hev1 : Sd (nodeS S (ev :: rest) l T = setNx (obsS (some ev) (nodeS S rest (afterS S l ev)) 2 S l T (S.out + 1)).1 T.length (obsS (some ev) (nodeS S rest (afterS S l ev)) 2 S l T (S.out + 1)).2) := ⟨by rw [nodeS, if_neg hev]⟩
  have r0 := cell_later HBw.out hrd
  have IH := Sd.mk ih
  have hd1 : ((ev : Int) != -1) = true := by rw [bne_iff_ne]; omega
  have hrc := Sd.mk (fun (T : List Nd) => nodeS_len S rest (afterS S l ev) T)
  have hmm : (S.out + 2) * (rest.length + 1) ≤ 6 * (rest.length + 1) := Nat.mul_le_mul_right _ (by omega)
  have hevi : ¬ (ev : Int) < (S.inp : Int) := by omega
  have hgb : gs ≠ b ∧ w.cell? ⟨gs, 2, none⟩ = some (.int .i64 S.inp) := by
    obtain ⟨mv1, Ab1, cb1, As1, cs1, Ar1, cr1, hS1⟩ := HS.out _ HBw.out
    obtain ⟨mv2, Ab2, cb2, As2, cs2, Ar2, cr2, hS2⟩ := HS.out _ (Below.refl _ _)
    have := (Array.getElem?_eq_some_iff.1 hS2.blk).1
    exact ⟨by omega, cell_blk hS1.blk 2⟩
  obtain ⟨hgb, x2⟩ := hgb
  clear hS hT0 hrow h3 h1 hown hb hB hF ih hrd
  go_enter Tryd.func68, Tryd.ntmps68
  go_wp2_with (at_builtin; refine app1 rfl _ _ 50 rfl 109 (.agg #[.int .i64 0, .int .i64 0, .slice none 0 0]) 3 40 Tryd.underlying50 Tryd.info109 rfl (by decide) 0 (Below.refl _ _) w0.heap.size (Nat.zero_le _) hbw _ T.length _ HR.out ?c1 ?c2 [.int .i64 (-1), .int .i64 0, .slice none 0 0] rfl rfl rfl ?c3 ?_)
  case c1 => omega
  case c2 => omega
  case c3 => exact ⟨rfl, rfl, rfl⟩
  intro v' w1 ho1 hB1 hg1 hat
  obtain ⟨g', cap', rfl⟩ := own_pos ho1 (Nat.succ_pos _)
  have hne := own_ne_blk HR.out HB.out (by decide)
  have hb1 := (hg1.block b hbl (fun e => hne e.symm)).trans HB.out
  have hT1 := TestAt.more us HL.out H3.out HR.out (-1) 0 hg1 ho1
  have hset := maker_set hb1 hT1
  have hgr := grew_set (b := b) (grew_of hg1 hat) (.slice (some ⟨g', 0, none⟩) (T.length + 1) cap')
  have hbl1 := (Array.getElem?_eq_some_iff.1 hb1).1
  have d2 := cell_blk hb1 2
  have g2 := frz hb1 2
  have HSet := Sd.mk hset
  have HGr := Sd.mk hgr
  have HBw1 := Sd.mk (hgr.below HBw.out hb0 HOWN.out)
  have e0 := cell_blk hb1 0
  have HBq := Sd.mk ((grew_of (b := b) hg1 hat).below HBw.out hb0 HOWN.out)
  have hgb : gs ≠ b ∧ w1.cell? ⟨gs, 2, none⟩ = some (.int .i64 S.inp) := by
    obtain ⟨mv1, Ab1, cb1, As1, cs1, Ar1, cr1, hS1⟩ := HS.out _ HBq.out
    obtain ⟨mv2, Ab2, cb2, As2, cs2, Ar2, cr2, hS2⟩ := HS.out _ (Below.refl _ _)
    have := (Array.getElem?_eq_some_iff.1 hS2.blk).1
    exact ⟨by omega, cell_blk hS1.blk 2⟩
  obtain ⟨hgb, x2⟩ := hgb
  clear hset hgr hb1 hat hg1 ho1 hB1
  go_wp2_with fail
  go_loopw [11, 12] (fun v11 i wq => ∃ (e : Nat) (vq : Value), i = .int .i64 (e : Int) ∧ S.inp ≤ e ∧ e ≤ S.inp + S.out + 1 ∧ Sd (Obs w0 w wq gs (some ad) n ct b F (.slice a0 T.length c0') v11 vq (obsS (some ev) (nodeS S rest (afterS S l ev)) 2 S l T (e - S.inp)).1 (obsS (some ev) (nodeS S rest (afterS S l ev)) 2 S l T (e - S.inp)).2)) (fun _ i _ => S.inp + S.out + 1 - (intOf i).toNat)
  case atStart => exact ⟨S.inp, _, rfl, Nat.le_refl _, by omega, ⟨by rw [Nat.sub_self]; exact ⟨HSet.out.1, HSet.out.2.other (fun c _ hc => hc.resolve_right (by simp [Value.ownBlock])), World.ownsRow_nil _ _ _ _, HGr.out⟩⟩⟩
  case round =>
    obtain ⟨W1, hW1⟩ : ∃ W : World, W = wr := ⟨wr, rfl⟩
    subst hW1
    obtain ⟨e, vq, rfl, hle, he, hO⟩ := hrel
    have hln := obsS_len (some ev) (nodeS S rest (afterS S l ev)) ((S.out + 2) * (rest.length + 1)) (fun T => .inl (hrc.out T)) 2 S l T (e - S.inp)
    simp only at hln
    have hl2 := Nat.le_of_eq (obsS_len2 (some ev) (nodeS S rest (afterS S l ev)) 2 S l T (e - S.inp))
    by_cases hlt : e < S.inp + S.out + 1
    · have hes : e ≤ S.inp + S.out := by omega
      have hev : Sd (obsS (some ev) (nodeS S rest (afterS S l ev)) 2 S l T (e + 1 - S.inp) = obsStep (some ev) (nodeS S rest (afterS S l ev)) 2 S l (obsS (some ev) (nodeS S rest (afterS S l ev)) 2 S l T (e - S.inp)) (e - S.inp)) := ⟨by rw [show e + 1 - S.inp = (e - S.inp) + 1 by omega, obsS_succ]⟩
      have hsum : Sd (S.inp + (e - S.inp) = e) := ⟨by omega⟩
      generalize obsS (some ev) (nodeS S rest (afterS S l ev)) 2 S l T (e - S.inp) = st at *
      have d0 := cell_blk hO.out.hb 0
      by_cases hee : e = ev
      · subst hee
        have hst : Sd (obsS (some e) (nodeS S rest (afterS S l e)) 2 S l T (e + 1 - S.inp) = (nodeS S rest (afterS S l e) st.1, st.2 ++ [st.1.length])) := ⟨by rw [hev.out]; unfold obsStep; rw [hsum.out, if_pos rfl]⟩
        have h6 : st.1.length ≤ T.length + 6 := by rw [if_neg (by omega)] at hln; omega
        clear hln hev
        go_wp2_with (first | (go_at_call 48; refine (silences_calls _ gs S (HS.out _ (hO.out.below HBw.out hb0 HOWN.out))).mono ?_; rintro e' w2 ⟨rfl, hB2⟩; have hO2 := Sd.mk (hO.out.later hB2); clear hB2; have d2 := cell_blk hO2.out.hb 0) | (go_at_call 49; refine (afters_calls _ (HTb.out _ (hO2.out.below HBw.out hb0 HOWN.out)) gs S l e hl hes (HS.out _ (hO2.out.below HBw.out hb0 HOWN.out))).mono ?_; rintro e' w3 ⟨rfl, hB3⟩; have hO3 := Sd.mk (hO2.out.later hB3); clear hB3) | (go_at_call 68; have hI := IH.out st.1 h6 (fun c => F c ∨ u11.ownBlock = some c) vq _ (hO3.out.below HBw.out hb0 HOWN.out) hO3.out.hb hO3.out.hT (fun k hk => hk.elim (fun h => Nat.lt_of_lt_of_le (HFs.out k h) hO3.out.hG.size) (fun h => (hO3.out.hN.lt k h).2)); refine hI.mono ?_; rintro e' w4 ⟨rfl, vq4, hb4, hT4, hG4⟩; have hO4 := Sd.mk (hO3.out.noded hb4 hT4 hG4); clear hb4 hT4 hG4 hI) | (at_builtin; refine app1 rfl _ _ 27 rfl 3 (.int .i64 0) 1 8 Tryd.underlying27 Tryd.info3 rfl (by decide) 0 (Below.refl _ _) w.heap.size (Nat.zero_le _) hO4.out.hG.size _ st.2.length _ hO4.out.hN ?c1 ?c2 [.int .i64 (st.1.length : Nat)] rfl rfl rfl ?c3 ?_))
        case c1 => omega
        case c2 => omega
        case c3 => intro u hu; simp at hu; subst hu; rfl
        intro v12 w5 ho5 hB5 hg5 ha5
        have hO5 := Sd.mk (hO4.out.appended st.1.length hg5 ho5 ha5)
        clear ho5 hB5 hg5 ha5
        go_wp2
        go_roundw
        case rel => exact ⟨e + 1, vq4, by go_num, by omega, by omega, by rw [hst.out]; exact hO5⟩
        case measure => simp [intOf]; omega
      · have hd2 : ((e : Int) == (ev : Int)) = false := by rw [beq_eq_false_iff_ne]; omega
        rcases hv : showsS S l e with _ | _
        · have V : Sd (showsS S l e = false) := ⟨hv⟩
          have hst : Sd (obsS (some ev) (nodeS S rest (afterS S l ev)) 2 S l T (e + 1 - S.inp) = (st.1 ++ [⟨-1, 3, []⟩], st.2 ++ [st.1.length])) := ⟨by rw [hev.out]; unfold obsStep; rw [hsum.out, hv, if_neg (by simpa using fun e2 => hee e2.symm)]; rfl⟩
          clear hv hev
          have hlb : st.1.length ≤ 1000000 := by split at hln <;> omega
          clear hln
          go_wp2_with (first | (go_at_call 48; refine (silences_calls _ gs S (HS.out _ (hO.out.below HBw.out hb0 HOWN.out))).mono ?_; rintro e' w2 ⟨rfl, hB2⟩; have hO2 := Sd.mk (hO.out.later hB2); clear hB2; have d2 := cell_blk hO2.out.hb 0) | (go_at_call 76; refine (showss_calls _ (HTb.out _ (hO2.out.below HBw.out hb0 HOWN.out)) gs S l e hl hes (HS.out _ (hO2.out.below HBw.out hb0 HOWN.out))).mono ?_; rintro e' w3 ⟨he', hB3⟩; rw [V.out] at he'; subst he'; have hO3 := Sd.mk (hO2.out.later hB3); clear hB3) | (go_at_call 83; refine (leaf_calls _ w0.heap.size b gs (some ad) n ct (fun c => F c ∨ u11.ownBlock = some c) vq st.1 3 hO3.out.hb hO3.out.hT (hO3.out.below HBw.out hb0 HOWN.out).size (by omega)).mono ?_; rintro e' w4 ⟨rfl, vq4, hb4, hT4, hG4⟩; have hO4 := Sd.mk (hO3.out.noded hb4 hT4 hG4); clear hb4 hT4 hG4) | (at_builtin; refine app1 rfl _ _ 27 rfl 3 (.int .i64 0) 1 8 Tryd.underlying27 Tryd.info3 rfl (by decide) 0 (Below.refl _ _) w.heap.size (Nat.zero_le _) hO4.out.hG.size _ st.2.length _ hO4.out.hN ?c1 ?c2 [.int .i64 (st.1.length : Nat)] rfl rfl rfl ?c3 ?_))
          case c1 => omega
          case c2 => omega
          case c3 => intro u hu; simp at hu; subst hu; rfl
          intro v12 w5 ho5 hB5 hg5 ha5
          have hO5 := Sd.mk (hO4.out.appended st.1.length hg5 ho5 ha5)
          clear ho5 hB5 hg5 ha5
          go_wp2
          go_roundw
          case rel => exact ⟨e + 1, vq4, by go_num, by omega, by omega, by rw [hst.out]; exact hO5⟩
          case measure => simp [intOf]; omega
        · have V : Sd (showsS S l e = true) := ⟨hv⟩
          have hst : Sd (obsS (some ev) (nodeS S rest (afterS S l ev)) 2 S l T (e + 1 - S.inp) = (st.1 ++ [⟨-1, 2, []⟩], st.2 ++ [st.1.length])) := ⟨by rw [hev.out]; unfold obsStep; rw [hsum.out, hv, if_neg (by simpa using fun e2 => hee e2.symm)]; rfl⟩
          clear hv hev
          have hlb : st.1.length ≤ 1000000 := by split at hln <;> omega
          clear hln
          go_wp2_with (first | (go_at_call 48; refine (silences_calls _ gs S (HS.out _ (hO.out.below HBw.out hb0 HOWN.out))).mono ?_; rintro e' w2 ⟨rfl, hB2⟩; have hO2 := Sd.mk (hO.out.later hB2); clear hB2; have d2 := cell_blk hO2.out.hb 0) | (go_at_call 76; refine (showss_calls _ (HTb.out _ (hO2.out.below HBw.out hb0 HOWN.out)) gs S l e hl hes (HS.out _ (hO2.out.below HBw.out hb0 HOWN.out))).mono ?_; rintro e' w3 ⟨he', hB3⟩; rw [V.out] at he'; subst he'; have hO3 := Sd.mk (hO2.out.later hB3); clear hB3) | (go_at_call 83; refine (leaf_calls _ w0.heap.size b gs (some ad) n ct (fun c => F c ∨ u11.ownBlock = some c) vq st.1 2 hO3.out.hb hO3.out.hT (hO3.out.below HBw.out hb0 HOWN.out).size (by omega)).mono ?_; rintro e' w4 ⟨rfl, vq4, hb4, hT4, hG4⟩; have hO4 := Sd.mk (hO3.out.noded hb4 hT4 hG4); clear hb4 hT4 hG4) | (at_builtin; refine app1 rfl _ _ 27 rfl 3 (.int .i64 0) 1 8 Tryd.underlying27 Tryd.info3 rfl (by decide) 0 (Below.refl _ _) w.heap.size (Nat.zero_le _) hO4.out.hG.size _ st.2.length _ hO4.out.hN ?c1 ?c2 [.int .i64 (st.1.length : Nat)] rfl rfl rfl ?c3 ?_))
          case c1 => omega
          case c2 => omega
          case c3 => intro u hu; simp at hu; subst hu; rfl
          intro v12 w5 ho5 hB5 hg5 ha5
          have hO5 := Sd.mk (hO4.out.appended st.1.length hg5 ho5 ha5)
          clear ho5 hB5 hg5 ha5
          go_wp2
          go_roundw
          case rel => exact ⟨e + 1, vq4, by go_num, by omega, by omega, by rw [hst.out]; exact hO5⟩
          case measure => simp [intOf]; omega
    · obtain rfl : e = S.inp + S.out + 1 := by omega
      rw [show S.inp + S.out + 1 - S.inp = S.out + 1 by omega] at hO hln hl2
      have hfin := hev1
      generalize obsS (some ev) (nodeS S rest (afterS S l ev)) 2 S l T (S.out + 1) = st at *
      obtain ⟨xs, hx⟩ := hO.out.hT.own
      obtain ⟨gq, cq, rfl⟩ := own_pos hx (by omega)
      clear hx xs
      obtain ⟨a11, n11, c11, rfl⟩ := own_slice hO.out.hN
      have d0 := cell_blk hO.out.hb 0
      go_wp2_with (go_at_call 48; refine (silences_calls _ gs S (HS.out _ (hO.out.below HBw.out hb0 HOWN.out))).mono ?_; rintro e' w2 ⟨rfl, hB2⟩; have hO2 := Sd.mk (hO.out.later hB2); clear hB2; have d2 := cell_blk hO2.out.hb 2; obtain ⟨⟨u2, y2⟩, z2⟩ := hO2.out.hT.slot T.length (by omega))
      go_ret
      have hgb2 : Sd (gq ≠ b) := ⟨by
        obtain ⟨xs, hx⟩ := hO2.out.hT.own
        intro e2
        exact own_ne_blk hx hO2.out.hb (by decide) (by rw [← e2]; rfl)⟩
      have hTF := hO2.out.hT.other (F' := F) (fun c _ hc => .inl hc)
      obtain ⟨hs1, hs2⟩ := hTF.setNx (i := T.length) (by omega) (hO2.out.hN.mono hbw) (fun k hk hf => by have h4 := (hO2.out.hN.lt k hk).1; have h5 := HFs.out k hf; omega)
      rw [← hfin.out] at hs1
      exact ⟨ret_i64 rfl, _, (hs2.block b (Array.getElem?_eq_some_iff.1 hO2.out.hb).1 (fun e2 => hgb2.out (by cases e2; rfl))).trans hO2.out.hb, hs1, hO2.out.hG.trans ⟨hs2.os, hs2.tape, hs2.output, hs2.size, fun k hk _ hn => hs2.block k hk (fun e2 => hn e2.symm), .inl rfl⟩⟩
end Go.Proofs.YtcbhaeniahckhaaDoor
end
section
set_option linter.unusedSimpArgs false
namespace Go.Proofs.YtcbhaeniahckhaaDoor
open Go.RowKit Go.Shelf Go.Deep Go.Proofs.YtcbhaeniahckhaaDoorW.PrintLast
theorem node_calls (w0 : World) (gs : Nat) (S : SysP) (hS : Sys w0 gs S) (hT0 : Tab w0) (At : Option Addr) (ct : Nat) (tr : List Nat) (hr : RdI w0 At tr) (htl : tr.length ≤ 1000) (hev : ∀ e ∈ tr, e ≤ S.inp + S.out) (b : Nat) (hb0 : w0.heap.size ≤ b) (hsil : ∀ a, S.sil a < 2 ^ S.N) (hby : ∀ a e, S.by_ a e < 2 ^ S.N) (rest : List Nat) :
    ∀ (pre : List Nat), tr = pre ++ rest → ∀ (l : Nat), l < 2 ^ S.N → ∀ (T : List Nd), T.length + 6 * rest.length ≤ 800000 → ∀ (F : Nat → Prop) (vo : Value) (w : World), Below w0.heap.size w0 w → w.heap[b]? = some (mkObj gs At tr.length ct vo) → TestAt w w0.heap.size F vo T → (∀ k, F k → k < w.heap.size) →
      Calls Tryd.prog 68 #[.pointer (some ⟨b, 0, none⟩), .int .i64 pre.length, .int .u64 l] w (NodePost w0 gs At tr.length ct b F T (nodeS S rest l T) vo w) := by
  induction rest with
  | nil =>
    intro pre hp l hl T hTl F vo w hB hb hT hF
    rw [List.append_nil] at hp
    subst hp
    exact node_nil w0 gs S hS hT0 At ct tr.length b F hb0 l hl T (by simp at hTl; omega) vo w hB hb hT hF
  | cons e rest ih =>
    intro pre hp l hl T hTl F vo w hB hb hT hF
    have hlt : pre.length < tr.length := by rw [hp]; simp
    have hrl : rest.length ≤ 1000 := by have := congrArg List.length hp; simp at this; omega
    obtain ⟨ad, h1, h2⟩ := hr pre.length hlt
    have hge : tr.getD pre.length 0 = e := by rw [hp]; simp
    rw [hge] at h2
    have he : e ≤ S.inp + S.out := hev e (by rw [hp]; simp)
    have ihn := ih (pre ++ [e]) (by rw [hp]; simp) (afterS S l e) (afterS_lt S hby hsil hl)
    rw [List.length_append, List.length_singleton] at ihn
    rw [List.length_cons] at hTl
    by_cases hi : e < S.inp
    · exact node_inp w0 gs S hS hT0 At ct tr.length b F hb0 pre.length hlt htl e hi ad ⟨h1, h2⟩ rest l hl T (by omega) vo w hB hb hT hF (fun T' hT' F' vo' w' => ihn T' (by omega) F' vo' w')
    · exact node_obs w0 gs S hS hT0 At ct tr.length b F hb0 pre.length hlt htl e hi he ad ⟨h1, h2⟩ rest hrl l hl T (by omega) vo w hB hb hT hF (fun T' hT' F' vo' w' => ihn T' (by omega) F' vo' w')
/-- the test of a trace -/
def testS (S : SysP) (tr : List Nat) : List Nd := nodeS S tr (firstS S) []
set_option maxHeartbeats 4000000 in
set_option maxRecDepth 100000 in
theorem testOf_calls (w : World) (gs : Nat) (S : SysP) (hS : Sys w gs S) (hT0 : Tab w) (At : Option Addr) (ct : Nat) (tr : List Nat) (hr : RdI w At tr) (htl : tr.length ≤ 1000) (hev : ∀ e ∈ tr, e ≤ S.inp + S.out) :
    Calls Tryd.prog 42 #[.pointer (some ⟨gs, 0, none⟩), .slice At tr.length ct] w fun e w' => ∃ v, e = .returned v ∧ TestAt w' w.heap.size (fun _ => False) v (testS S tr) ∧ Below w.heap.size w w' := by
  obtain ⟨hs, hN, hsil, hby⟩ : S.start < S.N ∧ S.N ≤ 10 ∧ (∀ a, S.sil a < 2 ^ S.N) ∧ ∀ a e, S.by_ a e < 2 ^ S.N := by obtain ⟨mv1, Ab1, cb1, As1, cs1, Ar1, cr1, hS1⟩ := hS; exact ⟨hS1.hs, hS1.hN, hS1.silb, hS1.byb⟩
  have HS := Sd.mk hS
  have HT := Sd.mk hT0
  have HR := Sd.mk hr
  have HE := Sd.mk hev
  have HN := Sd.mk (node_calls w gs S hS hT0 At ct tr hr htl hev w.heap.size (Nat.le_refl _) hsil hby tr [] rfl (firstS S) (firstS_lt S hs hsil) [] (by simp; omega) (fun _ => False) (.slice none 0 0))
  clear hS hT0 hr hev hsil hby
  go_enter Tryd.func42, Tryd.ntmps42
  go_wp2_with (first | (go_at_call 47; refine (firsts_calls _ (HT.out.below (alloc_below _ _)) gs S (HS.out.below (alloc_below _ _))).mono ?_; rintro e' w2 ⟨rfl, hB2⟩; have HB2 := Sd.mk hB2; clear hB2) | (go_at_call 68; refine (HN.out _ (below_then (alloc_below _ _) (alloc_below _ _).size HB2.out) ((HB2.out.block _ (by simp)).trans (heap_alloc_new _ _)) (TestAt.nil _ _ _) (fun k hk => hk.elim)).mono ?_; rintro e' w3 ⟨rfl, vo3, hb3, hT3, hG3⟩; have c2 := cell_blk hb3 2; have H3 := Sd.mk (And.intro hT3 hG3); clear hT3 hG3 hb3))
  go_ret
  refine ⟨vo3, rfl, H3.out.1, ?_⟩
  exact H3.out.2.below (below_then (alloc_below _ _) (alloc_below _ _).size HB2.out) (Nat.le_refl _) (fun k hk => by simp [Value.ownBlock] at hk)
end Go.Proofs.YtcbhaeniahckhaaDoor
end
