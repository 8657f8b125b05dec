/- IsReceptive, the check of a trace, and TestOf, walked. Conditions: those that each theorem names. -/
import Derived.Test.YtcbhaeniahckhaaDoorNb
import Derived.Test.YtcbhaeniahckhaaDoorMm
set_option linter.unusedSimpArgs false
set_option linter.unusedVariables false
section
set_option linter.unusedSimpArgs false
namespace Go.Proofs.YtcbhaeniahckhaaDoor
open Go.RowKit Go.Shelf Go.Deep Go.Proofs.YtcbhaeniahckhaaDoorW.PrintLast
theorem closeds_calls (w : World) (hT : Tab w) (g : Nat) (S : SysP) (l : Nat) (hl : l < 2 ^ S.N) (h : Sys w g S) : Calls Tryd.prog 50 #[.pointer (some ⟨g, 0, none⟩), .int .u64 l] w fun e w' => e = .returned (.int .u64 (closedS S l)) ∧ Below w.heap.size w w' := by
  obtain ⟨mv, Ab, cb, As, cs, Ar, cr, h⟩ := h
  exact closed_calls w hT g S l hl h
/-- how the round of the reached states goes -/
structure RecR (S : SysP) (b : Bool) (k l : Nat) : Prop where
  lt : l < 2 ^ S.N
  more : b = true → reachN S k l = reachS S ∧ 1024 - l ≤ k
  done : b = false → l = reachS S
theorem RecR.start (S : SysP) (h : firstS S < 2 ^ S.N) : RecR S true 1024 (firstS S) := ⟨h, fun _ => ⟨rfl, by omega⟩, (fun h => by cases h)⟩
theorem RecR.same {S : SysP} {k l : Nat} (h : RecR S true k l) (hN : S.N ≤ 10) (e : nextR S l = l) : RecR S false 0 l := ⟨h.lt, (fun h => by cases h), fun _ => by
  obtain ⟨h1, h2⟩ := h.more rfl
  have := two_pow_le hN
  have := h.lt
  obtain ⟨k', rfl⟩ : ∃ k', k = k' + 1 := ⟨k - 1, by omega⟩
  unfold reachN at h1
  rw [if_pos e] at h1
  exact h1⟩
theorem RecR.step {S : SysP} {k l : Nat} (h : RecR S true k l) (hN : S.N ≤ 10) (hn : nextR S l < 2 ^ S.N) (e : nextR S l ≠ l) : RecR S true (k - 1) (nextR S l) := ⟨hn, fun _ => by
  obtain ⟨h1, h2⟩ := h.more rfl
  have := two_pow_le hN
  have := h.lt
  have := nextR_le S l
  obtain ⟨k', rfl⟩ : ∃ k', k = k' + 1 := ⟨k - 1, by omega⟩
  unfold reachN at h1
  rw [if_neg e] at h1
  exact ⟨h1, by omega⟩, (fun h => by cases h)⟩
open Classical in
noncomputable def recCode (S : SysP) : Int := if ∃ a n, deafAt S a n then 29 else 0
theorem recCode_yes {S : SysP} {a n : Nat} (h : deafAt S a n) : recCode S = 29 := by unfold recCode; rw [if_pos ⟨a, n, h⟩]
theorem recCode_no {S : SysP} (h : ∀ a n, ¬ deafAt S a n) : recCode S = 0 := by unfold recCode; rw [if_neg (fun ⟨a, n, k⟩ => h a n k)]
theorem Ren.code {x q : Rx} {tl : List Nat} (h : Ren x q tl) : recCode (sysOf q) = recCode (sysOf x) := by
  unfold recCode
  by_cases k : ∃ a n, deafAt (sysOf x) a n
  · rw [if_pos k, if_pos (h.deaf.2 k)]
  · rw [if_neg k, if_neg (fun j => k (h.deaf.1 j))]
def RecPost (x : Rx) (w : World) (e : Ending) (w' : World) : Prop := ∃ a n : Int, e = .returned (.tuple #[.int .i64 a, .int .i64 n, .int .i64 (recCode (sysOf x))]) ∧ Below w.heap.size w w'
/-- no state among the first ones is deaf -/
def hear (S : SysP) (l : Nat) (j : Nat) : Prop := ∀ i, i < j → ∀ n, n < S.inp → afterS S (closedS S (2 ^ (bitsL l).getD i 0)) n ≠ 0
theorem hear_all {S : SysP} (h : hear S (reachS S) (bitsL (reachS S)).length) : ∀ a n, ¬ deafAt S a n := fun a n ⟨h1, h2, h3⟩ => by
  obtain ⟨i, hi, e⟩ := List.getElem_of_mem h1
  refine h i hi n h2 ?_
  rw [List.getD_eq_getElem?_getD, List.getElem?_eq_getElem hi, Option.getD_some, e]
  exact h3
set_option maxHeartbeats 8000000 in
set_option maxRecDepth 100000 in
theorem recept_calls (w : World) (hT : Tab w) (x : Rx) (hx : x.ok) (A : Option Addr) (c : Nat) (hr : RdM w A x.mvs) : Calls Tryd.prog 18 #[rxV x A c] w (RecPost x w) := by
  unfold rxV
  have HR := Sd.mk hr
  have HT := Sd.mk hT
  have hN : (sysOf x).N ≤ 10 := hx.hN
  have hi : (sysOf x).inp ≤ 4 := hx.hi
  have ho : (sysOf x).out ≤ 4 := hx.ho
  have hp := two_pow_le hN
  have hfl := firstS_lt (sysOf x) hx.hs (x.silb hx)
  have HNX := Sd.mk (fun l (hl : l < 2 ^ (sysOf x).N) => nextR_lt (sysOf x) (x.byb hx) (x.silb hx) hl)
  have HA := Sd.mk (fun l e (hl : l < 2 ^ (sysOf x).N) => afterS_lt (sysOf x) (x.byb hx) (x.silb hx) (e := e) hl)
  have HC := Sd.mk (fun l (hl : l < 2 ^ (sysOf x).N) => closedS_lt (sysOf x) (x.silb hx) hl)
  have HB := Sd.mk (alloc_below w (.cells #[.int .i64 x.N, .int .i64 x.start, .int .i64 x.inp, .int .i64 x.out, .slice A x.mvs.length c] 24))
  have HBk := Sd.mk (heap_alloc_new w (.cells #[.int .i64 x.N, .int .i64 x.start, .int .i64 x.inp, .int .i64 x.out, .slice A x.mvs.length c] 24))
  have HP : ∀ e w' (a n : Int), Below w.heap.size w w' → e = .returned (.tuple #[.int .i64 a, .int .i64 n, .int .i64 (recCode (sysOf x))]) → RecPost x w e w' := fun e w' a n h1 h2 => ⟨a, n, h2, h1⟩
  have HP := Sd.mk HP
  clear hr hT
  have HS0 := fun w' (h : RdM w' A x.mvs) => systemOf_calls w' x hx A c h
  have HS0 := Sd.mk HS0
  go_enter Tryd.func18, Tryd.ntmps18
  go_wp2_with (first | (go_at_call 46; refine (systemErr_calls _ x hx A c (HR.out.below HB.out)).mono ?_; rintro e w1 ⟨rfl, hB1⟩; have HB1 := Sd.mk (below_then HB.out HB.out.size hB1); have hbk := (hB1.block w.heap.size (by simp)).trans HBk.out; have b0 := cell_blk hbk 0; have b1 := cell_blk hbk 1; have b2 := cell_blk hbk 2; have b3 := cell_blk hbk 3; have b4 := cell_blk hbk 4; clear hB1 hbk) | (go_at_call 39; refine (HS0.out _ (HR.out.below HB1.out)).mono ?_; rintro e w2 ⟨gs, rfl, hS, hB2⟩; have HB2 := Sd.mk (below_then HB1.out HB1.out.size hB2); have HS := Sd.mk hS; clear hB2 hS) | (go_at_call 47; refine (firsts_calls _ (HT.out.below HB2.out) gs (sysOf x) HS.out).mono ?_; rintro e w3 ⟨rfl, hB3⟩; have HB3 := Sd.mk (below_then HB2.out HB2.out.size hB3); have HS3 := Sd.mk (HS.out.below hB3); clear hB3) | fail)
  generalize sysOf x = S at *
  have hf0 := RecR.start S hfl
  go_loopw [7, 8] (fun l b wq => ∃ (bb : Bool) (k s : Nat), b = .bool bb ∧ l = .int .u64 s ∧ Sd (RecR S bb k s) ∧ Sd (Below w3.heap.size w3 wq)) (fun l b _ => match b with | .bool true => 1025 - (intOf l).toNat | _ => 0)
  case atStart => exact ⟨true, 1024, _, rfl, rfl, ⟨hf0⟩, ⟨Below.refl _ _⟩⟩
  case round =>
    obtain ⟨W1, hW1⟩ : ∃ W : World, W = wr := ⟨wr, rfl⟩
    subst hW1
    obtain ⟨bb, k, s, rfl, rfl, hR, hB⟩ := hrel
    have HS1 := Sd.mk (HS3.out.below hB.out)
    have HB1w := Sd.mk (below_then HB3.out HB3.out.size hB.out)
    have hs := hR.out.lt
    cases bb with
    | true =>
      go_wp2_with (first | (go_at_call 48; refine (silences_calls _ gs S HS1.out).mono ?_; rintro e w4 ⟨rfl, hB4⟩; have HB4 := Sd.mk hB4; clear hB4) | fail)
      go_loopw [9, 10, 27] (fun o _ i wq => ∃ (j : Nat), i = .int .i64 j ∧ j ≤ S.inp + S.out ∧ o = .int .u64 (((List.range j).foldl (fun o e => o ||| afterS S s e) s : Nat)) ∧ Sd (Below w4.heap.size w4 wq)) (fun _ _ i _ => S.inp + S.out - (intOf i).toNat)
      case atStart => exact ⟨0, rfl, Nat.zero_le _, rfl, ⟨Below.refl _ _⟩⟩
      case round =>
        obtain ⟨W2, hW2⟩ : ∃ W : World, W = wr := ⟨wr, rfl⟩
        subst hW2
        obtain ⟨j, rfl, hj, rfl, hB5⟩ := hrel
        have hcur := foldl_or_lt (fun e => afterS S s e) (fun e => HA.out s e hs) (List.range j) s hs
        by_cases hlt : j < S.inp + S.out
        · have hfold : (List.range (j + 1)).foldl (fun o e => o ||| afterS S s e) s = ((List.range j).foldl (fun o e => o ||| afterS S s e) s) ||| afterS S s j := by rw [List.range_succ, List.foldl_append]; rfl
          have HF := Sd.mk hfold
          clear hfold
          have ha := HA.out s j hs
          generalize ((List.range j).foldl (fun o e => o ||| afterS S s e) s) = cur at *
          have e3 := u64_or_nat cur (afterS S s j) (by omega) (by omega)
          have hd : decide ((j : Int) < (S.inp : Int) + (S.out : Int)) = true := by simp; omega
          go_wp2_with (first | (go_at_call 49; refine (afters_calls _ (((HT.out.below HB1w.out).below HB4.out).below hB5.out) gs S s j hs (by omega) ((HS1.out.below HB4.out).below hB5.out)).mono ?_; rintro e w6 ⟨rfl, hB6⟩; have HB6 := Sd.mk hB6; clear hB6) | fail)
          go_roundw
          case rel => exact ⟨j + 1, by go_num, by omega, by rw [HF.out], ⟨below_then hB5.out hB5.out.size HB6.out⟩⟩
          case measure => simp [intOf]; omega
        · obtain rfl : j = S.inp + S.out := by omega
          have hd : decide (((S.inp + S.out : Nat) : Int) < (S.inp : Int) + (S.out : Int)) = false := by simp
          have hnx : (List.range (S.inp + S.out)).foldl (fun o e => o ||| afterS S s e) s = nextR S s := rfl
          rw [hnx] at *
          have hle := nextR_le S s
          have HBB := Sd.mk (below_then (below_then hB.out hB.out.size HB4.out) (Nat.le_trans hB.out.size HB4.out.size) hB5.out)
          by_cases hfix : nextR S s = s
          · have hR2 := Sd.mk (hR.out.same hN hfix)
            rw [hfix] at *
            clear hfix
            go_wp2_with fail
            go_roundw
            case rel => exact ⟨false, 0, s, rfl, rfl, hR2, HBB⟩
            case measure => simp [intOf]; omega
          · have hR2 := Sd.mk (hR.out.step hN (HNX.out s hs) hfix)
            have hne : ((nextR S s : Int) == (s : Int)) = false := by rw [beq_eq_false_iff_ne]; omega
            have hne2 : ((nextR S s : Int) != (s : Int)) = true := by rw [bne_iff_ne]; omega
            have hlt2 : s < nextR S s := by omega
            have hl2 := HNX.out s hs
            generalize nextR S s = t at *
            clear hfix
            go_wp2_with fail
            go_roundw
            case rel => exact ⟨true, k - 1, t, rfl, rfl, hR2, HBB⟩
            case measure => simp [intOf]; omega
    | false =>
      obtain rfl : s = reachS S := hR.out.done rfl
      go_wp2_with (first | (go_at_call 32; refine (states_calls (reachS S) (by omega) _ (HT.out.below HB1w.out)).mono ?_; rintro e w4 ⟨v, rfl, ho4, hB4⟩; obtain ⟨Av, cv, rfl, _, hr4⟩ := ho4.read; have HB4 := Sd.mk hB4; have HR4 := Sd.mk hr4; clear hB4 ho4 hr4) | fail)
      have hlen := bitsL_len (reachS S)
      have hreach := hs
      go_loopw [12, 13, 44, 53] (fun _ _ i _ wq => ∃ j : Nat, i = .int .i64 j ∧ j ≤ (bitsL (reachS S)).length ∧ Sd (hear S (reachS S) j) ∧ Sd (Below w4.heap.size w4 wq)) (fun _ _ i _ _ => (bitsL (reachS S)).length - (intOf i).toNat)
      case atStart => exact ⟨0, rfl, Nat.zero_le _, ⟨fun i hi => by omega⟩, ⟨Below.refl _ _⟩⟩
      case round =>
        obtain ⟨W2, hW2⟩ : ∃ W : World, W = wr := ⟨wr, rfl⟩
        subst hW2
        obtain ⟨j, rfl, hj, hH, hB5⟩ := hrel
        have HBW := Sd.mk (below_then (below_then HB1w.out HB1w.out.size HB4.out) (Nat.le_trans HB1w.out.size HB4.out.size) hB5.out)
        by_cases hlt : j < (bitsL (reachS S)).length
        · obtain ⟨ad, e1, e2⟩ := (HR4.out.below hB5.out) j hlt
          subst e1
          have hst := bitsL_in hreach _ (getD_mem hlt)
          obtain ⟨a, ha⟩ : ∃ a, a = (bitsL (reachS S)).getD j 0 := ⟨_, rfl⟩
          rw [← ha] at e2 hst
          have HAe := Sd.mk ha
          clear ha
          obtain ⟨p, hp2, hp3, e4⟩ := one_shl a (by omega)
          have hpl : p < 2 ^ S.N := by rw [hp2]; exact Nat.pow_lt_pow_right (by decide) hst
          have HP2 := Sd.mk hp2
          have hcl := HC.out p hpl
          have hcl2 : closedS S p < 1024 := by omega
          have Hcl := Sd.mk hcl
          clear hp2
          obtain ⟨mv, Ab, cb, As, cs, Ar, cr, hS1⟩ := ((HS1.out.below HB4.out).below hB5.out)
          have c2 := cell_blk hS1.blk 2
          have C2 := Sd.mk c2
          clear hS1
          go_wp2_with fail
          have HW2 := Sd.mk (Below.refl W2.heap.size W2)
          go_loopw [13, 53] (fun _ i wq => ∃ n : Nat, i = .int .i64 n ∧ n ≤ S.inp ∧ Sd (∀ n', n' < n → afterS S (closedS S p) n' ≠ 0) ∧ Sd (Below W2.heap.size W2 wq)) (fun _ i _ => S.inp - (intOf i).toNat)
          case atStart => exact ⟨0, rfl, Nat.zero_le _, ⟨fun n' h => by omega⟩, HW2⟩
          case round =>
            obtain ⟨W5, hW5⟩ : ∃ W : World, W = wr := ⟨wr, rfl⟩
            subst hW5
            obtain ⟨n, rfl, hn, hH2, hB6⟩ := hrel
            by_cases hnl : n < S.inp
            · have HS5 := Sd.mk (((HS1.out.below HB4.out).below hB5.out).below hB6.out)
              have HT5 := Sd.mk (HT.out.below (below_then HBW.out HBW.out.size hB6.out))
              by_cases hz0 : afterS S (closedS S p) n = 0
              · have HC2 := Sd.mk (recCode_yes (S := S) (a := a) (n := n) ⟨by rw [HAe.out]; exact getD_mem hlt, hnl, by rw [← HP2.out]; exact hz0⟩)
                rw [HC2.out] at HP
                have HP' := Sd.mk HP.out
                clear HP
                have hzz : ((afterS S (closedS S p) n : Int) == 0) = true := by rw [hz0]; rfl
                clear hz0
                go_wp2_with (first | (go_at_call 50; refine (closeds_calls _ HT5.out gs S p hpl HS5.out).mono ?_; rintro e w7 ⟨rfl, hB7⟩; have HB7 := Sd.mk hB7; clear hB7) | (go_at_call 49; refine (afters_calls _ (HT5.out.below HB7.out) gs S (closedS S p) n Hcl.out (by omega) (HS5.out.below HB7.out)).mono ?_; rintro e w8 ⟨rfl, hB8⟩; have HB8 := Sd.mk hB8; clear hB8) | fail)
                exact bodyPost_ret (v := .tuple #[.int .i64 a, .int .i64 n, .int .i64 29]) (by simp [results, Tryd.results18, go_sem]) rfl (HP'.out _ _ a n (below_then (below_then (below_then HBW.out HBW.out.size hB6.out) (Nat.le_trans HBW.out.size hB6.out.size) HB7.out) (Nat.le_trans (Nat.le_trans HBW.out.size hB6.out.size) HB7.out.size) HB8.out) rfl)
              · have hzz : ((afterS S (closedS S p) n : Int) == 0) = false := by rw [beq_eq_false_iff_ne]; omega
                have HZ := Sd.mk hz0
                clear hz0
                go_wp2_with (first | (go_at_call 50; refine (closeds_calls _ HT5.out gs S p hpl HS5.out).mono ?_; rintro e w7 ⟨rfl, hB7⟩; have HB7 := Sd.mk hB7; clear hB7) | (go_at_call 49; refine (afters_calls _ (HT5.out.below HB7.out) gs S (closedS S p) n Hcl.out (by omega) (HS5.out.below HB7.out)).mono ?_; rintro e w8 ⟨rfl, hB8⟩; have HB8 := Sd.mk hB8; clear hB8) | fail)
                go_roundw
                case rel => exact ⟨n + 1, by go_num, by omega, ⟨fun n' h => by
                  by_cases e : n' = n
                  · subst e; exact HZ.out
                  · exact hH2.out n' (by omega)⟩, ⟨below_then (below_then hB6.out hB6.out.size HB7.out) (Nat.le_trans hB6.out.size HB7.out.size) HB8.out⟩⟩
                case measure => simp [intOf]; omega
            · obtain rfl : n = S.inp := by omega
              have HN : Sd (hear S (reachS S) (j + 1)) := ⟨fun i hi n' hn' => by
                by_cases e : i = j
                · subst e
                  rw [← HAe.out, ← HP2.out]
                  exact hH2.out n' hn'
                · exact hH.out i (by omega) n' hn'⟩
              go_wp2_with fail
              go_roundw
              case rel => exact ⟨j + 1, by go_num, by omega, HN, ⟨below_then hB5.out hB5.out.size hB6.out⟩⟩
              case measure => simp [intOf]; omega
        · obtain rfl : j = (bitsL (reachS S)).length := by omega
          have hz := recCode_no (hear_all hH.out)
          rw [hz] at HP
          have HP' := Sd.mk HP.out
          clear hz HP
          go_wp2_with fail
          exact bodyPost_ret (v := .tuple #[.int .i64 0, .int .i64 0, .int .i64 0]) (by simp [results, Tryd.results18, go_sem]) rfl (HP'.out _ _ 0 0 HBW.out rfl)
end Go.Proofs.YtcbhaeniahckhaaDoor
end
section
set_option linter.unusedSimpArgs false
namespace Go.Proofs.YtcbhaeniahckhaaDoor
open Go.RowKit Go.Shelf Go.Deep Go.Proofs.YtcbhaeniahckhaaDoorW.PrintLast
attribute [local go_sem] run_store_func
set_option maxHeartbeats 2000000 in
set_option maxRecDepth 100000 in
theorem odd_calls (w : World) (b i o n : Nat) (hi : i ≤ 4) (ho : o ≤ 4) (hn : n ≤ i + o) (hb2 : w.cell? ⟨b, 2, none⟩ = some (.int .i64 i)) (hb3 : w.cell? ⟨b, 3, none⟩ = some (.int .i64 o)) :
    Calls Tryd.prog 72 #[.int .i64 n, .pointer (some ⟨b, 0, none⟩)] w fun e w' => e = .returned (.bool false) ∧ w = w' := by
  go_enter Tryd.func72, Tryd.ntmps72
  go_wp2_with (go_at_call 38; refine (spans_yes _ _ _ (by omega) (by omega) _).mono ?_; rintro e w3 ⟨rfl, rfl⟩)
  go_ret
  exact ⟨rfl, rfl⟩
set_option maxHeartbeats 2000000 in
set_option maxRecDepth 100000 in
theorem indexF_calls (w : World) (b i o : Nat) (hi : i ≤ 4) (ho : o ≤ 4) (B : Option Addr) (c : Nat) (tr : List Nat) (hl : tr.length ≤ 2000000) (hev : ∀ e ∈ tr, e ≤ i + o) (hr : RdI w B tr) (hb2 : w.cell? ⟨b, 2, none⟩ = some (.int .i64 i)) (hb3 : w.cell? ⟨b, 3, none⟩ = some (.int .i64 o)) :
    Calls Tryd.prog 86 #[.slice B tr.length c, .func (.func 72) #[] #[.pointer (some ⟨b, 0, none⟩)]] w fun e w' => e = .returned (.int .i64 (-1)) ∧ w = w' := by
  have HR := Sd.mk hr
  have HE := Sd.mk hev
  clear hr hev
  go_enter Tryd.func86, Tryd.ntmps86
  go_wp2
  go_loop [8] (fun t => ∃ k : Nat, k ≤ tr.length ∧ t = .int .i64 k) (fun t => tr.length - (intOf t).toNat)
  case atStart => exact ⟨0, Nat.zero_le _, rfl⟩
  case round =>
    obtain ⟨k, hk, rfl⟩ := hrel
    by_cases hlt : k < tr.length
    · obtain ⟨ad, e1, e2⟩ := HR.out k hlt
      subst e1
      have hE := HE.out _ (getD_mem hlt)
      generalize tr.getD k 0 = a at *
      go_wp2_with (go_at_call 72; refine (odd_calls _ b i o a hi ho hE hb2 hb3).mono ?_; rintro e w3 ⟨rfl, rfl⟩)
      go_round
      case rel => exact ⟨k + 1, by omega, by go_num⟩
      case measure => simp [intOf]; omega
    · go_wp2
      go_ret
      exact ⟨rfl, rfl⟩
set_option maxHeartbeats 2000000 in
set_option maxRecDepth 100000 in
theorem containsF_calls (w : World) (b i o : Nat) (hi : i ≤ 4) (ho : o ≤ 4) (B : Option Addr) (c : Nat) (tr : List Nat) (hl : tr.length ≤ 2000000) (hev : ∀ e ∈ tr, e ≤ i + o) (hr : RdI w B tr) (hb2 : w.cell? ⟨b, 2, none⟩ = some (.int .i64 i)) (hb3 : w.cell? ⟨b, 3, none⟩ = some (.int .i64 o)) :
    Calls Tryd.prog 73 #[.slice B tr.length c, .func (.func 72) #[] #[.pointer (some ⟨b, 0, none⟩)]] w fun e w' => e = .returned (.bool false) ∧ w = w' := by
  have HR := Sd.mk hr
  have HE := Sd.mk hev
  clear hr hev
  go_enter Tryd.func73, Tryd.ntmps73
  go_wp2_with (go_at_call 86; refine (indexF_calls _ b i o hi ho B c tr hl HE.out HR.out hb2 hb3).mono ?_; rintro e w3 ⟨rfl, rfl⟩)
  go_ret
  exact ⟨rfl, rfl⟩
set_option maxHeartbeats 2000000 in
set_option maxRecDepth 100000 in
theorem traceErr_calls (w : World) (x : Rx) (hx : x.ok) (A B : Option Addr) (c c' : Nat) (tr : List Nat) (hl : tr.length ≤ 2000000) (hev : ∀ e ∈ tr, e ≤ x.inp + x.out) (hr : RdI w B tr) :
    Calls Tryd.prog 51 #[rxV x A c, .slice B tr.length c'] w fun e w' => e = .returned (.int .i64 (if 40 < tr.length then 2 else 0)) ∧ Below w.heap.size w w' := by
  unfold rxV
  have HR := Sd.mk hr
  have HE := Sd.mk hev
  have hi := hx.hi
  have ho := hx.ho
  have hB1 := alloc_below w (.cells #[.int .i64 x.N, .int .i64 x.start, .int .i64 x.inp, .int .i64 x.out, .slice A x.mvs.length c] 24)
  have hb := heap_alloc_new w (.cells #[.int .i64 x.N, .int .i64 x.start, .int .i64 x.inp, .int .i64 x.out, .slice A x.mvs.length c] 24)
  have HB := Sd.mk hB1
  have H2 := Sd.mk (cell_blk hb 2)
  have H3 := Sd.mk (cell_blk hb 3)
  clear hr hev hB1 hb
  by_cases h40 : 40 < tr.length
  · rw [if_pos h40]
    go_enter Tryd.func51, Tryd.ntmps51
    go_wp2
    go_ret
    exact ⟨rfl, HB.out⟩
  · rw [if_neg h40]
    go_enter Tryd.func51, Tryd.ntmps51
    go_wp2_with (first | (go_at_call 73; refine (containsF_calls _ w.heap.size x.inp x.out hi ho B c' tr hl HE.out (HR.out.below HB.out) H2.out H3.out).mono ?_; rintro e w3 ⟨rfl, rfl⟩) | (go_at_call 31; refine (unless_yes _ _).mono ?_; rintro e w4 ⟨rfl, rfl⟩) | fail)
    go_ret
    exact ⟨rfl, HB.out⟩
def TestPost (x : Rx) (tr : List Nat) (w : World) (e : Ending) (w' : World) : Prop := Below w.heap.size w w' ∧ (40 < tr.length ∧ e = .returned (.tuple #[.slice none 0 0, .int .i64 2]) ∨ ¬ 40 < tr.length ∧ ∃ v, e = .returned (.tuple #[v, .int .i64 0]) ∧ TestAt w' w.heap.size (fun _ => False) v (testS (sysOf x) tr))
set_option maxHeartbeats 2000000 in
set_option maxRecDepth 100000 in
theorem testOf_top (w : World) (hT : Tab w) (x : Rx) (hx : x.ok) (A B : Option Addr) (c c' : Nat) (tr : List Nat) (hl : tr.length ≤ 2000000) (hev : ∀ e ∈ tr, e ≤ x.inp + x.out) (hne : alongS (sysOf x) tr ≠ 0) (hrx : RdM w A x.mvs) (hr : RdI w B tr) :
    Calls Tryd.prog 20 #[rxV x A c, .slice B tr.length c'] w (TestPost x tr w) := by
  have HT := Sd.mk hT
  have HRX := Sd.mk hrx
  have HR := Sd.mk hr
  have HE := Sd.mk hev
  have hd : (((alongS (sysOf x) tr : Nat) : Int) == 0) = false := by rw [beq_eq_false_iff_ne]; omega
  have HB := Sd.mk (alloc_below w (.cells #[.int .i64 x.N, .int .i64 x.start, .int .i64 x.inp, .int .i64 x.out, .slice A x.mvs.length c] 24))
  have hblk := heap_alloc_new w (.cells #[.int .i64 x.N, .int .i64 x.start, .int .i64 x.inp, .int .i64 x.out, .slice A x.mvs.length c] 24)
  have HBk := Sd.mk hblk
  clear hT hrx hr hev hne hblk
  unfold rxV
  by_cases h40 : 40 < tr.length
  · have HP : ∀ e w', Below w.heap.size w w' → e = .returned (.tuple #[.slice none 0 0, .int .i64 2]) → TestPost x tr w e w' := fun e w' h1 h2 => ⟨h1, .inl ⟨h40, h2⟩⟩
    have HP := Sd.mk HP
    have HTE := fun w' (h : RdI w' B tr) => traceErr_calls w' x hx A B c c' tr hl HE.out h
    simp only [if_pos h40] at HTE
    have HTE := Sd.mk HTE
    clear h40
    go_enter Tryd.func20, Tryd.ntmps20
    go_wp2_with (first | (go_at_call 46; refine (systemErr_calls _ x hx A c (HRX.out.below HB.out)).mono ?_; rintro e w1 ⟨rfl, hB1⟩; have HB1 := Sd.mk (below_then HB.out HB.out.size hB1); have hbk := (hB1.block w.heap.size (by simp)).trans HBk.out; have b0 := cell_blk hbk 0; have b1 := cell_blk hbk 1; have b2 := cell_blk hbk 2; have b3 := cell_blk hbk 3; have b4 := cell_blk hbk 4; clear hB1 hbk) | (go_at_call 51; refine (HTE.out _ (HR.out.below HB1.out)).mono ?_; rintro e w2 ⟨rfl, hB2⟩; have HB2 := Sd.mk (below_then HB1.out HB1.out.size hB2); clear hB2) | fail)
    go_ret2
    exact HP.out _ _ HB2.out rfl
  · have h1000 : tr.length ≤ 1000 := by omega
    have HP : ∀ e w' v, Below w.heap.size w w' → e = .returned (.tuple #[v, .int .i64 0]) → TestAt w' w.heap.size (fun _ => False) v (testS (sysOf x) tr) → TestPost x tr w e w' := fun e w' v h1 h2 h3 => ⟨h1, .inr ⟨h40, v, h2, h3⟩⟩
    have HP := Sd.mk HP
    have HTE := fun w' (h : RdI w' B tr) => traceErr_calls w' x hx A B c c' tr hl HE.out h
    simp only [if_neg h40] at HTE
    have HTE := Sd.mk HTE
    clear h40
    go_enter Tryd.func20, Tryd.ntmps20
    go_wp2_with (first | (go_at_call 46; refine (systemErr_calls _ x hx A c (HRX.out.below HB.out)).mono ?_; rintro e w1 ⟨rfl, hB1⟩; have HB1 := Sd.mk (below_then HB.out HB.out.size hB1); have hbk := (hB1.block w.heap.size (by simp)).trans HBk.out; have HBk1 := Sd.mk hbk; have b0 := cell_blk hbk 0; have b1 := cell_blk hbk 1; have b2 := cell_blk hbk 2; have b3 := cell_blk hbk 3; have b4 := cell_blk hbk 4; clear hB1 hbk) | (go_at_call 51; refine (HTE.out _ (HR.out.below HB1.out)).mono ?_; rintro e w2 ⟨rfl, hB2⟩; have HB2 := Sd.mk (below_then HB1.out HB1.out.size hB2); have hbk := (hB2.block w.heap.size (Array.getElem?_eq_some_iff.1 HBk1.out).1).trans HBk1.out; have d0 := cell_blk hbk 0; have d1 := cell_blk hbk 1; have d2 := cell_blk hbk 2; have d3 := cell_blk hbk 3; have d4 := cell_blk hbk 4; clear hB2 hbk) | (go_at_call 39; refine (systemOf_calls _ x hx A c (HRX.out.below HB2.out)).mono ?_; rintro e w3 ⟨gs, rfl, hS, hB3⟩; have HB3 := Sd.mk (below_then HB2.out HB2.out.size hB3); have HS := Sd.mk hS; clear hB3 hS) | (go_at_call 52; obtain ⟨mv, Ab, cb, As, cs, Ar, cr, hS1⟩ := HS.out; refine (along_calls _ (HT.out.below HB3.out) gs (sysOf x) B c' tr (by omega) HE.out (HR.out.below HB3.out) hS1).mono ?_; clear hS1; rintro e w4 ⟨rfl, hB4⟩; have HB4 := Sd.mk (below_then HB3.out HB3.out.size hB4); have HS4 := Sd.mk (HS.out.below hB4); clear hB4) | (go_at_call 42; refine (testOf_calls _ gs (sysOf x) HS4.out (HT.out.below HB4.out) B c' tr (HR.out.below HB4.out) h1000 HE.out).mono ?_; rintro e w5 ⟨v, rfl, hT5, hB5⟩; have HT5 := Sd.mk hT5; have HB5 := Sd.mk (below_then HB4.out HB4.out.size hB5); clear hT5 hB5) | fail)
    go_ret2
    refine HP.out _ _ v HB5.out rfl ?_
    obtain ⟨us, g1, g2, g3⟩ := HT5.out
    exact ⟨us, g1, own_mono g2 HB4.out.size, fun i hi => ⟨(g3 i hi).1.mono HB4.out.size, (g3 i hi).2⟩⟩
end Go.Proofs.YtcbhaeniahckhaaDoor
end
