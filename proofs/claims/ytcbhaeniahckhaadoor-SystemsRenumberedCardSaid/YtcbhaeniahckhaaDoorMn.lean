/- The reference's check of a system, walked. Conditions: those that each theorem names. -/
import Derived.Test.YtcbhaeniahckhaaDoorMm
set_option linter.unusedSimpArgs false
set_option linter.unusedVariables false
section
set_option linter.unusedSimpArgs false
namespace Go.Proofs.YtcbhaeniahckhaaDoor
open Go.RowKit Go.Shelf Go.Deep Go.Proofs.YtcbhaeniahckhaaDoorW.PrintLast
theorem within_yes (n lo hi : Int) (h1 : lo ≤ n) (h2 : n ≤ hi) (w : World) : Calls Tryd.prog 59 #[.int .i64 n, .int .i64 lo, .int .i64 hi] w fun e w' => e = .returned (.bool true) ∧ w = w' := by
  have d1 : decide (lo ≤ n) = true := decide_eq_true h1
  have d2 : decide (n ≤ hi) = true := decide_eq_true h2
  go_enter Tryd.func59, Tryd.ntmps59
  go_wp2
  go_ret
  exact ⟨rfl, rfl⟩
theorem within_no (n lo hi : Int) (h : n < lo ∨ hi < n) (w : World) : Calls Tryd.prog 59 #[.int .i64 n, .int .i64 lo, .int .i64 hi] w fun e w' => e = .returned (.bool false) ∧ w = w' := by
  by_cases h1 : lo ≤ n
  · have d1 : decide (lo ≤ n) = true := decide_eq_true h1
    have d2 : decide (n ≤ hi) = false := decide_eq_false (by omega)
    go_enter Tryd.func59, Tryd.ntmps59
    go_wp2
    go_ret
    exact ⟨rfl, rfl⟩
  · have d1 : decide (lo ≤ n) = false := decide_eq_false h1
    go_enter Tryd.func59, Tryd.ntmps59
    go_wp2
    go_ret
    exact ⟨rfl, rfl⟩
theorem count_calls (b : Bool) (w : World) : Calls Tryd.prog 84 #[.bool b] w fun e w' => e = .returned (.int .i64 (if b then 1 else 0)) ∧ w = w' := by
  cases b
  all_goals
    go_enter Tryd.func84, Tryd.ntmps84
    go_wp2
    go_ret
    exact ⟨rfl, rfl⟩
def cmpZ : List Int → List Int → Int
  | a :: xs, b :: ys => if cmpI a b = 0 then cmpZ xs ys else cmpI a b
  | _, _ => 0
theorem drop_getZ (xs : List Int) (j : Nat) (h : j < xs.length) : xs.drop j = xs.getD j 0 :: xs.drop (j + 1) := by
  rw [List.drop_eq_getElem_cons h, List.getD_eq_getElem?_getD, List.getElem?_eq_getElem h]
  rfl
set_option maxHeartbeats 4000000 in
set_option maxRecDepth 100000 in
theorem compareZ_calls (w : World) (A B : Option Addr) (c c' n : Nat) (xs ys : List Int) (hx : xs.length = n) (hy : ys.length = n) (hn : n ≤ 1000) (hr : RdZ w A xs) (hr' : RdZ w B ys) :
    Calls Tryd.prog 69 #[.slice A n c, .slice B n c'] w fun e w' => e = .returned (.int .i64 (cmpZ xs ys)) ∧ Below w.heap.size w w' := by
  have HR := Sd.mk hr
  have HR' := Sd.mk hr'
  clear hr hr'
  go_enter Tryd.func69, Tryd.ntmps69
  go_wp2
  go_loopw [5] (fun i wq => ∃ (j : Nat), j ≤ n ∧ i = .int .i64 j ∧ Sd (cmpZ (xs.drop j) (ys.drop j) = cmpZ xs ys) ∧ Sd (Below w.heap.size w wq)) (fun i _ => n - (intOf i).toNat)
  case atStart => exact ⟨0, Nat.zero_le _, rfl, ⟨rfl⟩, ⟨Below.refl _ _⟩⟩
  case round =>
    obtain ⟨W1, hW1⟩ : ∃ W : World, W = wr := ⟨wr, rfl⟩
    subst hW1
    obtain ⟨j, hj, rfl, ho, hB⟩ := hrel
    have RX : Sd (RdZ W1 A xs) := ⟨fun i hi => let ⟨ad, e1, e2⟩ := HR.out i hi; ⟨ad, e1, cell_later hB.out e2⟩⟩
    have RY : Sd (RdZ W1 B ys) := ⟨fun i hi => let ⟨ad, e1, e2⟩ := HR'.out i hi; ⟨ad, e1, cell_later hB.out e2⟩⟩
    by_cases hlt : j < n
    · obtain ⟨ad, e1, e2⟩ := RX.out j (by omega)
      cases e1
      obtain ⟨bd, e3, e4⟩ := RY.out j (by omega)
      cases e3
      have hd := Sd.mk (show cmpZ (xs.drop j) (ys.drop j) = if cmpI (xs.getD j 0) (ys.getD j 0) = 0 then cmpZ (xs.drop (j + 1)) (ys.drop (j + 1)) else cmpI (xs.getD j 0) (ys.getD j 0) by rw [drop_getZ xs j (by omega), drop_getZ ys j (by omega)]; rfl)
      generalize xs.getD j 0 = a at *
      generalize ys.getD j 0 = b at *
      rcases Int.lt_trichotomy a b with h | h | h
      · have hne : (a != b) = true := by rw [bne_iff_ne]; omega
        have hgt : decide (b < a) = false := decide_eq_false (by omega)
        have HZ : Sd (cmpZ xs ys = -1) := ⟨by rw [← ho.out, hd.out]; unfold cmpI; rw [if_pos h]; rfl⟩
        clear h
        go_wp2_with fail
        go_quiet (fail)
        go_wp2_with fail
        go_region_held3 (fun wx => wx.cell? (ad.add j) = some (.int .i64 a) ∧ wx.cell? (bd.add j) = some (.int .i64 b))
          (first | exact ⟨e2, e4⟩ | exact ⟨cell_later (below_drewN (Below.refl _ _) _) e2, cell_later (below_drewN (Below.refl _ _) _) e4⟩ | fail)
          (first | (go_at_call 84; refine (count_calls _ _).mono ?_; rintro e w1 ⟨rfl, rfl⟩) | fail)
        go_wp2
        go_ret
        exact ⟨ret_i64 (by rw [HZ.out]; decide), below_drewN hB.out _⟩
      · subst h
        have hne : (a != a) = false := by simp
        have HZ : Sd (cmpZ (xs.drop (j + 1)) (ys.drop (j + 1)) = cmpZ xs ys) := ⟨by rw [← ho.out, hd.out]; unfold cmpI; rw [if_neg (Int.lt_irrefl a), if_neg (Int.lt_irrefl a)]; rfl⟩
        go_wp2_with fail
        go_quiet (fail)
        go_wp2
        go_roundw
        case rel => exact ⟨j + 1, by omega, by go_num, HZ, ⟨below_drewN hB.out _⟩⟩
        case measure => simp [intOf]; omega
      · have hne : (a != b) = true := by rw [bne_iff_ne]; omega
        have hgt : decide (b < a) = true := decide_eq_true h
        have HZ : Sd (cmpZ xs ys = 1) := ⟨by rw [← ho.out, hd.out, show cmpI a b = 1 by unfold cmpI; rw [if_neg (show ¬ a < b by omega), if_pos h]]; rfl⟩
        clear h
        go_wp2_with fail
        go_quiet (fail)
        go_wp2_with fail
        go_region_held3 (fun wx => wx.cell? (ad.add j) = some (.int .i64 a) ∧ wx.cell? (bd.add j) = some (.int .i64 b))
          (first | exact ⟨e2, e4⟩ | exact ⟨cell_later (below_drewN (Below.refl _ _) _) e2, cell_later (below_drewN (Below.refl _ _) _) e4⟩ | fail)
          (first | (go_at_call 84; refine (count_calls _ _).mono ?_; rintro e w1 ⟨rfl, rfl⟩) | fail)
        go_wp2
        go_ret
        exact ⟨ret_i64 (by rw [HZ.out]; decide), below_drewN hB.out _⟩
    · obtain rfl : j = n := by omega
      have hz : Sd (cmpZ xs ys = 0) := ⟨by rw [← ho.out, ← hx, List.drop_length]; cases ys.drop xs.length <;> rfl⟩
      go_wp2_with (go_at_call 84; refine (count_calls _ _).mono ?_; rintro e w1 ⟨rfl, rfl⟩)
      go_ret
      exact ⟨ret_i64 (by rw [hz.out]), hB.out⟩
theorem list_calls (w : World) (a b c d : Int) : Calls Tryd.prog 75 #[.agg #[.int .i64 a, .int .i64 b, .int .i64 c, .int .i64 d]] w fun e w' => ∃ g, e = .returned (.slice (some ⟨g, 0, none⟩) 4 4) ∧ RdZ w' (some ⟨g, 0, none⟩) [a, b, c, d] ∧ Below w.heap.size w w' := by
  go_enter Tryd.func75, Tryd.ntmps75
  go_wp2
  go_ret
  exact ⟨_, rfl, rdZ_blk [a, b, c, d] (alloc_at _ _ _ (by simp)), (alloc_below _ _).alloc (by simp) _⟩
end Go.Proofs.YtcbhaeniahckhaaDoor
end
section
set_option linter.unusedSimpArgs false
namespace Go.Proofs.YtcbhaeniahckhaaDoor
open Go.RowKit Go.Shelf Go.Deep Go.Proofs.YtcbhaeniahckhaaDoorW.PrintLast
/-- a move, whatever its numbers -/
structure Mz where
  frm : Int
  kind : Int
  lab : Int
  tgt : Int
def mzZ : Mz := ⟨0, 0, 0, 0⟩
def RdMz (w : World) (A : Option Addr) (xs : List Mz) : Prop := ∀ i, i < xs.length → ∃ ad, A = some ad ∧ w.cell? (ad.add (i * 4)) = some (.int .i64 (xs.getD i mzZ).frm) ∧ w.cell? ⟨(ad.add (i * 4)).block, (ad.add (i * 4)).off + 1, none⟩ = some (.int .i64 (xs.getD i mzZ).kind) ∧ w.cell? ⟨(ad.add (i * 4)).block, (ad.add (i * 4)).off + 2, none⟩ = some (.int .i64 (xs.getD i mzZ).lab) ∧ w.cell? ⟨(ad.add (i * 4)).block, (ad.add (i * 4)).off + 3, none⟩ = some (.int .i64 (xs.getD i mzZ).tgt)
theorem RdMz.below {w w' : World} {A : Option Addr} {xs : List Mz} (h : RdMz w A xs) (hB : Below w.heap.size w w') : RdMz w' A xs :=
  fun i hi => let ⟨ad, e1, e2, e3, e4, e5⟩ := h i hi; ⟨ad, e1, cell_later hB e2, cell_later hB e3, cell_later hB e4, cell_later hB e5⟩
/-- a system, whatever its numbers -/
structure Raw where
  N : Int
  start : Int
  inp : Int
  out : Int
  mvs : List Mz
def Mz.good (x : Raw) (m : Mz) : Prop := 0 ≤ m.frm ∧ m.frm < x.N ∧ 0 ≤ m.tgt ∧ m.tgt < x.N ∧ 0 ≤ m.lab ∧ (m.kind = 0 ∧ m.lab < x.inp ∨ m.kind = 1 ∧ m.lab < x.out ∨ m.kind = 2 ∧ m.lab = 0)
def cmpMz (a b : Mz) : Int := cmpZ [a.frm, a.kind, a.lab, a.tgt] [b.frm, b.kind, b.lab, b.tgt]
structure Raw.good (x : Raw) : Prop where
  hN : 1 ≤ x.N ∧ x.N ≤ 10
  hs : 0 ≤ x.start ∧ x.start < x.N
  hi : 0 ≤ x.inp ∧ x.inp ≤ 4
  ho : 0 ≤ x.out ∧ x.out ≤ 4
  hm : x.mvs.length ≤ 80
  mv : ∀ i, i < x.mvs.length → (x.mvs.getD i mzZ).good x
  srt : ∀ i, i + 1 < x.mvs.length → cmpMz (x.mvs.getD i mzZ) (x.mvs.getD (i + 1) mzZ) < 0
theorem RdZ.below {w w' : World} {A : Option Addr} {xs : List Int} (h : RdZ w A xs) (hB : Below w.heap.size w w') : RdZ w' A xs := fun i hi => let ⟨ad, e1, e2⟩ := h i hi; ⟨ad, e1, cell_later hB e2⟩
theorem cmpMz_calls (w : World) (A B : Option Addr) (c c' : Nat) (a b : Mz) (hr : RdZ w A [a.frm, a.kind, a.lab, a.tgt]) (hr' : RdZ w B [b.frm, b.kind, b.lab, b.tgt]) : Calls Tryd.prog 69 #[.slice A 4 c, .slice B 4 c'] w fun e w' => e = .returned (.int .i64 (cmpMz a b)) ∧ Below w.heap.size w w' :=
  compareZ_calls w A B c c' 4 _ _ rfl rfl (by decide) hr hr'
/-- what the comparison of two moves reads -/
def TwoMv (wx : World) (n : Nat) (A : Option Addr) (len c : Nat) (ad : Addr) (i : Nat) (m0 : Mz) (t : Nat) (m : Mz) : Prop :=
  wx.cell? ⟨n, 4, none⟩ = some (.slice A len c) ∧ wx.cell? (ad.add (i * 4)) = some (.int .i64 m0.frm) ∧ wx.cell? ⟨(ad.add (i * 4)).block, (ad.add (i * 4)).off + 1, none⟩ = some (.int .i64 m0.kind) ∧ wx.cell? ⟨(ad.add (i * 4)).block, (ad.add (i * 4)).off + 2, none⟩ = some (.int .i64 m0.lab) ∧ wx.cell? ⟨(ad.add (i * 4)).block, (ad.add (i * 4)).off + 3, none⟩ = some (.int .i64 m0.tgt) ∧
    wx.cell? ⟨t, 0, none⟩ = some (.int .i64 m.frm) ∧ wx.cell? ⟨t, 1, none⟩ = some (.int .i64 m.kind) ∧ wx.cell? ⟨t, 2, none⟩ = some (.int .i64 m.lab) ∧ wx.cell? ⟨t, 3, none⟩ = some (.int .i64 m.tgt)
theorem TwoMv.below {w w' : World} {n len c i t : Nat} {A : Option Addr} {ad : Addr} {m0 m : Mz} (h : TwoMv w n A len c ad i m0 t m) (hB : Below w.heap.size w w') : TwoMv w' n A len c ad i m0 t m := by
  obtain ⟨h0, h1, h2, h3, h4, h5, h6, h7, h8⟩ := h
  exact ⟨cell_later hB h0, cell_later hB h1, cell_later hB h2, cell_later hB h3, cell_later hB h4, cell_later hB h5, cell_later hB h6, cell_later hB h7, cell_later hB h8⟩
set_option maxHeartbeats 16000000 in
set_option maxRecDepth 100000 in
theorem react_calls (w : World) (x : Raw) (A : Option Addr) (c : Nat) (hr : RdMz w A x.mvs) :
    Calls Tryd.prog 54 #[.agg #[.int .i64 x.N, .int .i64 x.start, .int .i64 x.inp, .int .i64 x.out, .slice A x.mvs.length c]] w fun e w' => ∃ i code, e = .returned (.tuple #[.int .i64 i, .int .i64 code]) ∧ Below w.heap.size w w' ∧ (code = 0 → x.good) := by
  have HR := Sd.mk hr
  clear hr
  by_cases hN : 1 ≤ x.N ∧ x.N ≤ 10
  · by_cases hs : 0 ≤ x.start ∧ x.start < x.N
    · by_cases hi : 0 ≤ x.inp ∧ x.inp ≤ 4
      · by_cases ho : 0 ≤ x.out ∧ x.out ≤ 4
        · by_cases hm : (80 : Int) < (x.mvs.length : Int)
          · have hd : decide ((80 : Int) < (x.mvs.length : Int)) = true := decide_eq_true hm
            go_enter Tryd.func54, Tryd.ntmps54
            go_wp2_with (first | (go_at_call 59; refine (within_yes _ _ _ (by omega) (by omega) _).mono ?_; rintro e w1 ⟨rfl, rfl⟩) | fail)
            go_ret2
            exact ⟨_, _, rfl, alloc_below _ _, fun h => absurd h (by decide)⟩
          · have hd : decide ((80 : Int) < (x.mvs.length : Int)) = false := decide_eq_false hm
            go_enter Tryd.func54, Tryd.ntmps54
            go_wp2_with (first | (go_at_call 59; refine (within_yes _ _ _ (by omega) (by omega) _).mono ?_; rintro e w1 ⟨rfl, rfl⟩) | fail)
            have hlen : x.mvs.length ≤ 80 := by omega
            go_loopw [4, 5, 6] (fun i _ _ wq => ∃ (j : Nat), j ≤ x.mvs.length ∧ i = .int .i64 j ∧ Sd (Below w.heap.size w wq) ∧ Sd (wq.heap[w.heap.size]? = some (.cells #[.int .i64 x.N, .int .i64 x.start, .int .i64 x.inp, .int .i64 x.out, .slice A x.mvs.length c] 24 (0, 0))) ∧ Sd (∀ k, k < j → (x.mvs.getD k mzZ).good x) ∧ Sd (∀ k, k + 1 < j → cmpMz (x.mvs.getD k mzZ) (x.mvs.getD (k + 1) mzZ) < 0)) (fun i _ _ _ => x.mvs.length - (intOf i).toNat)
            case atStart => exact ⟨0, Nat.zero_le _, rfl, ⟨alloc_below _ _⟩, ⟨heap_alloc_new _ _⟩, ⟨fun k hk => by omega⟩, ⟨fun k hk => by omega⟩⟩
            case round =>
              obtain ⟨W1, hW1⟩ : ∃ W : World, W = wr := ⟨wr, rfl⟩
              subst hW1
              obtain ⟨j, hj, rfl, hB, hb, hgood, hsrt⟩ := hrel
              have c0 := cell_blk hb.out 0
              have c2 := cell_blk hb.out 2
              have c3 := cell_blk hb.out 3
              have c4 := cell_blk hb.out 4
              have hbl := (Array.getElem?_eq_some_iff.1 hb.out).1
              by_cases hlt : j < x.mvs.length
              · obtain ⟨ad, e1, e2, e3, e4, e5⟩ := (HR.out.below hB.out) j hlt
                subst e1
                have hprev := Sd.mk (fun h => (HR.out.below hB.out) (j - 1) h)
                obtain ⟨m, hm'⟩ : ∃ m, m = x.mvs.getD j mzZ := ⟨_, rfl⟩
                have HM := Sd.mk hm'
                rw [← hm'] at e2 e3 e4 e5
                clear hm'
                have HB1 : Sd (Below w.heap.size w (W1.alloc (.cells #[.int .i64 m.frm, .int .i64 m.kind, .int .i64 m.lab, .int .i64 m.tgt] 94))) := ⟨hB.out.alloc hB.out.size _⟩
                by_cases hk : 0 ≤ m.kind ∧ m.kind ≤ 2
                · have h3 : m.kind = 0 ∨ m.kind = 1 ∨ m.kind = 2 := by omega
                  clear hk
                  rcases h3 with k0 | k1 | k2
                  · have b0 : (m.kind == 0) = true := by rw [k0]; rfl
                    have b1 : (m.kind == 1) = false := by rw [k0]; rfl
                    have HK : Sd (m.kind = 0) := ⟨k0⟩
                    have hkk : 0 ≤ m.kind ∧ m.kind ≤ 2 := by omega
                    clear k0
                    by_cases hf : 0 ≤ m.frm ∧ m.frm ≤ x.N - 1
                    · by_cases ht : 0 ≤ m.tgt ∧ m.tgt ≤ x.N - 1
                      · by_cases hl : 0 ≤ m.lab ∧ m.lab ≤ x.inp - 1
                        · have HG : Sd (m.good x) := ⟨⟨hf.1, by omega, ht.1, by omega, hl.1, by have := HK.out; omega⟩⟩
                          have HGD : Sd (∀ k, k < j + 1 → (x.mvs.getD k mzZ).good x) := ⟨fun k hk => by
                            by_cases e : k = j
                            · subst e; rw [← HM.out]; exact HG.out
                            · exact hgood.out k (by omega)⟩
                          by_cases hj0 : j = 0
                          · subst hj0
                            rw [Nat.zero_mul, show ad.add 0 = ad from rfl] at e2 e3 e4 e5
                            have hd0 : decide ((0 : Int) < 0) = false := rfl
                            clear hprev
                            go_wp2_with (first | (go_at_call 59; first | (refine (within_yes _ _ _ (by omega) (by omega) _).mono ?_; rintro e w1 ⟨rfl, rfl⟩) | (refine (within_no _ _ _ (by omega) _).mono ?_; rintro e w1 ⟨rfl, rfl⟩)) | fail)
                            go_quiet (fail)
                            go_wp2
                            go_roundw
                            case rel => exact ⟨0 + 1, by omega, by go_num, ⟨below_drewN HB1.out _⟩, ⟨(heap_alloc_old _ _ hbl).trans hb.out⟩, HGD, ⟨fun k hk => by omega⟩⟩
                            case measure => simp [intOf]; omega
                          · obtain ⟨ad2, q1, q2, q3, q4, q5⟩ := hprev.out (by omega)
                            cases q1
                            have hsr := Sd.mk (hsrt.out)
                            obtain ⟨m0, hm0⟩ : ∃ m0, m0 = x.mvs.getD (j - 1) mzZ := ⟨_, rfl⟩
                            have HM0 := Sd.mk hm0
                            rw [← hm0] at q2 q3 q4 q5
                            obtain ⟨i, hi2⟩ : ∃ i, i = j - 1 := ⟨_, rfl⟩
                            have HI2 := Sd.mk hi2
                            rw [← hi2] at q2 q3 q4 q5
                            have hw : IntKind.i64.wrap ((j : Int) - 1) = (i : Int) := by rw [IntWalk.i64_in _ (by omega)]; omega
                            have hi0 : (0 : Int) ≤ (i : Int) := by omega
                            have hi1 : (i : Int) < (x.mvs.length : Int) := by omega
                            clear hi2 hprev hm0
                            have hd0 : decide ((0 : Int) < (j : Int)) = true := by simp; omega
                            have hd1 : decide (0 < j) = true := by simp; omega
                            have hpos : 0 < j := by omega
                            have hnt := heap_alloc_new W1 (.cells #[.int .i64 m.frm, .int .i64 m.kind, .int .i64 m.lab, .int .i64 m.tgt] 94)
                            have hnb := alloc_below W1 (.cells #[.int .i64 m.frm, .int .i64 m.kind, .int .i64 m.lab, .int .i64 m.tgt] 94)
                            have T0 : Sd (TwoMv (W1.alloc (.cells #[.int .i64 m.frm, .int .i64 m.kind, .int .i64 m.lab, .int .i64 m.tgt] 94)) w.heap.size (some ad) x.mvs.length c ad i m0 W1.heap.size m) := ⟨cell_later hnb c4, cell_later hnb q2, cell_later hnb q3, cell_later hnb q4, cell_later hnb q5, cell_blk hnt 0, cell_blk hnt 1, cell_blk hnt 2, cell_blk hnt 3⟩
                            have T1 := Sd.mk (T0.out.below (below_drew (Below.refl _ _)))
                            have B1 := Sd.mk (hnb)
                            clear hnt hnb
                            by_cases hcm : 0 ≤ cmpMz m0 m
                            · have hcd : decide (0 ≤ cmpMz m0 m) = true := decide_eq_true hcm
                              clear hcm
                              go_wp2_with (first | (go_at_call 59; first | (refine (within_yes _ _ _ (by omega) (by omega) _).mono ?_; rintro e w1 ⟨rfl, rfl⟩) | (refine (within_no _ _ _ (by omega) _).mono ?_; rintro e w1 ⟨rfl, rfl⟩)) | fail)
                              go_region_held3 (fun wx => wx.cell? ⟨w.heap.size, 4, none⟩ = some (.slice (some ad) x.mvs.length c) ∧ wx.cell? (ad.add (i * 4)) = some (.int .i64 m0.frm) ∧ wx.cell? ⟨(ad.add (i * 4)).block, (ad.add (i * 4)).off + 1, none⟩ = some (.int .i64 m0.kind) ∧ wx.cell? ⟨(ad.add (i * 4)).block, (ad.add (i * 4)).off + 2, none⟩ = some (.int .i64 m0.lab) ∧ wx.cell? ⟨(ad.add (i * 4)).block, (ad.add (i * 4)).off + 3, none⟩ = some (.int .i64 m0.tgt) ∧ wx.cell? ⟨W1.heap.size, 0, none⟩ = some (.int .i64 m.frm) ∧ wx.cell? ⟨W1.heap.size, 1, none⟩ = some (.int .i64 m.kind) ∧ wx.cell? ⟨W1.heap.size, 2, none⟩ = some (.int .i64 m.lab) ∧ wx.cell? ⟨W1.heap.size, 3, none⟩ = some (.int .i64 m.tgt))
                                (first | exact T0.out | exact T1.out | exact T0.out.below hB9 | exact T1.out.below hBab | exact T1.out.below hBba | exact T1.out.below hBa | exact T1.out.below hBb | fail)
                                (first | (go_at_call_of 75 (Value.agg #[Value.int IntKind.i64 m0.frm, Value.int IntKind.i64 m0.kind, Value.int IntKind.i64 m0.lab, Value.int IntKind.i64 m0.tgt]); refine (list_calls _ _ _ _ _).mono ?_; rintro e wa ⟨ga, rfl, z1, hBa⟩; try have hBba := hBb.trans (hBa.mono hBb.size)) | (go_at_call_of 75 (Value.agg #[Value.int IntKind.i64 m.frm, Value.int IntKind.i64 m.kind, Value.int IntKind.i64 m.lab, Value.int IntKind.i64 m.tgt]); refine (list_calls _ _ _ _ _).mono ?_; rintro e wb ⟨gb, rfl, z2, hBb⟩; try have hBab := hBa.trans (hBb.mono hBa.size)) | (go_at_call 69; refine (cmpMz_calls _ _ _ _ _ m0 m (by first | exact z1 | exact z1.below hBb) (by first | exact z2 | exact z2.below hBa)).mono ?_; rintro e wc ⟨rfl, hBc⟩; have hB9 : Below (W1.alloc (.cells #[.int .i64 m.frm, .int .i64 m.kind, .int .i64 m.lab, .int .i64 m.tgt] 94)).heap.size (W1.alloc (.cells #[.int .i64 m.frm, .int .i64 m.kind, .int .i64 m.lab, .int .i64 m.tgt] 94)) wc := by first | exact (below_drew (Below.refl _ _)).trans (hBab.trans (hBc.mono hBab.size)) | exact (below_drew (Below.refl _ _)).trans (hBba.trans (hBc.mono hBba.size))) | fail)
                              all_goals
                                have HB9 := Sd.mk hB9
                                clear hB9 z1 z2 hBa hBb
                                go_wp2
                                go_ret2
                                exact ⟨_, _, rfl, below_then HB1.out HB1.out.size HB9.out, fun h => absurd h (by decide)⟩
                            · have hcd : decide (0 ≤ cmpMz m0 m) = false := decide_eq_false hcm
                              have HC : Sd (cmpMz m0 m < 0) := ⟨by omega⟩
                              clear hcm
                              go_wp2_with (first | (go_at_call 59; first | (refine (within_yes _ _ _ (by omega) (by omega) _).mono ?_; rintro e w1 ⟨rfl, rfl⟩) | (refine (within_no _ _ _ (by omega) _).mono ?_; rintro e w1 ⟨rfl, rfl⟩)) | fail)
                              go_region_held3 (fun wx => wx.cell? ⟨w.heap.size, 4, none⟩ = some (.slice (some ad) x.mvs.length c) ∧ wx.cell? (ad.add (i * 4)) = some (.int .i64 m0.frm) ∧ wx.cell? ⟨(ad.add (i * 4)).block, (ad.add (i * 4)).off + 1, none⟩ = some (.int .i64 m0.kind) ∧ wx.cell? ⟨(ad.add (i * 4)).block, (ad.add (i * 4)).off + 2, none⟩ = some (.int .i64 m0.lab) ∧ wx.cell? ⟨(ad.add (i * 4)).block, (ad.add (i * 4)).off + 3, none⟩ = some (.int .i64 m0.tgt) ∧ wx.cell? ⟨W1.heap.size, 0, none⟩ = some (.int .i64 m.frm) ∧ wx.cell? ⟨W1.heap.size, 1, none⟩ = some (.int .i64 m.kind) ∧ wx.cell? ⟨W1.heap.size, 2, none⟩ = some (.int .i64 m.lab) ∧ wx.cell? ⟨W1.heap.size, 3, none⟩ = some (.int .i64 m.tgt))
                                (first | exact T0.out | exact T1.out | exact T0.out.below hB9 | exact T1.out.below hBab | exact T1.out.below hBba | exact T1.out.below hBa | exact T1.out.below hBb | fail)
                                (first | (go_at_call_of 75 (Value.agg #[Value.int IntKind.i64 m0.frm, Value.int IntKind.i64 m0.kind, Value.int IntKind.i64 m0.lab, Value.int IntKind.i64 m0.tgt]); refine (list_calls _ _ _ _ _).mono ?_; rintro e wa ⟨ga, rfl, z1, hBa⟩; try have hBba := hBb.trans (hBa.mono hBb.size)) | (go_at_call_of 75 (Value.agg #[Value.int IntKind.i64 m.frm, Value.int IntKind.i64 m.kind, Value.int IntKind.i64 m.lab, Value.int IntKind.i64 m.tgt]); refine (list_calls _ _ _ _ _).mono ?_; rintro e wb ⟨gb, rfl, z2, hBb⟩; try have hBab := hBa.trans (hBb.mono hBa.size)) | (go_at_call 69; refine (cmpMz_calls _ _ _ _ _ m0 m (by first | exact z1 | exact z1.below hBb) (by first | exact z2 | exact z2.below hBa)).mono ?_; rintro e wc ⟨rfl, hBc⟩; have hB9 : Below (W1.alloc (.cells #[.int .i64 m.frm, .int .i64 m.kind, .int .i64 m.lab, .int .i64 m.tgt] 94)).heap.size (W1.alloc (.cells #[.int .i64 m.frm, .int .i64 m.kind, .int .i64 m.lab, .int .i64 m.tgt] 94)) wc := by first | exact (below_drew (Below.refl _ _)).trans (hBab.trans (hBc.mono hBab.size)) | exact (below_drew (Below.refl _ _)).trans (hBba.trans (hBc.mono hBba.size))) | fail)
                              all_goals
                                have HB9 := Sd.mk hB9
                                clear hB9 z1 z2 hBa hBb
                                go_wp2
                                go_roundw
                                case rel => exact ⟨j + 1, by omega, by go_num, ⟨below_then HB1.out HB1.out.size HB9.out⟩, ⟨(HB9.out.block _ (by simp; omega)).trans ((heap_alloc_old _ _ hbl).trans hb.out)⟩, HGD, ⟨fun k hk => by
                                  by_cases e : k + 1 = j
                                  · have e2 : k = j - 1 := by omega
                                    rw [e, e2, ← HM.out, ← HM0.out]; exact HC.out
                                  · exact hsr.out k (by omega)⟩⟩
                                case measure => simp [intOf]; omega
                        · go_wp2_with (first | (go_at_call 59; first | (refine (within_yes _ _ _ (by omega) (by omega) _).mono ?_; rintro e w1 ⟨rfl, rfl⟩) | (refine (within_no _ _ _ (by omega) _).mono ?_; rintro e w1 ⟨rfl, rfl⟩)) | fail)
                          go_ret2
                          exact ⟨_, _, rfl, HB1.out, fun h => absurd h (by decide)⟩
                      · go_wp2_with (first | (go_at_call 59; first | (refine (within_yes _ _ _ (by omega) (by omega) _).mono ?_; rintro e w1 ⟨rfl, rfl⟩) | (refine (within_no _ _ _ (by omega) _).mono ?_; rintro e w1 ⟨rfl, rfl⟩)) | fail)
                        go_ret2
                        exact ⟨_, _, rfl, HB1.out, fun h => absurd h (by decide)⟩
                    · go_wp2_with (first | (go_at_call 59; first | (refine (within_yes _ _ _ (by omega) (by omega) _).mono ?_; rintro e w1 ⟨rfl, rfl⟩) | (refine (within_no _ _ _ (by omega) _).mono ?_; rintro e w1 ⟨rfl, rfl⟩)) | fail)
                      go_ret2
                      exact ⟨_, _, rfl, HB1.out, fun h => absurd h (by decide)⟩
                  · have b0 : (m.kind == 0) = false := by rw [k1]; rfl
                    have b1 : (m.kind == 1) = true := by rw [k1]; rfl
                    have HK : Sd (m.kind = 1) := ⟨k1⟩
                    have hkk : 0 ≤ m.kind ∧ m.kind ≤ 2 := by omega
                    clear k1
                    by_cases hf : 0 ≤ m.frm ∧ m.frm ≤ x.N - 1
                    · by_cases ht : 0 ≤ m.tgt ∧ m.tgt ≤ x.N - 1
                      · by_cases hl : 0 ≤ m.lab ∧ m.lab ≤ x.out - 1
                        · have HG : Sd (m.good x) := ⟨⟨hf.1, by omega, ht.1, by omega, hl.1, by have := HK.out; omega⟩⟩
                          have HGD : Sd (∀ k, k < j + 1 → (x.mvs.getD k mzZ).good x) := ⟨fun k hk => by
                            by_cases e : k = j
                            · subst e; rw [← HM.out]; exact HG.out
                            · exact hgood.out k (by omega)⟩
                          by_cases hj0 : j = 0
                          · subst hj0
                            rw [Nat.zero_mul, show ad.add 0 = ad from rfl] at e2 e3 e4 e5
                            have hd0 : decide ((0 : Int) < 0) = false := rfl
                            clear hprev
                            go_wp2_with (first | (go_at_call 59; first | (refine (within_yes _ _ _ (by omega) (by omega) _).mono ?_; rintro e w1 ⟨rfl, rfl⟩) | (refine (within_no _ _ _ (by omega) _).mono ?_; rintro e w1 ⟨rfl, rfl⟩)) | fail)
                            go_quiet (fail)
                            go_wp2
                            go_roundw
                            case rel => exact ⟨0 + 1, by omega, by go_num, ⟨below_drewN HB1.out _⟩, ⟨(heap_alloc_old _ _ hbl).trans hb.out⟩, HGD, ⟨fun k hk => by omega⟩⟩
                            case measure => simp [intOf]; omega
                          · obtain ⟨ad2, q1, q2, q3, q4, q5⟩ := hprev.out (by omega)
                            cases q1
                            have hsr := Sd.mk (hsrt.out)
                            obtain ⟨m0, hm0⟩ : ∃ m0, m0 = x.mvs.getD (j - 1) mzZ := ⟨_, rfl⟩
                            have HM0 := Sd.mk hm0
                            rw [← hm0] at q2 q3 q4 q5
                            obtain ⟨i, hi2⟩ : ∃ i, i = j - 1 := ⟨_, rfl⟩
                            have HI2 := Sd.mk hi2
                            rw [← hi2] at q2 q3 q4 q5
                            have hw : IntKind.i64.wrap ((j : Int) - 1) = (i : Int) := by rw [IntWalk.i64_in _ (by omega)]; omega
                            have hi0 : (0 : Int) ≤ (i : Int) := by omega
                            have hi1 : (i : Int) < (x.mvs.length : Int) := by omega
                            clear hi2 hprev hm0
                            have hd0 : decide ((0 : Int) < (j : Int)) = true := by simp; omega
                            have hd1 : decide (0 < j) = true := by simp; omega
                            have hpos : 0 < j := by omega
                            have hnt := heap_alloc_new W1 (.cells #[.int .i64 m.frm, .int .i64 m.kind, .int .i64 m.lab, .int .i64 m.tgt] 94)
                            have hnb := alloc_below W1 (.cells #[.int .i64 m.frm, .int .i64 m.kind, .int .i64 m.lab, .int .i64 m.tgt] 94)
                            have T0 : Sd (TwoMv (W1.alloc (.cells #[.int .i64 m.frm, .int .i64 m.kind, .int .i64 m.lab, .int .i64 m.tgt] 94)) w.heap.size (some ad) x.mvs.length c ad i m0 W1.heap.size m) := ⟨cell_later hnb c4, cell_later hnb q2, cell_later hnb q3, cell_later hnb q4, cell_later hnb q5, cell_blk hnt 0, cell_blk hnt 1, cell_blk hnt 2, cell_blk hnt 3⟩
                            have T1 := Sd.mk (T0.out.below (below_drew (Below.refl _ _)))
                            have B1 := Sd.mk (hnb)
                            clear hnt hnb
                            by_cases hcm : 0 ≤ cmpMz m0 m
                            · have hcd : decide (0 ≤ cmpMz m0 m) = true := decide_eq_true hcm
                              clear hcm
                              go_wp2_with (first | (go_at_call 59; first | (refine (within_yes _ _ _ (by omega) (by omega) _).mono ?_; rintro e w1 ⟨rfl, rfl⟩) | (refine (within_no _ _ _ (by omega) _).mono ?_; rintro e w1 ⟨rfl, rfl⟩)) | fail)
                              go_region_held3 (fun wx => wx.cell? ⟨w.heap.size, 4, none⟩ = some (.slice (some ad) x.mvs.length c) ∧ wx.cell? (ad.add (i * 4)) = some (.int .i64 m0.frm) ∧ wx.cell? ⟨(ad.add (i * 4)).block, (ad.add (i * 4)).off + 1, none⟩ = some (.int .i64 m0.kind) ∧ wx.cell? ⟨(ad.add (i * 4)).block, (ad.add (i * 4)).off + 2, none⟩ = some (.int .i64 m0.lab) ∧ wx.cell? ⟨(ad.add (i * 4)).block, (ad.add (i * 4)).off + 3, none⟩ = some (.int .i64 m0.tgt) ∧ wx.cell? ⟨W1.heap.size, 0, none⟩ = some (.int .i64 m.frm) ∧ wx.cell? ⟨W1.heap.size, 1, none⟩ = some (.int .i64 m.kind) ∧ wx.cell? ⟨W1.heap.size, 2, none⟩ = some (.int .i64 m.lab) ∧ wx.cell? ⟨W1.heap.size, 3, none⟩ = some (.int .i64 m.tgt))
                                (first | exact T0.out | exact T1.out | exact T0.out.below hB9 | exact T1.out.below hBab | exact T1.out.below hBba | exact T1.out.below hBa | exact T1.out.below hBb | fail)
                                (first | (go_at_call_of 75 (Value.agg #[Value.int IntKind.i64 m0.frm, Value.int IntKind.i64 m0.kind, Value.int IntKind.i64 m0.lab, Value.int IntKind.i64 m0.tgt]); refine (list_calls _ _ _ _ _).mono ?_; rintro e wa ⟨ga, rfl, z1, hBa⟩; try have hBba := hBb.trans (hBa.mono hBb.size)) | (go_at_call_of 75 (Value.agg #[Value.int IntKind.i64 m.frm, Value.int IntKind.i64 m.kind, Value.int IntKind.i64 m.lab, Value.int IntKind.i64 m.tgt]); refine (list_calls _ _ _ _ _).mono ?_; rintro e wb ⟨gb, rfl, z2, hBb⟩; try have hBab := hBa.trans (hBb.mono hBa.size)) | (go_at_call 69; refine (cmpMz_calls _ _ _ _ _ m0 m (by first | exact z1 | exact z1.below hBb) (by first | exact z2 | exact z2.below hBa)).mono ?_; rintro e wc ⟨rfl, hBc⟩; have hB9 : Below (W1.alloc (.cells #[.int .i64 m.frm, .int .i64 m.kind, .int .i64 m.lab, .int .i64 m.tgt] 94)).heap.size (W1.alloc (.cells #[.int .i64 m.frm, .int .i64 m.kind, .int .i64 m.lab, .int .i64 m.tgt] 94)) wc := by first | exact (below_drew (Below.refl _ _)).trans (hBab.trans (hBc.mono hBab.size)) | exact (below_drew (Below.refl _ _)).trans (hBba.trans (hBc.mono hBba.size))) | fail)
                              all_goals
                                have HB9 := Sd.mk hB9
                                clear hB9 z1 z2 hBa hBb
                                go_wp2
                                go_ret2
                                exact ⟨_, _, rfl, below_then HB1.out HB1.out.size HB9.out, fun h => absurd h (by decide)⟩
                            · have hcd : decide (0 ≤ cmpMz m0 m) = false := decide_eq_false hcm
                              have HC : Sd (cmpMz m0 m < 0) := ⟨by omega⟩
                              clear hcm
                              go_wp2_with (first | (go_at_call 59; first | (refine (within_yes _ _ _ (by omega) (by omega) _).mono ?_; rintro e w1 ⟨rfl, rfl⟩) | (refine (within_no _ _ _ (by omega) _).mono ?_; rintro e w1 ⟨rfl, rfl⟩)) | fail)
                              go_region_held3 (fun wx => wx.cell? ⟨w.heap.size, 4, none⟩ = some (.slice (some ad) x.mvs.length c) ∧ wx.cell? (ad.add (i * 4)) = some (.int .i64 m0.frm) ∧ wx.cell? ⟨(ad.add (i * 4)).block, (ad.add (i * 4)).off + 1, none⟩ = some (.int .i64 m0.kind) ∧ wx.cell? ⟨(ad.add (i * 4)).block, (ad.add (i * 4)).off + 2, none⟩ = some (.int .i64 m0.lab) ∧ wx.cell? ⟨(ad.add (i * 4)).block, (ad.add (i * 4)).off + 3, none⟩ = some (.int .i64 m0.tgt) ∧ wx.cell? ⟨W1.heap.size, 0, none⟩ = some (.int .i64 m.frm) ∧ wx.cell? ⟨W1.heap.size, 1, none⟩ = some (.int .i64 m.kind) ∧ wx.cell? ⟨W1.heap.size, 2, none⟩ = some (.int .i64 m.lab) ∧ wx.cell? ⟨W1.heap.size, 3, none⟩ = some (.int .i64 m.tgt))
                                (first | exact T0.out | exact T1.out | exact T0.out.below hB9 | exact T1.out.below hBab | exact T1.out.below hBba | exact T1.out.below hBa | exact T1.out.below hBb | fail)
                                (first | (go_at_call_of 75 (Value.agg #[Value.int IntKind.i64 m0.frm, Value.int IntKind.i64 m0.kind, Value.int IntKind.i64 m0.lab, Value.int IntKind.i64 m0.tgt]); refine (list_calls _ _ _ _ _).mono ?_; rintro e wa ⟨ga, rfl, z1, hBa⟩; try have hBba := hBb.trans (hBa.mono hBb.size)) | (go_at_call_of 75 (Value.agg #[Value.int IntKind.i64 m.frm, Value.int IntKind.i64 m.kind, Value.int IntKind.i64 m.lab, Value.int IntKind.i64 m.tgt]); refine (list_calls _ _ _ _ _).mono ?_; rintro e wb ⟨gb, rfl, z2, hBb⟩; try have hBab := hBa.trans (hBb.mono hBa.size)) | (go_at_call 69; refine (cmpMz_calls _ _ _ _ _ m0 m (by first | exact z1 | exact z1.below hBb) (by first | exact z2 | exact z2.below hBa)).mono ?_; rintro e wc ⟨rfl, hBc⟩; have hB9 : Below (W1.alloc (.cells #[.int .i64 m.frm, .int .i64 m.kind, .int .i64 m.lab, .int .i64 m.tgt] 94)).heap.size (W1.alloc (.cells #[.int .i64 m.frm, .int .i64 m.kind, .int .i64 m.lab, .int .i64 m.tgt] 94)) wc := by first | exact (below_drew (Below.refl _ _)).trans (hBab.trans (hBc.mono hBab.size)) | exact (below_drew (Below.refl _ _)).trans (hBba.trans (hBc.mono hBba.size))) | fail)
                              all_goals
                                have HB9 := Sd.mk hB9
                                clear hB9 z1 z2 hBa hBb
                                go_wp2
                                go_roundw
                                case rel => exact ⟨j + 1, by omega, by go_num, ⟨below_then HB1.out HB1.out.size HB9.out⟩, ⟨(HB9.out.block _ (by simp; omega)).trans ((heap_alloc_old _ _ hbl).trans hb.out)⟩, HGD, ⟨fun k hk => by
                                  by_cases e : k + 1 = j
                                  · have e2 : k = j - 1 := by omega
                                    rw [e, e2, ← HM.out, ← HM0.out]; exact HC.out
                                  · exact hsr.out k (by omega)⟩⟩
                                case measure => simp [intOf]; omega
                        · go_wp2_with (first | (go_at_call 59; first | (refine (within_yes _ _ _ (by omega) (by omega) _).mono ?_; rintro e w1 ⟨rfl, rfl⟩) | (refine (within_no _ _ _ (by omega) _).mono ?_; rintro e w1 ⟨rfl, rfl⟩)) | fail)
                          go_ret2
                          exact ⟨_, _, rfl, HB1.out, fun h => absurd h (by decide)⟩
                      · go_wp2_with (first | (go_at_call 59; first | (refine (within_yes _ _ _ (by omega) (by omega) _).mono ?_; rintro e w1 ⟨rfl, rfl⟩) | (refine (within_no _ _ _ (by omega) _).mono ?_; rintro e w1 ⟨rfl, rfl⟩)) | fail)
                        go_ret2
                        exact ⟨_, _, rfl, HB1.out, fun h => absurd h (by decide)⟩
                    · go_wp2_with (first | (go_at_call 59; first | (refine (within_yes _ _ _ (by omega) (by omega) _).mono ?_; rintro e w1 ⟨rfl, rfl⟩) | (refine (within_no _ _ _ (by omega) _).mono ?_; rintro e w1 ⟨rfl, rfl⟩)) | fail)
                      go_ret2
                      exact ⟨_, _, rfl, HB1.out, fun h => absurd h (by decide)⟩
                  · have b0 : (m.kind == 0) = false := by rw [k2]; rfl
                    have b1 : (m.kind == 1) = false := by rw [k2]; rfl
                    have HK : Sd (m.kind = 2) := ⟨k2⟩
                    have hkk : 0 ≤ m.kind ∧ m.kind ≤ 2 := by omega
                    clear k2
                    by_cases hf : 0 ≤ m.frm ∧ m.frm ≤ x.N - 1
                    · by_cases ht : 0 ≤ m.tgt ∧ m.tgt ≤ x.N - 1
                      · by_cases hl : 0 ≤ m.lab ∧ m.lab ≤ 0
                        · have HG : Sd (m.good x) := ⟨⟨hf.1, by omega, ht.1, by omega, hl.1, by have := HK.out; omega⟩⟩
                          have HGD : Sd (∀ k, k < j + 1 → (x.mvs.getD k mzZ).good x) := ⟨fun k hk => by
                            by_cases e : k = j
                            · subst e; rw [← HM.out]; exact HG.out
                            · exact hgood.out k (by omega)⟩
                          by_cases hj0 : j = 0
                          · subst hj0
                            rw [Nat.zero_mul, show ad.add 0 = ad from rfl] at e2 e3 e4 e5
                            have hd0 : decide ((0 : Int) < 0) = false := rfl
                            clear hprev
                            go_wp2_with (first | (go_at_call 59; first | (refine (within_yes _ _ _ (by omega) (by omega) _).mono ?_; rintro e w1 ⟨rfl, rfl⟩) | (refine (within_no _ _ _ (by omega) _).mono ?_; rintro e w1 ⟨rfl, rfl⟩)) | fail)
                            go_quiet (fail)
                            go_wp2
                            go_roundw
                            case rel => exact ⟨0 + 1, by omega, by go_num, ⟨below_drewN HB1.out _⟩, ⟨(heap_alloc_old _ _ hbl).trans hb.out⟩, HGD, ⟨fun k hk => by omega⟩⟩
                            case measure => simp [intOf]; omega
                          · obtain ⟨ad2, q1, q2, q3, q4, q5⟩ := hprev.out (by omega)
                            cases q1
                            have hsr := Sd.mk (hsrt.out)
                            obtain ⟨m0, hm0⟩ : ∃ m0, m0 = x.mvs.getD (j - 1) mzZ := ⟨_, rfl⟩
                            have HM0 := Sd.mk hm0
                            rw [← hm0] at q2 q3 q4 q5
                            obtain ⟨i, hi2⟩ : ∃ i, i = j - 1 := ⟨_, rfl⟩
                            have HI2 := Sd.mk hi2
                            rw [← hi2] at q2 q3 q4 q5
                            have hw : IntKind.i64.wrap ((j : Int) - 1) = (i : Int) := by rw [IntWalk.i64_in _ (by omega)]; omega
                            have hi0 : (0 : Int) ≤ (i : Int) := by omega
                            have hi1 : (i : Int) < (x.mvs.length : Int) := by omega
                            clear hi2 hprev hm0
                            have hd0 : decide ((0 : Int) < (j : Int)) = true := by simp; omega
                            have hd1 : decide (0 < j) = true := by simp; omega
                            have hpos : 0 < j := by omega
                            have hnt := heap_alloc_new W1 (.cells #[.int .i64 m.frm, .int .i64 m.kind, .int .i64 m.lab, .int .i64 m.tgt] 94)
                            have hnb := alloc_below W1 (.cells #[.int .i64 m.frm, .int .i64 m.kind, .int .i64 m.lab, .int .i64 m.tgt] 94)
                            have T0 : Sd (TwoMv (W1.alloc (.cells #[.int .i64 m.frm, .int .i64 m.kind, .int .i64 m.lab, .int .i64 m.tgt] 94)) w.heap.size (some ad) x.mvs.length c ad i m0 W1.heap.size m) := ⟨cell_later hnb c4, cell_later hnb q2, cell_later hnb q3, cell_later hnb q4, cell_later hnb q5, cell_blk hnt 0, cell_blk hnt 1, cell_blk hnt 2, cell_blk hnt 3⟩
                            have T1 := Sd.mk (T0.out.below (below_drew (Below.refl _ _)))
                            have B1 := Sd.mk (hnb)
                            clear hnt hnb
                            by_cases hcm : 0 ≤ cmpMz m0 m
                            · have hcd : decide (0 ≤ cmpMz m0 m) = true := decide_eq_true hcm
                              clear hcm
                              go_wp2_with (first | (go_at_call 59; first | (refine (within_yes _ _ _ (by omega) (by omega) _).mono ?_; rintro e w1 ⟨rfl, rfl⟩) | (refine (within_no _ _ _ (by omega) _).mono ?_; rintro e w1 ⟨rfl, rfl⟩)) | fail)
                              go_region_held3 (fun wx => wx.cell? ⟨w.heap.size, 4, none⟩ = some (.slice (some ad) x.mvs.length c) ∧ wx.cell? (ad.add (i * 4)) = some (.int .i64 m0.frm) ∧ wx.cell? ⟨(ad.add (i * 4)).block, (ad.add (i * 4)).off + 1, none⟩ = some (.int .i64 m0.kind) ∧ wx.cell? ⟨(ad.add (i * 4)).block, (ad.add (i * 4)).off + 2, none⟩ = some (.int .i64 m0.lab) ∧ wx.cell? ⟨(ad.add (i * 4)).block, (ad.add (i * 4)).off + 3, none⟩ = some (.int .i64 m0.tgt) ∧ wx.cell? ⟨W1.heap.size, 0, none⟩ = some (.int .i64 m.frm) ∧ wx.cell? ⟨W1.heap.size, 1, none⟩ = some (.int .i64 m.kind) ∧ wx.cell? ⟨W1.heap.size, 2, none⟩ = some (.int .i64 m.lab) ∧ wx.cell? ⟨W1.heap.size, 3, none⟩ = some (.int .i64 m.tgt))
                                (first | exact T0.out | exact T1.out | exact T0.out.below hB9 | exact T1.out.below hBab | exact T1.out.below hBba | exact T1.out.below hBa | exact T1.out.below hBb | fail)
                                (first | (go_at_call_of 75 (Value.agg #[Value.int IntKind.i64 m0.frm, Value.int IntKind.i64 m0.kind, Value.int IntKind.i64 m0.lab, Value.int IntKind.i64 m0.tgt]); refine (list_calls _ _ _ _ _).mono ?_; rintro e wa ⟨ga, rfl, z1, hBa⟩; try have hBba := hBb.trans (hBa.mono hBb.size)) | (go_at_call_of 75 (Value.agg #[Value.int IntKind.i64 m.frm, Value.int IntKind.i64 m.kind, Value.int IntKind.i64 m.lab, Value.int IntKind.i64 m.tgt]); refine (list_calls _ _ _ _ _).mono ?_; rintro e wb ⟨gb, rfl, z2, hBb⟩; try have hBab := hBa.trans (hBb.mono hBa.size)) | (go_at_call 69; refine (cmpMz_calls _ _ _ _ _ m0 m (by first | exact z1 | exact z1.below hBb) (by first | exact z2 | exact z2.below hBa)).mono ?_; rintro e wc ⟨rfl, hBc⟩; have hB9 : Below (W1.alloc (.cells #[.int .i64 m.frm, .int .i64 m.kind, .int .i64 m.lab, .int .i64 m.tgt] 94)).heap.size (W1.alloc (.cells #[.int .i64 m.frm, .int .i64 m.kind, .int .i64 m.lab, .int .i64 m.tgt] 94)) wc := by first | exact (below_drew (Below.refl _ _)).trans (hBab.trans (hBc.mono hBab.size)) | exact (below_drew (Below.refl _ _)).trans (hBba.trans (hBc.mono hBba.size))) | fail)
                              all_goals
                                have HB9 := Sd.mk hB9
                                clear hB9 z1 z2 hBa hBb
                                go_wp2
                                go_ret2
                                exact ⟨_, _, rfl, below_then HB1.out HB1.out.size HB9.out, fun h => absurd h (by decide)⟩
                            · have hcd : decide (0 ≤ cmpMz m0 m) = false := decide_eq_false hcm
                              have HC : Sd (cmpMz m0 m < 0) := ⟨by omega⟩
                              clear hcm
                              go_wp2_with (first | (go_at_call 59; first | (refine (within_yes _ _ _ (by omega) (by omega) _).mono ?_; rintro e w1 ⟨rfl, rfl⟩) | (refine (within_no _ _ _ (by omega) _).mono ?_; rintro e w1 ⟨rfl, rfl⟩)) | fail)
                              go_region_held3 (fun wx => wx.cell? ⟨w.heap.size, 4, none⟩ = some (.slice (some ad) x.mvs.length c) ∧ wx.cell? (ad.add (i * 4)) = some (.int .i64 m0.frm) ∧ wx.cell? ⟨(ad.add (i * 4)).block, (ad.add (i * 4)).off + 1, none⟩ = some (.int .i64 m0.kind) ∧ wx.cell? ⟨(ad.add (i * 4)).block, (ad.add (i * 4)).off + 2, none⟩ = some (.int .i64 m0.lab) ∧ wx.cell? ⟨(ad.add (i * 4)).block, (ad.add (i * 4)).off + 3, none⟩ = some (.int .i64 m0.tgt) ∧ wx.cell? ⟨W1.heap.size, 0, none⟩ = some (.int .i64 m.frm) ∧ wx.cell? ⟨W1.heap.size, 1, none⟩ = some (.int .i64 m.kind) ∧ wx.cell? ⟨W1.heap.size, 2, none⟩ = some (.int .i64 m.lab) ∧ wx.cell? ⟨W1.heap.size, 3, none⟩ = some (.int .i64 m.tgt))
                                (first | exact T0.out | exact T1.out | exact T0.out.below hB9 | exact T1.out.below hBab | exact T1.out.below hBba | exact T1.out.below hBa | exact T1.out.below hBb | fail)
                                (first | (go_at_call_of 75 (Value.agg #[Value.int IntKind.i64 m0.frm, Value.int IntKind.i64 m0.kind, Value.int IntKind.i64 m0.lab, Value.int IntKind.i64 m0.tgt]); refine (list_calls _ _ _ _ _).mono ?_; rintro e wa ⟨ga, rfl, z1, hBa⟩; try have hBba := hBb.trans (hBa.mono hBb.size)) | (go_at_call_of 75 (Value.agg #[Value.int IntKind.i64 m.frm, Value.int IntKind.i64 m.kind, Value.int IntKind.i64 m.lab, Value.int IntKind.i64 m.tgt]); refine (list_calls _ _ _ _ _).mono ?_; rintro e wb ⟨gb, rfl, z2, hBb⟩; try have hBab := hBa.trans (hBb.mono hBa.size)) | (go_at_call 69; refine (cmpMz_calls _ _ _ _ _ m0 m (by first | exact z1 | exact z1.below hBb) (by first | exact z2 | exact z2.below hBa)).mono ?_; rintro e wc ⟨rfl, hBc⟩; have hB9 : Below (W1.alloc (.cells #[.int .i64 m.frm, .int .i64 m.kind, .int .i64 m.lab, .int .i64 m.tgt] 94)).heap.size (W1.alloc (.cells #[.int .i64 m.frm, .int .i64 m.kind, .int .i64 m.lab, .int .i64 m.tgt] 94)) wc := by first | exact (below_drew (Below.refl _ _)).trans (hBab.trans (hBc.mono hBab.size)) | exact (below_drew (Below.refl _ _)).trans (hBba.trans (hBc.mono hBba.size))) | fail)
                              all_goals
                                have HB9 := Sd.mk hB9
                                clear hB9 z1 z2 hBa hBb
                                go_wp2
                                go_roundw
                                case rel => exact ⟨j + 1, by omega, by go_num, ⟨below_then HB1.out HB1.out.size HB9.out⟩, ⟨(HB9.out.block _ (by simp; omega)).trans ((heap_alloc_old _ _ hbl).trans hb.out)⟩, HGD, ⟨fun k hk => by
                                  by_cases e : k + 1 = j
                                  · have e2 : k = j - 1 := by omega
                                    rw [e, e2, ← HM.out, ← HM0.out]; exact HC.out
                                  · exact hsr.out k (by omega)⟩⟩
                                case measure => simp [intOf]; omega
                        · go_wp2_with (first | (go_at_call 59; first | (refine (within_yes _ _ _ (by omega) (by omega) _).mono ?_; rintro e w1 ⟨rfl, rfl⟩) | (refine (within_no _ _ _ (by omega) _).mono ?_; rintro e w1 ⟨rfl, rfl⟩)) | fail)
                          go_ret2
                          exact ⟨_, _, rfl, HB1.out, fun h => absurd h (by decide)⟩
                      · go_wp2_with (first | (go_at_call 59; first | (refine (within_yes _ _ _ (by omega) (by omega) _).mono ?_; rintro e w1 ⟨rfl, rfl⟩) | (refine (within_no _ _ _ (by omega) _).mono ?_; rintro e w1 ⟨rfl, rfl⟩)) | fail)
                        go_ret2
                        exact ⟨_, _, rfl, HB1.out, fun h => absurd h (by decide)⟩
                    · go_wp2_with (first | (go_at_call 59; first | (refine (within_yes _ _ _ (by omega) (by omega) _).mono ?_; rintro e w1 ⟨rfl, rfl⟩) | (refine (within_no _ _ _ (by omega) _).mono ?_; rintro e w1 ⟨rfl, rfl⟩)) | fail)
                      go_ret2
                      exact ⟨_, _, rfl, HB1.out, fun h => absurd h (by decide)⟩
                · go_wp2_with (first | (go_at_call 59; first | (refine (within_yes _ _ _ (by omega) (by omega) _).mono ?_; rintro e w1 ⟨rfl, rfl⟩) | (refine (within_no _ _ _ (by omega) _).mono ?_; rintro e w1 ⟨rfl, rfl⟩)) | fail)
                  go_ret2
                  exact ⟨_, _, rfl, HB1.out, fun h => absurd h (by decide)⟩
              · obtain rfl : j = x.mvs.length := by omega
                go_wp2
                go_ret2
                exact ⟨_, _, rfl, hB.out, fun _ => ⟨hN, hs, hi, ho, hlen, hgood.out, hsrt.out⟩⟩
        · go_enter Tryd.func54, Tryd.ntmps54
          go_wp2_with (first | (go_at_call 59; first | (refine (within_yes _ _ _ (by omega) (by omega) _).mono ?_; rintro e w1 ⟨rfl, rfl⟩) | (refine (within_no _ _ _ (by omega) _).mono ?_; rintro e w1 ⟨rfl, rfl⟩)) | fail)
          go_ret2
          exact ⟨_, _, rfl, alloc_below _ _, fun h => absurd h (by decide)⟩
      · go_enter Tryd.func54, Tryd.ntmps54
        go_wp2_with (first | (go_at_call 59; first | (refine (within_yes _ _ _ (by omega) (by omega) _).mono ?_; rintro e w1 ⟨rfl, rfl⟩) | (refine (within_no _ _ _ (by omega) _).mono ?_; rintro e w1 ⟨rfl, rfl⟩)) | fail)
        go_ret2
        exact ⟨_, _, rfl, alloc_below _ _, fun h => absurd h (by decide)⟩
    · go_enter Tryd.func54, Tryd.ntmps54
      go_wp2_with (first | (go_at_call 59; first | (refine (within_yes _ _ _ (by omega) (by omega) _).mono ?_; rintro e w1 ⟨rfl, rfl⟩) | (refine (within_no _ _ _ (by omega) _).mono ?_; rintro e w1 ⟨rfl, rfl⟩)) | fail)
      go_ret2
      exact ⟨_, _, rfl, alloc_below _ _, fun h => absurd h (by decide)⟩
  · go_enter Tryd.func54, Tryd.ntmps54
    go_wp2_with (first | (go_at_call 59; first | (refine (within_yes _ _ _ (by omega) (by omega) _).mono ?_; rintro e w1 ⟨rfl, rfl⟩) | (refine (within_no _ _ _ (by omega) _).mono ?_; rintro e w1 ⟨rfl, rfl⟩)) | fail)
    go_ret2
    exact ⟨_, _, rfl, alloc_below _ _, fun h => absurd h (by decide)⟩
end Go.Proofs.YtcbhaeniahckhaaDoor
end
