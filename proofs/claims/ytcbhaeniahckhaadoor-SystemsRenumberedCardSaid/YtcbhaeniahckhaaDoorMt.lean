/- ConformProved where the system does not conform, walked, and on whatever systems. Conditions: those that each theorem names. -/
import Derived.Test.YtcbhaeniahckhaaDoorMr
import Derived.Test.YtcbhaeniahckhaaDoorMs
set_option linter.unusedSimpArgs false
set_option linter.unusedVariables false
section
namespace Go.Proofs.YtcbhaeniahckhaaDoor
open Go.RowKit Go.Shelf Go.Deep
def shownF (x : Rx) (l : Nat) : Nat → Nat → List Nat
  | 0, _ => []
  | n + 1, e => (if afterS (sysOf x) l e = 0 then [] else [e]) ++ shownF x l n (e + 1)
theorem shownF_eq (x : Rx) (l : Nat) : ∀ (n e : Nat), ((List.range n).filter fun k => decide (afterS (sysOf x) l (e + k) ≠ 0)).map (e + ·) = shownF x l n e
  | 0, _ => rfl
  | n + 1, e => by
    rw [List.range_succ_eq_map, shownF, ← shownF_eq x l n (e + 1), List.filter_cons]
    have h2 : ((List.map Nat.succ (List.range n)).filter fun k => decide (afterS (sysOf x) l (e + k) ≠ 0)).map (e + ·) = ((List.range n).filter fun k => decide (afterS (sysOf x) l (e + 1 + k) ≠ 0)).map (e + 1 + ·) := by
      rw [List.filter_map, List.map_map]
      have h3 : ((fun k => decide (afterS (sysOf x) l (e + k) ≠ 0)) ∘ Nat.succ) = fun k => decide (afterS (sysOf x) l (e + 1 + k) ≠ 0) := by
        funext k
        show decide (afterS (sysOf x) l (e + (k + 1)) ≠ 0) = _
        rw [show e + (k + 1) = e + 1 + k by omega]
      have h4 : ((fun k => e + k) ∘ Nat.succ) = fun k => e + 1 + k := by
        funext k
        show e + (k + 1) = _
        omega
      rw [h3, h4]
    by_cases hz : afterS (sysOf x) l e = 0
    · rw [if_pos hz, List.nil_append, ← h2]
      simp [hz]
    · rw [if_neg hz, ← h2]
      simp [hz]
theorem shownL_eq (x : Rx) (l n : Nat) : shownL x l n = shownF x l n x.inp := shownF_eq x l n x.inp
theorem mem_shownL (y : Rx) (l a : Nat) (h1 : y.inp ≤ a) (h2 : a ≤ y.inp + y.out) : a ∈ shownL y l (y.out + 1) ↔ showsS (sysOf y) l a = true := by
  unfold shownL showsS
  simp only [List.mem_map, List.mem_filter, List.mem_range, decide_eq_true_eq, Bool.and_eq_true, bne_iff_ne]
  constructor
  · rintro ⟨k, ⟨k1, k2⟩, rfl⟩
    exact ⟨h1, k2⟩
  · rintro ⟨_, k2⟩
    exact ⟨a - y.inp, ⟨by omega, by rw [show y.inp + (a - y.inp) = a by omega]; exact k2⟩, by omega⟩
theorem find_shown (x y : Rx) (hio : x.inp = y.inp ∧ x.out = y.out) (la lb : Nat) : (shownL x la (x.out + 1)).find? (fun a => decide (a ∉ shownL y lb (y.out + 1))) = failsS (sysOf x) (sysOf y) (la, lb) := by
  rw [shownL_eq x la]
  have key : ∀ (n e : Nat), x.inp ≤ e → e + n ≤ x.inp + x.out + 1 → (shownF x la n e).find? (fun a => decide (a ∉ shownL y lb (y.out + 1))) = failsFrom (sysOf x) (sysOf y) (la, lb) n e := by
    intro n
    induction n with
    | zero => intro e _ _; rfl
    | succ n ih =>
      intro e h1 h2
      rw [shownF, failsFrom_step, ← ih (e + 1) (by omega) (by omega)]
      have hx : showsS (sysOf x) la e = (afterS (sysOf x) la e != 0) := by
        unfold showsS
        rw [decide_eq_true (show (sysOf x).inp ≤ e from h1), Bool.true_and]
      have hy := mem_shownL y lb e (by omega) (by omega)
      by_cases hz : afterS (sysOf x) la e = 0
      · rw [if_pos hz, List.nil_append, if_neg (by rw [hx, hz]; simp)]
      · rw [if_neg hz]
        by_cases hs : showsS (sysOf y) lb e = true
        · rw [if_neg (by rw [hs]; simp), List.singleton_append, List.find?_cons_of_neg (by simpa using hy.2 hs)]
        · rw [if_pos (by rw [hx]; simp [hz, hs]), List.singleton_append, List.find?_cons_of_pos (by simpa using fun h => hs (hy.1 h))]
  exact key (x.out + 1) x.inp (Nat.le_refl _) (by omega)
def wz : Option Nat → Int
  | none => -1
  | some v => v
theorem find_take (t s : List Nat) (j : Nat) (h : j < s.length) : (s.take (j + 1)).find? (fun a => decide (a ∉ t)) = ((s.take j).find? (fun a => decide (a ∉ t))).or (if s.getD j 0 ∈ t then none else some (s.getD j 0)) := by
  rw [take_getD (d := 0) s j h, List.find?_append]
  congr 1
  by_cases hm : s.getD j 0 ∈ t
  · rw [if_pos hm, List.find?_cons_of_neg (by simpa using hm)]; rfl
  · rw [if_neg hm, List.find?_cons_of_pos (by simpa using hm)]
theorem along_take (X : SysP) (p : List Nat) (k : Nat) (h : k < p.length) : alongS X (p.take (k + 1)) = afterS X (alongS X (p.take k)) (p.getD k 0) := by
  rw [take_getD (d := 0) p k h, alongS_snoc]
theorem along_ne (X : SysP) (p : List Nat) (h : alongS X p ≠ 0) : ∀ k, alongS X (p.take k) ≠ 0 := by
  intro k h0
  have e : alongS X p = (p.drop k).foldl (afterS X) (alongS X (p.take k)) := by
    unfold alongS
    rw [← List.foldl_append, List.take_append_drop]
  rw [h0] at e
  have key : ∀ rest : List Nat, rest.foldl (afterS X) 0 = 0 := fun rest => by
    induction rest with
    | nil => rfl
    | cons e rest ih => rw [List.foldl_cons, afterS_zero]; exact ih
  rw [key] at e
  exact h e
theorem along_lt (x : Rx) (hx : x.ok) (l : List Nat) : alongS (sysOf x) l < 2 ^ x.N := foldl_after_lt (sysOf x) (x.byb hx) (x.silb hx) l _ (firstS_lt (sysOf x) hx.hs (x.silb hx))
theorem seek_short (x y : Rx) (hx : x.ok) (hy : y.ok) (tr : List Int) (h : (seekS x y).1 = some tr) : tr.length ≤ 1048578 := by
  rcases seek_law x y hx hy with ⟨i, e, h1, h2, h3, h4⟩ | ⟨h1, _⟩
  · rw [h4] at h
    cases h
    have hb := backS_len (seekS x y).2.2.1 (seekS x y).2.2.2 (i + 1) i
    have hg := (seek_good x y hx hy).le hx.hN hy.hN
    simp only [List.length_reverse, List.length_cons]
    omega
  · rw [h1] at h; cases h
end Go.Proofs.YtcbhaeniahckhaaDoor
end
section
set_option linter.unusedSimpArgs false
namespace Go.Proofs.YtcbhaeniahckhaaDoor
open Go.RowKit Go.Shelf Go.Deep Go.Proofs.YtcbhaeniahckhaaDoorW.PrintLast
/-- what the search tells where it finds a failing trace -/
structure SomeP (x y : Rx) (p : List Nat) (e : Nat) : Prop where
  tr : (seekS x y).1 = some ((p ++ [e]).map fun a : Nat => (a : Int))
  ev : ∀ a ∈ p, a ≤ x.inp + x.out
  ne : alongS (sysOf y) p ≠ 0
  fl : failsS (sysOf x) (sysOf y) (alongS (sysOf x) p, alongS (sysOf y) p) = some e
  le : ∀ k, k < p.length → failsS (sysOf x) (sysOf y) (alongS (sysOf x) (p.take k), alongS (sysOf y) (p.take k)) = none
  short : p.length ≤ 1048577
theorem someP_of (x y : Rx) (hx : x.ok) (hy : y.ok) (tr : List Int) (h : (seekS x y).1 = some tr) : ∃ p e, SomeP x y p e := by
  obtain ⟨p, e, rfl, h2, h3, h4, h5⟩ := seek_some x y hx hy tr h
  have hs := seek_short x y hx hy _ h
  rw [List.length_map, List.length_append, List.length_singleton] at hs
  exact ⟨p, e, h, h2, h3, h4, fun k hk => h5 (p.take k) (fun a ha => h2 a (List.mem_of_mem_take ha)) (by rw [List.length_take]; omega) (along_ne (sysOf y) p h3 k), by omega⟩
theorem conf_some (w : World) (hT : Tab w) (x y : Rx) (hx : x.ok) (hy : y.ok) (hio : x.inp = y.inp ∧ x.out = y.out) (A A' : Option Addr) (c c' : Nat) (hr : RdM w A x.mvs) (hr' : RdM w A' y.mvs) (p : List Nat) (e : Nat) (hs : SomeP x y p e) (n : Nat) (hn : n = p.length + 1) : Calls Tryd.prog 7 #[rxV x A c, rxV y A' c'] w fun e' w' => ∃ at_ ct, e' = .returned (.tuple #[.slice (some at_) n ct, .int .i64 29]) ∧ RdI w' (some at_) (p ++ [e]) ∧ Below w.heap.size w w' :=
  (conforms_calls w hT x y hx hy hio A A' c c' hr hr').mono fun e' w' ⟨v, h1, hB, _, h2⟩ => by
    have ho : OwnI w' w.heap.size v (p ++ [e]) := by
      have := h2 _ hs.tr
      unfold OwnI
      rw [List.length_map, List.map_map] at this
      exact this
    obtain ⟨At, ct, rfl, _, hr⟩ := ho.read
    obtain ⟨ad, hA, _⟩ := hr 0 (by simp)
    subst hA
    refine ⟨ad, ct, ?_, hr, hB⟩
    rw [h1, hs.tr, hn]
    simp
theorem rel_some (w : World) (hT : Tab w) (x y : Rx) (hx : x.ok) (hy : y.ok) (hio : x.inp = y.inp ∧ x.out = y.out) (A A' : Option Addr) (c c' : Nat) (hr : RdM w A x.mvs) (hr' : RdM w A' y.mvs) (p : List Nat) (e : Nat) (hs : SomeP x y p e) : Calls Tryd.prog 9 #[rxV x A c, rxV y A' c'] w fun e w' => e = .returned (.tuple #[.slice none 0 0, .int .i64 29]) ∧ Below w.heap.size w w' :=
  (relationOf_calls w hT x y hx hy hio A A' c c' hr hr').mono fun e w' ⟨hB, h⟩ => by
    simp only [hs.tr, Option.isSome_some, if_true] at h
    exact ⟨h, hB⟩
theorem pass_some (w : World) (hT : Tab w) (x y : Rx) (hx : x.ok) (hy : y.ok) (hio : x.inp = y.inp ∧ x.out = y.out) (A A' : Option Addr) (c c' : Nat) (hr : RdM w A x.mvs) (hr' : RdM w A' y.mvs) (p : List Nat) (e : Nat) (hs : SomeP x y p e) (d : Nat) (hd : d ≤ 6) : Calls Tryd.prog 11 #[rxV x A c, rxV y A' c', .int .i64 d] w fun e w' => Below w.heap.size w w' ∧ ∃ v code, e = .returned (.tuple #[v, .int .i64 code]) ∧ (code = 32 ∨ code = 29 ∧ p.length ≤ d ∨ code = 0 ∧ d < p.length) :=
  (passes_calls w hT x y hx hy hio A A' c c' hr hr' d hd).mono fun e w' ⟨hB, v, code, h1, h2⟩ => ⟨hB, v, code, h1, by
    have hf := failD_some x y hx hy hio _ hs.tr d
    rw [List.length_map, List.length_append, List.length_singleton, Nat.add_sub_cancel] at hf
    rw [hf] at h2
    rcases h2 with h | ⟨h, h'⟩ | ⟨h, h'⟩
    · exact .inl h
    · exact .inr (.inl ⟨h, h'⟩)
    · exact .inr (.inr ⟨h, by omega⟩)⟩
/-- a set of states as it lies -/
def SetAt (w : World) (v : Value) (l : Nat) : Prop := ∃ A n c, v = .slice A n c ∧ n = (bitsL l).length ∧ RdI w A (bitsL l)
theorem SetAt.below {w w' : World} {v : Value} {l : Nat} (h : SetAt w v l) (hB : Below w.heap.size w w') : SetAt w' v l := let ⟨A, n, c, h1, h2, h3⟩ := h; ⟨A, n, c, h1, h2, h3.below hB⟩
theorem tr_kept {w W W2 : World} {n m : Nat} {ad : Addr} {a0 a1 a2 a3 a4 b0 b1 b2 b3 b4 u : Value} {t : TypeId} (h : W.heap[n]? = some (.cells #[a0, a1, a2, a3, a4] t (0, 0)) ∧ W.heap[m]? = some (.cells #[b0, b1, b2, b3, b4] t (0, 0)) ∧ Below w.heap.size w W ∧
    W.cell? ⟨n, 0, none⟩ = some a0 ∧ W.cell? ⟨n, 1, none⟩ = some a1 ∧ W.cell? ⟨n, 2, none⟩ = some a2 ∧ W.cell? ⟨n, 3, none⟩ = some a3 ∧ W.cell? ⟨n, 4, none⟩ = some a4 ∧
    W.cell? ⟨m, 0, none⟩ = some b0 ∧ W.cell? ⟨m, 1, none⟩ = some b1 ∧ W.cell? ⟨m, 2, none⟩ = some b2 ∧ W.cell? ⟨m, 3, none⟩ = some b3 ∧ W.cell? ⟨m, 4, none⟩ = some b4 ∧ W.cell? ad = some u) (k : Below W.heap.size W W2) :
    W2.heap[n]? = some (.cells #[a0, a1, a2, a3, a4] t (0, 0)) ∧ W2.heap[m]? = some (.cells #[b0, b1, b2, b3, b4] t (0, 0)) ∧ Below w.heap.size w W2 ∧
    W2.cell? ⟨n, 0, none⟩ = some a0 ∧ W2.cell? ⟨n, 1, none⟩ = some a1 ∧ W2.cell? ⟨n, 2, none⟩ = some a2 ∧ W2.cell? ⟨n, 3, none⟩ = some a3 ∧ W2.cell? ⟨n, 4, none⟩ = some a4 ∧
    W2.cell? ⟨m, 0, none⟩ = some b0 ∧ W2.cell? ⟨m, 1, none⟩ = some b1 ∧ W2.cell? ⟨m, 2, none⟩ = some b2 ∧ W2.cell? ⟨m, 3, none⟩ = some b3 ∧ W2.cell? ⟨m, 4, none⟩ = some b4 ∧ W2.cell? ad = some u := by
  obtain ⟨hX, hY, hB, _, _, _, _, _, _, _, _, _, _, h1⟩ := h
  have K := two_kept hX hY hB k
  exact ⟨K.1, K.2.1, K.2.2.1, K.2.2.2.1, K.2.2.2.2.1, K.2.2.2.2.2.1, K.2.2.2.2.2.2.1, K.2.2.2.2.2.2.2.1, K.2.2.2.2.2.2.2.2.1, K.2.2.2.2.2.2.2.2.2.1, K.2.2.2.2.2.2.2.2.2.2.1, K.2.2.2.2.2.2.2.2.2.2.2.1, K.2.2.2.2.2.2.2.2.2.2.2.2, cell_later k h1⟩
theorem tr_mk {w W : World} {n m : Nat} {ad : Addr} {a0 a1 a2 a3 a4 b0 b1 b2 b3 b4 u : Value} {t : TypeId} (hX : W.heap[n]? = some (.cells #[a0, a1, a2, a3, a4] t (0, 0))) (hY : W.heap[m]? = some (.cells #[b0, b1, b2, b3, b4] t (0, 0))) (hB : Below w.heap.size w W) (h1 : W.cell? ad = some u) :
    W.heap[n]? = some (.cells #[a0, a1, a2, a3, a4] t (0, 0)) ∧ W.heap[m]? = some (.cells #[b0, b1, b2, b3, b4] t (0, 0)) ∧ Below w.heap.size w W ∧
    W.cell? ⟨n, 0, none⟩ = some a0 ∧ W.cell? ⟨n, 1, none⟩ = some a1 ∧ W.cell? ⟨n, 2, none⟩ = some a2 ∧ W.cell? ⟨n, 3, none⟩ = some a3 ∧ W.cell? ⟨n, 4, none⟩ = some a4 ∧
    W.cell? ⟨m, 0, none⟩ = some b0 ∧ W.cell? ⟨m, 1, none⟩ = some b1 ∧ W.cell? ⟨m, 2, none⟩ = some b2 ∧ W.cell? ⟨m, 3, none⟩ = some b3 ∧ W.cell? ⟨m, 4, none⟩ = some b4 ∧ W.cell? ad = some u := by
  have K := two_boxes (w := w) hX hY hB
  exact ⟨K.1, K.2.1, K.2.2.1, K.2.2.2.1, K.2.2.2.2.1, K.2.2.2.2.2.1, K.2.2.2.2.2.2.1, K.2.2.2.2.2.2.2.1, K.2.2.2.2.2.2.2.2.1, K.2.2.2.2.2.2.2.2.2.1, K.2.2.2.2.2.2.2.2.2.2.1, K.2.2.2.2.2.2.2.2.2.2.2.1, K.2.2.2.2.2.2.2.2.2.2.2.2, h1⟩
set_option maxHeartbeats 16000000 in
set_option maxRecDepth 100000 in
theorem proved_some (w : World) (hT : Tab w) (x y : Rx) (hx : x.ok) (hy : y.ok) (hio : x.inp = y.inp ∧ x.out = y.out) (A A' : Option Addr) (c c' : Nat) (hr : RdM w A x.mvs) (hr' : RdM w A' y.mvs) (p : List Nat) (e0 : Nat) (hs : SomeP x y p e0) :
    Calls Tryd.prog 3 #[.agg #[.int .i64 x.N, .int .i64 x.start, .int .i64 x.inp, .int .i64 x.out, .slice A x.mvs.length c], .agg #[.int .i64 y.N, .int .i64 y.start, .int .i64 y.inp, .int .i64 y.out, .slice A' y.mvs.length c']] w fun e w' => e = .returned (.bool true) ∧ Below w.heap.size w w' := by
  have HIO := Sd.mk hio
  have HS := Sd.mk hs
  have hi4 := hx.hi
  have ho4 := hx.ho
  have hps := hs.short
  obtain ⟨n, hn⟩ : ∃ n, n = p.length + 1 := ⟨_, rfl⟩
  have HN := Sd.mk hn
  have hnp : p.length < n := by omega
  have hnp2 : n ≤ 1048578 := by omega
  have P0 : Sd (PAt w ((w.alloc (.cells #[.int .i64 x.N, .int .i64 x.start, .int .i64 x.inp, .int .i64 x.out, .slice A x.mvs.length c] 24)).alloc (.cells #[.int .i64 y.N, .int .i64 y.start, .int .i64 y.inp, .int .i64 y.out, .slice A' y.mvs.length c'] 24)) x y A A' c c') := ⟨by
    have hB : Below w.heap.size w ((w.alloc (.cells #[.int .i64 x.N, .int .i64 x.start, .int .i64 x.inp, .int .i64 x.out, .slice A x.mvs.length c] 24)).alloc (.cells #[.int .i64 y.N, .int .i64 y.start, .int .i64 y.inp, .int .i64 y.out, .slice A' y.mvs.length c'] 24)) := (alloc_below _ _).alloc (by simp) _
    exact ⟨(heap_alloc_old _ _ (by simp)).trans (heap_alloc_new w _), alloc_at _ _ (w.heap.size + 1) (by simp), hB, hr.below hB, hr'.below hB, hT.below hB⟩⟩
  clear hr hr' hT hs hio hn
  go_enter Tryd.func3, Tryd.ntmps3
  go_upto_region 3 with (first | (go_at_call 5; refine (awake_calls _ P0.out.tb).mono ?_; rintro e w1 ⟨rfl, hB1⟩; have P1 := Sd.mk (P0.out.later hB1); clear hB1) | fail)
  obtain ⟨x0, x1, x2, x3, x4, y0, y1, y2, y3, y4⟩ := (two_boxes (w := w) P1.out.bx P1.out.bY P1.out.below).2.2.2
  go_upto_region 4 with (first | (go_at_call 6; refine (two_good _ x y A A' c c' P1.out.rx P1.out.ry).mono ?_; rintro e w2 ⟨code, rfl, hB2⟩; have P2 := Sd.mk (P1.out.later hB2); clear hB2) | fail)
  · clear x0 x1 x2 x3 x4 y0 y1 y2 y3 y4
    go_wp2
    go_ret
    exact ⟨rfl, P2.out.below⟩
  clear x0 x1 x2 x3 x4 y0 y1 y2 y3 y4
  have K0 := Sd.mk (two_boxes (w := w) P2.out.drew.bx P2.out.drew.bY P2.out.drew.below)
  go_region_held3 (fun wx => wx.heap[w.heap.size]? = some (.cells #[.int .i64 x.N, .int .i64 x.start, .int .i64 x.inp, .int .i64 x.out, .slice A x.mvs.length c] 24 (0, 0)) ∧ wx.heap[w.heap.size + 1]? = some (.cells #[.int .i64 y.N, .int .i64 y.start, .int .i64 y.inp, .int .i64 y.out, .slice A' y.mvs.length c'] 24 (0, 0)) ∧ Below w.heap.size w wx ∧ wx.cell? ⟨w.heap.size, 0, none⟩ = some (.int .i64 x.N) ∧ wx.cell? ⟨w.heap.size, 1, none⟩ = some (.int .i64 x.start) ∧ wx.cell? ⟨w.heap.size, 2, none⟩ = some (.int .i64 x.inp) ∧ wx.cell? ⟨w.heap.size, 3, none⟩ = some (.int .i64 x.out) ∧ wx.cell? ⟨w.heap.size, 4, none⟩ = some (.slice A x.mvs.length c) ∧ wx.cell? ⟨w.heap.size + 1, 0, none⟩ = some (.int .i64 y.N) ∧ wx.cell? ⟨w.heap.size + 1, 1, none⟩ = some (.int .i64 y.start) ∧ wx.cell? ⟨w.heap.size + 1, 2, none⟩ = some (.int .i64 y.inp) ∧ wx.cell? ⟨w.heap.size + 1, 3, none⟩ = some (.int .i64 y.out) ∧ wx.cell? ⟨w.heap.size + 1, 4, none⟩ = some (.slice A' y.mvs.length c'))
    (first | exact K0.out | (go_split_ands; exact two_kept (by assumption) (by assumption) (by assumption) (by assumption)) | fail)
    (first | (go_at_call_of 8 (Value.agg #[Value.int IntKind.i64 x.N, Value.int IntKind.i64 x.start, Value.int IntKind.i64 x.inp, Value.int IntKind.i64 x.out, Value.slice A x.mvs.length c]); refine (own_calls w2.drew x hx A c P2.out.rx).mono ?_; rintro e wa1 ⟨Awa1, cwa1, rfl, rwa1, hBwa1⟩) | (go_at_call_of 8 (Value.agg #[Value.int IntKind.i64 x.N, Value.int IntKind.i64 x.start, Value.int IntKind.i64 x.inp, Value.int IntKind.i64 x.out, Value.slice A x.mvs.length c]); refine (own_calls wa1 x hx A c (P2.out.drew.rx.below hBwa1)).mono ?_; rintro e wb1 ⟨Awb1, cwb1, rfl, rwb1, hBwb1⟩) | (go_at_call 7; refine (conf_self wb1 ((P2.out.drew.tb.below hBwa1).below hBwb1) x hx Awa1 Awb1 cwa1 cwb1 (rwa1.below hBwb1) rwb1).mono ?_; rintro e wc ⟨rfl, hBwc⟩) | fail)
  have P3 := Sd.mk (((P2.out.drew.later hBwa1).later hBwb1).later hBwc)
  clear hBwa1 hBwb1 hBwc rwa1 rwb1 K0
  go_wp2_with fail
  have K0 := Sd.mk (two_boxes (w := w) P3.out.drew.bx P3.out.drew.bY P3.out.drew.below)
  go_region_held3 (fun wx => wx.heap[w.heap.size]? = some (.cells #[.int .i64 x.N, .int .i64 x.start, .int .i64 x.inp, .int .i64 x.out, .slice A x.mvs.length c] 24 (0, 0)) ∧ wx.heap[w.heap.size + 1]? = some (.cells #[.int .i64 y.N, .int .i64 y.start, .int .i64 y.inp, .int .i64 y.out, .slice A' y.mvs.length c'] 24 (0, 0)) ∧ Below w.heap.size w wx ∧ wx.cell? ⟨w.heap.size, 0, none⟩ = some (.int .i64 x.N) ∧ wx.cell? ⟨w.heap.size, 1, none⟩ = some (.int .i64 x.start) ∧ wx.cell? ⟨w.heap.size, 2, none⟩ = some (.int .i64 x.inp) ∧ wx.cell? ⟨w.heap.size, 3, none⟩ = some (.int .i64 x.out) ∧ wx.cell? ⟨w.heap.size, 4, none⟩ = some (.slice A x.mvs.length c) ∧ wx.cell? ⟨w.heap.size + 1, 0, none⟩ = some (.int .i64 y.N) ∧ wx.cell? ⟨w.heap.size + 1, 1, none⟩ = some (.int .i64 y.start) ∧ wx.cell? ⟨w.heap.size + 1, 2, none⟩ = some (.int .i64 y.inp) ∧ wx.cell? ⟨w.heap.size + 1, 3, none⟩ = some (.int .i64 y.out) ∧ wx.cell? ⟨w.heap.size + 1, 4, none⟩ = some (.slice A' y.mvs.length c'))
    (first | exact K0.out | (go_split_ands; exact two_kept (by assumption) (by assumption) (by assumption) (by assumption)) | fail)
    (first | (go_at_call_of 8 (Value.agg #[Value.int IntKind.i64 x.N, Value.int IntKind.i64 x.start, Value.int IntKind.i64 x.inp, Value.int IntKind.i64 x.out, Value.slice A x.mvs.length c]); refine (own_calls wc.drew x hx A c P3.out.rx).mono ?_; rintro e wa2 ⟨Awa2, cwa2, rfl, rwa2, hBwa2⟩) | (go_at_call_of 8 (Value.agg #[Value.int IntKind.i64 y.N, Value.int IntKind.i64 y.start, Value.int IntKind.i64 y.inp, Value.int IntKind.i64 y.out, Value.slice A' y.mvs.length c']); refine (own_calls wa2 y hy A' c' (P3.out.drew.ry.below hBwa2)).mono ?_; rintro e wb2 ⟨Awb2, cwb2, rfl, rwb2, hBwb2⟩) | (go_at_call 7; refine (conf_some wb2 ((P3.out.drew.tb.below hBwa2).below hBwb2) x y hx hy HIO.out Awa2 Awb2 cwa2 cwb2 (rwa2.below hBwb2) rwb2 p e0 HS.out n HN.out).mono ?_; rintro e wd ⟨at_, ct, rfl, hrt, hBwc⟩) | fail)
  have P4 := Sd.mk (((P3.out.drew.later hBwa2).later hBwb2).later hBwc)
  have RT4 := Sd.mk hrt
  clear hBwa2 hBwb2 hBwc rwa2 rwb2 K0 hrt
  go_wp2_with fail
  have K0 := Sd.mk (two_boxes (w := w) P4.out.drew.bx P4.out.drew.bY P4.out.drew.below)
  go_region_held3 (fun wx => wx.heap[w.heap.size]? = some (.cells #[.int .i64 x.N, .int .i64 x.start, .int .i64 x.inp, .int .i64 x.out, .slice A x.mvs.length c] 24 (0, 0)) ∧ wx.heap[w.heap.size + 1]? = some (.cells #[.int .i64 y.N, .int .i64 y.start, .int .i64 y.inp, .int .i64 y.out, .slice A' y.mvs.length c'] 24 (0, 0)) ∧ Below w.heap.size w wx ∧ wx.cell? ⟨w.heap.size, 0, none⟩ = some (.int .i64 x.N) ∧ wx.cell? ⟨w.heap.size, 1, none⟩ = some (.int .i64 x.start) ∧ wx.cell? ⟨w.heap.size, 2, none⟩ = some (.int .i64 x.inp) ∧ wx.cell? ⟨w.heap.size, 3, none⟩ = some (.int .i64 x.out) ∧ wx.cell? ⟨w.heap.size, 4, none⟩ = some (.slice A x.mvs.length c) ∧ wx.cell? ⟨w.heap.size + 1, 0, none⟩ = some (.int .i64 y.N) ∧ wx.cell? ⟨w.heap.size + 1, 1, none⟩ = some (.int .i64 y.start) ∧ wx.cell? ⟨w.heap.size + 1, 2, none⟩ = some (.int .i64 y.inp) ∧ wx.cell? ⟨w.heap.size + 1, 3, none⟩ = some (.int .i64 y.out) ∧ wx.cell? ⟨w.heap.size + 1, 4, none⟩ = some (.slice A' y.mvs.length c'))
    (first | exact K0.out | (go_split_ands; exact two_kept (by assumption) (by assumption) (by assumption) (by assumption)) | fail)
    (first | (go_at_call_of 8 (Value.agg #[Value.int IntKind.i64 x.N, Value.int IntKind.i64 x.start, Value.int IntKind.i64 x.inp, Value.int IntKind.i64 x.out, Value.slice A x.mvs.length c]); refine (own_calls wd.drew x hx A c P4.out.rx).mono ?_; rintro e wa3 ⟨Awa3, cwa3, rfl, rwa3, hBwa3⟩) | (go_at_call_of 8 (Value.agg #[Value.int IntKind.i64 y.N, Value.int IntKind.i64 y.start, Value.int IntKind.i64 y.inp, Value.int IntKind.i64 y.out, Value.slice A' y.mvs.length c']); refine (own_calls wa3 y hy A' c' (P4.out.drew.ry.below hBwa3)).mono ?_; rintro e wb3 ⟨Awb3, cwb3, rfl, rwb3, hBwb3⟩) | (go_at_call 9; refine (rel_some wb3 ((P4.out.drew.tb.below hBwa3).below hBwb3) x y hx hy HIO.out Awa3 Awb3 cwa3 cwb3 (rwa3.below hBwb3) rwb3 p e0 HS.out).mono ?_; rintro e we ⟨rfl, hBwc⟩) | fail)
  have P5 := Sd.mk (((P4.out.drew.later hBwa3).later hBwb3).later hBwc)
  have RT5 := Sd.mk ((((show RdI wd.drew (some at_) (p ++ [e0]) from RT4.out).below hBwa3).below hBwb3).below hBwc)
  clear hBwa3 hBwb3 hBwc rwa3 rwb3 K0 RT4
  have hn0 : ((n : Int) == 0) = false := by rw [beq_eq_false_iff_ne]; omega
  go_wp2_with fail
  have K0 := Sd.mk (two_boxes (w := w) P5.out.drew.bx P5.out.drew.bY P5.out.drew.below)
  go_region_held3 (fun wx => wx.heap[w.heap.size]? = some (.cells #[.int .i64 x.N, .int .i64 x.start, .int .i64 x.inp, .int .i64 x.out, .slice A x.mvs.length c] 24 (0, 0)) ∧ wx.heap[w.heap.size + 1]? = some (.cells #[.int .i64 y.N, .int .i64 y.start, .int .i64 y.inp, .int .i64 y.out, .slice A' y.mvs.length c'] 24 (0, 0)) ∧ Below w.heap.size w wx ∧ wx.cell? ⟨w.heap.size, 0, none⟩ = some (.int .i64 x.N) ∧ wx.cell? ⟨w.heap.size, 1, none⟩ = some (.int .i64 x.start) ∧ wx.cell? ⟨w.heap.size, 2, none⟩ = some (.int .i64 x.inp) ∧ wx.cell? ⟨w.heap.size, 3, none⟩ = some (.int .i64 x.out) ∧ wx.cell? ⟨w.heap.size, 4, none⟩ = some (.slice A x.mvs.length c) ∧ wx.cell? ⟨w.heap.size + 1, 0, none⟩ = some (.int .i64 y.N) ∧ wx.cell? ⟨w.heap.size + 1, 1, none⟩ = some (.int .i64 y.start) ∧ wx.cell? ⟨w.heap.size + 1, 2, none⟩ = some (.int .i64 y.inp) ∧ wx.cell? ⟨w.heap.size + 1, 3, none⟩ = some (.int .i64 y.out) ∧ wx.cell? ⟨w.heap.size + 1, 4, none⟩ = some (.slice A' y.mvs.length c'))
    (first | exact K0.out | (go_split_ands; exact two_kept (by assumption) (by assumption) (by assumption) (by assumption)) | fail)
    (first | (go_at_call_of 12 (Value.agg #[Value.int IntKind.i64 x.N, Value.int IntKind.i64 x.start, Value.int IntKind.i64 x.inp, Value.int IntKind.i64 x.out, Value.slice A x.mvs.length c]); refine (initial_calls we.drew x hx A c P5.out.rx).mono ?_; rintro e wf ⟨va, rfl, hoa, hBf⟩; obtain ⟨ba, ca, hva, _, hra⟩ := hoa.read; subst hva) | (go_at_call_of 12 (Value.agg #[Value.int IntKind.i64 y.N, Value.int IntKind.i64 y.start, Value.int IntKind.i64 y.inp, Value.int IntKind.i64 y.out, Value.slice A' y.mvs.length c']); refine (initial_calls wf y hy A' c' (P5.out.drew.ry.below hBf)).mono ?_; rintro e wg ⟨vb, rfl, hob, hBg⟩; obtain ⟨bb, cb, hvb, _, hrb⟩ := hob.read; subst hvb) | fail)
  have P6 := Sd.mk ((P5.out.drew.later hBf).later hBg)
  have RT6 := Sd.mk (((show RdI we.drew (some at_) (p ++ [e0]) from RT5.out).below hBf).below hBg)
  have RA6 := Sd.mk (hra.below hBg)
  have RB6 := Sd.mk hrb
  clear hBf hBg hoa hob hra hrb K0 RT5
  go_wp2_with fail
  go_loopw [15, 16, 17] (fun sa sb i wq => ∃ k : Nat, i = .int .i64 k ∧ k ≤ n ∧ Sd (PAt w wq x y A A' c c') ∧ Sd (RdI wq (some at_) (p ++ [e0])) ∧ Sd (SetAt wq sa (alongS (sysOf x) (p.take k))) ∧ Sd (SetAt wq sb (alongS (sysOf y) (p.take k)))) (fun _ _ i _ => n - (intOf i).toNat)
  case atStart => exact ⟨0, rfl, Nat.zero_le _, P6, RT6, ⟨⟨_, _, _, rfl, rfl, RA6.out⟩⟩, ⟨⟨_, _, _, rfl, rfl, RB6.out⟩⟩⟩
  case round =>
    obtain ⟨W1, hW1⟩ : ∃ W : World, W = wr := ⟨wr, rfl⟩
    subst hW1
    obtain ⟨k, rfl, hk, hP, hRT, hSA, hSB⟩ := hrel
    by_cases hkl : k < n
    · obtain ⟨Aa, na, ca2, rfl, hna, hra⟩ := hSA.out
      obtain ⟨Ab, nb, cb2, rfl, hnb, hrb⟩ := hSB.out
      have HNa := Sd.mk hna
      have HNb := Sd.mk hnb
      have HRa := Sd.mk hra
      have HRb := Sd.mk hrb
      have hla := along_lt x hx (p.take k)
      have hlb := along_lt y hy (p.take k)
      have HF := Sd.mk (find_shown x y HIO.out (alongS (sysOf x) (p.take k)) (alongS (sysOf y) (p.take k)))
      have hSl := shownL_len x (alongS (sysOf x) (p.take k)) (x.out + 1)
      have hTl := shownL_len y (alongS (sysOf y) (p.take k)) (y.out + 1)
      have hyo := hy.ho
      have K0 := Sd.mk (two_boxes (w := w) hP.out.drew.bx hP.out.drew.bY hP.out.drew.below)
      clear hna hnb hra hrb hSA hSB
      go_wp2_with fail
      go_region_held3 (fun wx => wx.heap[w.heap.size]? = some (.cells #[.int .i64 x.N, .int .i64 x.start, .int .i64 x.inp, .int .i64 x.out, .slice A x.mvs.length c] 24 (0, 0)) ∧ wx.heap[w.heap.size + 1]? = some (.cells #[.int .i64 y.N, .int .i64 y.start, .int .i64 y.inp, .int .i64 y.out, .slice A' y.mvs.length c'] 24 (0, 0)) ∧ Below w.heap.size w wx ∧ wx.cell? ⟨w.heap.size, 0, none⟩ = some (.int .i64 x.N) ∧ wx.cell? ⟨w.heap.size, 1, none⟩ = some (.int .i64 x.start) ∧ wx.cell? ⟨w.heap.size, 2, none⟩ = some (.int .i64 x.inp) ∧ wx.cell? ⟨w.heap.size, 3, none⟩ = some (.int .i64 x.out) ∧ wx.cell? ⟨w.heap.size, 4, none⟩ = some (.slice A x.mvs.length c) ∧ wx.cell? ⟨w.heap.size + 1, 0, none⟩ = some (.int .i64 y.N) ∧ wx.cell? ⟨w.heap.size + 1, 1, none⟩ = some (.int .i64 y.start) ∧ wx.cell? ⟨w.heap.size + 1, 2, none⟩ = some (.int .i64 y.inp) ∧ wx.cell? ⟨w.heap.size + 1, 3, none⟩ = some (.int .i64 y.out) ∧ wx.cell? ⟨w.heap.size + 1, 4, none⟩ = some (.slice A' y.mvs.length c'))
        (first | exact K0.out | (go_split_ands; exact two_kept (by assumption) (by assumption) (by assumption) (by assumption)) | fail)
        (first | (go_at_call_of 13 (Value.agg #[Value.int IntKind.i64 x.N, Value.int IntKind.i64 x.start, Value.int IntKind.i64 x.inp, Value.int IntKind.i64 x.out, Value.slice A x.mvs.length c]); refine (shown_calls W1.drew x hx A c hP.out.rx Aa ca2 na _ HNa.out hla HRa.out).mono ?_; rintro e ws ⟨vs, rfl, hos, hBs⟩; obtain ⟨bs, cs, hvs, _, hrs⟩ := hos.read; subst hvs) | (go_at_call_of 13 (Value.agg #[Value.int IntKind.i64 y.N, Value.int IntKind.i64 y.start, Value.int IntKind.i64 y.inp, Value.int IntKind.i64 y.out, Value.slice A' y.mvs.length c']); refine (shown_calls ws y hy A' c' (hP.out.drew.ry.below hBs) Ab cb2 nb _ HNb.out hlb ((show RdI W1.drew Ab _ from HRb.out).below hBs)).mono ?_; rintro e wt ⟨vt, rfl, hot, hBt⟩; obtain ⟨bt, ct2, hvt, _, hrt⟩ := hot.read; subst hvt) | fail)
      have P7 := Sd.mk ((hP.out.drew.later hBs).later hBt)
      have RT7 := Sd.mk (((show RdI W1.drew (some at_) (p ++ [e0]) from hRT.out).below hBs).below hBt)
      have RA7 := Sd.mk (((show RdI W1.drew Aa _ from HRa.out).below hBs).below hBt)
      have RB7 := Sd.mk (((show RdI W1.drew Ab _ from HRb.out).below hBs).below hBt)
      have RS7 := Sd.mk (hrs.below hBt)
      have RTt := Sd.mk hrt
      clear hBs hBt hos hot hrs hrt K0 HRa HRb hP hRT
      generalize shownL x (alongS (sysOf x) (p.take k)) (x.out + 1) = S at *
      generalize shownL y (alongS (sysOf y) (p.take k)) (y.out + 1) = T at *
      go_wp2_with fail
      go_loop [18, 21] (fun wv i => ∃ j : Nat, i = .int .i64 j ∧ j ≤ S.length ∧ wv = .int .i64 (wz ((S.take j).find? fun a => decide (a ∉ T)))) (fun _ i => S.length - (intOf i).toNat)
      case atStart => exact ⟨0, rfl, Nat.zero_le _, rfl⟩
      case round =>
        obtain ⟨j, rfl, hj, rfl⟩ := hrel
        by_cases hjl : j < S.length
        · obtain ⟨as_, q1, q2⟩ := RS7.out j hjl
          subst q1
          have hst := Sd.mk (find_take T S j hjl)
          generalize S.getD j 0 = a at *
          generalize (S.take j).find? (fun a => decide (a ∉ T)) = fo at *
          rcases fo with _ | v
          · rw [show wz none = -1 from rfl]
            by_cases hm : a ∈ T
            · have HH : Sd (decide (a ∈ T) = true) := ⟨decide_eq_true hm⟩
              have HNx : Sd ((S.take (j + 1)).find? (fun a => decide (a ∉ T)) = none) := ⟨by rw [hst.out, if_pos hm]; rfl⟩
              clear hm
              go_wp2_with (first | (go_at_call 14; refine (has_calls _ bt ct2 T (by omega) RTt.out a).mono ?_; rintro e w5 ⟨he, rfl⟩; rw [HH.out] at he; subst he) | fail)
              go_round
              case rel => exact ⟨j + 1, by go_num, by omega, by rw [HNx.out]; rfl⟩
              case measure => simp [intOf]; omega
            · have HH : Sd (decide (a ∈ T) = false) := ⟨decide_eq_false hm⟩
              have HNx : Sd ((S.take (j + 1)).find? (fun a => decide (a ∉ T)) = some a) := ⟨by rw [hst.out, if_neg hm]; rfl⟩
              clear hm
              go_wp2_with (first | (go_at_call 14; refine (has_calls _ bt ct2 T (by omega) RTt.out a).mono ?_; rintro e w5 ⟨he, rfl⟩; rw [HH.out] at he; subst he) | fail)
              go_round
              case rel => exact ⟨j + 1, by go_num, by omega, by rw [HNx.out]; rfl⟩
              case measure => simp [intOf]; omega
          · rw [show wz (some v) = (v : Int) from rfl]
            have hv : ((v : Int) == -1) = false := by rw [beq_eq_false_iff_ne]; omega
            have HNx : Sd ((S.take (j + 1)).find? (fun a => decide (a ∉ T)) = some v) := ⟨by rw [hst.out]; rfl⟩
            go_wp2_with fail
            go_round
            case rel => exact ⟨j + 1, by go_num, by omega, by rw [HNx.out]; rfl⟩
            case measure => simp [intOf]; omega
        · obtain rfl : j = S.length := by omega
          rw [List.take_length, HF.out]
          by_cases hkp : k < p.length
          · rw [HS.out.le k hkp, show wz none = -1 from rfl]
            have hkn : ((k : Int) == (n : Int) - 1) = false := by rw [beq_eq_false_iff_ne]; have := HN.out; omega
            obtain ⟨ad, ha, hc⟩ := RT7.out k (by rw [List.length_append, List.length_singleton]; omega)
            cases ha
            have hevp := HS.out.ev _ (getD_mem hkp)
            rw [gd_lt hkp] at hc
            have HAX := Sd.mk (along_take (sysOf x) p k hkp)
            have HAY := Sd.mk (along_take (sysOf y) p k hkp)
            have hne := along_ne (sysOf y) p HS.out.ne (k + 1)
            have hlb2 := along_lt y hy (p.take (k + 1))
            rw [HAY.out] at hne hlb2
            generalize p.getD k 0 = ev at *
            have hevy : ev ≤ y.inp + y.out := by have := HIO.out; omega
            have K0 := Sd.mk (tr_mk (w := w) P7.out.drew.bx P7.out.drew.bY P7.out.drew.below (show wt.drew.cell? _ = _ from hc))
            have hbp := bitsL_pos _ (small_1024 y hy hlb2)
            have hi0 : (0 : Int) ≤ (k : Int) := by omega
            have hi1 : (k : Int) < (n : Int) := by omega
            go_wp2_with fail
            go_region_held3 (fun wx => wx.heap[w.heap.size]? = some (.cells #[.int .i64 x.N, .int .i64 x.start, .int .i64 x.inp, .int .i64 x.out, .slice A x.mvs.length c] 24 (0, 0)) ∧ wx.heap[w.heap.size + 1]? = some (.cells #[.int .i64 y.N, .int .i64 y.start, .int .i64 y.inp, .int .i64 y.out, .slice A' y.mvs.length c'] 24 (0, 0)) ∧ Below w.heap.size w wx ∧ wx.cell? ⟨w.heap.size, 0, none⟩ = some (.int .i64 x.N) ∧ wx.cell? ⟨w.heap.size, 1, none⟩ = some (.int .i64 x.start) ∧ wx.cell? ⟨w.heap.size, 2, none⟩ = some (.int .i64 x.inp) ∧ wx.cell? ⟨w.heap.size, 3, none⟩ = some (.int .i64 x.out) ∧ wx.cell? ⟨w.heap.size, 4, none⟩ = some (.slice A x.mvs.length c) ∧ wx.cell? ⟨w.heap.size + 1, 0, none⟩ = some (.int .i64 y.N) ∧ wx.cell? ⟨w.heap.size + 1, 1, none⟩ = some (.int .i64 y.start) ∧ wx.cell? ⟨w.heap.size + 1, 2, none⟩ = some (.int .i64 y.inp) ∧ wx.cell? ⟨w.heap.size + 1, 3, none⟩ = some (.int .i64 y.out) ∧ wx.cell? ⟨w.heap.size + 1, 4, none⟩ = some (.slice A' y.mvs.length c') ∧ wx.cell? (at_.add k) = some (.int .i64 (ev : Int)))
              (first | exact K0.out | exact tr_kept ‹_ ∧ _ ∧ _ ∧ _ ∧ _ ∧ _ ∧ _ ∧ _ ∧ _ ∧ _ ∧ _ ∧ _ ∧ _ ∧ _› (by assumption) | fail)
              (first | (go_at_call_of 15 (Value.agg #[Value.int IntKind.i64 x.N, Value.int IntKind.i64 x.start, Value.int IntKind.i64 x.inp, Value.int IntKind.i64 x.out, Value.slice A x.mvs.length c]); refine (afterR_int wt.drew x hx A c P7.out.drew.rx Aa ca2 na _ HNa.out hla (show RdI wt.drew Aa _ from RA7.out) ev hevp _ rfl).mono ?_; rintro e wu ⟨vu, rfl, hou, hBu⟩; obtain ⟨bu, cu, hvu, _, hru⟩ := hou.read; subst hvu) | (go_at_call_of 15 (Value.agg #[Value.int IntKind.i64 y.N, Value.int IntKind.i64 y.start, Value.int IntKind.i64 y.inp, Value.int IntKind.i64 y.out, Value.slice A' y.mvs.length c']); refine (afterR_int wu y hy A' c' (P7.out.drew.ry.below hBu) Ab cb2 nb _ HNb.out hlb ((show RdI wt.drew Ab _ from RB7.out).below hBu) ev hevy _ rfl).mono ?_; rintro e wv ⟨vv, rfl, hov, hBv⟩; obtain ⟨bv, cv, hvv, _, hrv⟩ := hov.read; subst hvv) | fail)
            have P9 := Sd.mk ((P7.out.drew.later hBu).later hBv)
            have RT9 := Sd.mk (((show RdI wt.drew (some at_) (p ++ [e0]) from RT7.out).below hBu).below hBv)
            have SA9 : Sd (SetAt wv (.slice bu (bitsL (afterS (sysOf x) (alongS (sysOf x) (p.take k)) ev)).length cu) (alongS (sysOf x) (p.take (k + 1)))) := ⟨⟨bu, _, cu, rfl, by rw [HAX.out], by rw [HAX.out]; exact hru.below hBv⟩⟩
            have SB9 : Sd (SetAt wv (.slice bv (bitsL (afterS (sysOf y) (alongS (sysOf y) (p.take k)) ev)).length cv) (alongS (sysOf y) (p.take (k + 1)))) := ⟨⟨bv, _, cv, rfl, by rw [HAY.out], by rw [HAY.out]; exact hrv⟩⟩
            clear hBu hBv hou hov hru hrv K0 hc
            generalize (bitsL (afterS (sysOf x) (alongS (sysOf x) (p.take k)) ev)).length = nu at *
            generalize (bitsL (afterS (sysOf y) (alongS (sysOf y) (p.take k)) ev)).length = nv at *
            have hnv : ((nv : Int) == 0) = false := by rw [beq_eq_false_iff_ne]; omega
            clear hbp hne hlb2
            go_wp2
            go_roundw
            case rel => exact ⟨k + 1, by go_num, by omega, P9, RT9, SA9, SB9⟩
            case measure => simp [intOf]; omega
          · obtain rfl : k = p.length := by have := HN.out; omega
            have HFl := Sd.mk HS.out.fl
            have htk : p.take p.length = p := List.take_length
            rw [htk, HFl.out, show wz (some e0) = (e0 : Int) from rfl]
            obtain ⟨ad, ha, hc⟩ := RT7.out p.length (by rw [List.length_append, List.length_singleton]; omega)
            cases ha
            rw [gd_eq rfl] at hc
            have hw1 : ((e0 : Int) != -1) = true := by rw [bne_iff_ne]; omega
            have hkn : ((p.length : Int) != (n : Int) - 1) = false := by
              rw [bne_eq_false_iff_eq]; have := HN.out; omega
            have hi0 : (0 : Int) ≤ (p.length : Int) := by omega
            have hi1 : (p.length : Int) < (n : Int) := by omega
            have SA9 : Sd (SetAt wt (.slice Aa na ca2) (alongS (sysOf x) (p.take (p.length + 1)))) := ⟨⟨Aa, na, ca2, rfl, by rw [HNa.out, htk, List.take_of_length_le (by omega)], by rw [List.take_of_length_le (by omega), ← htk]; exact RA7.out⟩⟩
            have SB9 : Sd (SetAt wt (.slice Ab nb cb2) (alongS (sysOf y) (p.take (p.length + 1)))) := ⟨⟨Ab, nb, cb2, rfl, by rw [HNb.out, htk, List.take_of_length_le (by omega)], by rw [List.take_of_length_le (by omega), ← htk]; exact RB7.out⟩⟩
            clear htk
            go_wp2
            go_roundw
            case rel => exact ⟨p.length + 1, by go_num, by omega, P7, RT7, SA9, SB9⟩
            case measure => simp [intOf]; omega
    · obtain rfl : n = k := by omega
      obtain ⟨Aa, na, ca2, rfl, hna, hra⟩ := hSA.out
      obtain ⟨Ab, nb, cb2, rfl, hnb, hrb⟩ := hSB.out
      clear hna hra hnb hrb hSA hSB
      go_wp2_with fail
      go_loopw [22] (fun i wq => ∃ d : Nat, i = .int .i64 d ∧ d ≤ 3 ∧ Sd (PAt w wq x y A A' c c')) (fun i _ => 3 - (intOf i).toNat)
      case atStart => exact ⟨0, rfl, Nat.zero_le _, hP⟩
      case round =>
        obtain ⟨W8, hW8⟩ : ∃ W : World, W = wr := ⟨wr, rfl⟩
        subst hW8
        obtain ⟨d, rfl, hd, hP8⟩ := hrel
        by_cases hdl : d < 3
        · have hd2 : decide ((d : Int) ≤ 2) = true := decide_eq_true (by omega)
          have K0 := Sd.mk (two_boxes (w := w) hP8.out.drew.bx hP8.out.drew.bY hP8.out.drew.below)
          go_wp2_with fail
          go_region_held3 (fun wx => wx.heap[w.heap.size]? = some (.cells #[.int .i64 x.N, .int .i64 x.start, .int .i64 x.inp, .int .i64 x.out, .slice A x.mvs.length c] 24 (0, 0)) ∧ wx.heap[w.heap.size + 1]? = some (.cells #[.int .i64 y.N, .int .i64 y.start, .int .i64 y.inp, .int .i64 y.out, .slice A' y.mvs.length c'] 24 (0, 0)) ∧ Below w.heap.size w wx ∧ wx.cell? ⟨w.heap.size, 0, none⟩ = some (.int .i64 x.N) ∧ wx.cell? ⟨w.heap.size, 1, none⟩ = some (.int .i64 x.start) ∧ wx.cell? ⟨w.heap.size, 2, none⟩ = some (.int .i64 x.inp) ∧ wx.cell? ⟨w.heap.size, 3, none⟩ = some (.int .i64 x.out) ∧ wx.cell? ⟨w.heap.size, 4, none⟩ = some (.slice A x.mvs.length c) ∧ wx.cell? ⟨w.heap.size + 1, 0, none⟩ = some (.int .i64 y.N) ∧ wx.cell? ⟨w.heap.size + 1, 1, none⟩ = some (.int .i64 y.start) ∧ wx.cell? ⟨w.heap.size + 1, 2, none⟩ = some (.int .i64 y.inp) ∧ wx.cell? ⟨w.heap.size + 1, 3, none⟩ = some (.int .i64 y.out) ∧ wx.cell? ⟨w.heap.size + 1, 4, none⟩ = some (.slice A' y.mvs.length c'))
            (first | exact K0.out | (go_split_ands; exact two_kept (by assumption) (by assumption) (by assumption) (by assumption)) | fail)
            (first | (go_at_call_of 8 (Value.agg #[Value.int IntKind.i64 x.N, Value.int IntKind.i64 x.start, Value.int IntKind.i64 x.inp, Value.int IntKind.i64 x.out, Value.slice A x.mvs.length c]); refine (own_calls W8.drew x hx A c hP8.out.rx).mono ?_; rintro e wa4 ⟨Awa4, cwa4, rfl, rwa4, hBwa4⟩) | (go_at_call_of 8 (Value.agg #[Value.int IntKind.i64 y.N, Value.int IntKind.i64 y.start, Value.int IntKind.i64 y.inp, Value.int IntKind.i64 y.out, Value.slice A' y.mvs.length c']); refine (own_calls wa4 y hy A' c' (hP8.out.drew.ry.below hBwa4)).mono ?_; rintro e wb4 ⟨Awb4, cwb4, rfl, rwb4, hBwb4⟩) | (go_at_call 11; refine (pass_some wb4 ((hP8.out.drew.tb.below hBwa4).below hBwb4) x y hx hy HIO.out Awa4 Awb4 cwa4 cwb4 (rwa4.below hBwb4) rwb4 p e0 HS.out d (by omega)).mono ?_; rintro e wg ⟨hBwc, v, code2, rfl, hcode⟩) | fail)
          have P9 := Sd.mk (((hP8.out.drew.later hBwa4).later hBwb4).later hBwc)
          clear hBwa4 hBwb4 hBwc rwa4 rwb4 K0
          rcases hcode with rfl | ⟨rfl, hpd⟩ | ⟨rfl, hpd⟩
          · go_wp2
            go_roundw
            case rel => exact ⟨d + 1, by go_num, by omega, P9⟩
            case measure => simp [intOf]; omega
          · have hge : decide ((n : Int) - 1 ≤ (d : Int)) = true := decide_eq_true (by have := HN.out; omega)
            go_wp2
            go_roundw
            case rel => exact ⟨d + 1, by go_num, by omega, P9⟩
            case measure => simp [intOf]; omega
          · have hge : decide ((n : Int) - 1 ≤ (d : Int)) = false := decide_eq_false (by have := HN.out; omega)
            go_wp2
            go_roundw
            case rel => exact ⟨d + 1, by go_num, by omega, P9⟩
            case measure => simp [intOf]; omega
        · obtain rfl : d = 3 := by omega
          go_wp2
          go_ret
          exact ⟨rfl, hP8.out.below⟩
end Go.Proofs.YtcbhaeniahckhaaDoor
end
section
set_option linter.unusedSimpArgs false
namespace Go.Proofs.YtcbhaeniahckhaaDoor
open Go.RowKit Go.Shelf Go.Deep Go.Proofs.YtcbhaeniahckhaaDoorW.PrintLast
def Mz.toMv (m : Mz) : Mv := ⟨m.frm.toNat, m.kind.toNat, m.lab.toNat, m.tgt.toNat⟩
def Raw.toRx (x : Raw) : Rx := ⟨x.N.toNat, x.start.toNat, x.inp.toNat, x.out.toNat, x.mvs.map Mz.toMv⟩
theorem getD_toMv (xs : List Mz) (i : Nat) : (xs.map Mz.toMv).getD i mvZ = (xs.getD i mzZ).toMv := by
  rw [List.getD_eq_getElem?_getD, List.getD_eq_getElem?_getD, List.getElem?_map]
  cases xs[i]? <;> rfl
theorem Mz.casts {x : Raw} {m : Mz} (h : m.good x) : ((m.toMv.frm : Int) = m.frm) ∧ ((m.toMv.kind : Int) = m.kind) ∧ ((m.toMv.lab : Int) = m.lab) ∧ ((m.toMv.tgt : Int) = m.tgt) := by
  obtain ⟨h1, h2, h3, h4, h5, h6⟩ := h
  unfold Mz.toMv
  simp only
  omega
theorem toRx_ok {x : Raw} (h : x.good) : x.toRx.ok := by
  obtain ⟨hN, hs, hi, ho, hm, hv, hsrt⟩ := h
  refine ⟨?_, ?_, ?_, ?_, by unfold Raw.toRx; simpa using hm, ?_, ?_⟩
  · show x.start.toNat < x.N.toNat; omega
  · show x.N.toNat ≤ 10; omega
  · show x.inp.toNat ≤ 4; omega
  · show x.out.toNat ≤ 4; omega
  · intro i hi'
    have hi2 : i + 1 < x.mvs.length := by simpa [Raw.toRx] using hi'
    show orL4 ((x.mvs.map Mz.toMv).getD i mvZ) ((x.mvs.map Mz.toMv).getD (i + 1) mvZ) < 0
    rw [getD_toMv, getD_toMv]
    obtain ⟨a1, a2, a3, a4⟩ := Mz.casts (hv i (by omega))
    obtain ⟨b1, b2, b3, b4⟩ := Mz.casts (hv (i + 1) hi2)
    unfold orL4
    rw [a1, a2, a3, a4, b1, b2, b3, b4]
    exact hsrt i hi2
  · intro m hm'
    have hm2 : m ∈ x.mvs.map Mz.toMv := hm'
    obtain ⟨z, hz, rfl⟩ := List.mem_map.1 hm2
    obtain ⟨j, hj, ej⟩ := List.getElem_of_mem hz
    have hg := hv j hj
    rw [List.getD_eq_getElem?_getD, List.getElem?_eq_getElem hj, Option.getD_some, ej] at hg
    obtain ⟨a1, a2, a3, a4⟩ := Mz.casts hg
    obtain ⟨h1, h2, h3, h4, h5, h6⟩ := hg
    refine ⟨?_, ?_, ?_⟩
    · show z.toMv.frm < x.N.toNat; omega
    · show z.toMv.tgt < x.N.toNat; omega
    · show z.toMv.kind = 0 ∧ z.toMv.lab < x.inp.toNat ∨ z.toMv.kind = 1 ∧ z.toMv.lab < x.out.toNat ∨ z.toMv.kind = 2 ∧ z.toMv.lab = 0
      omega
theorem toRx_read {x : Raw} (h : x.good) {w : World} {A : Option Addr} (hr : RdMz w A x.mvs) : RdM w A x.toRx.mvs := fun i hi => by
  have hi' : i < x.mvs.length := by simpa [Raw.toRx] using hi
  obtain ⟨ad, e1, e2, e3, e4, e5⟩ := hr i hi'
  obtain ⟨a1, a2, a3, a4⟩ := Mz.casts (h.mv i hi')
  have hg : x.toRx.mvs.getD i mvZ = (x.mvs.getD i mzZ).toMv := getD_toMv x.mvs i
  rw [hg, a1, a2, a3, a4]
  exact ⟨ad, e1, e2, e3, e4, e5⟩
theorem toRx_val {x : Raw} (h : x.good) (A : Option Addr) (c : Nat) : rawV x A c = .agg #[.int .i64 x.toRx.N, .int .i64 x.toRx.start, .int .i64 x.toRx.inp, .int .i64 x.toRx.out, .slice A x.toRx.mvs.length c] := by
  obtain ⟨hN, hs, hi, ho, hm, hv, hsrt⟩ := h
  have e1 : ((x.toRx.N : Nat) : Int) = x.N := by show ((x.N.toNat : Nat) : Int) = x.N; omega
  have e2 : ((x.toRx.start : Nat) : Int) = x.start := by show ((x.start.toNat : Nat) : Int) = x.start; omega
  have e3 : ((x.toRx.inp : Nat) : Int) = x.inp := by show ((x.inp.toNat : Nat) : Int) = x.inp; omega
  have e4 : ((x.toRx.out : Nat) : Int) = x.out := by show ((x.out.toNat : Nat) : Int) = x.out; omega
  have e5 : x.toRx.mvs.length = x.mvs.length := by simp [Raw.toRx]
  rw [e1, e2, e3, e4, e5]
  rfl
set_option maxHeartbeats 4000000 in
set_option maxRecDepth 100000 in
theorem proved_bad (w : World) (hT : Tab w) (x y : Raw) (A A' : Option Addr) (c c' : Nat) (hr : RdMz w A x.mvs) (hr' : RdMz w A' y.mvs) (hb : ¬ (x.good ∧ y.good ∧ x.inp = y.inp ∧ x.out = y.out)) :
    Calls Tryd.prog 3 #[rawV x A c, rawV y A' c'] w fun e w' => e = .returned (.bool true) ∧ Below w.heap.size w w' := by
  unfold rawV
  have hB0 : Below w.heap.size w ((w.alloc (.cells #[.int .i64 x.N, .int .i64 x.start, .int .i64 x.inp, .int .i64 x.out, .slice A x.mvs.length c] 24)).alloc (.cells #[.int .i64 y.N, .int .i64 y.start, .int .i64 y.inp, .int .i64 y.out, .slice A' y.mvs.length c'] 24)) := (alloc_below _ _).alloc (by simp) _
  have HR := Sd.mk (hr.below hB0)
  have HR' := Sd.mk (hr'.below hB0)
  have HT := Sd.mk (hT.below hB0)
  have HB0 := Sd.mk hB0
  have HBd := Sd.mk hb
  have K0 := Sd.mk (two_boxes (w := w) (W := ((w.alloc (.cells #[.int .i64 x.N, .int .i64 x.start, .int .i64 x.inp, .int .i64 x.out, .slice A x.mvs.length c] 24)).alloc (.cells #[.int .i64 y.N, .int .i64 y.start, .int .i64 y.inp, .int .i64 y.out, .slice A' y.mvs.length c'] 24))) ((heap_alloc_old _ _ (by simp)).trans (heap_alloc_new w _)) (alloc_at _ _ (w.heap.size + 1) (by simp)) hB0)
  clear hr hr' hT hB0 hb
  go_enter Tryd.func3, Tryd.ntmps3
  go_upto_region 3 with (first | (go_at_call 5; refine (awake_calls _ HT.out).mono ?_; rintro e w1 ⟨rfl, hB1⟩; have HB1 := Sd.mk hB1; have K1 := Sd.mk (two_kept K0.out.1 K0.out.2.1 K0.out.2.2.1 hB1); clear hB1) | fail)
  obtain ⟨x0, x1, x2, x3, x4, y0, y1, y2, y3, y4⟩ := K1.out.2.2.2
  go_wp2_with (first | (go_at_call 6; refine (twoErr_calls _ x y A A' c c' (HR.out.below HB1.out) (HR'.out.below HB1.out)).mono ?_; rintro e w2 ⟨code, rfl, hB2, hg⟩; have hc : (code != 0) = true := (bne_iff_ne.2 (fun h => HBd.out (hg h))); have HB2 := Sd.mk (below_then K1.out.2.2.1 K1.out.2.2.1.size hB2); clear hB2 hg) | fail)
  go_ret
  exact ⟨rfl, HB2.out⟩
/-- ConformProved answers true, whatever the systems -/
theorem proved_calls (w : World) (hT : Tab w) (x y : Raw) (A A' : Option Addr) (c c' : Nat) (hr : RdMz w A x.mvs) (hr' : RdMz w A' y.mvs) :
    Calls Tryd.prog 3 #[rawV x A c, rawV y A' c'] w fun e w' => e = .returned (.bool true) ∧ Below w.heap.size w w' := by
  by_cases hG : x.good ∧ y.good ∧ x.inp = y.inp ∧ x.out = y.out
  · obtain ⟨gx, gy, hi, ho⟩ := hG
    have hio : x.toRx.inp = y.toRx.inp ∧ x.toRx.out = y.toRx.out := ⟨by show x.inp.toNat = y.inp.toNat; rw [hi], by show x.out.toNat = y.out.toNat; rw [ho]⟩
    rw [toRx_val gx, toRx_val gy]
    rcases hs : (seekS x.toRx y.toRx).1 with _ | tr
    · exact proved_none w hT x.toRx y.toRx (toRx_ok gx) (toRx_ok gy) hio A A' c c' (toRx_read gx hr) (toRx_read gy hr') hs
    · obtain ⟨p, e, hp⟩ := someP_of x.toRx y.toRx (toRx_ok gx) (toRx_ok gy) tr hs
      exact proved_some w hT x.toRx y.toRx (toRx_ok gx) (toRx_ok gy) hio A A' c c' (toRx_read gx hr) (toRx_read gy hr') p e hp
  · exact proved_bad w hT x y A A' c c' hr hr' hG
end Go.Proofs.YtcbhaeniahckhaaDoor
end
