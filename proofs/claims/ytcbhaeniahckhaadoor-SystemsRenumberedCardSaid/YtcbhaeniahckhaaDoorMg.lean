/- The search finds a least failing trace, in plain words. Conditions: those that each theorem names. -/
import Derived.Test.YtcbhaeniahckhaaDoorMf
set_option linter.unusedSimpArgs false
set_option linter.unusedVariables false
section
namespace Go.Proofs.YtcbhaeniahckhaaDoor
open Go.RowKit Go.Shelf Go.Deep
theorem gd_lt {α : Type} {l : List α} {a d : α} {k : Nat} (h : k < l.length) : (l ++ [a]).getD k d = l.getD k d := by
  rw [List.getD_eq_getElem?_getD, List.getElem?_append_left h, ← List.getD_eq_getElem?_getD]
theorem gd_eq {α : Type} {l : List α} {a d : α} {k : Nat} (h : k = l.length) : (l ++ [a]).getD k d = a := by
  subst h; rw [List.getD_eq_getElem?_getD, List.getElem?_append_right (Nat.le_refl _)]; simp
abbrev pr (st : St) (k : Nat) : Nat × Nat := st.1.getD k (0, 0)
def nxP (X S : SysP) (p : Nat × Nat) (e : Nat) : Nat × Nat := (afterS X p.1 e, afterS S p.2 e)
/-- the search as it stands: the first i pairs are done, and the first n events of the next one -/
structure Srch (X S : SysP) (i n : Nat) (st : St) : Prop where
  lf : st.2.1.length = st.1.length
  lb : st.2.2.length = st.1.length
  pos : 0 < st.1.length
  p0 : pr st 0 = (firstS X, firstS S)
  f0 : st.2.1.getD 0 0 = -1
  fr : ∀ k, 0 < k → k < st.1.length → ∃ j e : Nat, st.2.1.getD k 0 = (j : Int) ∧ j < k ∧ st.2.2.getD k 0 = (e : Int) ∧ e ≤ X.inp + X.out ∧ pr st k = nxP X S (pr st j) e ∧ afterS S (pr st j).2 e ≠ 0
  mono : ∀ k k', k ≤ k' → k' < st.1.length → st.2.1.getD k 0 ≤ st.2.1.getD k' 0
  last : ∀ k, k < st.1.length → st.2.1.getD k 0 ≤ (i : Int)
  done : ∀ j, j < i → failsS X S (pr st j) = none ∧ ∀ e, e ≤ X.inp + X.out → afterS S (pr st j).2 e ≠ 0 → ∃ k, k < st.1.length ∧ pr st k = nxP X S (pr st j) e ∧ st.2.1.getD k 0 ≤ (j : Int)
  part : ∀ e, e < n → afterS S (pr st i).2 e ≠ 0 → ∃ k, k < st.1.length ∧ pr st k = nxP X S (pr st i) e ∧ st.2.1.getD k 0 ≤ (i : Int)
theorem Srch.add {X S : SysP} {i n : Nat} {st : St} (h : Srch X S i n st) (hi : i < st.1.length) (hn : n ≤ X.inp + X.out) (hz : afterS S (pr st i).2 n ≠ 0) : Srch X S i (n + 1) (addS st (nxP X S (pr st i) n) i n) ∧ st.1.length ≤ (addS st (nxP X S (pr st i) n) i n).1.length ∧ pr (addS st (nxP X S (pr st i) n) i n) i = pr st i := by
  unfold addS
  split
  · rename_i hm
    refine ⟨⟨h.lf, h.lb, h.pos, h.p0, h.f0, h.fr, h.mono, h.last, h.done, fun e he hne => ?_⟩, Nat.le_refl _, rfl⟩
    by_cases hen : e = n
    · subst hen
      obtain ⟨k, hk, ek⟩ := List.getElem_of_mem hm
      exact ⟨k, hk, by unfold pr; rw [List.getD_eq_getElem?_getD, List.getElem?_eq_getElem hk]; exact ek, h.last k hk⟩
    · exact h.part e (by omega) hne
  · have hlf := h.lf
    have hlb := h.lb
    have hpos := h.pos
    have len : (st.1 ++ [nxP X S (pr st i) n]).length = st.1.length + 1 := by simp
    have P : ∀ k, k < st.1.length → pr (st.1 ++ [nxP X S (pr st i) n], st.2.1 ++ [(i : Int)], st.2.2 ++ [(n : Int)]) k = pr st k := fun k hk => gd_lt hk
    have F : ∀ k, k < st.1.length → (st.2.1 ++ [(i : Int)]).getD k 0 = st.2.1.getD k 0 := fun k hk => gd_lt (by omega)
    have Fe : (st.2.1 ++ [(i : Int)]).getD st.1.length 0 = (i : Int) := gd_eq (by omega)
    have Bg : ∀ k, k < st.1.length → (st.2.2 ++ [(n : Int)]).getD k 0 = st.2.2.getD k 0 := fun k hk => gd_lt (by omega)
    have Be : (st.2.2 ++ [(n : Int)]).getD st.1.length 0 = (n : Int) := gd_eq (by omega)
    have Pe : pr (st.1 ++ [nxP X S (pr st i) n], st.2.1 ++ [(i : Int)], st.2.2 ++ [(n : Int)]) st.1.length = nxP X S (pr st i) n := gd_eq rfl
    refine ⟨⟨by simp [hlf], by simp [hlb], by simp, (P 0 hpos).trans h.p0, (F 0 hpos).trans h.f0, ?_, ?_, ?_, ?_, ?_⟩, by simp, P i hi⟩
    · intro k hk hk'
      rw [len] at hk'
      by_cases hkl : k < st.1.length
      · obtain ⟨j, e, h1, h2, h3, h4, h5, h6⟩ := h.fr k hk hkl
        exact ⟨j, e, (F k hkl).trans h1, h2, (Bg k hkl).trans h3, h4, by rw [P k hkl, P j (by omega)]; exact h5, by rw [P j (by omega)]; exact h6⟩
      · have e : k = st.1.length := by omega
        subst e
        exact ⟨i, n, Fe, hi, Be, hn, by rw [Pe, P i hi], by rw [P i hi]; exact hz⟩
    · intro k k' hkk hk'
      rw [len] at hk'
      by_cases hkl : k' < st.1.length
      · show (st.2.1 ++ [(i : Int)]).getD k 0 ≤ (st.2.1 ++ [(i : Int)]).getD k' 0
        rw [F k' hkl, F k (by omega)]
        exact h.mono k k' hkk hkl
      · have e : k' = st.1.length := by omega
        subst e
        show (st.2.1 ++ [(i : Int)]).getD k 0 ≤ (st.2.1 ++ [(i : Int)]).getD st.1.length 0
        rw [Fe]
        by_cases hk2 : k < st.1.length
        · rw [F k hk2]; exact h.last k hk2
        · have e : k = st.1.length := by omega
          rw [e, Fe]; exact Int.le_refl _
    · intro k hk
      rw [len] at hk
      show (st.2.1 ++ [(i : Int)]).getD k 0 ≤ (i : Int)
      by_cases hk2 : k < st.1.length
      · rw [F k hk2]; exact h.last k hk2
      · have e : k = st.1.length := by omega
        rw [e, Fe]; exact Int.le_refl _
    · intro j hj
      rw [P j (by omega)]
      refine ⟨(h.done j hj).1, fun e he hne => ?_⟩
      obtain ⟨k, h1, h2, h3⟩ := (h.done j hj).2 e he hne
      exact ⟨k, by rw [len]; omega, (P k h1).trans h2, by show (st.2.1 ++ [(i : Int)]).getD k 0 ≤ (j : Int); rw [F k h1]; exact h3⟩
    · intro e he
      rw [P i hi]
      intro hne
      by_cases hen : e = n
      · subst hen
        exact ⟨st.1.length, by rw [len]; omega, Pe, by show (st.2.1 ++ [(i : Int)]).getD st.1.length 0 ≤ (i : Int); rw [Fe]; exact Int.le_refl _⟩
      · obtain ⟨k, h1, h2, h3⟩ := h.part e (by omega) hne
        exact ⟨k, by rw [len]; omega, (P k h1).trans h2, by show (st.2.1 ++ [(i : Int)]).getD k 0 ≤ (i : Int); rw [F k h1]; exact h3⟩
theorem Srch.evs {X S : SysP} {i : Nat} {st : St} (h : Srch X S i 0 st) (hi : i < st.1.length) : ∀ n, n ≤ X.inp + X.out + 1 → Srch X S i n (evsS X S i (pr st i) st n) ∧ st.1.length ≤ (evsS X S i (pr st i) st n).1.length ∧ pr (evsS X S i (pr st i) st n) i = pr st i
  | 0, _ => ⟨h, Nat.le_refl _, rfl⟩
  | n + 1, hn => by
    obtain ⟨h1, h2, h3⟩ := Srch.evs h hi n (by omega)
    rw [evsS_succ]
    generalize evsS X S i (pr st i) st n = st1 at *
    unfold evS
    rw [← h3]
    by_cases hz : afterS S (pr st1 i).2 n = 0
    · rw [if_neg (by rw [hz]; decide)]
      refine ⟨⟨h1.lf, h1.lb, h1.pos, h1.p0, h1.f0, h1.fr, h1.mono, h1.last, h1.done, fun e he hne => ?_⟩, h2, rfl⟩
      by_cases hen : e = n
      · subst hen; exact absurd hz hne
      · exact h1.part e (by omega) hne
    · rw [if_pos (bne_iff_ne.2 hz)]
      obtain ⟨g1, g2, g3⟩ := h1.add (by omega) (by omega) hz
      exact ⟨g1, by show st.1.length ≤ (addS st1 (nxP X S (pr st1 i) n) i n).1.length; omega, g3⟩
theorem Srch.next {X S : SysP} {i : Nat} {st : St} (h : Srch X S i (X.inp + X.out + 1) st) (hf : failsS X S (pr st i) = none) : Srch X S (i + 1) 0 st :=
  ⟨h.lf, h.lb, h.pos, h.p0, h.f0, h.fr, h.mono, fun k hk => by have := h.last k hk; omega, fun j hj => by
    by_cases e : j = i
    · subst e; exact ⟨hf, fun e he hne => h.part e (by omega) hne⟩
    · exact h.done j (by omega), fun e he => by omega⟩
theorem Srch.init (X S : SysP) : Srch X S 0 0 (st0 X S) := by
  have h0 : ∀ k, k < (st0 X S).1.length → k = 0 := fun k hk => by simp [st0] at hk; exact hk
  refine ⟨rfl, rfl, by simp [st0], rfl, rfl, fun k h1 h2 => ?_, fun k k' h1 h2 => ?_, fun k hk => ?_, fun j hj => by omega, fun e he => by omega⟩
  · have := h0 k h2; omega
  · obtain rfl := h0 k' h2
    obtain rfl : k = 0 := by omega
    exact Int.le_refl _
  · obtain rfl := h0 k hk
    show (-1 : Int) ≤ 0
    decide
theorem runS_law {X S : SysP} (hX : ∀ a e, X.by_ a e < 2 ^ X.N) (hX' : ∀ a, X.sil a < 2 ^ X.N) (hS : ∀ a e, S.by_ a e < 2 ^ S.N) (hS' : ∀ a, S.sil a < 2 ^ S.N) (hNX : X.N ≤ 10) (hNS : S.N ≤ 10) : ∀ (n i : Nat) (st : St), Good X S st → Srch X S i 0 st → i ≤ st.1.length → 1048576 < i + n →
    (∃ i' e, i' < (runS X S n i st).2.1.length ∧ Srch X S i' 0 (runS X S n i st).2 ∧ failsS X S (pr (runS X S n i st).2 i') = some e ∧ (runS X S n i st).1 = some (((e : Int) :: backS (runS X S n i st).2.2.1 (runS X S n i st).2.2.2 (i' + 1) i').reverse)) ∨
    ((runS X S n i st).1 = none ∧ Srch X S (runS X S n i st).2.1.length 0 (runS X S n i st).2)
  | 0, i, st, hg, _, hi, hn => by have := hg.le hNX hNS; omega
  | n + 1, i, st, hg, hs, hi, hn => by
    rw [runS]
    split
    · rename_i hlt
      split
      · rename_i e he
        exact .inl ⟨i, e, hlt, hs, he, rfl⟩
      · rename_i he
        have hb := hg.bd _ (by
          show st.1.getD i (0, 0) ∈ st.1
          rw [List.getD_eq_getElem?_getD, List.getElem?_eq_getElem hlt]
          exact List.getElem_mem hlt)
        obtain ⟨g1, g2⟩ := hg.evsS hX hX' hS hS' i (st.1.getD i (0, 0)) hb hlt (X.inp + X.out + 1)
        obtain ⟨k1, k2, k3⟩ := hs.evs hlt (X.inp + X.out + 1) (Nat.le_refl _)
        exact runS_law hX hX' hS hS' hNX hNS n (i + 1) _ g1 (k1.next (by rw [k3]; exact he)) (by omega) (by omega)
    · rename_i hlt
      obtain rfl : i = st.1.length := by omega
      exact .inr ⟨rfl, hs⟩
/-- the trace to a pair -/
def bt (st : St) (k : Nat) : List Int := (backS st.2.1 st.2.2 (k + 1) k).reverse
theorem Srch.back {X S : SysP} {i n : Nat} {st : St} (h : Srch X S i n st) : ∀ (f k : Nat), k < f → k < st.1.length → backS st.2.1 st.2.2 f k = backS st.2.1 st.2.2 (k + 1) k
  | 0, _, hk, _ => by omega
  | f + 1, k, hk, hl => by
    rw [backS, backS]
    by_cases h0 : k = 0
    · subst h0
      rw [h.f0, if_pos rfl, if_pos rfl]
    · obtain ⟨j, e, h1, h2, h3, _⟩ := h.fr k (by omega) hl
      rw [h1, if_neg (by omega), if_neg (by omega), Int.toNat_natCast, h.back f j (by omega) (by omega), h.back k j (by omega) (by omega)]
theorem Srch.bt0 {X S : SysP} {i n : Nat} {st : St} (h : Srch X S i n st) : bt st 0 = [] := by
  unfold bt
  rw [backS, h.f0, if_pos rfl]; rfl
theorem Srch.btS {X S : SysP} {i n : Nat} {st : St} (h : Srch X S i n st) {k j e : Nat} (hl : k < st.1.length) (hj : j < k) (h1 : st.2.1.getD k 0 = (j : Int)) (h2 : st.2.2.getD k 0 = (e : Int)) : bt st k = bt st j ++ [(e : Int)] := by
  unfold bt
  rw [backS, h1, if_neg (by omega), h2, Int.toNat_natCast, List.reverse_cons, h.back k j hj (by omega)]
theorem Srch.btAt {X S : SysP} {i n : Nat} {st : St} (h : Srch X S i n st) (hf : firstS S ≠ 0) : ∀ (m k : Nat), k < m → k < st.1.length → ∃ p : List Nat, bt st k = p.map (fun a : Nat => (a : Int)) ∧ (∀ a ∈ p, a ≤ X.inp + X.out) ∧ pr st k = (alongS X p, alongS S p) ∧ alongS S p ≠ 0
  | 0, _, hk, _ => by omega
  | m + 1, k, hk, hl => by
    by_cases h0 : k = 0
    · subst h0
      exact ⟨[], h.bt0, fun a ha => by simp at ha, h.p0, hf⟩
    · obtain ⟨j, e, h1, h2, h3, h4, h5, h6⟩ := h.fr k (by omega) hl
      obtain ⟨p, e1, e2, e3, e4⟩ := h.btAt hf m j (by omega) (by omega)
      refine ⟨p ++ [e], by rw [h.btS hl h2 h1 h3, e1]; simp, ?_, ?_, ?_⟩
      · intro a ha
        rcases List.mem_append.1 ha with ha | ha
        · exact e2 a ha
        · rw [List.mem_singleton] at ha; omega
      · rw [h5, e3]
        unfold nxP alongS
        simp [List.foldl_append]
      · rw [e3] at h6
        unfold alongS at h6 ⊢
        simpa [List.foldl_append] using h6
theorem Srch.dmono {X S : SysP} {i n : Nat} {st : St} (h : Srch X S i n st) : ∀ (m k k' : Nat), k' < m → k ≤ k' → k' < st.1.length → (bt st k).length ≤ (bt st k').length
  | 0, _, _, hk, _, _ => by omega
  | m + 1, k, k', hk, hkk, hl => by
    by_cases h0 : k = 0
    · subst h0; rw [h.bt0]; simp
    · obtain ⟨j, e, h1, h2, h3, _⟩ := h.fr k (by omega) (by omega)
      obtain ⟨j', e', h1', h2', h3', _⟩ := h.fr k' (by omega) hl
      have hm := h.mono k k' hkk hl
      rw [h1, h1'] at hm
      rw [h.btS (by omega) h2 h1 h3, h.btS hl h2' h1' h3']
      have := h.dmono m j j' (by omega) (by omega) (by omega)
      simpa using this
/-- each trace of the specification that is shorter than a pair's lies before it -/
theorem Srch.short {X S : SysP} {i : Nat} {st : St} (h : Srch X S i 0 st) (h00 : ∀ e, afterS S 0 e = 0) (m : Nat) (hm : m ≤ i) (hml : m ≤ st.1.length) : ∀ (d : Nat) (p : List Nat), p.length = d → (m < st.1.length → d < (bt st m).length) → (∀ a ∈ p, a ≤ X.inp + X.out) → alongS S p ≠ 0 → ∃ j, j < m ∧ pr st j = (alongS X p, alongS S p) ∧ (bt st j).length ≤ d
  | 0, p, hp, hd, _, _ => by
    obtain rfl := List.length_eq_zero_iff.1 hp
    refine ⟨0, ?_, h.p0, by rw [h.bt0]; simp⟩
    by_cases e : m = 0
    · subst e
      have := hd h.pos
      rw [h.bt0] at this
      simp at this
    · omega
  | d + 1, p, hp, hd, ha, hne => by
    have hpn : p ≠ [] := by rintro rfl; simp at hp
    obtain ⟨q, e, rfl⟩ : ∃ q e, p = q ++ [e] := ⟨p.dropLast, p.getLast hpn, (List.dropLast_concat_getLast hpn).symm⟩
    have hql : q.length = d := by simpa using hp
    have hal : ∀ Z : SysP, alongS Z (q ++ [e]) = afterS Z (alongS Z q) e := fun Z => by unfold alongS; simp [List.foldl_append]
    rw [hal] at hne
    have hq0 : alongS S q ≠ 0 := fun e0 => hne (by rw [e0]; exact h00 e)
    obtain ⟨j, hj, e1, e2⟩ := h.short h00 m hm hml d q hql (fun hlt => by have := hd hlt; omega) (fun a h' => ha a (List.mem_append_left _ h')) hq0
    obtain ⟨k, k1, k2, k3⟩ := (h.done j (by omega)).2 e (ha e (by simp)) (by rw [e1]; exact hne)
    have hk : pr st k = (alongS X (q ++ [e]), alongS S (q ++ [e])) := by rw [k2, e1, hal, hal]; rfl
    have hlen : (bt st k).length ≤ d + 1 := by
      by_cases h0 : k = 0
      · subst h0; rw [h.bt0]; simp
      · obtain ⟨j', e', g1, g2, g3, _⟩ := h.fr k (by omega) k1
        rw [h.btS k1 g2 g1 g3]
        rw [g1] at k3
        have := h.dmono (j + 1) j' j (by omega) (by omega) (by omega)
        simp only [List.length_append, List.length_singleton]
        omega
    refine ⟨k, ?_, hk, hlen⟩
    rcases Nat.lt_or_ge k m with hlt | hge
    · exact hlt
    · have h1 := hd (by omega)
      have h2 := h.dmono (k + 1) m k (by omega) hge k1
      omega
theorem stepS_zero (S : SysP) : stepS S 0 = 0 := by unfold stepS; rw [bitsL_zero]; rfl
theorem closedS_zero (S : SysP) : closedS S 0 = 0 := by
  unfold closedS
  rw [closeN, if_pos (stepS_zero S)]
theorem afterS_zero (S : SysP) (e : Nat) : afterS S 0 e = 0 := by
  unfold afterS outS
  rw [bitsL_zero]
  simp only [List.foldl_nil, ite_self]
  exact closedS_zero S
theorem closeN_ge (S : SysP) : ∀ k l, l ≤ closeN S k l
  | 0, _ => Nat.le_refl _
  | k + 1, l => by
    unfold closeN
    split
    · exact Nat.le_refl _
    · exact Nat.le_trans (stepS_le S l) (closeN_ge S k _)
theorem firstS_ne (S : SysP) : firstS S ≠ 0 := by
  have h1 : 2 ^ S.start ≤ firstS S := closeN_ge S _ _
  have h2 := Nat.two_pow_pos S.start
  omega
end Go.Proofs.YtcbhaeniahckhaaDoor
end
section
namespace Go.Proofs.YtcbhaeniahckhaaDoor
open Go.RowKit Go.Shelf Go.Deep
theorem seek_law (x y : Rx) (hx : x.ok) (hy : y.ok) :
    (∃ i' e, i' < (seekS x y).2.1.length ∧ Srch (sysOf x) (sysOf y) i' 0 (seekS x y).2 ∧ failsS (sysOf x) (sysOf y) (pr (seekS x y).2 i') = some e ∧ (seekS x y).1 = some (((e : Int) :: backS (seekS x y).2.2.1 (seekS x y).2.2.2 (i' + 1) i').reverse)) ∨
    ((seekS x y).1 = none ∧ Srch (sysOf x) (sysOf y) (seekS x y).2.1.length 0 (seekS x y).2) :=
  runS_law (x.byb hx) (x.silb hx) (y.byb hy) (y.silb hy) hx.hN hy.hN _ _ _ (Good.st0 (firstS_lt _ hx.hs (x.silb hx)) (firstS_lt _ hy.hs (y.silb hy))) (Srch.init _ _) (Nat.zero_le _) (by decide)
/-- a failing trace: the traces that are shorter do not fail -/
theorem seek_some (x y : Rx) (hx : x.ok) (hy : y.ok) (tr : List Int) (h : (seekS x y).1 = some tr) : ∃ (p : List Nat) (e : Nat), tr = (p ++ [e]).map (fun a : Nat => (a : Int)) ∧ (∀ a ∈ p, a ≤ x.inp + x.out) ∧ alongS (sysOf y) p ≠ 0 ∧ failsS (sysOf x) (sysOf y) (alongS (sysOf x) p, alongS (sysOf y) p) = some e ∧
    ∀ q : List Nat, (∀ a ∈ q, a ≤ x.inp + x.out) → q.length < p.length → alongS (sysOf y) q ≠ 0 → failsS (sysOf x) (sysOf y) (alongS (sysOf x) q, alongS (sysOf y) q) = none := by
  rcases seek_law x y hx hy with ⟨i, e, h1, h2, h3, h4⟩ | ⟨h1, _⟩
  · rw [h4] at h
    cases h
    obtain ⟨p, e1, e2, e3, e4⟩ := h2.btAt (firstS_ne _) (i + 1) i (by omega) h1
    have hbl : (bt (seekS x y).2 i).length = p.length := by rw [e1]; simp
    refine ⟨p, e, ?_, e2, e4, e3 ▸ h3, ?_⟩
    · rw [List.reverse_cons]
      show bt (seekS x y).2 i ++ [(e : Int)] = _
      rw [e1]
      simp
    · intro q hq hlt hne
      obtain ⟨j, g1, g2, _⟩ := h2.short (afterS_zero _) i (Nat.le_refl _) (by omega) q.length q rfl (fun _ => by omega) hq hne
      rw [← g2]
      exact (h2.done j g1).1
  · rw [h1] at h
    cases h
/-- no failing trace -/
theorem seek_none (x y : Rx) (hx : x.ok) (hy : y.ok) (h : (seekS x y).1 = none) : Srch (sysOf x) (sysOf y) (seekS x y).2.1.length 0 (seekS x y).2 ∧
    ∀ q : List Nat, (∀ a ∈ q, a ≤ x.inp + x.out) → alongS (sysOf y) q ≠ 0 → failsS (sysOf x) (sysOf y) (alongS (sysOf x) q, alongS (sysOf y) q) = none := by
  rcases seek_law x y hx hy with ⟨i, e, h1, h2, h3, h4⟩ | ⟨_, h2⟩
  · rw [h4] at h
    cases h
  · refine ⟨h2, fun q hq hne => ?_⟩
    obtain ⟨j, g1, g2, _⟩ := h2.short (afterS_zero _) _ (Nat.le_refl _) (Nat.le_refl _) q.length q rfl (fun hh => absurd hh (by omega)) hq hne
    rw [← g2]
    exact (h2.done j g1).1
theorem failsFrom_some (X S : SysP) (q : Nat × Nat) : ∀ (n e r : Nat), failsFrom X S q n e = some r → e ≤ r ∧ r < e + n ∧ showsS X q.1 r = true ∧ showsS S q.2 r = false ∧ ∀ k, e ≤ k → k < r → showsS X q.1 k = false ∨ showsS S q.2 k = true
  | 0, _, _, h => by cases h
  | n + 1, e, r, h => by
    rw [failsFrom_step] at h
    split at h
    · rename_i hc
      cases h
      simp only [Bool.and_eq_true, Bool.not_eq_true'] at hc
      exact ⟨Nat.le_refl _, by omega, hc.1, hc.2, fun k h1 h2 => by omega⟩
    · rename_i hc
      obtain ⟨h1, h2, h3, h4, h5⟩ := failsFrom_some X S q n (e + 1) r h
      refine ⟨by omega, by omega, h3, h4, fun k k1 k2 => ?_⟩
      by_cases he : k = e
      · subst he
        cases hsx : showsS X q.1 k
        · exact .inl rfl
        · cases hss : showsS S q.2 k
          · rw [hsx, hss] at hc; simp at hc
          · exact .inr rfl
      · exact h5 k (by omega) k2
theorem failsFrom_none (X S : SysP) (q : Nat × Nat) : ∀ (n e : Nat), failsFrom X S q n e = none → ∀ k, e ≤ k → k < e + n → showsS X q.1 k = false ∨ showsS S q.2 k = true
  | 0, _, _ => fun k h1 h2 => by omega
  | n + 1, e, h => by
    rw [failsFrom_step] at h
    split at h
    · cases h
    · rename_i hc
      intro k k1 k2
      by_cases he : k = e
      · subst he
        cases hsx : showsS X q.1 k
        · exact .inl rfl
        · cases hss : showsS S q.2 k
          · rw [hsx, hss] at hc; simp at hc
          · exact .inr rfl
      · exact failsFrom_none X S q n (e + 1) h k (by omega) (by omega)
/-- a system conforms to itself -/
theorem seek_self (x : Rx) (hx : x.ok) : (seekS x x).1 = none := by
  rcases h : (seekS x x).1 with _ | tr
  · rfl
  · obtain ⟨p, e, _, _, _, h3, _⟩ := seek_some x x hx hx tr h
    obtain ⟨_, _, h4, h5, _⟩ := failsFrom_some _ _ _ _ _ _ h3
    simp only at h4 h5
    rw [h4] at h5
    cases h5
end Go.Proofs.YtcbhaeniahckhaaDoor
end
