/- Systems whose states have other numbers, in plain words: the same sets, search, tests and worst run. Conditions: those that each theorem names. -/
import Derived.Test.YtcbhaeniahckhaaDoorNa
import Derived.Test.YtcbhaeniahckhaaDoorMt
set_option linter.unusedSimpArgs false
set_option linter.unusedVariables false
section
set_option linter.unusedSimpArgs false
namespace Go.Proofs.YtcbhaeniahckhaaDoor
open Go.RowKit Go.Shelf Go.Deep Go.Proofs.YtcbhaeniahckhaaDoorW.PrintLast
def key (m : Mv) : Nat := ((m.frm * 16 + m.kind) * 16 + m.lab) * 16 + m.tgt
structure Mv.small (m : Mv) : Prop where
  f : m.frm < 16
  k : m.kind < 16
  l : m.lab < 16
  t : m.tgt < 16
theorem cmpZ_cons (a b : Int) (xs ys : List Int) : cmpZ (a :: xs) (b :: ys) < 0 ↔ a < b ∨ (a = b ∧ cmpZ xs ys < 0) := by
  show (if cmpI a b = 0 then cmpZ xs ys else cmpI a b) < 0 ↔ _
  rcases Int.lt_trichotomy a b with h | h | h
  · have e : cmpI a b = -1 := by unfold cmpI; rw [if_pos h]
    rw [e, if_neg (by decide)]
    exact ⟨fun _ => .inl h, fun _ => by decide⟩
  · subst h
    have e : cmpI a a = 0 := by unfold cmpI; rw [if_neg (Int.lt_irrefl a), if_neg (Int.lt_irrefl a)]
    rw [e, if_pos rfl]
    exact ⟨fun h => .inr ⟨rfl, h⟩, fun h => by rcases h with h | h; omega; exact h.2⟩
  · have e : cmpI a b = 1 := by unfold cmpI; rw [if_neg (by omega), if_pos h]
    rw [e, if_neg (by decide)]
    exact ⟨fun h' => absurd h' (by decide), fun h' => by omega⟩
theorem cmpZ_nil : ¬ cmpZ [] [] < 0 := by unfold cmpZ; decide
theorem less_key {a b : Mv} (ha : a.small) (hb : b.small) : cmpMv a b < 0 ↔ key a < key b := by
  unfold cmpMv
  rw [cmpZ_cons, cmpZ_cons, cmpZ_cons, cmpZ_cons]
  have hn := cmpZ_nil
  have := ha.f; have := ha.k; have := ha.l; have := ha.t
  have := hb.f; have := hb.k; have := hb.l; have := hb.t
  unfold key
  constructor
  · rintro (h | ⟨h, h | ⟨h2, h | ⟨h3, h | ⟨_, h⟩⟩⟩⟩)
    · omega
    · omega
    · omega
    · omega
    · exact absurd h hn
  · intro h
    by_cases h1 : a.frm = b.frm
    · by_cases h2 : a.kind = b.kind
      · by_cases h3 : a.lab = b.lab
        · exact .inr ⟨by omega, .inr ⟨by omega, .inr ⟨by omega, .inl (by omega)⟩⟩⟩
        · exact .inr ⟨by omega, .inr ⟨by omega, .inl (by omega)⟩⟩
      · exact .inr ⟨by omega, .inl (by omega)⟩
    · exact .inl (by omega)
theorem orL_cons (c : Int) (l : List Int) : orL (c :: l) = if c = 0 then orL l else c := rfl
theorem orL4_cmp (a b : Mv) : orL4 a b = cmpMv a b := by
  unfold orL4 cmpMv
  rw [orL_cons, orL_cons, orL_cons, orL_cons]
  show _ = if cmpI a.frm b.frm = 0 then (if cmpI a.kind b.kind = 0 then (if cmpI a.lab b.lab = 0 then (if cmpI a.tgt b.tgt = 0 then 0 else cmpI a.tgt b.tgt) else cmpI a.lab b.lab) else cmpI a.kind b.kind) else cmpI a.frm b.frm
  rfl
theorem key_inj {a b : Mv} (ha : a.small) (hb : b.small) (h : key a = key b) : a = b := by
  have := ha.f; have := ha.k; have := ha.l; have := ha.t
  have := hb.f; have := hb.k; have := hb.l; have := hb.t
  unfold key at h
  cases a; cases b
  simp only at *
  simp only [Mv.mk.injEq]
  omega
theorem Rx.ok.small {x : Rx} (hx : x.ok) {m : Mv} (hm : m ∈ x.mvs) : m.small := by
  obtain ⟨h1, h2, h3⟩ := hx.mv m hm
  have := hx.hN; have := hx.hi; have := hx.ho
  exact ⟨by omega, by omega, by omega, by omega⟩
theorem Rx.ok.rising {x : Rx} (hx : x.ok) : x.mvs.Pairwise fun a b => key a < key b := by
  have step : ∀ j i, i < j → j < x.mvs.length → key (x.mvs.getD i mvZ) < key (x.mvs.getD j mvZ) := by
    intro j
    induction j with
    | zero => intro i hi; omega
    | succ j ih =>
      intro i hi hj
      have h1 := hx.srt j hj
      rw [orL4_cmp, less_key (hx.small (getD_mem' (by omega))) (hx.small (getD_mem' hj))] at h1
      by_cases e : i = j
      · subst e; exact h1
      · exact Nat.lt_trans (ih i (by omega) (by omega)) h1
  rw [List.pairwise_iff_getElem]
  intro i j hi hj hij
  have := step j i hij hj
  rwa [List.getD_eq_getElem?_getD, List.getD_eq_getElem?_getD, List.getElem?_eq_getElem hi, List.getElem?_eq_getElem hj] at this
/-- a move between states that have other numbers -/
def mvP (tl : List Nat) (m : Mv) : Mv := ⟨tl.getD m.frm 0, m.kind, m.lab, tl.getD m.tgt 0⟩
/-- the first moves, with other numbers, in order -/
structure MovI (x : Rx) (tl : List Nat) (k : Nat) (L : List Mv) : Prop where
  perm : L.Perm ((x.mvs.take k).map (mvP tl))
  rise : L.Pairwise fun a b => key a < key b
theorem getD_inj {tl : List Nat} (hnd : tl.Nodup) {a b : Nat} (ha : a < tl.length) (hb : b < tl.length) (h : tl.getD a 0 = tl.getD b 0) : a = b := by
  rw [List.getD_eq_getElem?_getD, List.getD_eq_getElem?_getD, List.getElem?_eq_getElem ha, List.getElem?_eq_getElem hb] at h
  simp only [Option.getD_some] at h
  rcases Nat.lt_trichotomy a b with k | k | k
  · exact absurd h (List.pairwise_iff_getElem.1 hnd a b ha hb k)
  · exact k
  · exact absurd h.symm (List.pairwise_iff_getElem.1 hnd b a hb ha k)
theorem mvP_inj {x : Rx} {tl : List Nat} (hx : x.ok) (ht : ShI x.N x.N [] tl) {a b : Mv} (ha : a ∈ x.mvs) (hb : b ∈ x.mvs) (h : mvP tl a = mvP tl b) : a = b := by
  obtain ⟨a1, a2, _⟩ := hx.mv a ha
  obtain ⟨b1, b2, _⟩ := hx.mv b hb
  have hn : tl.Nodup := by simpa using ht.nd
  have hl := ht.lo
  unfold mvP at h
  simp only [Mv.mk.injEq] at h
  have e1 := getD_inj hn (by omega) (by omega) h.1
  have e2 := getD_inj hn (by omega) (by omega) h.2.2.2
  cases a; cases b
  simp only at *
  simp only [Mv.mk.injEq]
  exact ⟨e1, h.2.1, h.2.2.1, e2⟩
theorem getD_small {x : Rx} {tl : List Nat} (ht : ShI x.N x.N [] tl) {a : Nat} (ha : a < x.N) : tl.getD a 0 < x.N := by
  have hl := ht.lo
  have hm : tl.getD a 0 ∈ tl := getD_mem' (by omega)
  exact ht.lt _ (by simpa using hm)
theorem mvP_small {x : Rx} {tl : List Nat} (hx : x.ok) (ht : ShI x.N x.N [] tl) {a : Mv} (ha : a ∈ x.mvs) : (mvP tl a).small := by
  obtain ⟨a1, a2, _⟩ := hx.mv a ha
  have hs := hx.small ha
  have := hx.hN
  have h1 := getD_small ht a1
  have h2 := getD_small ht a2
  exact ⟨by show tl.getD a.frm 0 < 16; omega, hs.k, hs.l, by show tl.getD a.tgt 0 < 16; omega⟩
theorem MovI.mem {x : Rx} {tl : List Nat} {k : Nat} {L : List Mv} (h : MovI x tl k L) {a : Mv} (ha : a ∈ L) : ∃ m ∈ x.mvs.take k, a = mvP tl m := by
  obtain ⟨m, hm, e⟩ := List.mem_map.1 (h.perm.mem_iff.1 ha)
  exact ⟨m, hm, e.symm⟩
theorem MovI.len {x : Rx} {tl : List Nat} {k : Nat} {L : List Mv} (h : MovI x tl k L) (hk : k ≤ x.mvs.length) : L.length = k := by
  have := h.perm.length_eq
  simpa [Nat.min_eq_left hk] using this
theorem MovI.step {x : Rx} {tl : List Nat} {k j : Nat} {L : List Mv} (hx : x.ok) (ht : ShI x.N x.N [] tl) (h : MovI x tl k L) (hk : k < x.mvs.length) (hj : j ≤ L.length)
    (h1 : ∀ i, i < j → cmpMv (L.getD i mvZ) (mvP tl (x.mvs.getD k mvZ)) < 0) (h2 : j < L.length → ¬ cmpMv (L.getD j mvZ) (mvP tl (x.mvs.getD k mvZ)) < 0) :
    MovI x tl (k + 1) (L.take j ++ mvP tl (x.mvs.getD k mvZ) :: L.drop j) := by
  have hkm : x.mvs.getD k mvZ ∈ x.mvs := getD_mem' hk
  obtain ⟨m, hm⟩ : ∃ m, m = x.mvs.getD k mvZ := ⟨_, rfl⟩
  rw [← hm] at hkm h1 h2 ⊢
  have sm := mvP_small hx ht hkm
  have smL : ∀ a ∈ L, a.small := fun a ha => by obtain ⟨m', h3, rfl⟩ := h.mem ha; exact mvP_small hx ht (List.mem_of_mem_take h3)
  have hne : ∀ a ∈ L, key a ≠ key (mvP tl m) := fun a ha e => by
    obtain ⟨m', h3, rfl⟩ := h.mem ha
    have e1 := key_inj (mvP_small hx ht (List.mem_of_mem_take h3)) sm e
    have e2 := mvP_inj hx ht (List.mem_of_mem_take h3) hkm e1
    rw [← e2] at hm
    obtain ⟨i, hi, ei⟩ := List.getElem_of_mem h3
    have hr := List.pairwise_iff_getElem.1 hx.rising
    rw [List.length_take] at hi
    have hi1 : i < k := by omega
    have := hr i k (by omega) hk hi1
    rw [List.getElem_take] at ei
    have e3 : m' = x.mvs[k] := by rw [hm, List.getD_eq_getElem?_getD, List.getElem?_eq_getElem hk]; rfl
    rw [ei, ← e3] at this
    exact absurd this (Nat.lt_irrefl _)
  refine ⟨?_, ?_⟩
  · have hp : List.Perm (L.take j ++ mvP tl m :: L.drop j) (L ++ [mvP tl m]) := by
      conv => rhs; rw [← List.take_append_drop j L]
      rw [List.append_assoc]
      exact List.Perm.append_left _ (List.perm_append_comm (l₁ := [mvP tl m]) (l₂ := L.drop j))
    refine hp.trans ?_
    have e : x.mvs.take (k + 1) = x.mvs.take k ++ [m] := by rw [hm]; exact take_getD (d := mvZ) x.mvs k hk
    rw [e, List.map_append]
    exact List.Perm.append_right _ h.perm
  · have hr := h.rise
    rw [List.pairwise_append, List.pairwise_cons]
    refine ⟨hr.sublist (List.take_sublist j L), ⟨?_, hr.sublist (List.drop_sublist j L)⟩, ?_⟩
    · intro b hb
      obtain ⟨i, hi, ei⟩ := List.getElem_of_mem hb
      rw [List.length_drop] at hi
      have hjl : j < L.length := by omega
      have h3 := h2 hjl
      have hjm : L.getD j mvZ ∈ L := getD_mem' hjl
      rw [less_key (smL _ hjm) sm] at h3
      have h4 := hne _ hjm
      have e2 : L.getD j mvZ = L[j] := by rw [List.getD_eq_getElem?_getD, List.getElem?_eq_getElem hjl]; rfl
      rw [List.getElem_drop] at ei
      have h5 : key L[j] ≤ key b := by
        by_cases e : i = 0
        · subst e; rw [← ei]; exact Nat.le_refl _
        · have := List.pairwise_iff_getElem.1 hr j (j + i) hjl (by omega) (by omega)
          rw [ei] at this; omega
      rw [e2] at h3 h4
      omega
    · intro a ha b hb
      obtain ⟨i, hi, ei⟩ := List.getElem_of_mem ha
      rw [List.length_take] at hi
      rw [List.getElem_take] at ei
      have hil : i < L.length := by omega
      have e2 : L.getD i mvZ = L[i] := by rw [List.getD_eq_getElem?_getD, List.getElem?_eq_getElem hil]; rfl
      rcases List.mem_cons.1 hb with rfl | hb
      · have h3 := h1 i (by omega)
        rw [less_key (smL _ (getD_mem' hil)) sm, e2, ei] at h3
        exact h3
      · obtain ⟨i', hi', ei'⟩ := List.getElem_of_mem hb
        rw [List.length_drop] at hi'
        rw [List.getElem_drop] at ei'
        have := List.pairwise_iff_getElem.1 hr i (j + i') hil (by omega) (by omega)
        rw [ei, ei'] at this
        exact this
/-- a system whose states have other numbers -/
structure Moved (x : Rx) (tl : List Nat) (q : Rx) : Prop where
  N : q.N = x.N
  start : q.start = tl.getD x.start 0
  inp : q.inp = x.inp
  out : q.out = x.out
  mvs : MovI x tl x.mvs.length q.mvs
theorem Moved.ok {x q : Rx} {tl : List Nat} (hx : x.ok) (ht : ShI x.N x.N [] tl) (h : Moved x tl q) : q.ok := by
  have hl := h.mvs.len (Nat.le_refl _)
  have hsm : ∀ a ∈ q.mvs, a.small := fun a ha => by obtain ⟨m', h3, rfl⟩ := h.mvs.mem ha; exact mvP_small hx ht (List.mem_of_mem_take h3)
  refine ⟨by rw [h.N, h.start]; exact getD_small ht hx.hs, by rw [h.N]; exact hx.hN, by rw [h.inp]; exact hx.hi, by rw [h.out]; exact hx.ho, by rw [hl]; exact hx.hm, ?_, ?_⟩
  · intro i hi
    rw [orL4_cmp, less_key (hsm _ (getD_mem' (by omega))) (hsm _ (getD_mem' hi))]
    have := List.pairwise_iff_getElem.1 h.mvs.rise i (i + 1) (by omega) hi (by omega)
    rwa [List.getD_eq_getElem?_getD, List.getD_eq_getElem?_getD, List.getElem?_eq_getElem hi, List.getElem?_eq_getElem (by omega : i < q.mvs.length)]
  · intro m hm
    obtain ⟨m', h3, rfl⟩ := h.mvs.mem hm
    obtain ⟨a1, a2, a3⟩ := hx.mv m' (List.mem_of_mem_take h3)
    rw [h.N, h.inp, h.out]
    exact ⟨getD_small ht a1, getD_small ht a2, a3⟩
end Go.Proofs.YtcbhaeniahckhaaDoor
end
section
set_option linter.unusedSimpArgs false
namespace Go.Proofs.YtcbhaeniahckhaaDoor
open Go.RowKit Go.Shelf Go.Deep
/-- a set of states that have other numbers -/
def PS (tl : List Nat) (l : Nat) : Nat := (bitsL l).foldl (fun o a => o ||| 2 ^ tl.getD a 0) 0
theorem PS_bit (tl : List Nat) (l b : Nat) : (PS tl l).testBit b = true ↔ ∃ a, a < 10 ∧ l.testBit a = true ∧ tl.getD a 0 = b := by
  unfold PS
  rw [bits_or, Nat.zero_testBit]
  simp only [Bool.false_eq_true, false_or, mem_bitsL, Nat.testBit_two_pow, decide_eq_true_eq, and_assoc]
theorem bits_ext {a b : Nat} (h : ∀ i, a.testBit i = true ↔ b.testBit i = true) : a = b := by
  apply Nat.eq_of_testBit_eq
  intro i
  rw [Bool.eq_iff_iff]
  exact h i
theorem PS_zero (tl : List Nat) : PS tl 0 = 0 := by unfold PS; rw [bitsL_zero]; rfl
theorem PS_or (tl : List Nat) (a b : Nat) : PS tl (a ||| b) = PS tl a ||| PS tl b := by
  apply bits_ext
  intro i
  rw [Nat.testBit_or, Bool.or_eq_true, PS_bit, PS_bit, PS_bit]
  constructor
  · rintro ⟨c, h1, h2, h3⟩
    rw [Nat.testBit_or, Bool.or_eq_true] at h2
    rcases h2 with h2 | h2
    · exact .inl ⟨c, h1, h2, h3⟩
    · exact .inr ⟨c, h1, h2, h3⟩
  · rintro (⟨c, h1, h2, h3⟩ | ⟨c, h1, h2, h3⟩) <;> exact ⟨c, h1, by rw [Nat.testBit_or, h2]; simp, h3⟩
/-- a system, and the same one with other numbers -/
structure Ren (x q : Rx) (tl : List Nat) : Prop where
  ok : x.ok
  sh : ShI x.N x.N [] tl
  mv : Moved x tl q
namespace Ren
variable {x q : Rx} {tl : List Nat}
theorem ok' (h : Ren x q tl) : q.ok := h.mv.ok h.ok h.sh
theorem inj (h : Ren x q tl) {a b : Nat} (ha : a < x.N) (hb : b < x.N) (e : tl.getD a 0 = tl.getD b 0) : a = b := by
  have hn : tl.Nodup := by simpa using h.sh.nd
  have hl := h.sh.lo
  exact getD_inj hn (by omega) (by omega) e
theorem small (h : Ren x q tl) {a : Nat} (ha : a < x.N) : tl.getD a 0 < x.N := getD_small h.sh ha
theorem mem (h : Ren x q tl) (m' : Mv) : m' ∈ q.mvs ↔ ∃ m ∈ x.mvs, m' = mvP tl m := by
  have hp := h.mv.mvs.perm
  rw [List.take_length] at hp
  rw [hp.mem_iff, List.mem_map]
  exact ⟨fun ⟨m, h1, h2⟩ => ⟨m, h1, h2.symm⟩, fun ⟨m, h1, h2⟩ => ⟨m, h1, h2.symm⟩⟩
theorem bit (h : Ren x q tl) {l a : Nat} (hl : l < 2 ^ x.N) (ha : a < x.N) : (PS tl l).testBit (tl.getD a 0) = true ↔ l.testBit a = true := by
  rw [PS_bit]
  have := h.ok.hN
  constructor
  · rintro ⟨c, h1, h2, h3⟩
    rw [← h.inj (lt_of_bit hl h2) ha h3]
    exact h2
  · intro h2
    exact ⟨a, by omega, h2, rfl⟩
theorem lt (h : Ren x q tl) {l : Nat} (hl : l < 2 ^ x.N) : PS tl l < 2 ^ x.N := by
  apply Nat.lt_pow_two_of_testBit
  intro i hi
  rw [Bool.eq_false_iff]
  intro hb
  obtain ⟨a, h1, h2, h3⟩ := (PS_bit tl l i).1 hb
  have := h.small (lt_of_bit hl h2)
  omega
theorem ps_inj (h : Ren x q tl) {a b : Nat} (ha : a < 2 ^ x.N) (hb : b < 2 ^ x.N) (e : PS tl a = PS tl b) : a = b := by
  apply bits_ext
  intro i
  constructor
  · intro hi
    have hN := lt_of_bit ha hi
    rw [← h.bit hb hN, ← e, h.bit ha hN]
    exact hi
  · intro hi
    have hN := lt_of_bit hb hi
    rw [← h.bit ha hN, e, h.bit hb hN]
    exact hi
theorem zero (h : Ren x q tl) {l : Nat} (hl : l < 2 ^ x.N) : PS tl l = 0 ↔ l = 0 := by
  constructor
  · intro e
    exact h.ps_inj hl (Nat.two_pow_pos _) (e.trans (PS_zero tl).symm)
  · rintro rfl
    exact PS_zero tl
theorem one (h : Ren x q tl) {a : Nat} (ha : a < x.N) : PS tl (2 ^ a) = 2 ^ tl.getD a 0 := by
  have := h.ok.hN
  apply bits_ext
  intro i
  rw [PS_bit]
  simp only [Nat.testBit_two_pow, decide_eq_true_eq]
  constructor
  · rintro ⟨c, h1, rfl, h3⟩; exact h3
  · intro h1; exact ⟨a, by omega, rfl, h1⟩
theorem step (h : Ren x q tl) {l : Nat} (hl : l < 2 ^ x.N) : stepS (sysOf q) (PS tl l) = PS tl (stepS (sysOf x) l) := by
  have hN := h.ok.hN
  apply bits_ext
  intro i
  rw [step_bit q h.ok', PS_bit, PS_bit]
  constructor
  · rintro (⟨a, h1, h2, h3⟩ | ⟨m', h1, h2, h3, h4⟩)
    · exact ⟨a, h1, (step_bit x h.ok l a).2 (.inl h2), h3⟩
    · obtain ⟨m, hm, rfl⟩ := (h.mem m').1 h1
      obtain ⟨b1, b2, _⟩ := h.ok.mv m hm
      exact ⟨m.tgt, by omega, (step_bit x h.ok l _).2 (.inr ⟨m, hm, h2, (h.bit hl b1).1 h3, rfl⟩), h4⟩
  · rintro ⟨a, h1, h2, h3⟩
    rcases (step_bit x h.ok l a).1 h2 with h4 | ⟨m, hm, h4, h5, h6⟩
    · exact .inl ⟨a, h1, h4, h3⟩
    · obtain ⟨b1, b2, _⟩ := h.ok.mv m hm
      refine .inr ⟨mvP tl m, (h.mem _).2 ⟨m, hm, rfl⟩, h4, (h.bit hl b1).2 h5, ?_⟩
      rw [← h3, ← h6]
      rfl
theorem close (h : Ren x q tl) : ∀ (k l : Nat), l < 2 ^ x.N → closeN (sysOf q) k (PS tl l) = PS tl (closeN (sysOf x) k l)
  | 0, _, _ => rfl
  | k + 1, l, hl => by
    have hs := stepS_lt (sysOf x) (x.silb h.ok) hl
    unfold closeN
    rw [h.step hl]
    by_cases e : stepS (sysOf x) l = l
    · rw [if_pos e, if_pos (by rw [e])]
    · rw [if_neg e, if_neg (fun e2 => e (h.ps_inj hs hl e2))]
      exact h.close k _ hs
theorem closed (h : Ren x q tl) {l : Nat} (hl : l < 2 ^ x.N) : closedS (sysOf q) (PS tl l) = PS tl (closedS (sysOf x) l) := h.close 1024 l hl
theorem quiet (h : Ren x q tl) {a : Nat} (ha : a < x.N) : quietR q (tl.getD a 0) = true ↔ quietR x a = true := by
  unfold quietR
  rw [List.all_eq_true, List.all_eq_true]
  constructor
  · intro h1 m hm
    have h2 := h1 _ ((h.mem _).2 ⟨m, hm, rfl⟩)
    simp only [Bool.not_eq_true', Bool.and_eq_false_iff, decide_eq_false_iff_not] at h2 ⊢
    rcases h2 with h3 | h3
    · exact .inl fun e => h3 (by show tl.getD m.frm 0 = _; rw [e])
    · exact .inr h3
  · intro h1 m' hm'
    obtain ⟨m, hm, rfl⟩ := (h.mem m').1 hm'
    have h2 := h1 m hm
    simp only [Bool.not_eq_true', Bool.and_eq_false_iff, decide_eq_false_iff_not] at h2 ⊢
    rcases h2 with h3 | h3
    · exact .inl fun e => h3 (h.inj (h.ok.mv m hm).1 ha e)
    · exact .inr h3
theorem outs (h : Ren x q tl) {l e : Nat} (hl : l < 2 ^ x.N) (he : e ≤ x.inp + x.out) : outS (sysOf q) (PS tl l) e = PS tl (outS (sysOf x) l e) := by
  have hN := h.ok.hN
  apply bits_ext
  intro i
  rw [out_bit q h.ok' _ _ _ (by rw [h.mv.inp, h.mv.out]; exact he), PS_bit]
  unfold markR
  rw [h.mv.inp, h.mv.out]
  constructor
  · rintro (⟨h1, h2, h3⟩ | ⟨m', h1, h2, h3, h4⟩)
    · obtain ⟨a, g1, g2, rfl⟩ := (PS_bit _ _ _).1 ((mem_bitsL _ _).1 h2).2
      exact ⟨a, g1, (out_bit x h.ok l e a he).2 (.inl ⟨h1, (mem_bitsL _ _).2 ⟨g1, g2⟩, (h.quiet (lt_of_bit hl g2)).1 h3⟩), rfl⟩
    · obtain ⟨m, hm, rfl⟩ := (h.mem m').1 h1
      obtain ⟨b1, b2, _⟩ := h.ok.mv m hm
      exact ⟨m.tgt, by omega, (out_bit x h.ok l e _ he).2 (.inr ⟨m, hm, (mem_bitsL _ _).2 ⟨by omega, (h.bit hl b1).1 ((mem_bitsL _ _).1 h2).2⟩, h3, rfl⟩), h4⟩
  · rintro ⟨a, h1, h2, rfl⟩
    rcases (out_bit x h.ok l e a he).1 h2 with ⟨g1, g2, g3⟩ | ⟨m, hm, g2, g3, g4⟩
    · have ga := ((mem_bitsL _ _).1 g2).2
      have gN := lt_of_bit hl ga
      have := h.small gN
      exact .inl ⟨g1, (mem_bitsL _ _).2 ⟨by omega, (h.bit hl gN).2 ga⟩, (h.quiet gN).2 g3⟩
    · obtain ⟨b1, b2, _⟩ := h.ok.mv m hm
      have := h.small b1
      refine .inr ⟨mvP tl m, (h.mem _).2 ⟨m, hm, rfl⟩, (mem_bitsL _ _).2 ⟨by show tl.getD m.frm 0 < 10; omega, (h.bit hl b1).2 ((mem_bitsL _ _).1 g2).2⟩, g3, ?_⟩
      rw [← g4]
      rfl
theorem after (h : Ren x q tl) {l e : Nat} (hl : l < 2 ^ x.N) (he : e ≤ x.inp + x.out) : afterS (sysOf q) (PS tl l) e = PS tl (afterS (sysOf x) l e) := by
  unfold afterS
  rw [h.outs hl he, h.closed (out_lt x h.ok hl)]
theorem alt (h : Ren x q tl) {l e : Nat} (hl : l < 2 ^ x.N) : afterS (sysOf x) l e < 2 ^ x.N := afterS_lt (sysOf x) (x.byb h.ok) (x.silb h.ok) hl
theorem flt (h : Ren x q tl) : firstS (sysOf x) < 2 ^ x.N := firstS_lt (sysOf x) h.ok.hs (x.silb h.ok)
theorem first (h : Ren x q tl) : firstS (sysOf q) = PS tl (firstS (sysOf x)) := by
  unfold firstS
  have e : (sysOf q).start = tl.getD x.start 0 := h.mv.start
  rw [e, ← h.one h.ok.hs, h.closed (Nat.pow_lt_pow_right (by decide) h.ok.hs)]
  rfl
theorem fold (h : Ren x q tl) : ∀ (p : List Nat) (l : Nat), l < 2 ^ x.N → (∀ a ∈ p, a ≤ x.inp + x.out) → p.foldl (afterS (sysOf q)) (PS tl l) = PS tl (p.foldl (afterS (sysOf x)) l)
  | [], _, _, _ => rfl
  | e :: p, l, hl, hp => by
    rw [List.foldl_cons, List.foldl_cons, h.after hl (hp e List.mem_cons_self)]
    exact h.fold p _ (h.alt hl) (fun a ha => hp a (List.mem_cons_of_mem _ ha))
theorem along (h : Ren x q tl) {p : List Nat} (hp : ∀ a ∈ p, a ≤ x.inp + x.out) : alongS (sysOf q) p = PS tl (alongS (sysOf x) p) := by
  unfold alongS
  rw [h.first]
  exact h.fold p _ h.flt hp
theorem shows (h : Ren x q tl) {l e : Nat} (hl : l < 2 ^ x.N) (he : e ≤ x.inp + x.out) : showsS (sysOf q) (PS tl l) e = showsS (sysOf x) l e := by
  unfold showsS
  rw [h.after hl he, show (sysOf q).inp = (sysOf x).inp from h.mv.inp]
  congr 1
  rw [Bool.eq_iff_iff]
  simp only [bne_iff_ne]
  exact not_congr (h.zero (h.alt hl))
end Ren
end Go.Proofs.YtcbhaeniahckhaaDoor
end
section
set_option linter.unusedSimpArgs false
namespace Go.Proofs.YtcbhaeniahckhaaDoor
open Go.RowKit Go.Shelf Go.Deep
/-- two systems, and the same ones with other numbers -/
structure Ren2 (x y q z : Rx) (tl ul : List Nat) : Prop where
  a : Ren x q tl
  b : Ren y z ul
  io : x.inp = y.inp ∧ x.out = y.out
def mapP (tl ul : List Nat) (p : Nat × Nat) : Nat × Nat := (PS tl p.1, PS ul p.2)
def mapSt (tl ul : List Nat) (st : St) : St := (st.1.map (mapP tl ul), st.2)
namespace Ren2
variable {x y q z : Rx} {tl ul : List Nat}
theorem fails (h : Ren2 x y q z tl ul) {p : Nat × Nat} (h1 : p.1 < 2 ^ x.N) (h2 : p.2 < 2 ^ y.N) : failsS (sysOf q) (sysOf z) (mapP tl ul p) = failsS (sysOf x) (sysOf y) p := by
  have key : ∀ n e, e + n ≤ x.inp + x.out + 1 → failsFrom (sysOf q) (sysOf z) (mapP tl ul p) n e = failsFrom (sysOf x) (sysOf y) p n e := by
    intro n
    induction n with
    | zero => intro e _; rfl
    | succ n ih =>
      intro e he
      have h3 := h.io
      rw [failsFrom_step, failsFrom_step, ih (e + 1) (by omega)]
      rw [show (mapP tl ul p).1 = PS tl p.1 from rfl, show (mapP tl ul p).2 = PS ul p.2 from rfl, h.a.shows h1 (by omega), h.b.shows h2 (by omega)]
  unfold failsS
  rw [show (sysOf q).out = x.out from h.a.mv.out, show (sysOf q).inp = x.inp from h.a.mv.inp]
  exact key _ _ (by omega)
theorem mem (h : Ren2 x y q z tl ul) {st : List (Nat × Nat)} (hst : ∀ p ∈ st, p.1 < 2 ^ x.N ∧ p.2 < 2 ^ y.N) {p : Nat × Nat} (hp : p.1 < 2 ^ x.N ∧ p.2 < 2 ^ y.N) : mapP tl ul p ∈ st.map (mapP tl ul) ↔ p ∈ st := by
  rw [List.mem_map]
  constructor
  · rintro ⟨r, h1, h2⟩
    have h3 := hst r h1
    have e1 : r.1 = p.1 := h.a.ps_inj h3.1 hp.1 (congrArg Prod.fst h2)
    have e2 : r.2 = p.2 := h.b.ps_inj h3.2 hp.2 (congrArg Prod.snd h2)
    rw [← Prod.ext e1 e2]
    exact h1
  · intro h1
    exact ⟨p, h1, rfl⟩
theorem add (h : Ren2 x y q z tl ul) {st : St} (hst : ∀ p ∈ st.1, p.1 < 2 ^ x.N ∧ p.2 < 2 ^ y.N) {p : Nat × Nat} (hp : p.1 < 2 ^ x.N ∧ p.2 < 2 ^ y.N) (f b : Int) : addS (mapSt tl ul st) (mapP tl ul p) f b = mapSt tl ul (addS st p f b) := by
  unfold addS
  have e : (mapP tl ul p ∈ (mapSt tl ul st).1) ↔ p ∈ st.1 := h.mem hst hp
  by_cases hm : p ∈ st.1
  · rw [if_pos hm, if_pos (e.2 hm)]
  · rw [if_neg hm, if_neg (fun k => hm (e.1 k))]
    show (st.1.map (mapP tl ul) ++ [mapP tl ul p], st.2.1 ++ [f], st.2.2 ++ [b]) = ((st.1 ++ [p]).map (mapP tl ul), st.2.1 ++ [f], st.2.2 ++ [b])
    rw [List.map_append]
    rfl
theorem ev (h : Ren2 x y q z tl ul) {st : St} (hst : ∀ p ∈ st.1, p.1 < 2 ^ x.N ∧ p.2 < 2 ^ y.N) {p : Nat × Nat} (hp : p.1 < 2 ^ x.N ∧ p.2 < 2 ^ y.N) (i e : Nat) (he : e ≤ x.inp + x.out) : evS (sysOf q) (sysOf z) i (mapP tl ul p) (mapSt tl ul st) e = mapSt tl ul (evS (sysOf x) (sysOf y) i p st e) := by
  have hio := h.io
  unfold evS
  rw [show (mapP tl ul p).1 = PS tl p.1 from rfl, show (mapP tl ul p).2 = PS ul p.2 from rfl, h.a.after hp.1 he, h.b.after hp.2 (by omega)]
  have hz := h.b.zero (h.b.alt (e := e) hp.2)
  by_cases e0 : afterS (sysOf y) p.2 e = 0
  · rw [if_neg (by rw [bne_iff_ne]; exact fun k => k (hz.2 e0)), if_neg (by rw [bne_iff_ne]; exact fun k => k e0)]
  · rw [if_pos (by rw [bne_iff_ne]; exact fun k => e0 (hz.1 k)), if_pos (by rw [bne_iff_ne]; exact e0)]
    exact h.add hst (p := (afterS (sysOf x) p.1 e, afterS (sysOf y) p.2 e)) ⟨h.a.alt hp.1, h.b.alt hp.2⟩ _ _
theorem evs (h : Ren2 x y q z tl ul) {st : St} (hst : Good (sysOf x) (sysOf y) st) {i : Nat} (hi : i < st.1.length) {p : Nat × Nat} (hp : p.1 < 2 ^ x.N ∧ p.2 < 2 ^ y.N) : ∀ n, n ≤ x.inp + x.out + 1 → evsS (sysOf q) (sysOf z) i (mapP tl ul p) (mapSt tl ul st) n = mapSt tl ul (evsS (sysOf x) (sysOf y) i p st n)
  | 0, _ => rfl
  | n + 1, hn => by
    rw [evsS_succ, evsS_succ, h.evs hst hi hp n (by omega)]
    have hg := (Good.evsS hst (x.byb h.a.ok) (x.silb h.a.ok) (y.byb h.b.ok) (y.silb h.b.ok) i p hp hi n).1
    exact h.ev hg.bd hp i n (by omega)
theorem run (h : Ren2 x y q z tl ul) : ∀ (n i : Nat) (st : St), Good (sysOf x) (sysOf y) st → runS (sysOf q) (sysOf z) n i (mapSt tl ul st) = ((runS (sysOf x) (sysOf y) n i st).1, mapSt tl ul (runS (sysOf x) (sysOf y) n i st).2)
  | 0, _, _, _ => rfl
  | n + 1, i, st, hg => by
    have hl : (mapSt tl ul st).1.length = st.1.length := List.length_map _
    by_cases hi : i < st.1.length
    · have hm := hg.bd _ (getD_mem' (d := (0, 0)) hi)
      have hp : (mapSt tl ul st).1.getD i (0, 0) = mapP tl ul (st.1.getD i (0, 0)) := by
        show (st.1.map (mapP tl ul)).getD i (0, 0) = _
        rw [List.getD_eq_getElem?_getD, List.getD_eq_getElem?_getD, List.getElem?_map, List.getElem?_eq_getElem hi]
        rfl
      have hf := h.fails hm.1 hm.2
      cases hr : failsS (sysOf x) (sysOf y) (st.1.getD i (0, 0)) with
      | some e =>
        rw [runS_fail (sysOf x) (sysOf y) n i st _ e hi rfl hr, runS_fail (sysOf q) (sysOf z) n i (mapSt tl ul st) _ e (by rw [hl]; exact hi) rfl (by rw [hp, hf, hr])]
        rfl
      | none =>
        rw [runS_next (sysOf x) (sysOf y) n i st _ hi rfl hr, runS_next (sysOf q) (sysOf z) n i (mapSt tl ul st) _ (by rw [hl]; exact hi) rfl (by rw [hp, hf, hr])]
        have e1 : (sysOf q).inp + (sysOf q).out + 1 = x.inp + x.out + 1 := by rw [show (sysOf q).inp = x.inp from h.a.mv.inp, show (sysOf q).out = x.out from h.a.mv.out]
        rw [hp, e1, h.evs hg hi hm _ (Nat.le_refl _)]
        exact h.run n (i + 1) _ (Good.evsS hg (x.byb h.a.ok) (x.silb h.a.ok) (y.byb h.b.ok) (y.silb h.b.ok) i _ hm hi (x.inp + x.out + 1)).1
    · rw [runS_end (sysOf x) (sysOf y) (n + 1) i st hi, runS_end (sysOf q) (sysOf z) (n + 1) i (mapSt tl ul st) (by rw [hl]; exact hi)]
theorem seek (h : Ren2 x y q z tl ul) : (seekS q z).1 = (seekS x y).1 ∧ (seekS q z).2.1.length = (seekS x y).2.1.length := by
  have h0 : st0 (sysOf q) (sysOf z) = mapSt tl ul (st0 (sysOf x) (sysOf y)) := by
    unfold st0 mapSt mapP
    rw [h.a.first, h.b.first]
    rfl
  have hr := h.run fuelS 0 (st0 (sysOf x) (sysOf y)) (Good.st0 h.a.flt h.b.flt)
  unfold seekS
  rw [h0, hr]
  exact ⟨rfl, List.length_map _⟩
end Ren2
namespace Ren
variable {x q : Rx} {tl : List Nat}
theorem obs (h : Ren x q tl) (ev : Option Nat) (rc : List Nd → List Nd) (other : Int) {l : Nat} (hl : l < 2 ^ x.N) (T : List Nd) : ∀ n, n ≤ x.out + 1 → obsS ev rc other (sysOf q) (PS tl l) T n = obsS ev rc other (sysOf x) l T n
  | 0, _ => by rw [obsS_zero, obsS_zero]
  | n + 1, hn => by
    rw [obsS_succ, obsS_succ, h.obs ev rc other hl T n (by omega)]
    unfold obsStep
    rw [show (sysOf q).inp = x.inp from h.mv.inp, show (sysOf x).inp = x.inp from rfl, h.shows hl (by omega)]
theorem node (h : Ren x q tl) : ∀ (rest : List Nat) (l : Nat) (T : List Nd), l < 2 ^ x.N → (∀ a ∈ rest, a ≤ x.inp + x.out) → nodeS (sysOf q) rest (PS tl l) T = nodeS (sysOf x) rest l T
  | [], l, T, hl, _ => by
    rw [nodeS, nodeS, show (sysOf q).out = x.out from h.mv.out, show (sysOf x).out = x.out from rfl, h.obs none id 1 hl T _ (Nat.le_refl _)]
  | e :: rest, l, T, hl, hr => by
    have he := hr e List.mem_cons_self
    have hr' : ∀ a ∈ rest, a ≤ x.inp + x.out := fun a ha => hr a (List.mem_cons_of_mem _ ha)
    have hq : nodeS (sysOf q) rest (PS tl (afterS (sysOf x) l e)) = nodeS (sysOf x) rest (afterS (sysOf x) l e) := funext fun T' => h.node rest _ T' (h.alt hl) hr'
    rw [nodeS, nodeS, show (sysOf q).out = x.out from h.mv.out, show (sysOf x).out = x.out from rfl, show (sysOf q).inp = x.inp from h.mv.inp, show (sysOf x).inp = x.inp from rfl, h.after hl he, hq]
    rw [h.obs (some e) _ 2 hl T _ (Nat.le_refl _)]
theorem test (h : Ren x q tl) {tr : List Nat} (hr : ∀ a ∈ tr, a ≤ x.inp + x.out) : testS (sysOf q) tr = testS (sysOf x) tr := by
  unfold testS
  rw [h.first]
  exact h.node tr _ [] h.flt hr
end Ren
/-- the states that some trace reaches, found round by round -/
def nextR (S : SysP) (l : Nat) : Nat := (List.range (S.inp + S.out)).foldl (fun o e => o ||| afterS S l e) l
def reachN (S : SysP) : Nat → Nat → Nat
  | 0, l => l
  | n + 1, l => if nextR S l = l then l else reachN S n (nextR S l)
def reachS (S : SysP) : Nat := reachN S 1024 (firstS S)
def deafAt (S : SysP) (a n : Nat) : Prop := a ∈ bitsL (reachS S) ∧ n < S.inp ∧ afterS S (closedS S (2 ^ a)) n = 0
theorem nextR_lt (S : SysP) (hS : ∀ a e, S.by_ a e < 2 ^ S.N) (hS' : ∀ a, S.sil a < 2 ^ S.N) {l : Nat} (hl : l < 2 ^ S.N) : nextR S l < 2 ^ S.N := foldl_or_lt (fun e => afterS S l e) (fun _ => afterS_lt S hS hS' hl) _ _ hl
theorem nextR_le (S : SysP) (l : Nat) : l ≤ nextR S l := foldl_or_le (fun e => afterS S l e) _ _
namespace Ren
variable {x q : Rx} {tl : List Nat}
theorem nextF (h : Ren x q tl) {l : Nat} (hl : l < 2 ^ x.N) : ∀ (es : List Nat) (o : Nat), (∀ e ∈ es, e ≤ x.inp + x.out) → es.foldl (fun o e => o ||| afterS (sysOf q) (PS tl l) e) (PS tl o) = PS tl (es.foldl (fun o e => o ||| afterS (sysOf x) l e) o)
  | [], _, _ => rfl
  | e :: es, o, he => by
    rw [List.foldl_cons, List.foldl_cons, h.after hl (he e List.mem_cons_self), ← PS_or]
    exact h.nextF hl es _ (fun a ha => he a (List.mem_cons_of_mem _ ha))
theorem next (h : Ren x q tl) {l : Nat} (hl : l < 2 ^ x.N) : nextR (sysOf q) (PS tl l) = PS tl (nextR (sysOf x) l) := by
  unfold nextR
  rw [show (sysOf q).out = x.out from h.mv.out, show (sysOf x).out = x.out from rfl, show (sysOf q).inp = x.inp from h.mv.inp, show (sysOf x).inp = x.inp from rfl]
  exact h.nextF hl _ _ (fun e he => by have := List.mem_range.1 he; omega)
theorem reachN_eq (h : Ren x q tl) : ∀ (n l : Nat), l < 2 ^ x.N → reachN (sysOf q) n (PS tl l) = PS tl (reachN (sysOf x) n l) ∧ reachN (sysOf x) n l < 2 ^ x.N
  | 0, _, hl => ⟨rfl, hl⟩
  | n + 1, l, hl => by
    have hs := nextR_lt (sysOf x) (x.byb h.ok) (x.silb h.ok) hl
    unfold reachN
    rw [h.next hl]
    by_cases e : nextR (sysOf x) l = l
    · rw [if_pos e, if_pos (by rw [e])]
      exact ⟨rfl, hl⟩
    · rw [if_neg e, if_neg (fun e2 => e (h.ps_inj hs hl e2))]
      exact h.reachN_eq n _ hs
theorem reach (h : Ren x q tl) : reachS (sysOf q) = PS tl (reachS (sysOf x)) ∧ reachS (sysOf x) < 2 ^ x.N := by
  unfold reachS
  rw [h.first]
  exact h.reachN_eq 1024 _ h.flt
theorem deaf (h : Ren x q tl) : (∃ a n, deafAt (sysOf q) a n) ↔ ∃ a n, deafAt (sysOf x) a n := by
  obtain ⟨h1, h2⟩ := h.reach
  have hN := h.ok.hN
  have key : ∀ a n, a < x.N → n ≤ x.inp + x.out → (afterS (sysOf q) (closedS (sysOf q) (2 ^ tl.getD a 0)) n = 0 ↔ afterS (sysOf x) (closedS (sysOf x) (2 ^ a)) n = 0) := by
    intro a n ha hn
    have hp : (2 : Nat) ^ a < 2 ^ x.N := Nat.pow_lt_pow_right (by decide) ha
    have hc := closedS_lt (sysOf x) (x.silb h.ok) hp
    rw [← h.one ha, h.closed hp, h.after hc hn]
    exact h.zero (h.alt hc)
  unfold deafAt
  rw [h1, show (sysOf q).inp = x.inp from h.mv.inp, show (sysOf x).inp = x.inp from rfl]
  constructor
  · rintro ⟨b, n, g1, g2, g3⟩
    obtain ⟨a, a1, a2, rfl⟩ := (PS_bit _ _ _).1 ((mem_bitsL _ _).1 g1).2
    exact ⟨a, n, (mem_bitsL _ _).2 ⟨a1, a2⟩, g2, (key a n (lt_of_bit h2 a2) (by omega)).1 g3⟩
  · rintro ⟨a, n, g1, g2, g3⟩
    have a2 := ((mem_bitsL _ _).1 g1).2
    have aN := lt_of_bit h2 a2
    have := h.small aN
    exact ⟨tl.getD a 0, n, (mem_bitsL _ _).2 ⟨by omega, (h.bit h2 aN).2 a2⟩, g2, (key a n aN (by omega)).2 g3⟩
end Ren
end Go.Proofs.YtcbhaeniahckhaaDoor
end
section
set_option linter.unusedSimpArgs false
namespace Go.Proofs.YtcbhaeniahckhaaDoor
open Go.RowKit Go.Shelf Go.Deep
theorem cmpI_self (a : Int) : cmpI a a = 0 := by unfold cmpI; rw [if_neg (Int.lt_irrefl a), if_neg (Int.lt_irrefl a)]
theorem cmpL_snoc (p : List Nat) (a b : Nat) : cmpL (p ++ [a]) (p ++ [b]) = cmpI a b := by
  induction p with
  | nil =>
    show (if cmpI a b = 0 then cmpL [] [] else cmpI a b) = cmpI a b
    by_cases h : cmpI a b = 0
    · rw [if_pos h, h]; rfl
    · rw [if_neg h]
  | cons c p ih =>
    show (if cmpI c c = 0 then cmpL (p ++ [a]) (p ++ [b]) else cmpI c c) = cmpI a b
    rw [if_pos (cmpI_self _), ih]
theorem before_snoc (p : List Nat) (a b : Nat) (h : b ≤ a) : beforeS (p ++ [a]) (p ++ [b]) = false := by
  unfold beforeS
  rw [orL_cons, orL_cons, cmpL_snoc]
  simp only [List.length_append, List.length_singleton, cmpI_self, if_true]
  have h1 : ¬ (a : Int) < b := by omega
  have h2 : 0 ≤ cmpI (a : Int) b := by unfold cmpI; rw [if_neg h1]; split <;> decide
  rw [decide_eq_false_iff_not]
  split
  · decide
  · omega
/-- what is noted behind a note of a failing run -/
theorem note_keep (R : List Nat) (u : Int) (tr : List Nat) (h : u < 3 ∨ u = 3 ∧ beforeS tr R = false) : noteS (u, tr) (3, R) = (3, R) := by
  unfold noteS betterS
  rcases h with h | ⟨h, h2⟩
  · have h1 : ¬ (3 : Int) < u := by omega
    have h2 : ¬ u = 3 := by omega
    simp [h1, h2]
  · subst h
    simp [h2]
theorem note_up (tr : List Nat) (v : Int × List Nat) (h : v.1 < 3) : noteS (3, tr) v = (3, tr) := by
  unfold noteS betterS
  simp [h]
theorem note_low (u : Int) (tr : List Nat) (v : Int × List Nat) (hu : u < 3) (h : v.1 < 3) : (noteS (u, tr) v).1 < 3 := by
  unfold noteS
  split
  · exact hu
  · exact h
theorem visit_low {X : SysP} {T : List Nd} {i : Nat} (hl : leafS (T.getD i ndD) = false) (tr : List Nat) (v : Int × List Nat) (hv : v.1 < 3) : (visitS X T i tr v).1 < 3 := by
  unfold visitS
  rw [hl, if_neg (by decide)]
  split
  · exact note_low 1 tr v (by decide) hv
  · exact hv
theorem leaf_run {X : SysP} {T : List Nd} {i : Nat} {u : Int} (h : LeafAt T i u) (f : Nat) (tr : List Nat) (v : Int × List Nat) : downS X T (f + 1) i tr v = noteS (u, tr) v := by
  rw [downS, visitS, h.2, show leafS ⟨-1, u, []⟩ = true from rfl, if_pos rfl]
  rfl
/-- a fold that comes by one place where it gets its value, which it keeps -/
theorem fold_run (g : Int × List Nat → Nat → Int × List Nat) (R : Int × List Nat) (k0 : Nat) (hlow : ∀ k, k < k0 → ∀ v : Int × List Nat, v.1 < 3 → (g v k).1 < 3) (hat : ∀ v : Int × List Nat, v.1 < 3 → g v k0 = R) : ∀ (n : Nat) (v : Int × List Nat), v.1 < 3 → (∀ k, k0 < k → k < n → g R k = R) →
    (n ≤ k0 → ((List.range n).foldl g v).1 < 3) ∧ (k0 < n → (List.range n).foldl g v = R)
  | 0, v, hv, _ => ⟨fun _ => hv, fun h => by omega⟩
  | n + 1, v, hv, hk => by
    obtain ⟨h1, h2⟩ := fold_run g R k0 hlow hat n v hv (fun k a b => hk k a (by omega))
    rw [List.range_succ, List.foldl_append, List.foldl_cons, List.foldl_nil]
    refine ⟨fun h => hlow n (by omega) _ (h1 (by omega)), fun h => ?_⟩
    by_cases e : n = k0
    · subst e; exact hat _ (h1 (Nat.le_refl _))
    · rw [h2 (by omega)]; exact hk n (by omega) (by omega)
/-- the system fails behind p only, first by e -/
structure FailP (X S : SysP) (p : List Nat) (e : Nat) : Prop where
  io : X.inp = S.inp ∧ X.out = S.out
  ev : ∀ a ∈ p, a ≤ S.inp + S.out
  run : ∀ k, k ≤ p.length → alongS X (p.take k) ≠ 0
  lo : S.inp ≤ e
  hi : e ≤ S.inp + S.out
  xs : afterS X (alongS X p) e ≠ 0
  ss : showsS S (alongS S p) e = false
  least : ∀ a, S.inp ≤ a → a < e → afterS X (alongS X p) a = 0 ∨ showsS S (alongS S p) a = true
  before : ∀ k, k < p.length → ∀ a, S.inp ≤ a → a ≤ S.inp + S.out → afterS X (alongS X (p.take k)) a = 0 ∨ showsS S (alongS S (p.take k)) a = true
theorem tree_run {X S : SysP} {p : List Nat} {e : Nat} (h : FailP X S p e) {T : List Nd} : ∀ (rest tr : List Nat) (at_ f : Nat) (v : Int × List Nat), tr ++ rest = p → rest.length + 1 < f → v.1 < 3 → TreeAt S T rest (alongS S tr) at_ → downS X T f at_ tr v = (3, p ++ [e])
  | [], tr, at_, f, v, hp, hf, hv, ht => by
    obtain ⟨f, rfl⟩ : ∃ g, f = g + 1 + 1 := ⟨f - 2, by simp at hf; omega⟩
    rw [List.append_nil] at hp
    subst hp
    obtain ⟨_, h1, h2, h3⟩ := ht
    have hlf : leafS (T.getD at_ ndD) = false := by unfold leafS; rw [h2]; simp
    have hio := h.io
    have hlo := h.lo
    have hhi := h.hi
    have ev : ∀ k, evNd X (T.getD at_ ndD) k = S.inp + k := fun k => by unfold evNd; rw [if_pos h1, hio.1]
    rw [downS, h2]
    obtain ⟨k0, hk0⟩ : ∃ k0, e = S.inp + k0 := ⟨e - S.inp, by omega⟩
    refine (fold_run _ (3, tr ++ [e]) k0 ?_ ?_ (S.out + 1) _ (visit_low hlf tr v hv) ?_).2 (by omega)
    · intro k hk v hv
      simp only [ev k]
      by_cases hz : afterS X (alongS X tr) (S.inp + k) = 0
      · rw [if_neg (by rw [hz]; decide)]; exact hv
      · have hs := (h.least (S.inp + k) (by omega) (by omega)).resolve_left hz
        rw [if_pos (bne_iff_ne.2 hz), leaf_run (h3 k (by omega)) f, hs]
        exact note_low _ _ _ (by decide) hv
    · intro v hv
      have hx := h.xs
      have hs := h.ss
      rw [hk0] at hx hs
      simp only [ev k0]
      rw [if_pos (bne_iff_ne.2 hx), leaf_run (h3 k0 (by omega)) f, hs, hk0]
      exact note_up _ _ hv
    · intro k hk hk2
      simp only [ev k]
      split
      · rw [leaf_run (h3 k (by omega)) f]
        refine note_keep _ _ _ ?_
        cases showsS S (alongS S tr) (S.inp + k)
        · exact .inr ⟨rfl, before_snoc _ _ _ (by omega)⟩
        · exact .inl (by decide)
      · rfl
  | c :: rest, tr, at_, f, v, hp, hf, hv, ht => by
    obtain ⟨f, rfl⟩ : ∃ g, f = g + 1 := ⟨f - 1, by omega⟩
    simp only [List.length_cons] at hf
    obtain ⟨_, ht⟩ := ht
    have hio := h.io
    have hpl : p.length = tr.length + rest.length + 1 := by rw [← hp]; simp; omega
    have htk : p.take tr.length = tr := by rw [← hp]; exact List.take_left
    have htk1 : p.take (tr.length + 1) = tr ++ [c] := by
      rw [← hp, show tr ++ c :: rest = (tr ++ [c]) ++ rest by simp]
      exact List.take_left' (by simp)
    have hrun := h.run (tr.length + 1) (by omega)
    rw [htk1, alongS_snoc] at hrun
    have hbef := h.before tr.length (by omega)
    rw [htk] at hbef
    have hpc : tr ++ [c] ++ rest = p := by rw [← hp]; simp
    by_cases he : c < S.inp
    · rw [if_pos he] at ht
      obtain ⟨h1, j, h2, h3⟩ := ht
      have hlf : leafS (T.getD at_ ndD) = false := by unfold leafS; rw [h2]; simp
      have ev : evNd X (T.getD at_ ndD) 0 = c := by
        unfold evNd
        rw [h1, if_neg (by omega)]
        simp
      rw [downS, h2]
      show (if afterS X (alongS X tr) (evNd X (T.getD at_ ndD) 0) != 0 then downS X T f j (tr ++ [evNd X (T.getD at_ ndD) 0]) (visitS X T at_ tr v) else visitS X T at_ tr v) = _
      rw [ev, if_pos (bne_iff_ne.2 hrun)]
      rw [← alongS_snoc] at h3
      exact tree_run h rest (tr ++ [c]) j f _ hpc (by omega) (visit_low hlf tr v hv) h3
    · rw [if_neg he] at ht
      obtain ⟨h1, h2, h3⟩ := ht
      have hlf : leafS (T.getD at_ ndD) = false := by unfold leafS; rw [h2]; simp
      have ev : ∀ k, evNd X (T.getD at_ ndD) k = S.inp + k := fun k => by unfold evNd; rw [if_pos h1, hio.1]
      have hcm := h.ev c (by rw [← hp]; simp)
      obtain ⟨k0, hk0⟩ : ∃ k0, c = S.inp + k0 := ⟨c - S.inp, by omega⟩
      rw [downS, h2]
      obtain ⟨f, rfl⟩ : ∃ g, f = g + 1 := ⟨f - 1, by omega⟩
      have other : ∀ k, k ≠ k0 → k ≤ S.out → afterS X (alongS X tr) (S.inp + k) ≠ 0 → LeafAt T ((T.getD at_ ndD).nx.getD k 0) 2 := fun k hk hk2 hz => by
        have h4 := h3 k hk2
        rw [if_neg (by omega)] at h4
        rwa [(hbef (S.inp + k) (by omega) (by omega)).resolve_left hz] at h4
      refine (fold_run _ (3, p ++ [e]) k0 ?_ ?_ (S.out + 1) _ (visit_low hlf tr v hv) ?_).2 (by omega)
      · intro k hk v hv
        simp only [ev k]
        by_cases hz : afterS X (alongS X tr) (S.inp + k) = 0
        · rw [if_neg (by rw [hz]; decide)]; exact hv
        · rw [if_pos (bne_iff_ne.2 hz), leaf_run (other k (by omega) (by omega) hz) f]
          exact note_low _ _ _ (by decide) hv
      · intro v hv
        have h4 := h3 k0 (by omega)
        rw [if_pos hk0, ← alongS_snoc] at h4
        simp only [ev k0]
        rw [← hk0, if_pos (bne_iff_ne.2 hrun)]
        exact tree_run h rest (tr ++ [c]) _ (f + 1) v hpc (by omega) hv h4
      · intro k hk hk2
        simp only [ev k]
        split
        · rename_i hz
          rw [leaf_run (other k (by omega) (by omega) (bne_iff_ne.1 hz)) f]
          exact note_keep _ _ _ (.inl (by decide))
        · rfl
theorem failP_of (x y : Rx) (hx : x.ok) (hy : y.ok) (hio : x.inp = y.inp ∧ x.out = y.out) {p : List Nat} {e : Nat} (h : SomeP x y p e) : FailP (sysOf x) (sysOf y) p e := by
  have hf := h.fl
  unfold failsS at hf
  obtain ⟨h1, h2, h3, h4, h5⟩ := failsFrom_some _ _ _ _ _ _ hf
  have hX : (sysOf x).inp = y.inp := hio.1
  have hO : (sysOf x).out = y.out := hio.2
  have hsx : ∀ l a, y.inp ≤ a → (showsS (sysOf x) l a = false ↔ afterS (sysOf x) l a = 0) := fun l a ha => by
    unfold showsS
    rw [hX, decide_eq_true ha, Bool.true_and]
    simp
  have hxs : afterS (sysOf x) (alongS (sysOf x) p) e ≠ 0 := fun e0 => by
    rw [(hsx _ e (by rw [← hX]; exact h1)).2 e0] at h3
    cases h3
  have hz : alongS (sysOf x) p ≠ 0 := fun e0 => hxs (by rw [e0, afterS_zero])
  refine ⟨hio, fun a ha => by have := h.ev a ha; show a ≤ y.inp + y.out; omega, fun k _ => along_ne (sysOf x) p hz k, by show y.inp ≤ e; omega, by show e ≤ y.inp + y.out; omega, hxs, h4, ?_, ?_⟩
  · intro a a1 a2
    have ha : y.inp ≤ a := a1
    exact (h5 a (by omega) a2).imp (hsx _ a ha).1 id
  · intro k hk a a1 a2
    have ha : y.inp ≤ a := a1
    have ha2 : a ≤ y.inp + y.out := a2
    have hn := h.le k hk
    unfold failsS at hn
    exact (failsFrom_none _ _ _ _ _ hn a (by omega) (by omega)).imp (hsx _ a ha).1 id
theorem perform_run (x y : Rx) (hx : x.ok) (hy : y.ok) (hio : x.inp = y.inp ∧ x.out = y.out) {p : List Nat} {e : Nat} (h : SomeP x y p e) : performS (sysOf x) (testS (sysOf y) p) = (3, p ++ [e]) := by
  have hF := failP_of x y hx hy hio h
  obtain ⟨t1, _, _, _⟩ := testS_ok (sysOf y) p
  have hl := nodeS_deep (sysOf y) p (firstS (sysOf y)) [] hF.ev
  simp only [List.length_nil, Nat.zero_add] at hl
  unfold performS
  exact tree_run hF p [] 0 _ _ rfl (by show p.length + 1 < (nodeS (sysOf y) p (firstS (sysOf y)) []).length + 1; omega) (by decide) t1
end Go.Proofs.YtcbhaeniahckhaaDoor
end
