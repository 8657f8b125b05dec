/- The reference's sets are the program's; the states behind an event by the reference, walked. Conditions: those that each theorem names. -/
import Derived.Test.YtcbhaeniahckhaaDoorMo
import Derived.Test.YtcbhaeniahckhaaDoorWLast
set_option linter.unusedSimpArgs false
set_option linter.unusedVariables false
section
namespace Go.Proofs.YtcbhaeniahckhaaDoor
open Go.RowKit Go.Shelf Go.Deep
theorem mem_bitsL (n a : Nat) : a ∈ bitsL n ↔ a < 10 ∧ n.testBit a = true := by unfold bitsL; simp
theorem bits_or (f : Nat → Nat) (i : Nat) : ∀ (xs : List Nat) (l : Nat), (xs.foldl (fun o a => o ||| f a) l).testBit i = true ↔ l.testBit i = true ∨ ∃ a ∈ xs, (f a).testBit i = true
  | [], l => by simp
  | x :: xs, l => by
    rw [List.foldl_cons, bits_or f i xs, Nat.testBit_or, Bool.or_eq_true]
    simp only [List.mem_cons, exists_eq_or_imp, or_assoc]
theorem bits_pow {β : Type} (p : β → Prop) [DecidablePred p] (g : β → Nat) (i : Nat) : ∀ (xs : List β) (l : Nat), (xs.foldl (fun o m => if p m then o ||| 2 ^ g m else o) l).testBit i = true ↔ l.testBit i = true ∨ ∃ m ∈ xs, p m ∧ g m = i
  | [], l => by simp
  | x :: xs, l => by
    rw [List.foldl_cons, bits_pow p g i xs]
    simp only [List.mem_cons, exists_eq_or_imp]
    by_cases h : p x
    · rw [if_pos h, Nat.testBit_or, Bool.or_eq_true, Nat.testBit_two_pow]
      simp only [decide_eq_true_eq, h, true_and, or_assoc]
    · rw [if_neg h]
      simp only [h, false_and, false_or]
theorem sil_bit (mvs : List Mv) (a t : Nat) : (silOf mvs a).testBit t = true ↔ ∃ m ∈ mvs, (m.kind = 2 ∧ m.frm = a) ∧ m.tgt = t := by
  have h := bits_pow (fun m : Mv => m.kind = 2 ∧ m.frm = a) (fun m => m.tgt) t mvs 0
  rw [Nat.zero_testBit] at h
  simp only [Bool.false_eq_true, false_or] at h
  exact h
theorem by_bit (x : Rx) (a e t : Nat) : (byOf x x.mvs a e).testBit t = true ↔ ∃ m ∈ x.mvs, (m.kind ≠ 2 ∧ m.frm = a ∧ evOf x m = e) ∧ m.tgt = t := by
  have h := bits_pow (fun m : Mv => m.kind ≠ 2 ∧ m.frm = a ∧ evOf x m = e) (fun m => m.tgt) t x.mvs 0
  rw [Nat.zero_testBit] at h
  simp only [Bool.false_eq_true, false_or] at h
  exact h
theorem step_bit (x : Rx) (hx : x.ok) (l t : Nat) : (stepS (sysOf x) l).testBit t = true ↔ l.testBit t = true ∨ ∃ m ∈ x.mvs, m.kind = 2 ∧ l.testBit m.frm = true ∧ m.tgt = t := by
  unfold stepS
  rw [bits_or]
  refine or_congr Iff.rfl ⟨?_, ?_⟩
  · rintro ⟨a, ha, hb⟩
    obtain ⟨m, h1, ⟨h2, h3⟩, h4⟩ := (sil_bit x.mvs a t).1 hb
    exact ⟨m, h1, h2, by rw [h3]; exact ((mem_bitsL _ _).1 ha).2, h4⟩
  · rintro ⟨m, h1, h2, h3, h4⟩
    exact ⟨m.frm, (mem_bitsL _ _).2 ⟨Nat.lt_of_lt_of_le (hx.mv m h1).1 hx.hN, h3⟩, (sil_bit x.mvs _ _).2 ⟨m, h1, ⟨h2, rfl⟩, h4⟩⟩
theorem closeN_fix (S : SysP) (hN : S.N ≤ 10) (hS : ∀ a, S.sil a < 2 ^ S.N) : ∀ (k l : Nat), l < 2 ^ S.N → 1024 - l ≤ k → stepS S (closeN S k l) = closeN S k l
  | 0, l, h, hk => by have := two_pow_le hN; omega
  | k + 1, l, h, hk => by
    unfold closeN
    split
    · assumption
    · rename_i hne
      have h1 := stepS_le S l
      have h2 := two_pow_le hN
      exact closeN_fix S hN hS k _ (stepS_lt S hS h) (by omega)
theorem closeN_bits (x : Rx) (hx : x.ok) (P : Nat → Prop) (hP : ∀ m ∈ x.mvs, m.kind = 2 → P m.frm → P m.tgt) : ∀ (k l : Nat), (∀ a, l.testBit a = true → P a) → ∀ a, (closeN (sysOf x) k l).testBit a = true → P a
  | 0, _, h => h
  | k + 1, l, h => by
    unfold closeN
    split
    · exact h
    · refine closeN_bits x hx P hP k _ (fun a ha => ?_)
      rcases (step_bit x hx l a).1 ha with h1 | ⟨m, m1, m2, m3, m4⟩
      · exact h a h1
      · rw [← m4]; exact hP m m1 m2 (h _ m3)
theorem closeN_sub (x : Rx) (hx : x.ok) : ∀ (k l a : Nat), l.testBit a = true → (closeN (sysOf x) k l).testBit a = true
  | 0, _, _, h => h
  | k + 1, l, a, h => by
    unfold closeN
    split
    · exact h
    · exact closeN_sub x hx k _ a ((step_bit x hx l a).2 (.inl h))
theorem lt_of_bit {l N a : Nat} (h : l < 2 ^ N) (ha : l.testBit a = true) : a < N := by
  rcases Nat.lt_or_ge a N with h1 | h1
  · exact h1
  · rw [Nat.testBit_lt_two_pow (Nat.lt_of_lt_of_le h (Nat.pow_le_pow_right (by decide) h1))] at ha
    cases ha
theorem bitsL_range {l N : Nat} (hN : N ≤ 10) (h : l < 2 ^ N) : bitsL l = (List.range N).filter fun i => l.testBit i := by
  have key : ∀ k, (List.range (N + k)).filter (fun i => l.testBit i) = (List.range N).filter fun i => l.testBit i := by
    intro k
    induction k with
    | zero => rfl
    | succ k ih =>
      have hb : l.testBit (N + k) = false := by
        rw [Bool.eq_false_iff]
        intro hb
        have := lt_of_bit h hb
        omega
      rw [show N + (k + 1) = N + k + 1 by omega, List.range_succ, List.filter_append, ih]
      simp [hb]
  unfold bitsL
  rw [← key (10 - N), show N + (10 - N) = 10 by omega]
/-- the reference's closure is the program's -/
theorem closedL_eq (x : Rx) (hx : x.ok) (xs R : List Nat) (l : Nat) (hl : l < 2 ^ x.N) (hxs : ∀ a, a ∈ xs ↔ l.testBit a = true) (h : ClosedL x xs R) : R = bitsL (closedS (sysOf x) l) := by
  obtain ⟨L, hL, rfl⟩ := h
  have hc := closedS_lt (sysOf x) (x.silb hx) (l := l) hl
  rw [bitsL_range hx.hN hc]
  have hfix : stepS (sysOf x) (closedS (sysOf x) l) = closedS (sysOf x) l := closeN_fix (sysOf x) hx.hN (x.silb hx) 1024 l hl (by omega)
  refine List.filter_congr fun a _ => ?_
  rw [Bool.eq_iff_iff, decide_eq_true_iff]
  constructor
  · exact hL.min (fun a => (closedS (sysOf x) l).testBit a = true) (fun a ha => closeN_sub x hx _ _ _ ((hxs a).1 ha)) (fun m m1 m2 m3 => by
      rw [← hfix]; exact (step_bit x hx _ _).2 (.inr ⟨m, m1, m2, m3, rfl⟩)) a
  · exact closeN_bits x hx (fun a => a ∈ L) (fun m m1 m2 m3 => by
      obtain ⟨j, hj, ej⟩ := List.getElem_of_mem m3
      exact hL.done j hj m m1 m2 (by rw [List.getD_eq_getElem?_getD, List.getElem?_eq_getElem hj]; exact ej.symm)) 1024 l (fun a ha => hL.sub a ((hxs a).2 ha)) a
theorem quietUpto_iff (S : SysP) (a : Nat) : ∀ n, quietUpto S a n = true ↔ ∀ k, k < n → S.by_ a (S.inp + k) = 0
  | 0 => ⟨fun _ k hk => by omega, fun _ => rfl⟩
  | n + 1 => by
    unfold quietUpto
    rw [Bool.and_eq_true, quietUpto_iff S a n, beq_iff_eq]
    constructor
    · rintro ⟨h1, h2⟩ k hk
      by_cases e : k = n
      · subst e; exact h2
      · exact h1 k (by omega)
    · exact fun h => ⟨fun k hk => h k (by omega), h n (by omega)⟩
theorem zero_iff_bits (n : Nat) : n = 0 ↔ ∀ i, n.testBit i = false := ⟨fun h i => by rw [h]; simp, fun h => Nat.eq_of_testBit_eq (fun i => by rw [h i]; simp)⟩
theorem quiet_eq (x : Rx) (hx : x.ok) (a : Nat) : quietS (sysOf x) a = quietR x a := by
  rw [Bool.eq_iff_iff]
  unfold quietS quietR
  rw [Bool.and_eq_true, quietUpto_iff, beq_iff_eq, List.all_eq_true]
  constructor
  · rintro ⟨h1, h2⟩ m hm
    simp only [Bool.not_eq_true', Bool.and_eq_false_iff, decide_eq_false_iff_not]
    by_cases hf : m.frm = a
    · right
      intro hk
      rcases (hx.mv m hm).2.2 with h | h | h
      · exact hk h.1
      · have h3 := h1 m.lab h.2
        have h4 : (byOf x x.mvs a (x.inp + m.lab)).testBit m.tgt = true := (by_bit x a _ _).2 ⟨m, hm, ⟨by omega, hf, by unfold evOf; rw [if_neg (by omega)]⟩, rfl⟩
        rw [show byOf x x.mvs a (x.inp + m.lab) = 0 from h3] at h4
        simp at h4
      · have h4 : (silOf x.mvs a).testBit m.tgt = true := (sil_bit x.mvs a _).2 ⟨m, hm, ⟨h.1, hf⟩, rfl⟩
        rw [show silOf x.mvs a = 0 from h2] at h4
        simp at h4
    · exact .inl hf
  · intro h
    have key : ∀ m ∈ x.mvs, m.frm = a → m.kind = 0 := fun m hm hf => by
      have := h m hm
      simp only [Bool.not_eq_true', Bool.and_eq_false_iff, decide_eq_false_iff_not] at this
      rcases this with h1 | h1
      · exact absurd hf h1
      · omega
    constructor
    · intro k hk
      show byOf x x.mvs a (x.inp + k) = 0
      rw [zero_iff_bits]
      intro i
      rw [Bool.eq_false_iff]
      intro hb
      obtain ⟨m, m1, ⟨m2, m3, m4⟩, _⟩ := (by_bit x a _ _).1 hb
      have h0 := key m m1 m3
      unfold evOf at m4
      rw [if_pos h0] at m4
      rcases (hx.mv m m1).2.2 with h | h | h <;> omega
    · show silOf x.mvs a = 0
      rw [zero_iff_bits]
      intro i
      rw [Bool.eq_false_iff]
      intro hb
      obtain ⟨m, m1, ⟨m2, m3⟩, _⟩ := (sil_bit x.mvs a _).1 hb
      have h0 := key m m1 m3
      omega
/-- which states are marked behind an event -/
def markR (x : Rx) (l e a : Nat) : Prop := (e = x.inp + x.out ∧ a ∈ bitsL l ∧ quietR x a = true) ∨ ∃ m ∈ x.mvs, m.frm ∈ bitsL l ∧ (m.kind = 0 ∧ m.lab = e ∨ m.kind = 1 ∧ x.inp + m.lab = e) ∧ m.tgt = a
theorem out_bit (x : Rx) (hx : x.ok) (l e a : Nat) (he : e ≤ x.inp + x.out) : (outS (sysOf x) l e).testBit a = true ↔ markR x l e a := by
  unfold outS markR
  by_cases h : e < (sysOf x).inp + (sysOf x).out
  · rw [if_pos h, bits_or, Nat.zero_testBit]
    simp only [Bool.false_eq_true, false_or]
    have h' : e < x.inp + x.out := h
    constructor
    · rintro ⟨s, hs, hb⟩
      obtain ⟨m, m1, ⟨m2, m3, m4⟩, m5⟩ := (by_bit x s e a).1 hb
      refine .inr ⟨m, m1, by rw [m3]; exact hs, ?_, m5⟩
      unfold evOf at m4
      split at m4
      · rename_i h0; exact .inl ⟨h0, m4⟩
      · rename_i h0
        rcases (hx.mv m m1).2.2 with h | h | h
        · exact absurd h.1 h0
        · exact .inr ⟨h.1, m4⟩
        · exact absurd h.1 m2
    · rintro (⟨h1, _⟩ | ⟨m, m1, m2, m3, m4⟩)
      · omega
      · refine ⟨m.frm, m2, (by_bit x _ e a).2 ⟨m, m1, ⟨?_, rfl, ?_⟩, m4⟩⟩
        · rcases m3 with h | h <;> omega
        · unfold evOf
          rcases m3 with h | h
          · rw [if_pos h.1]; exact h.2
          · rw [if_neg (by omega)]; exact h.2
  · rw [if_neg h]
    have h' : e = x.inp + x.out := by have : ¬ e < x.inp + x.out := h; omega
    have hb := bits_pow (fun s : Nat => quietS (sysOf x) s = true) (fun s => s) a (bitsL l) 0
    rw [Nat.zero_testBit] at hb
    simp only [Bool.false_eq_true, false_or] at hb
    rw [hb]
    constructor
    · rintro ⟨s, s1, s2, s3⟩
      have e3 : s = a := s3
      subst e3
      exact .inl ⟨h', s1, by rw [← quiet_eq x hx]; exact s2⟩
    · rintro (⟨_, h2, h3⟩ | ⟨m, m1, m2, m3, m4⟩)
      · exact ⟨a, h2, by rw [quiet_eq x hx]; exact h3, rfl⟩
      · rcases (hx.mv m m1).2.2 with h | h | h <;> rcases m3 with k | k <;> omega
theorem out_lt (x : Rx) (hx : x.ok) {l e : Nat} (hl : l < 2 ^ x.N) : outS (sysOf x) l e < 2 ^ x.N := outS_lt (sysOf x) (x.byb hx) hl
end Go.Proofs.YtcbhaeniahckhaaDoor
end
section
set_option linter.unusedSimpArgs false
namespace Go.Proofs.YtcbhaeniahckhaaDoor
open Go.RowKit Go.Shelf Go.Deep Go.Proofs.YtcbhaeniahckhaaDoorW.PrintLast
theorem six_kept {w0 W W2 : World} {b i : Nat} {al : Addr} {u0 u1 u2 u3 u4 u5 : Value} (h : W.cell? ⟨b, 0, none⟩ = some u0 ∧ W.cell? ⟨b, 1, none⟩ = some u1 ∧ W.cell? ⟨b, 2, none⟩ = some u2 ∧ W.cell? ⟨b, 3, none⟩ = some u3 ∧ W.cell? ⟨b, 4, none⟩ = some u4 ∧ W.cell? (al.add i) = some u5 ∧ Below w0.heap.size w0 W) (k : Below W.heap.size W W2) :
    W2.cell? ⟨b, 0, none⟩ = some u0 ∧ W2.cell? ⟨b, 1, none⟩ = some u1 ∧ W2.cell? ⟨b, 2, none⟩ = some u2 ∧ W2.cell? ⟨b, 3, none⟩ = some u3 ∧ W2.cell? ⟨b, 4, none⟩ = some u4 ∧ W2.cell? (al.add i) = some u5 ∧ Below w0.heap.size w0 W2 := by
  obtain ⟨h0, h1, h2, h3, h4, h5, h6⟩ := h
  exact ⟨cell_later k h0, cell_later k h1, cell_later k h2, cell_later k h3, cell_later k h4, cell_later k h5, below_then h6 h6.size k⟩
theorem five_kept {w0 W W2 : World} {b : Nat} {u0 u1 u2 u3 u4 : Value} (h : W.cell? ⟨b, 0, none⟩ = some u0 ∧ W.cell? ⟨b, 1, none⟩ = some u1 ∧ W.cell? ⟨b, 2, none⟩ = some u2 ∧ W.cell? ⟨b, 3, none⟩ = some u3 ∧ W.cell? ⟨b, 4, none⟩ = some u4 ∧ Below w0.heap.size w0 W) (k : Below W.heap.size W W2) :
    W2.cell? ⟨b, 0, none⟩ = some u0 ∧ W2.cell? ⟨b, 1, none⟩ = some u1 ∧ W2.cell? ⟨b, 2, none⟩ = some u2 ∧ W2.cell? ⟨b, 3, none⟩ = some u3 ∧ W2.cell? ⟨b, 4, none⟩ = some u4 ∧ Below w0.heap.size w0 W2 := by
  obtain ⟨h0, h1, h2, h3, h4, h6⟩ := h
  exact ⟨cell_later k h0, cell_later k h1, cell_later k h2, cell_later k h3, cell_later k h4, below_then h6 h6.size k⟩
def g1R (x : Rx) (xs : List Nat) (e i a : Nat) : Bool := decide (e = x.inp + x.out) && (decide (a ∈ xs.take i) && quietR x a)
def hitR (x : Rx) (xs : List Nat) (e : Nat) (m : Mv) : Bool := decide (m.frm ∈ xs) && (decide (m.kind = 0) && decide (m.lab = e) || decide (m.kind = 1) && decide (x.inp + m.lab = e))
def g2R (x : Rx) (xs : List Nat) (e j a : Nat) : Bool := g1R x xs e xs.length a || (x.mvs.take j).any fun m => hitR x xs e m && decide (m.tgt = a)
theorem g1R_succ (x : Rx) (xs : List Nat) (e i a : Nat) (h : i < xs.length) : g1R x xs e (i + 1) a = (decide (e = x.inp + x.out) && (decide (a = xs.getD i 0) && quietR x a) || g1R x xs e i a) := by
  unfold g1R
  rw [take_getD (d := 0) xs i h, Bool.eq_iff_iff]
  simp only [Bool.and_eq_true, Bool.or_eq_true, decide_eq_true_eq, List.mem_append, List.mem_singleton]
  constructor
  · rintro ⟨h1, h2 | h2, h3⟩
    · exact .inr ⟨h1, h2, h3⟩
    · exact .inl ⟨h1, h2, h3⟩
  · rintro (⟨h1, h2, h3⟩ | ⟨h1, h2, h3⟩)
    · exact ⟨h1, .inr h2, h3⟩
    · exact ⟨h1, .inl h2, h3⟩
theorem g2R_succ (x : Rx) (xs : List Nat) (e j a : Nat) (h : j < x.mvs.length) : g2R x xs e (j + 1) a = (g2R x xs e j a || (hitR x xs e (x.mvs.getD j mvZ) && decide ((x.mvs.getD j mvZ).tgt = a))) := by
  unfold g2R
  rw [take_getD (d := mvZ) x.mvs j h, List.any_append, Bool.or_assoc]
  simp
theorem marks_iff (x : Rx) (l e a : Nat) : g2R x (bitsL l) e x.mvs.length a = true ↔ markR x l e a := by
  unfold g2R g1R markR hitR
  rw [List.take_length, List.take_length]
  simp only [Bool.or_eq_true, Bool.and_eq_true, decide_eq_true_eq, List.any_eq_true]
  refine or_congr Iff.rfl ⟨?_, ?_⟩
  · rintro ⟨m, h1, ⟨h2, h3⟩, h4⟩; exact ⟨m, h1, h2, h3, h4⟩
  · rintro ⟨m, h1, h2, h3, h4⟩; exact ⟨m, h1, ⟨h2, h3⟩, h4⟩
set_option maxHeartbeats 16000000 in
set_option maxRecDepth 100000 in
theorem afterR_calls (w : World) (x : Rx) (hx : x.ok) (A : Option Addr) (c : Nat) (hr : RdM w A x.mvs) (B : Option Addr) (c' n l : Nat) (hn : n = (bitsL l).length) (hl : l < 2 ^ x.N) (hr' : RdI w B (bitsL l)) (e : Nat) (he : e ≤ x.inp + x.out) :
    Calls Tryd.prog 15 #[rxV x A c, .slice B n c', .int .i64 e] w fun e' w' => ∃ v, e' = .returned v ∧ OwnI w' w.heap.size v (bitsL (afterS (sysOf x) l e)) ∧ Below w.heap.size w w' := by
  unfold rxV
  subst hn
  have HR := Sd.mk hr
  have HR' := Sd.mk hr'
  have hN := hx.hN
  have hm := hx.hm
  have hi4 := hx.hi
  have ho4 := hx.ho
  have hxl := bitsL_len l
  have HLT := Sd.mk (show ∀ a ∈ bitsL l, a < x.N from bitsL_in hl)
  have HO := Sd.mk (fun a => (out_bit x hx l e a he).trans (marks_iff x l e a).symm)
  have HL := Sd.mk hl
  obtain ⟨xs, hxs⟩ : ∃ xs, xs = bitsL l := ⟨_, rfl⟩
  have HXS := Sd.mk hxs
  rw [← hxs] at hxl HLT HR' HO ⊢
  clear hr hr' hl hxs
  have hmk := run_make_row' (P := Tryd.prog) 91 4 (.bool false) 1 Tryd.underlying91 Tryd.info4 rfl .i64 .i64 x.N (by omega) (by omega)
  go_enter Tryd.func15, Tryd.ntmps15
  go_wp2_with fail
  have hbal := (alloc_below w (rxBox x A c)).alloc (by simp) (.cells (madeCells #[.bool false] x.N) 4)
  have hmk0 : MkAt w ((w.alloc (rxBox x A c)).alloc (.cells (madeCells #[.bool false] x.N) 4)) x A c (w.heap.size + 1) (fun _ => false) := by
    refine ⟨hbal, (heap_alloc_old _ _ (by simp)).trans (heap_alloc_new w _), by omega, ?_⟩
    have h1 := World.rowIs_made (w.alloc (rxBox x A c)) (.bool false) x.N 4
    rwa [show (w.alloc (rxBox x A c)).heap.size = w.heap.size + 1 by simp] at h1
  have HM2 := Sd.mk hmk0
  clear hbal hmk0 hmk
  go_loopw [8] (fun i wq => ∃ k : Nat, i = .int .i64 k ∧ k ≤ xs.length ∧ Sd (MkAt w wq x A c (w.heap.size + 1) (g1R x xs e k))) (fun i _ => xs.length - (intOf i).toNat)
  case atStart => exact ⟨0, rfl, Nat.zero_le _, ⟨HM2.out.congr (fun a _ => by unfold g1R; simp)⟩⟩
  case round =>
    obtain ⟨W1, hW1⟩ : ∃ W : World, W = wr := ⟨wr, rfl⟩
    subst hW1
    obtain ⟨i, rfl, hi, hM⟩ := hrel
    by_cases hil : i < xs.length
    · obtain ⟨al, e1, e2⟩ := (HR'.out.below hM.out.below) i hil
      subst e1
      have haN := HLT.out _ (getD_mem hil)
      have hst := Sd.mk (fun b => g1R_succ x xs e i b hil)
      generalize xs.getD i 0 = a at *
      have K1 : Sd (W1.drew.cell? ⟨w.heap.size, 0, none⟩ = some (.int .i64 x.N) ∧ W1.drew.cell? ⟨w.heap.size, 1, none⟩ = some (.int .i64 x.start) ∧ W1.drew.cell? ⟨w.heap.size, 2, none⟩ = some (.int .i64 x.inp) ∧ W1.drew.cell? ⟨w.heap.size, 3, none⟩ = some (.int .i64 x.out) ∧ W1.drew.cell? ⟨w.heap.size, 4, none⟩ = some (.slice A x.mvs.length c) ∧ W1.drew.cell? (al.add i) = some (.int .i64 a) ∧ Below W1.heap.size W1 W1.drew) := ⟨⟨hM.out.cell 0, hM.out.cell 1, hM.out.cell 2, hM.out.cell 3, hM.out.cell 4, e2, below_drew (Below.refl _ _)⟩⟩
      by_cases hE : e = x.inp + x.out
      · have hbe : ((e : Int) == ((x.inp + x.out : Nat) : Int)) = true := by rw [hE]; simp
        have hbe2 : ((e : Int) == (x.inp : Int) + (x.out : Int)) = true := by rw [hE]; simp
        have HE := Sd.mk hE
        clear hE
        rcases hqv : quietR x a with _ | _
        · have V := Sd.mk hqv
          have HS : Sd (∀ b, g1R x xs e (i + 1) b = g1R x xs e i b) := ⟨fun b => by
            rw [hst.out b, Bool.eq_iff_iff]
            simp only [Bool.or_eq_true, Bool.and_eq_true, decide_eq_true_eq]
            refine ⟨fun h => h.elim (fun h => ?_) id, .inr⟩
            obtain ⟨_, rfl, h3⟩ := h
            rw [V.out] at h3; cases h3⟩
          clear hqv
          go_wp2_with fail
          go_region_held3 (fun wx => wx.cell? ⟨w.heap.size, 0, none⟩ = some (.int .i64 x.N) ∧ wx.cell? ⟨w.heap.size, 1, none⟩ = some (.int .i64 x.start) ∧ wx.cell? ⟨w.heap.size, 2, none⟩ = some (.int .i64 x.inp) ∧ wx.cell? ⟨w.heap.size, 3, none⟩ = some (.int .i64 x.out) ∧ wx.cell? ⟨w.heap.size, 4, none⟩ = some (.slice A x.mvs.length c) ∧ wx.cell? (al.add i) = some (.int .i64 a) ∧ Below W1.heap.size W1 wx)
            (first | exact K1.out | exact six_kept ‹_ ∧ _ ∧ _ ∧ _ ∧ _ ∧ _ ∧ _› (by assumption) | fail)
            (first | (go_at_call 35; refine (silenceR_calls _ x hx A c).mono ?_; rintro e' w3 ⟨rfl, hB3⟩) | (go_at_call 43; refine (quietR_calls _ x hx A c ((HR.out.below hM.out.below).below (show Below W1.heap.size W1 _ by go_split_ands; assumption)) a).mono ?_; rintro e' w4 ⟨he', hB4⟩; rw [V.out] at he'; subst he') | fail)
          have HB := Sd.mk (show Below W1.heap.size W1 _ from by go_split_ands; assumption)
          clear hB3 hB4
          go_wp2
          go_roundw
          case rel => exact ⟨i + 1, by go_num, by omega, ⟨(hM.out.later HB.out).congr (fun b _ => (HS.out b).symm)⟩⟩
          case measure => simp [intOf]; omega
        · have V := Sd.mk hqv
          have HS : Sd (∀ b, g1R x xs e (i + 1) b = (decide (b = a) || g1R x xs e i b)) := ⟨fun b => by
            rw [hst.out b, Bool.eq_iff_iff]
            simp only [Bool.or_eq_true, Bool.and_eq_true, decide_eq_true_eq]
            refine or_congr ⟨fun h => h.2.1, fun h => ⟨HE.out, h, by rw [h]; exact V.out⟩⟩ Iff.rfl⟩
          clear hqv
          go_wp2_with fail
          go_region_held3 (fun wx => wx.cell? ⟨w.heap.size, 0, none⟩ = some (.int .i64 x.N) ∧ wx.cell? ⟨w.heap.size, 1, none⟩ = some (.int .i64 x.start) ∧ wx.cell? ⟨w.heap.size, 2, none⟩ = some (.int .i64 x.inp) ∧ wx.cell? ⟨w.heap.size, 3, none⟩ = some (.int .i64 x.out) ∧ wx.cell? ⟨w.heap.size, 4, none⟩ = some (.slice A x.mvs.length c) ∧ wx.cell? (al.add i) = some (.int .i64 a) ∧ Below W1.heap.size W1 wx)
            (first | exact K1.out | exact six_kept ‹_ ∧ _ ∧ _ ∧ _ ∧ _ ∧ _ ∧ _› (by assumption) | fail)
            (first | (go_at_call 35; refine (silenceR_calls _ x hx A c).mono ?_; rintro e' w3 ⟨rfl, hB3⟩) | (go_at_call 43; refine (quietR_calls _ x hx A c ((HR.out.below hM.out.below).below (show Below W1.heap.size W1 _ by go_split_ands; assumption)) a).mono ?_; rintro e' w4 ⟨he', hB4⟩; rw [V.out] at he'; subst he') | fail)
          have HB := Sd.mk (show Below W1.heap.size W1 _ from by go_split_ands; assumption)
          have HM4 := Sd.mk (hM.out.later HB.out)
          obtain ⟨t1, t2⟩ := HM4.out.there a haN
          have s2 := cell_later HB.out e2
          clear hB3 hB4
          go_wp2
          go_roundw
          case rel => exact ⟨i + 1, by go_num, by omega, ⟨(HM4.out.mark a).congr (fun b _ => (HS.out b).symm)⟩⟩
          case measure => simp [intOf]; omega
      · have hbe : ((e : Int) == ((x.inp + x.out : Nat) : Int)) = false := by rw [beq_eq_false_iff_ne]; omega
        have hbe2 : ((e : Int) == (x.inp : Int) + (x.out : Int)) = false := by rw [beq_eq_false_iff_ne]; omega
        have HS : Sd (∀ b, g1R x xs e (i + 1) b = g1R x xs e i b) := ⟨fun b => by rw [hst.out b]; unfold g1R; simp [hE]⟩
        clear hE
        go_wp2_with fail
        refine start_ (n := 12) (S := (fun wx => wx.cell? ⟨w.heap.size, 0, none⟩ = some (.int .i64 x.N) ∧ wx.cell? ⟨w.heap.size, 1, none⟩ = some (.int .i64 x.start) ∧ wx.cell? ⟨w.heap.size, 2, none⟩ = some (.int .i64 x.inp) ∧ wx.cell? ⟨w.heap.size, 3, none⟩ = some (.int .i64 x.out) ∧ wx.cell? ⟨w.heap.size, 4, none⟩ = some (.slice A x.mvs.length c) ∧ wx.cell? (al.add i) = some (.int .i64 a) ∧ Below W1.heap.size W1 wx)) (ds := []) #[false, false, false, false, false, false, false, false, false, false, false, false] rfl rfl rfl K1.out (fun hHeld => ?_)
        refine pure_ (i := 0) (N := some 20) (v := ?_) (a' := ?_) #[true, false, false, false, false, false, false, false, false, false, false, false] rfl rfl (by kernel_rfl) (fun _ _ _ h => h) (Or.inl ⟨by rfl, ?_⟩) ?_ ?_
        rotate_left
        · intro w'
          go_simp
          with_reducible rfl
        rotate_left
        · simp only [Act.put, List.setIfInBounds_toArray, List.set_cons_zero, List.set_cons_succ]
          rfl
        refine take_ (i := 1) (N := some 21) (v := ?_) (a' := ?_) #[true, true, false, false, false, false, false, false, false, false, false, false] rfl rfl (by kernel_rfl) (fun _ _ _ h => h) (Or.inl ⟨by rfl, ?_⟩) hHeld ?_ ?_
        rotate_left
        · rintro w' hS'
          obtain ⟨q0, q1, q2, q3, q4, -, -⟩ := hS'
          go_simp
          with_reducible rfl
        rotate_left
        · simp only [Act.put, List.setIfInBounds_toArray, List.set_cons_zero, List.set_cons_succ]
          rfl
        refine one_ (i := 2) (N := some 22) #[true, true, true, false, false, false, false, false, false, false, false, false] rfl rfl (by kernel_rfl) (by decide) (fun K hK => ?_)
        refine goes_ Tryd.func35 (by kernel_rfl) rfl #[.agg #[.int .i64 x.N, .int .i64 x.start, .int .i64 x.inp, .int .i64 x.out, .slice A x.mvs.length c]] (by rfl) rfl rfl (by simp [Act.eval]) ?_
        refine (silenceR_calls _ x hx A c).mono ?_
        rintro e' w3 ⟨he', hB3⟩
        refine ⟨_, he', hK.out _ _ (six_kept hHeld hB3) (fun hHeld2 => ?_)⟩
        clear hK K
        refine norm_ (a' := ?_) ?_ ?_
        rotate_left
        · simp only [Act.put, List.setIfInBounds_toArray, List.set_cons_zero, List.set_cons_succ]
          rfl
        refine pure_ (i := 3) (N := some 23) (v := ?_) (a' := ?_) #[true, true, true, true, false, false, false, false, false, false, false, false] rfl rfl (by kernel_rfl) (fun _ _ _ h => h) (Or.inl ⟨by rfl, ?_⟩) ?_ ?_
        rotate_left
        · intro w'
          go_simp
          with_reducible rfl
        rotate_left
        · simp only [Act.put, List.setIfInBounds_toArray, List.set_cons_zero, List.set_cons_succ]
          rfl
        refine pure_ (i := 4) (N := some 24) (v := ?_) (a' := ?_) #[true, true, true, true, true, false, false, false, false, false, false, false] rfl rfl (by kernel_rfl) (fun _ _ _ h => h) (Or.inl ⟨by rfl, ?_⟩) ?_ ?_
        rotate_left
        · intro w'
          go_simp
          with_reducible rfl
        rotate_left
        · simp only [Act.put, List.setIfInBounds_toArray, List.set_cons_zero, List.set_cons_succ]
          rfl
        refine pure_ (i := 5) (N := some 25) (v := undef) (a' := ?_) #[true, true, true, true, true, true, false, false, false, false, false, false] rfl rfl (by kernel_rfl) (fun _ _ _ h => h) (Or.inr ⟨by rfl, rfl⟩) ?_ ?_
        rotate_left
        · simp only [Act.put, List.setIfInBounds_toArray, List.set_cons_zero, List.set_cons_succ]
          rfl
        refine pure_ (i := 6) (N := some 26) (v := undef) (a' := ?_) #[true, true, true, true, true, true, true, false, false, false, false, false] rfl rfl (by kernel_rfl) (fun _ _ _ h => h) (Or.inr ⟨by rfl, rfl⟩) ?_ ?_
        rotate_left
        · simp only [Act.put, List.setIfInBounds_toArray, List.set_cons_zero, List.set_cons_succ]
          rfl
        refine pure_ (i := 7) (N := some 27) (v := undef) (a' := ?_) #[true, true, true, true, true, true, true, true, false, false, false, false] rfl rfl (by kernel_rfl) (fun _ _ _ h => h) (Or.inr ⟨by rfl, rfl⟩) ?_ ?_
        rotate_left
        · simp only [Act.put, List.setIfInBounds_toArray, List.set_cons_zero, List.set_cons_succ]
          rfl
        refine pure_ (i := 8) (N := some 28) (v := undef) (a' := ?_) #[true, true, true, true, true, true, true, true, true, false, false, false] rfl rfl (by kernel_rfl) (fun _ _ _ h => h) (Or.inr ⟨by rfl, rfl⟩) ?_ ?_
        rotate_left
        · simp only [Act.put, List.setIfInBounds_toArray, List.set_cons_zero, List.set_cons_succ]
          rfl
        refine pure_ (i := 9) (N := some 29) (v := undef) (a' := ?_) #[true, true, true, true, true, true, true, true, true, true, false, false] rfl rfl (by kernel_rfl) (fun _ _ _ h => h) (Or.inr ⟨by rfl, rfl⟩) ?_ ?_
        rotate_left
        · simp only [Act.put, List.setIfInBounds_toArray, List.set_cons_zero, List.set_cons_succ]
          rfl
        refine pure_ (i := 10) (N := some 30) (v := undef) (a' := ?_) #[true, true, true, true, true, true, true, true, true, true, true, false] rfl rfl (by kernel_rfl) (fun _ _ _ h => h) (Or.inr ⟨by rfl, rfl⟩) ?_ ?_
        rotate_left
        · simp only [Act.put, List.setIfInBounds_toArray, List.set_cons_zero, List.set_cons_succ]
          rfl
        refine pure_ (i := 11) (N := some 31) (v := ?_) (a' := ?_) #[true, true, true, true, true, true, true, true, true, true, true, true] rfl rfl (by kernel_rfl) (fun _ _ _ h => h) (Or.inl ⟨by rfl, ?_⟩) ?_ ?_
        rotate_left
        · intro w'
          go_simp
          with_reducible rfl
        rotate_left
        · simp only [Act.put, List.setIfInBounds_toArray, List.set_cons_zero, List.set_cons_succ]
          rfl
        refine done_ (by kernel_rfl) ?_
        have HB := Sd.mk hHeld2.2.2.2.2.2.2
        clear hHeld hHeld2 hB3
        go_wp2
        go_roundw
        case rel => exact ⟨i + 1, by go_num, by omega, ⟨(hM.out.later HB.out).congr (fun b _ => (HS.out b).symm)⟩⟩
        case measure => simp [intOf]; omega
    · obtain rfl : i = xs.length := by omega
      go_wp2_with fail
      go_loopw [9, 10] (fun i _ wq => ∃ j : Nat, i = .int .i64 j ∧ j ≤ x.mvs.length ∧ Sd (MkAt w wq x A c (w.heap.size + 1) (g2R x xs e j))) (fun i _ _ => x.mvs.length - (intOf i).toNat)
      case atStart => exact ⟨0, rfl, Nat.zero_le _, ⟨hM.out.congr (fun a _ => by unfold g2R; simp)⟩⟩
      case round =>
        obtain ⟨W4, hW4⟩ : ∃ W : World, W = wr := ⟨wr, rfl⟩
        subst hW4
        obtain ⟨j, rfl, hj, hM4⟩ := hrel
        have c2 := hM4.out.cell 2
        have c4 := hM4.out.cell 4
        by_cases hjl : j < x.mvs.length
        · obtain ⟨ad, g1, g2, g3, g4, g5⟩ := (HR.out.below hM4.out.below) j hjl
          subst g1
          have hmem : x.mvs.getD j mvZ ∈ x.mvs := by rw [List.getD_eq_getElem?_getD, List.getElem?_eq_getElem hjl]; exact List.getElem_mem hjl
          have hst := Sd.mk (fun b => g2R_succ x xs e j b hjl)
          obtain ⟨v1, v2, v3⟩ := hx.mv _ hmem
          generalize x.mvs.getD j mvZ = m at *
          have HM5 := Sd.mk (hM4.out.later (alloc_below W4 (.cells #[.int .i64 m.frm, .int .i64 m.kind, .int .i64 m.lab, .int .i64 m.tgt] 94)))
          have HX := Sd.mk ((HR'.out.below hM4.out.below).below (alloc_below W4 (.cells #[.int .i64 m.frm, .int .i64 m.kind, .int .i64 m.lab, .int .i64 m.tgt] 94)))
          obtain ⟨t1, t2⟩ := HM5.out.there m.tgt v2
          have hblk := (Array.getElem?_eq_some_iff.1 hM4.out.box).1
          have hbm := hM4.out.row.lt
          clear hmem
          by_cases hin : m.frm ∈ xs
          · have HH : Sd (decide (m.frm ∈ xs) = true) := ⟨decide_eq_true hin⟩
            rcases v3 with ⟨k0, hlb⟩ | ⟨k1, hlb⟩ | ⟨k2, hlb⟩
            · by_cases hle : m.lab = e
              · skip
                have b0 : ((m.kind : Int) == 0) = true := by (try rw [beq_eq_false_iff_ne]); (try rw [beq_iff_eq]); omega
                have bl : ((m.lab : Int) == (e : Int)) = true := by (try rw [beq_eq_false_iff_ne]); (try rw [beq_iff_eq]); omega
                have HHit : Sd (hitR x xs e m = true) := ⟨by unfold hitR; simp [hin, k0, hle]⟩
                have HS : Sd (∀ b, g2R x xs e (j + 1) b = (decide (b = m.tgt) || g2R x xs e j b)) := ⟨fun b => by rw [hst.out b, HHit.out, Bool.true_and, Bool.or_comm]; congr 1; rw [Bool.eq_iff_iff]; simp; exact eq_comm⟩
                clear k0 hle hin
                go_wp2_with (first | (go_at_call 14; refine (has_calls _ B c' xs (by omega) HX.out m.frm).mono ?_; rintro e' w5 ⟨he, rfl⟩; rw [HH.out] at he; subst he) | fail)
                go_roundw
                case rel => exact ⟨j + 1, by go_num, by omega, ⟨((hM4.out.mark m.tgt).later (alloc_below _ _)).congr (fun b _ => (HS.out b).symm)⟩⟩
                case measure => simp [intOf]; omega
              · skip
                have b0 : ((m.kind : Int) == 0) = true := by (try rw [beq_eq_false_iff_ne]); (try rw [beq_iff_eq]); omega
                have b1 : ((m.kind : Int) == 1) = false := by (try rw [beq_eq_false_iff_ne]); (try rw [beq_iff_eq]); omega
                have bl : ((m.lab : Int) == (e : Int)) = false := by (try rw [beq_eq_false_iff_ne]); (try rw [beq_iff_eq]); omega
                have HHit : Sd (hitR x xs e m = false) := ⟨by unfold hitR; simp [hin, k0, hle]⟩
                have HS : Sd (∀ b, g2R x xs e (j + 1) b = g2R x xs e j b) := ⟨fun b => by rw [hst.out b, HHit.out]; simp⟩
                clear k0 hle hin
                go_wp2_with (first | (go_at_call 14; refine (has_calls _ B c' xs (by omega) HX.out m.frm).mono ?_; rintro e' w5 ⟨he, rfl⟩; rw [HH.out] at he; subst he) | fail)
                go_roundw
                case rel => exact ⟨j + 1, by go_num, by omega, ⟨HM5.out.congr (fun b _ => (HS.out b).symm)⟩⟩
                case measure => simp [intOf]; omega
            · by_cases hle : x.inp + m.lab = e
              · skip
                have b0 : ((m.kind : Int) == 0) = false := by (try rw [beq_eq_false_iff_ne]); (try rw [beq_iff_eq]); omega
                have b1 : ((m.kind : Int) == 1) = true := by (try rw [beq_eq_false_iff_ne]); (try rw [beq_iff_eq]); omega
                have bo : ((x.inp : Int) + (m.lab : Int) == (e : Int)) = true := by (try rw [beq_eq_false_iff_ne]); (try rw [beq_iff_eq]); omega
                have HHit : Sd (hitR x xs e m = true) := ⟨by unfold hitR; simp [hin, k1, hle]⟩
                have HS : Sd (∀ b, g2R x xs e (j + 1) b = (decide (b = m.tgt) || g2R x xs e j b)) := ⟨fun b => by rw [hst.out b, HHit.out, Bool.true_and, Bool.or_comm]; congr 1; rw [Bool.eq_iff_iff]; simp; exact eq_comm⟩
                clear k1 hle hin
                go_wp2_with (first | (go_at_call 14; refine (has_calls _ B c' xs (by omega) HX.out m.frm).mono ?_; rintro e' w5 ⟨he, rfl⟩; rw [HH.out] at he; subst he) | fail)
                go_roundw
                case rel => exact ⟨j + 1, by go_num, by omega, ⟨((hM4.out.mark m.tgt).later (alloc_below _ _)).congr (fun b _ => (HS.out b).symm)⟩⟩
                case measure => simp [intOf]; omega
              · skip
                have b0 : ((m.kind : Int) == 0) = false := by (try rw [beq_eq_false_iff_ne]); (try rw [beq_iff_eq]); omega
                have b1 : ((m.kind : Int) == 1) = true := by (try rw [beq_eq_false_iff_ne]); (try rw [beq_iff_eq]); omega
                have bo : ((x.inp : Int) + (m.lab : Int) == (e : Int)) = false := by (try rw [beq_eq_false_iff_ne]); (try rw [beq_iff_eq]); omega
                have HHit : Sd (hitR x xs e m = false) := ⟨by unfold hitR; simp [hin, k1, hle]⟩
                have HS : Sd (∀ b, g2R x xs e (j + 1) b = g2R x xs e j b) := ⟨fun b => by rw [hst.out b, HHit.out]; simp⟩
                clear k1 hle hin
                go_wp2_with (first | (go_at_call 14; refine (has_calls _ B c' xs (by omega) HX.out m.frm).mono ?_; rintro e' w5 ⟨he, rfl⟩; rw [HH.out] at he; subst he) | fail)
                go_roundw
                case rel => exact ⟨j + 1, by go_num, by omega, ⟨HM5.out.congr (fun b _ => (HS.out b).symm)⟩⟩
                case measure => simp [intOf]; omega
            · skip
              have b0 : ((m.kind : Int) == 0) = false := by (try rw [beq_eq_false_iff_ne]); (try rw [beq_iff_eq]); omega
              have b1 : ((m.kind : Int) == 1) = false := by (try rw [beq_eq_false_iff_ne]); (try rw [beq_iff_eq]); omega
              have HHit : Sd (hitR x xs e m = false) := ⟨by unfold hitR; simp [hin, k2]⟩
              have HS : Sd (∀ b, g2R x xs e (j + 1) b = g2R x xs e j b) := ⟨fun b => by rw [hst.out b, HHit.out]; simp⟩
              clear k2 hin hlb
              go_wp2_with (first | (go_at_call 14; refine (has_calls _ B c' xs (by omega) HX.out m.frm).mono ?_; rintro e' w5 ⟨he, rfl⟩; rw [HH.out] at he; subst he) | fail)
              go_roundw
              case rel => exact ⟨j + 1, by go_num, by omega, ⟨HM5.out.congr (fun b _ => (HS.out b).symm)⟩⟩
              case measure => simp [intOf]; omega
          · have HH : Sd (decide (m.frm ∈ xs) = false) := ⟨decide_eq_false hin⟩
            have HHit : Sd (hitR x xs e m = false) := ⟨by unfold hitR; simp [hin]⟩
            have HS : Sd (∀ b, g2R x xs e (j + 1) b = g2R x xs e j b) := ⟨fun b => by rw [hst.out b, HHit.out]; simp⟩
            clear hin v3
            go_wp2_with (first | (go_at_call 14; refine (has_calls _ B c' xs (by omega) HX.out m.frm).mono ?_; rintro e' w5 ⟨he, rfl⟩; rw [HH.out] at he; subst he) | fail)
            go_roundw
            case rel => exact ⟨j + 1, by go_num, by omega, ⟨HM5.out.congr (fun b _ => (HS.out b).symm)⟩⟩
            case measure => simp [intOf]; omega
        · obtain rfl : j = x.mvs.length := by omega
          have K9 : Sd (W4.drew.cell? ⟨w.heap.size, 0, none⟩ = some (.int .i64 x.N) ∧ W4.drew.cell? ⟨w.heap.size, 1, none⟩ = some (.int .i64 x.start) ∧ W4.drew.cell? ⟨w.heap.size, 2, none⟩ = some (.int .i64 x.inp) ∧ W4.drew.cell? ⟨w.heap.size, 3, none⟩ = some (.int .i64 x.out) ∧ W4.drew.cell? ⟨w.heap.size, 4, none⟩ = some (.slice A x.mvs.length c) ∧ Below w.heap.size w W4.drew) := ⟨⟨hM4.out.cell 0, hM4.out.cell 1, hM4.out.cell 2, hM4.out.cell 3, hM4.out.cell 4, below_drew hM4.out.below⟩⟩
          have HROW : Sd (W4.drew.rowIs (w.heap.size + 1) 4 x.N (fun a => .bool (g2R x xs e x.mvs.length a))) := ⟨hM4.out.row⟩
          have HND9 : Sd (((List.range x.N).filter (g2R x xs e x.mvs.length)).Nodup) := ⟨List.nodup_range.filter _⟩
          have HLT9 : Sd (∀ a ∈ (List.range x.N).filter (g2R x xs e x.mvs.length), a < x.N) := ⟨fun a ha => List.mem_range.1 (List.mem_filter.1 ha).1⟩
          go_wp2_with fail
          go_region_held3 (fun wx => wx.cell? ⟨w.heap.size, 0, none⟩ = some (.int .i64 x.N) ∧ wx.cell? ⟨w.heap.size, 1, none⟩ = some (.int .i64 x.start) ∧ wx.cell? ⟨w.heap.size, 2, none⟩ = some (.int .i64 x.inp) ∧ wx.cell? ⟨w.heap.size, 3, none⟩ = some (.int .i64 x.out) ∧ wx.cell? ⟨w.heap.size, 4, none⟩ = some (.slice A x.mvs.length c) ∧ Below w.heap.size w wx)
            (first | exact K9.out | exact five_kept ‹_ ∧ _ ∧ _ ∧ _ ∧ _ ∧ _› (by assumption) | fail)
            (first | (go_at_call 44; refine (asc_calls _ (w.heap.size + 1) x.N x.N hN (g2R x xs e x.mvs.length) HROW.out).mono ?_; rintro e' w9 ⟨v9, rfl, ho9, hB9⟩; obtain ⟨b9, c9, hv9, _, hrd9⟩ := ho9.read; subst hv9) | (go_at_call 36; refine (closedR_calls w9 x hx A c (HR.out.below (show Below w.heap.size w w9 by go_split_ands; assumption)) b9 c9 _ HND9.out HLT9.out hrd9).mono ?_; rintro e' w10 ⟨v10, R10, rfl, ho10, hc10, hB10⟩) | fail)
          have hb9 := below_then K9.out.2.2.2.2.2 K9.out.2.2.2.2.2.size hB9
          have HB := Sd.mk (below_then hb9 hb9.size hB10)
          have hR := closedL_eq x hx _ R10 (outS (sysOf x) l e) (out_lt x hx HL.out) (fun a => by
            rw [List.mem_filter, HO.out a, List.mem_range]
            exact ⟨fun h => h.2, fun h => ⟨lt_of_bit (out_lt x hx HL.out) ((HO.out a).2 h), h⟩⟩) hc10
          subst hR
          have HO10 := Sd.mk (ho10.mono hb9.size)
          clear ho9 hB9 hrd9 ho10 hc10 hB10 hb9
          go_wp2
          go_ret
          exact ⟨v10, rfl, HO10.out, HB.out⟩
end Go.Proofs.YtcbhaeniahckhaaDoor
end
