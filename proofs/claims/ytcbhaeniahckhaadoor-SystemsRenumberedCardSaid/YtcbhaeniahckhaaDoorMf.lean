/- The whole search, walked, and the errors of two right systems. Conditions: those that each theorem names. -/
import Derived.Test.YtcbhaeniahckhaaDoorMe
set_option linter.unusedSimpArgs false
set_option linter.unusedVariables false
section
namespace Go.Proofs.YtcbhaeniahckhaaDoor
open Go.RowKit Go.Shelf Go.Deep

abbrev St := List (Nat × Nat) × List Int × List Int
def addS (st : St) (p : Nat × Nat) (f b : Int) : St := if p ∈ st.1 then st else (st.1 ++ [p], st.2.1 ++ [f], st.2.2 ++ [b])
def evS (X S : SysP) (i : Nat) (p : Nat × Nat) (st : St) (e : Nat) : St := if afterS S p.2 e != 0 then addS st (afterS X p.1 e, afterS S p.2 e) i e else st
def evsS (X S : SysP) (i : Nat) (p : Nat × Nat) (st : St) (n : Nat) : St := (List.range n).foldl (evS X S i p) st
def backS (fr bs : List Int) : Nat → Nat → List Int
  | 0, _ => []
  | n + 1, k => if fr.getD k 0 = -1 then [] else bs.getD k 0 :: backS fr bs n (fr.getD k 0).toNat
def runS (X S : SysP) : Nat → Nat → St → Option (List Int) × St
  | 0, _, st => (none, st)
  | n + 1, i, st =>
    if i < st.1.length then
      match failsS X S (st.1.getD i (0, 0)) with
      | some e => (some (((e : Int) :: backS st.2.1 st.2.2 (i + 1) i).reverse), st)
      | none => runS X S n (i + 1) (evsS X S i (st.1.getD i (0, 0)) st (X.inp + X.out + 1))
    else (none, st)
def st0 (X S : SysP) : St := ([(firstS X, firstS S)], [-1], [-1])
def fuelS : Nat := 1048577

/-- what every state of the search meets -/
structure Good (X S : SysP) (st : St) : Prop where
  lf : st.2.1.length = st.1.length
  lb : st.2.2.length = st.1.length
  nd : st.1.Nodup
  bd : ∀ p ∈ st.1, p.1 < 2 ^ X.N ∧ p.2 < 2 ^ S.N
  fr : ∀ k, k < st.1.length → st.2.1.getD k 0 = -1 ∨ 0 ≤ st.2.1.getD k 0 ∧ st.2.1.getD k 0 < k

theorem nodup_le : ∀ (n : Nat) (l : List Nat), l.Nodup → (∀ a ∈ l, a < n) → l.length ≤ n
  | 0, l, _, h => by
    cases l with
    | nil => simp
    | cons a l => exact absurd (h a (by simp)) (by omega)
  | n + 1, l, hd, h => by
    have h1 := nodup_le n (l.erase n) (hd.erase n) (fun a ha => by
      have h2 := h a (List.mem_of_mem_erase ha)
      have h3 : a ≠ n := fun e => by subst e; exact (List.Nodup.not_mem_erase hd) ha
      omega)
    have h4 := List.length_erase (a := n) (l := l)
    split at h4 <;> omega
theorem nodup_map_inj {α β : Type} (f : α → β) : ∀ (l : List α), l.Nodup → (∀ a ∈ l, ∀ b ∈ l, f a = f b → a = b) → (l.map f).Nodup
  | [], _, _ => List.nodup_nil
  | a :: l, hd, h => by
    rw [List.nodup_cons] at hd
    rw [List.map_cons, List.nodup_cons]
    refine ⟨fun hm => ?_, nodup_map_inj f l hd.2 (fun x hx y hy => h x (List.mem_cons_of_mem _ hx) y (List.mem_cons_of_mem _ hy))⟩
    obtain ⟨b, hb, e⟩ := List.mem_map.1 hm
    have := h a (by simp) b (List.mem_cons_of_mem _ hb) e.symm
    subst this
    exact hd.1 hb
theorem Good.le {X S : SysP} {st : St} (h : Good X S st) (hX : X.N ≤ 10) (hS : S.N ≤ 10) : st.1.length ≤ 1048576 := by
  have hx : (2 : Nat) ^ X.N ≤ 1024 := Nat.le_trans (Nat.pow_le_pow_right (by decide) hX) (by decide)
  have hs : (2 : Nat) ^ S.N ≤ 1024 := Nat.le_trans (Nat.pow_le_pow_right (by decide) hS) (by decide)
  have h1 := nodup_le 1048576 (st.1.map fun p => p.1 * 1024 + p.2) (nodup_map_inj _ _ h.nd (fun a ha b hb e => by
    have ha' := h.bd a ha
    have hb' := h.bd b hb
    have e1 : a.1 = b.1 := by omega
    have e2 : a.2 = b.2 := by omega
    exact Prod.ext e1 e2)) (fun a ha => by
      obtain ⟨p, hp, rfl⟩ := List.mem_map.1 ha
      have := h.bd p hp
      show p.1 * 1024 + p.2 < 1048576
      omega)
  simpa using h1
theorem Good.addS {X S : SysP} {st : St} (h : Good X S st) (p : Nat × Nat) (i : Nat) (b : Int) (hp : p.1 < 2 ^ X.N ∧ p.2 < 2 ^ S.N) (hi : i < st.1.length) : Good X S (addS st p i b) ∧ st.1.length ≤ (addS st p i b).1.length := by
  unfold YtcbhaeniahckhaaDoor.addS
  split
  · exact ⟨h, Nat.le_refl _⟩
  · rename_i hn
    refine ⟨⟨by simp [h.lf], by simp [h.lb], ?_, ?_, ?_⟩, by simp⟩
    · rw [List.nodup_append]
      refine ⟨h.nd, by simp, ?_⟩
      intro a ha b hb e
      rw [List.mem_singleton] at hb
      subst hb
      subst e
      exact hn ha
    · intro q hq
      rcases List.mem_append.1 hq with hq | hq
      · exact h.bd q hq
      · rw [List.mem_singleton] at hq
        subst hq
        exact hp
    · intro k hk
      simp only [List.length_append, List.length_singleton] at hk
      have hlf := h.lf
      rcases Nat.lt_or_ge k st.1.length with hlt | hge
      · have := h.fr k hlt
        rw [List.getD_eq_getElem?_getD, List.getElem?_append_left (by omega), ← List.getD_eq_getElem?_getD]
        exact this
      · rw [List.getD_eq_getElem?_getD, List.getElem?_append_right (by omega), show k - st.2.1.length = 0 by omega]
        right
        simp only [List.getElem?_cons_zero, Option.getD_some]
        omega
theorem Good.evS {X S : SysP} {st : St} (h : Good X S st) (hX : ∀ a e, X.by_ a e < 2 ^ X.N) (hX' : ∀ a, X.sil a < 2 ^ X.N) (hS : ∀ a e, S.by_ a e < 2 ^ S.N) (hS' : ∀ a, S.sil a < 2 ^ S.N)
    (i : Nat) (p : Nat × Nat) (hp : p.1 < 2 ^ X.N ∧ p.2 < 2 ^ S.N) (hi : i < st.1.length) (e : Nat) : Good X S (evS X S i p st e) ∧ st.1.length ≤ (evS X S i p st e).1.length := by
  unfold YtcbhaeniahckhaaDoor.evS
  split
  · exact h.addS _ _ _ ⟨afterS_lt X hX hX' hp.1, afterS_lt S hS hS' hp.2⟩ hi
  · exact ⟨h, Nat.le_refl _⟩
theorem evsS_succ (X S : SysP) (i : Nat) (p : Nat × Nat) (st : St) (n : Nat) : evsS X S i p st (n + 1) = evS X S i p (evsS X S i p st n) n := by
  unfold evsS
  rw [List.range_succ, List.foldl_append]
  rfl
theorem Good.evsS {X S : SysP} {st : St} (h : Good X S st) (hX : ∀ a e, X.by_ a e < 2 ^ X.N) (hX' : ∀ a, X.sil a < 2 ^ X.N) (hS : ∀ a e, S.by_ a e < 2 ^ S.N) (hS' : ∀ a, S.sil a < 2 ^ S.N)
    (i : Nat) (p : Nat × Nat) (hp : p.1 < 2 ^ X.N ∧ p.2 < 2 ^ S.N) (hi : i < st.1.length) : ∀ (n : Nat), Good X S (evsS X S i p st n) ∧ st.1.length ≤ (evsS X S i p st n).1.length
  | 0 => ⟨h, Nat.le_refl _⟩
  | n + 1 => by
    have ⟨h1, h2⟩ := Good.evsS h hX hX' hS hS' i p hp hi n
    rw [evsS_succ]
    have ⟨h3, h4⟩ := h1.evS hX hX' hS hS' i p hp (by omega) n
    exact ⟨h3, by omega⟩
theorem Good.st0 {X S : SysP} (hx : firstS X < 2 ^ X.N) (hs : firstS S < 2 ^ S.N) : Good X S (st0 X S) :=
  ⟨rfl, rfl, by simp [YtcbhaeniahckhaaDoor.st0], fun p hp => by simp only [YtcbhaeniahckhaaDoor.st0, List.mem_singleton] at hp; subst hp; exact ⟨hx, hs⟩, fun k hk => by simp [YtcbhaeniahckhaaDoor.st0] at hk; subst hk; left; rfl⟩
end Go.Proofs.YtcbhaeniahckhaaDoor
end
section
set_option linter.unusedSimpArgs false
namespace Go.Proofs.YtcbhaeniahckhaaDoor
open Go.RowKit Go.Shelf Go.Deep Go.Proofs.YtcbhaeniahckhaaDoorW.PrintLast
/-- where a row of one cell an element lies -/
theorem own_at {w : World} {B e : Nat} {v : Value} {xs : List Int} (h : w.ownsRow B e 1 v xs.length (xs.map (Value.int .i64))) (hn : 0 < xs.length) :
    ∃ b cap, v = .slice (some ⟨b, 0, none⟩) xs.length cap ∧ B ≤ b ∧ b < w.heap.size ∧ ∀ k, k < xs.length → w.cell? ⟨b, k, none⟩ = some (.int .i64 (xs.getD k 0)) := by
  rcases h.2 with ⟨_, e0⟩ | ⟨g, cap, cur, rfl, hb, hg, _⟩
  · omega
  · refine ⟨g, cap, rfl, hb, (Array.getElem?_eq_some_iff.1 hg).1, fun k hk => ?_⟩
    rw [h.cellAt k (by omega), List.getElem?_map, List.getElem?_eq_getElem hk]
    simp [List.getD_eq_getElem?_getD, List.getElem?_eq_getElem hk]
theorem pairs_at {w : World} {B : Nat} {v : Value} {ps : List (Nat × Nat)} (h : w.ownsRow B 75 2 v ps.length (ps.flatMap pcells)) (hn : 0 < ps.length) :
    ∃ b cap, v = .slice (some ⟨b, 0, none⟩) ps.length cap ∧ ∀ k, k < ps.length → w.cell? ⟨b, k * 2, none⟩ = some (.int .u64 (ps.getD k (0, 0)).1) ∧ w.cell? ⟨b, k * 2 + 1, none⟩ = some (.int .u64 (ps.getD k (0, 0)).2) := by
  rcases h.2 with ⟨_, e0⟩ | ⟨g, cap, cur, rfl, hb, hg, _⟩
  · omega
  · have key : ∀ (ps : List (Nat × Nat)) k, k < ps.length → (ps.flatMap pcells)[k * 2]? = some (.int .u64 (ps.getD k (0, 0)).1) ∧ (ps.flatMap pcells)[k * 2 + 1]? = some (.int .u64 (ps.getD k (0, 0)).2) := by
      intro ps
      induction ps with
      | nil => intro k hk; simp at hk
      | cons p ps ih =>
        intro k hk
        cases k with
        | zero => simp [pcells]
        | succ k =>
          have h1 := ih k (by simpa using hk)
          rw [List.flatMap_cons, show (k + 1) * 2 = k * 2 + 2 by omega, show k * 2 + 2 + 1 = k * 2 + 1 + 2 by omega]
          simpa [pcells] using h1
    refine ⟨g, cap, rfl, fun k hk => ?_⟩
    rw [h.cellAt _ (by omega), h.cellAt _ (by omega)]
    exact key ps k hk
theorem getD_mem' {α : Type} {l : List α} {k : Nat} {d : α} (h : k < l.length) : l.getD k d ∈ l := by
  rw [List.getD_eq_getElem?_getD, List.getElem?_eq_getElem h]
  exact List.getElem_mem h
theorem runS_fail (X S : SysP) (n k : Nat) (st : St) (p : Nat × Nat) (e : Nat) (hk : k < st.1.length) (hp : p = st.1.getD k (0, 0)) (hr : failsS X S p = some e) : runS X S (n + 1) k st = (some (((e : Int) :: backS st.2.1 st.2.2 (k + 1) k).reverse), st) := by
  subst hp
  rw [runS, if_pos hk, hr]
theorem runS_next (X S : SysP) (n k : Nat) (st : St) (p : Nat × Nat) (hk : k < st.1.length) (hp : p = st.1.getD k (0, 0)) (hr : failsS X S p = none) : runS X S (n + 1) k st = runS X S n (k + 1) (evsS X S k p st (X.inp + X.out + 1)) := by
  subst hp
  rw [runS, if_pos hk, hr]
theorem runS_end (X S : SysP) (n k : Nat) (st : St) (hk : ¬ k < st.1.length) : runS X S n k st = (none, st) := by
  cases n with
  | zero => rfl
  | succ n => rw [runS, if_neg hk]
theorem backS_len (fr bs : List Int) : ∀ n k, (backS fr bs n k).length ≤ n
  | 0, _ => Nat.le_refl _
  | n + 1, k => by
    rw [backS]
    split
    · simp
    · have := backS_len fr bs n (fr.getD k 0).toNat
      simp only [List.length_cons]
      omega
theorem backS_succ (fr bs : List Int) (n k : Nat) : backS fr bs (n + 1) k = if fr.getD k 0 = -1 then [] else bs.getD k 0 :: backS fr bs n (fr.getD k 0).toNat := rfl
theorem own_lit (w : World) (e : Int) : (w.alloc (.cells #[.int .i64 e] 3)).ownsRow w.heap.size 3 1 (.slice (some ⟨w.heap.size, 0, none⟩) 1 1) [e].length ([e].map (Value.int .i64)) :=
  World.ownsRow_lit (base := w.heap.size) (e := 3) (size := 1) w #[.int .i64 e] 1 (Nat.le_refl _) (by decide) rfl
theorem own_mono {w : World} {B B' e size n : Nat} {v : Value} {xs : List Value} (h : w.ownsRow B e size v n xs) (hb : B' ≤ B) : w.ownsRow B' e size v n xs :=
  ⟨h.1, h.2.imp id fun ⟨g, cap, cur, h1, h2, h3⟩ => ⟨g, cap, cur, h1, Nat.le_trans hb h2, h3⟩⟩
theorem adds_calls (w0 w : World) (g gx gs bm : Nat) (vp vf vb : Value) (st : St) (X S : SysP) (hC : Comp w0 w g gx gs bm vp vf vb st.1 st.2.1 st.2.2 X S) (hle : st.1.length ≤ 1048576) (h2 : st.2.1.length = st.1.length) (h3 : st.2.2.length = st.1.length) (q : Nat × Nat) (f b : Int) :
    Calls Tryd.prog 55 #[.pointer (some ⟨g, 0, none⟩), .agg #[.int .u64 (q.1 : Int), .int .u64 (q.2 : Int)], .int .i64 f, .int .i64 b] w fun e w' => e = .returned (.tuple #[]) ∧ ∃ vp' vf' vb', Comp w0 w' g gx gs bm vp' vf' vb' (addS st q f b).1 (addS st q f b).2.1 (addS st q f b).2.2 X S ∧
      w.heap.size ≤ w'.heap.size ∧ (∀ k, k < w.heap.size → k ≠ g → k ≠ bm → vp.ownBlock ≠ some k → vf.ownBlock ≠ some k → vb.ownBlock ≠ some k → w'.heap[k]? = w.heap[k]?) ∧ J.At w vp vp' ∧ J.At w vf vf' ∧ J.At w vb vb' := by
  by_cases hq : q ∈ st.1
  · refine (add_old w0 w g gx gs bm vp vf vb _ _ _ hC.at_ q hq f b).mono ?_
    rintro e w' ⟨rfl, hB⟩
    refine ⟨rfl, vp, vf, vb, ?_, hB.size, fun k hk _ _ _ _ _ => hB.block k hk, .inl rfl, .inl rfl, .inl rfl⟩
    rw [addS, if_pos hq]
    exact hC.later hB
  · refine (add_new w0 w g gx gs bm vp vf vb _ _ _ hC.at_ q hq f b (by omega) (by omega) (by omega)).mono ?_
    rintro e w' ⟨rfl, vp', vf', vb', hA, hs, hf, a1, a2, a3⟩
    refine ⟨rfl, vp', vf', vb', ?_, hs, hf, a1, a2, a3⟩
    rw [addS, if_neg hq]
    exact hC.added hA hf a1 a2 a3
/-- a block of cells that none of the comparison's rows owns, behind add -/
theorem box_kept {w0 w w' : World} {g gx gs bm n : Nat} {vp vf vb vp' vf' vb' : Value} {ps : List (Nat × Nat)} {fr bs : List Int} {X S : SysP} {cs : Array Value} {t : TypeId} (hC : Comp w0 w g gx gs bm vp vf vb ps fr bs X S) (hn : w.heap[n]? = some (.cells cs t (0, 0))) (hg : n ≠ g)
    (hf : ∀ k, k < w.heap.size → k ≠ g → k ≠ bm → vp.ownBlock ≠ some k → vf.ownBlock ≠ some k → vb.ownBlock ≠ some k → w'.heap[k]? = w.heap[k]?) (h1 : vp.ownBlock ≠ some n ∧ vf.ownBlock ≠ some n ∧ vb.ownBlock ≠ some n) (a1 : J.At w vp vp') (a2 : J.At w vf vf') (a3 : J.At w vb vb') :
    w'.heap[n]? = some (.cells cs t (0, 0)) ∧ (vp'.ownBlock ≠ some n ∧ vf'.ownBlock ≠ some n ∧ vb'.ownBlock ≠ some n) := by
  have hl := (Array.getElem?_eq_some_iff.1 hn).1
  have at_ : ∀ {v v' : Value}, v.ownBlock ≠ some n → J.At w v v' → v'.ownBlock ≠ some n := by
    intro v v' hv ha e
    rcases ha with ha | ⟨b, hb, hlt⟩
    · exact hv (ha ▸ e)
    · rw [hb] at e
      cases e
      omega
  refine ⟨(hf n hl hg ?_ h1.1 h1.2.1 h1.2.2).trans hn, at_ h1.1 a1, at_ h1.2.1 a2, at_ h1.2.2 a3⟩
  rintro rfl
  obtain ⟨es, clock, hb, _⟩ := hC.at_.map
  rw [hn] at hb
  cases hb
theorem sys1_kept {w w' : World} {g gx b : Nat} {i j : Nat} {u v : Value} {X : SysP} (h0 : w.cell? ⟨g, i, none⟩ = some u) (h1 : w.cell? ⟨b, j, none⟩ = some v) (hx : Sys w gx X) (hT : Tab w) (hB : Below w.heap.size w w') :
    w'.cell? ⟨g, i, none⟩ = some u ∧ w'.cell? ⟨b, j, none⟩ = some v ∧ Sys w' gx X ∧ Tab w' := ⟨cell_later hB h0, cell_later hB h1, hx.below hB, hT.below hB⟩
/-- what run hands back -/
def RunOut (w0 w' : World) (g gx gs bm : Nat) (X S : SysP) (r : Option (List Int)) (st : St) (v : Value) : Prop :=
  (∃ vp vf vb, Comp w0 w' g gx gs bm vp vf vb st.1 st.2.1 st.2.2 X S) ∧ (r = none → v = .slice none 0 0) ∧ (∀ tr, r = some tr → w'.ownsRow w0.heap.size 3 1 v tr.length (tr.map (Value.int .i64)))
set_option maxHeartbeats 4000000 in
set_option maxRecDepth 100000 in
theorem run_calls (w0 w : World) (g gx gs bm : Nat) (vp vf vb : Value) (X S : SysP) (h : Comp w0 w g gx gs bm vp vf vb (st0 X S).1 (st0 X S).2.1 (st0 X S).2.2 X S) (hio : X.inp = S.inp ∧ X.out = S.out) :
    Calls Tryd.prog 30 #[.pointer (some ⟨g, 0, none⟩)] w fun e w' => ∃ v, e = .returned (.tuple #[v, .bool (runS X S fuelS 0 (st0 X S)).1.isSome]) ∧ RunOut w0 w' g gx gs bm X S (runS X S fuelS 0 (st0 X S)).1 (runS X S fuelS 0 (st0 X S)).2 v := by
  obtain ⟨mvX, AbX, cbX, AsX, csX, ArX, crX, hX⟩ := h.sx
  obtain ⟨mvS, AbS, cbS, AsS, csS, ArS, crS, hS⟩ := h.ss
  have hXi := hX.hi
  have hXo := hX.ho
  have BX := Sd.mk (And.intro hX.byb hX.silb)
  have BS := Sd.mk (And.intro hS.byb hS.silb)
  have NX := Sd.mk hX.hN
  have NS := Sd.mk hS.hN
  have HG := Sd.mk (Good.st0 (X := X) (S := S) (firstS_lt X hX.hs hX.silb) (firstS_lt S hS.hs hS.silb))
  have HIO := Sd.mk hio
  have HC := Sd.mk h
  have hgl := h.gl
  clear hX hS hio h
  go_enter Tryd.func30, Tryd.ntmps30
  go_wp2
  go_loopw [4] (fun i wr => ∃ (k : Nat) (st : St) (vp vf vb : Value), i = .int .i64 k ∧ k ≤ st.1.length ∧ 0 < st.1.length ∧ Sd (Comp w0 wr g gx gs bm vp vf vb st.1 st.2.1 st.2.2 X S) ∧ Sd (Good X S st) ∧ Sd (runS X S fuelS 0 (st0 X S) = runS X S (fuelS - k) k st)) (fun i _ => fuelS - (intOf i).toNat)
  case atStart => exact ⟨0, st0 X S, vp, vf, vb, rfl, Nat.zero_le _, Nat.zero_lt_one, HC, HG, ⟨rfl⟩⟩
  case round =>
    obtain ⟨W1, hW1⟩ : ∃ W : World, W = wr := ⟨wr, rfl⟩
    subst hW1
    obtain ⟨k, st, vp, vf, vb, rfl, hk, hpos, hC, hG, hR⟩ := hrel
    have hle := hG.out.le NX.out NS.out
    have c2 := cell_blk hC.out.at_.blk 2
    obtain ⟨bp, capp, rfl, hpr⟩ := pairs_at hC.out.at_.rp hpos
    by_cases hlt : k < st.1.length
    · obtain ⟨p1, p2⟩ := hpr k hlt
      have HPR := Sd.mk hpr
      clear hpr
      obtain ⟨p, hp_⟩ : ∃ p, p = st.1.getD k (0, 0) := ⟨_, rfl⟩
      rw [← hp_] at p1 p2
      have hpb := hG.out.bd p (by rw [hp_]; exact getD_mem' hlt)
      have HP := Sd.mk hp_
      clear hp_
      obtain ⟨bo, hbo⟩ : ∃ o, o = Obj.cells #[.int .u64 (p.1 : Int), .int .u64 (p.2 : Int)] 75 := ⟨_, rfl⟩
      have hC1 := Sd.mk (hC.out.later (alloc_below W1 bo))
      subst hbo
      have hfu : fuelS - k = (fuelS - (k + 1)) + 1 := by unfold fuelS; omega
      rcases hr : failsS X S p with _ | e
      · have hstep : Sd (runS X S fuelS 0 (st0 X S) = runS X S (fuelS - (k + 1)) (k + 1) (evsS X S k p st (X.inp + X.out + 1))) := ⟨by rw [hR.out, hfu]; exact runS_next X S _ k st p hlt HP.out hr⟩
        have HF := Sd.mk hr
        clear hr hfu
        go_wp2_with (first | (go_at_call 56; refine (fails_calls w0 _ g gx gs bm _ _ _ _ _ _ hC1.out.at_ X S hC1.out.sx hC1.out.ss hC1.out.tab HIO.out p hpb.1 hpb.2).mono ?_; rintro e' w2 ⟨he, hB2⟩; rw [HF.out] at he; subst he; have HC2 := Sd.mk (hC1.out.later hB2); have HB2 := Sd.mk hB2; clear hB2; have c0 := cell_blk HC2.out.at_.blk 0) | (go_at_call 48; obtain ⟨mv1, Ab1, cb1, As1, cs1, Ar1, cr1, hX1⟩ := HC2.out.sx; refine (silence_calls _ gx X hX1).mono ?_; rintro e' w3 ⟨rfl, hB3⟩; have HC3 := Sd.mk (HC2.out.later hB3); have HB3 := Sd.mk hB3; clear hB3 hX1))
        go_loopw [10, 72] (fun _ i wq => ∃ (m : Nat) (vp vf vb : Value), i = .int .i64 m ∧ m ≤ X.inp + X.out + 1 ∧ Sd (Comp w0 wq g gx gs bm vp vf vb (evsS X S k p st m).1 (evsS X S k p st m).2.1 (evsS X S k p st m).2.2 X S) ∧ Sd (wq.heap[W1.heap.size]? = some (.cells #[.int .u64 (p.1 : Int), .int .u64 (p.2 : Int)] 75 (0, 0))) ∧ Sd (vp.ownBlock ≠ some W1.heap.size ∧ vf.ownBlock ≠ some W1.heap.size ∧ vb.ownBlock ≠ some W1.heap.size)) (fun _ i _ => X.inp + X.out + 1 - (intOf i).toNat)
        case atStart =>
          refine ⟨0, _, vf, vb, rfl, Nat.zero_le _, HC3, ⟨(HB3.out.block _ (Nat.lt_of_lt_of_le (by simp) HB2.out.size)).trans ((HB2.out.block _ (by simp)).trans (heap_alloc_new _ _))⟩, ⟨?_, ?_, ?_⟩⟩
          · intro e0; have := (hC.out.at_.rp.lt _ e0).2; omega
          · intro e0; have := (hC.out.at_.rf.lt _ e0).2; omega
          · intro e0; have := (hC.out.at_.rb.lt _ e0).2; omega
        case round =>
          obtain ⟨m, vp, vf, vb, rfl, hm, hCq, hbox, hnb⟩ := hrel
          have hGm := Sd.mk (hG.out.evsS BX.out.1 BX.out.2 BS.out.1 BS.out.2 k p hpb hlt m)
          by_cases hlt2 : m < X.inp + X.out + 1
          · have hev := Sd.mk (evsS_succ X S k p st m)
            generalize evsS X S k p st m = stm at *
            have hms : m ≤ S.inp + S.out := by have := HIO.out; omega
            have hmx : m ≤ X.inp + X.out := by omega
            have c0 := cell_blk hCq.out.at_.blk 0
            have c1 := cell_blk hCq.out.at_.blk 1
            have b0 := cell_blk hbox.out 0
            have b1 := cell_blk hbox.out 1
            skip
            have K0 := Sd.mk (sys1_kept c1 b1 hCq.out.ss hCq.out.tab (below_drew (Below.refl _ _)))
            skip
            go_wp2_with fail
            go_region_held3 (fun wx => wx.cell? ⟨g, 1, none⟩ = some (.pointer (some ⟨gs, 0, none⟩)) ∧ wx.cell? ⟨W1.heap.size, 1, none⟩ = some (.int .u64 (p.2 : Int)) ∧ Sys wx gs S ∧ Tab wx)
              (first | exact K0.out | (go_split_ands; exact sys1_kept (by assumption) (by assumption) (by assumption) (by assumption) (by assumption)))
              (first | (go_at_call 49; refine (afters_calls _ (by go_split_ands; assumption) gs S p.2 m hpb.2 hms (by go_split_ands; assumption)).mono ?_; rintro e' w4 ⟨rfl, hB4⟩))
            have HC4 := Sd.mk (hCq.out.later ((below_drew (Below.refl _ _)).trans hB4))
            have hbox4 := Sd.mk ((hB4.block _ (Array.getElem?_eq_some_iff.1 hbox.out).1).trans hbox.out)
            clear hB4 c0 c1 b0 b1 K0
            by_cases hz : afterS S p.2 m = 0
            · have hd : ((afterS S p.2 m : Int) != 0) = false := by rw [hz]; rfl
              have hev2 : Sd (evsS X S k p st (m + 1) = stm) := ⟨by rw [hev.out]; unfold evS; rw [hz]; rfl⟩
              have HZ := Sd.mk hz
              clear hz hev
              go_wp2
              go_roundw
              case rel => exact ⟨m + 1, vp, vf, vb, by go_num, by omega, by rw [hev2.out]; exact HC4, hbox4, hnb⟩
              case measure => simp [intOf]; omega
            · have hd : ((afterS S p.2 m : Int) != 0) = true := by rw [bne_iff_ne]; omega
              have hev2 : Sd (evsS X S k p st (m + 1) = addS stm (afterS X p.1 m, afterS S p.2 m) k m) := ⟨by rw [hev.out]; unfold evS; rw [if_pos (by rw [bne_iff_ne]; exact hz)]⟩
              have HZ := Sd.mk hz
              clear hz hev
              have c0 := cell_blk HC4.out.at_.blk 0
              have b0 := cell_blk hbox4.out 0
              have K1 := Sd.mk (sys1_kept c0 b0 HC4.out.sx HC4.out.tab (below_drew (Below.refl _ _)))
              have hgb : Sd (W1.heap.size ≠ g) := ⟨by have := hC.out.gl; omega⟩
              have hms4 := hGm.out.1.le NX.out NS.out
              have hml := hGm.out.1.lf
              have hmb := hGm.out.1.lb
              go_wp2_with fail
              go_region_held3 (fun wx => wx.cell? ⟨g, 0, none⟩ = some (.pointer (some ⟨gx, 0, none⟩)) ∧ wx.cell? ⟨W1.heap.size, 0, none⟩ = some (.int .u64 (p.1 : Int)) ∧ Sys wx gx X ∧ Tab wx)
                (first | exact K1.out | (go_split_ands; exact sys1_kept (by assumption) (by assumption) (by assumption) (by assumption) (by assumption)) | exact ⟨cell_blk hA6.at_.blk 0, cell_blk hbk6.1 0, hA6.sx, hA6.tab⟩)
                (first | (go_at_call 49; refine (afters_calls _ (by go_split_ands; assumption) gx X p.1 m hpb.1 hmx (by go_split_ands; assumption)).mono ?_; rintro e' w5 ⟨rfl, hB5⟩) | (go_at_call 55; have hC5 := HC4.out.later ((below_drew (Below.refl _ _)).trans hB5); refine (adds_calls w0 _ g gx gs bm vp vf vb stm X S hC5 hms4 hml hmb (afterS X p.1 m, afterS S p.2 m) k m).mono ?_; rintro e' w6 ⟨rfl, vp', vf', vb', hA6, hsz6, hf6, a1, a2, a3⟩; have hbk6 := box_kept hC5 ((hB5.block _ (Array.getElem?_eq_some_iff.1 hbox4.out).1).trans hbox4.out) hgb.out hf6 hnb.out a1 a2 a3; clear hf6 a1 a2 a3 hsz6 hC5))
              have HA6 := Sd.mk hA6
              have HK6 := Sd.mk hbk6.1
              have HN6 := Sd.mk hbk6.2
              clear hA6 hbk6 hB5
              go_wp2
              go_roundw
              case rel => exact ⟨m + 1, vp', vf', vb', by go_num, by omega, by rw [hev2.out]; exact HA6, HK6, HN6⟩
              case measure => simp [intOf]; omega
          · obtain rfl : m = X.inp + X.out + 1 := by omega
            go_wp2
            go_roundw
            case rel => exact ⟨k + 1, evsS X S k p st (X.inp + X.out + 1), vp, vf, vb, by go_num, by have := hGm.out.2; omega, by have := hGm.out.2; omega, hCq, ⟨hGm.out.1⟩, hstep⟩
            case measure => simp [intOf]; unfold fuelS; omega
      · have hstep : Sd (runS X S fuelS 0 (st0 X S) = (some (((e : Int) :: backS st.2.1 st.2.2 (k + 1) k).reverse), st)) := ⟨by rw [hR.out, hfu]; exact runS_fail X S _ k st p e hlt HP.out hr⟩
        have HF := Sd.mk hr
        clear hr hfu
        go_wp2_with (go_at_call 56; refine (fails_calls w0 _ g gx gs bm _ _ _ _ _ _ hC1.out.at_ X S hC1.out.sx hC1.out.ss hC1.out.tab HIO.out p hpb.1 hpb.2).mono ?_; rintro e' w2 ⟨he, hB2⟩; rw [HF.out] at he; subst he; have HC2 := Sd.mk (hC1.out.later hB2); clear hB2; obtain ⟨bf, capf, rfl, hbf1, hbf2, hfr⟩ := own_at HC2.out.at_.rf (by rw [hG.out.lf]; exact hpos); obtain ⟨bb, capb, rfl, hbb1, hbb2, hbr⟩ := own_at HC2.out.at_.rb (by rw [hG.out.lb]; exact hpos); have HFR := Sd.mk hfr; have HBR := Sd.mk hbr; clear hfr hbr; have c3 := cell_blk HC2.out.at_.blk 3; have c4 := cell_blk HC2.out.at_.blk 4)
        go_loopw [8, 9] (fun v8 i wq => ∃ (j n : Nat) (L : List Int), i = .int .i64 j ∧ j < n ∧ j < st.1.length ∧ 0 < L.length ∧ Sd (L ++ backS st.2.1 st.2.2 n j = (e : Int) :: backS st.2.1 st.2.2 (k + 1) k) ∧ Sd (wq.ownsRow w2.heap.size 3 1 v8 L.length (L.map (Value.int .i64))) ∧ Sd (Below w2.heap.size w2 wq)) (fun _ i _ => (intOf i).toNat)
        case atStart => exact ⟨k, k + 1, [(e : Int)], rfl, by omega, hlt, Nat.zero_lt_one, ⟨rfl⟩, ⟨own_lit _ _⟩, ⟨(Below.refl _ _).alloc (Nat.le_refl _) _⟩⟩
        case round =>
          obtain ⟨j, n, L, rfl, hjn, hjl, hL, heq, ho, hBq⟩ := hrel
          have HCq := Sd.mk (HC2.out.later hBq.out)
          have q3 := cell_blk HCq.out.at_.blk 3
          have q4 := cell_blk HCq.out.at_.blk 4
          have qf := cell_later hBq.out (HFR.out j (by rw [hG.out.lf]; exact hjl))
          have qb := cell_later hBq.out (HBR.out j (by rw [hG.out.lb]; exact hjl))
          have hfk := hG.out.fr j hjl
          have hLb : L.length ≤ 1048578 := by
            have h1 := congrArg List.length heq.out
            have h2 := backS_len st.2.1 st.2.2 (k + 1) k
            simp at h1
            omega
          have hlf := hG.out.lf
          have hlb := hG.out.lb
          obtain ⟨m, rfl⟩ : ∃ m, n = m + 1 := ⟨n - 1, by omega⟩
          have hb1 := Sd.mk (backS_succ st.2.1 st.2.2 m j)
          generalize hgf : st.2.1.getD j 0 = f at *
          have GF := Sd.mk hgf
          clear hgf
          generalize st.2.2.getD j 0 = b at *
          rcases hfk with hf | ⟨hf1, hf2⟩
          · subst hf
            have hLe : Sd (L = (e : Int) :: backS st.2.1 st.2.2 (k + 1) k) := ⟨by rw [← heq.out, hb1.out, if_pos rfl, List.append_nil]⟩
            have hne : L ≠ [] := fun e0 => by rw [e0] at hL; simp at hL
            go_wp2_with (go_at_call 57; refine (reverse_calls w2.heap.size w2.heap.size _ _ L hne ho.out (Nat.le_refl _)).mono ?_; rintro e' w3 ⟨rfl, ho3, hB3⟩)
            go_ret2
            refine ⟨_, by rw [hstep.out]; rfl, ?_⟩
            rw [hstep.out]
            refine ⟨⟨_, _, _, HC2.out.later (hBq.out.trans hB3)⟩, fun h0 => (by simp at h0), fun tr htr => ?_⟩
            cases htr
            rw [← hLe.out]
            exact own_mono ho3 HC2.out.at_.below.size
          · obtain ⟨f', rfl⟩ : ∃ f' : Nat, f = f' := ⟨f.toNat, by omega⟩
            have hne : ((f' : Int) != -1) = true := by rw [bne_iff_ne]; omega
            go_wp2_with (at_builtin; refine app1 rfl _ _ 27 rfl 3 (.int .i64 0) 1 8 Tryd.underlying27 Tryd.info3 rfl (by decide) w2.heap.size hBq.out w2.heap.size (Nat.le_refl _) hBq.out.size _ L.length _ ho.out ?c1 ?c2 [.int .i64 b] rfl rfl rfl ?c3 ?_)
            case c1 => omega
            case c2 => omega
            case c3 => intro u hu; simp at hu; subst hu; rfl
            intro v' w1 ho1 hB1 _ _
            have ho2 : Sd (w1.ownsRow w2.heap.size 3 1 v' (L ++ [b]).length ((L ++ [b]).map (Value.int .i64))) := ⟨by simpa using ho1⟩
            have HB1 := Sd.mk hB1
            clear ho1 hB1
            have HC1' := Sd.mk (HC2.out.later HB1.out)
            have r3 := cell_blk HC1'.out.at_.blk 3
            have r4 := cell_blk HC1'.out.at_.blk 4
            have rf := cell_later HB1.out (HFR.out j (by rw [hG.out.lf]; exact hjl))
            rw [GF.out] at rf
            go_wp2
            go_roundw
            case rel => exact ⟨f', m, L ++ [b], rfl, by omega, by omega, by simp, ⟨by rw [List.append_assoc, List.singleton_append, ← heq.out, hb1.out, if_neg (by omega)]; rfl⟩, ho2, HB1⟩
            case measure => simp [intOf]; omega
    · have hend : Sd (runS X S fuelS 0 (st0 X S) = (none, st)) := ⟨by rw [hR.out]; exact runS_end X S _ k st hlt⟩
      obtain rfl : k = st.1.length := by omega
      clear hpr
      go_wp2
      go_ret2
      refine ⟨_, by rw [hend.out]; rfl, ?_⟩
      rw [hend.out]
      exact ⟨⟨_, _, _, hC.out⟩, fun _ => rfl, fun tr htr => by cases htr⟩
end Go.Proofs.YtcbhaeniahckhaaDoor
end
section
set_option linter.unusedSimpArgs false
namespace Go.Proofs.YtcbhaeniahckhaaDoor
open Go.RowKit Go.Shelf Go.Deep Go.Proofs.YtcbhaeniahckhaaDoorW.PrintLast

set_option maxHeartbeats 4000000 in
set_option maxRecDepth 100000 in
theorem systemErr_calls (w : World) (x : Rx) (hx : x.ok) (A : Option Addr) (c : Nat) (hr : RdM w A x.mvs) :
    Calls Tryd.prog 46 #[.agg #[.int .i64 x.N, .int .i64 x.start, .int .i64 x.inp, .int .i64 x.out, .slice A x.mvs.length c]] w fun e w' => e = .returned (.int .i64 0) ∧ Below w.heap.size w w' := by
  have HR := Sd.mk hr
  clear hr
  go_enter Tryd.func46, Tryd.ntmps46
  go_wp2_with (go_at_call 70; refine (check_calls _ x hx A c (HR.out.below (alloc_below _ _))).mono ?_; rintro e' w2 ⟨rfl, hB2⟩)
  go_ret
  exact ⟨rfl, below_then (alloc_below _ _) (alloc_below _ _).size hB2⟩
set_option maxHeartbeats 4000000 in
set_option maxRecDepth 100000 in
theorem bothErr_calls (w : World) (x y : Rx) (hx : x.ok) (hy : y.ok) (hio : x.inp = y.inp ∧ x.out = y.out) (A A' : Option Addr) (c c' : Nat) (hr : RdM w A x.mvs) (hr' : RdM w A' y.mvs) :
    Calls Tryd.prog 28 #[rxV x A c, rxV y A' c'] w fun e w' => e = .returned (.int .i64 0) ∧ Below w.heap.size w w' := by
  unfold rxV
  have HR := Sd.mk hr
  have HR' := Sd.mk hr'
  clear hr hr'
  have hd1 : ((x.inp : Int) == y.inp) = true := by rw [hio.1]; simp
  have hd2 : ((x.out : Int) == y.out) = true := by rw [hio.2]; simp
  have HIO := Sd.mk hio
  clear hio
  have K0 := Sd.mk (two_boxes (w := w) (W := ((w.alloc (.cells #[.int .i64 x.N, .int .i64 x.start, .int .i64 x.inp, .int .i64 x.out, .slice A x.mvs.length c] 24)).alloc (.cells #[.int .i64 y.N, .int .i64 y.start, .int .i64 y.inp, .int .i64 y.out, .slice A' y.mvs.length c'] 24)).drew) ((heap_alloc_old _ _ (by simp)).trans (heap_alloc_new w _)) (alloc_drew_at _ _ (w.heap.size + 1) (by simp)) (below_drew (((Below.refl _ _).alloc (Nat.le_refl _) _).alloc (by simp) _)))
  go_enter Tryd.func28, Tryd.ntmps28
  go_wp2_with fail
  go_region_held3 (fun wx => wx.heap[w.heap.size]? = some (.cells #[.int .i64 x.N, .int .i64 x.start, .int .i64 x.inp, .int .i64 x.out, .slice A x.mvs.length c] 24 (0, 0)) ∧ wx.heap[w.heap.size + 1]? = some (.cells #[.int .i64 y.N, .int .i64 y.start, .int .i64 y.inp, .int .i64 y.out, .slice A' y.mvs.length c'] 24 (0, 0)) ∧ Below w.heap.size w wx ∧
      wx.cell? ⟨w.heap.size, 0, none⟩ = some (.int .i64 x.N) ∧ wx.cell? ⟨w.heap.size, 1, none⟩ = some (.int .i64 x.start) ∧ wx.cell? ⟨w.heap.size, 2, none⟩ = some (.int .i64 x.inp) ∧ wx.cell? ⟨w.heap.size, 3, none⟩ = some (.int .i64 x.out) ∧ wx.cell? ⟨w.heap.size, 4, none⟩ = some (.slice A x.mvs.length c) ∧
      wx.cell? ⟨w.heap.size + 1, 0, none⟩ = some (.int .i64 y.N) ∧ wx.cell? ⟨w.heap.size + 1, 1, none⟩ = some (.int .i64 y.start) ∧ wx.cell? ⟨w.heap.size + 1, 2, none⟩ = some (.int .i64 y.inp) ∧ wx.cell? ⟨w.heap.size + 1, 3, none⟩ = some (.int .i64 y.out) ∧ wx.cell? ⟨w.heap.size + 1, 4, none⟩ = some (.slice A' y.mvs.length c'))
    (first | exact K0.out | (go_split_ands; exact two_kept (by assumption) (by assumption) (by assumption) (by assumption)) | (go_split_ands; exact two_kept (by assumption) (by assumption) (by assumption) (alloc_below _ _)) | (go_split_ands; exact two_kept (by assumption) (by assumption) (by assumption) (Below.refl _ _)))
    (first | (go_at_call_of 46 (Value.agg #[Value.int IntKind.i64 x.N, Value.int IntKind.i64 x.start, Value.int IntKind.i64 x.inp, Value.int IntKind.i64 x.out, Value.slice A x.mvs.length c]); refine (systemErr_calls _ x hx A c (HR.out.below (by go_split_ands; assumption))).mono ?_; rintro e' w2 ⟨rfl, hBX⟩) | (go_at_call_of 46 (Value.agg #[Value.int IntKind.i64 y.N, Value.int IntKind.i64 y.start, Value.int IntKind.i64 y.inp, Value.int IntKind.i64 y.out, Value.slice A' y.mvs.length c']); refine (systemErr_calls _ y hy A' c' (HR'.out.below (by go_split_ands; assumption))).mono ?_; rintro e' w3 ⟨rfl, hBS⟩) | (go_at_call 31; refine (unless_calls _ _ _).mono ?_; rintro e' w4 ⟨rfl, rfl⟩) | (go_at_call 37; refine (or37_calls _ _ [0, 0, 0] (by simp) _ (rdZ_new _ [0, 0, 0] _ _ rfl)).mono ?_; rintro e' w5 ⟨rfl, rfl⟩))
  have HB := Sd.mk (show Below w.heap.size w _ from by go_split_ands; assumption)
  go_wp2
  go_ret
  exact ⟨rfl, HB.out⟩
theorem unless_yes (c : Int) (w : World) : Calls Tryd.prog 31 #[.bool true, .int .i64 c] w fun e w' => e = .returned (.int .i64 0) ∧ w = w' := unless_calls true c w
theorem unless_no (c : Int) (w : World) : Calls Tryd.prog 31 #[.bool false, .int .i64 c] w fun e w' => e = .returned (.int .i64 c) ∧ w = w' := unless_calls false c w
/-- the outcome of the search on two right systems -/
def seekS (x y : Rx) : Option (List Int) × St := runS (sysOf x) (sysOf y) fuelS 0 (st0 (sysOf x) (sysOf y))
set_option maxHeartbeats 4000000 in
set_option maxRecDepth 100000 in
theorem conforms_calls (w : World) (hT : Tab w) (x y : Rx) (hx : x.ok) (hy : y.ok) (hio : x.inp = y.inp ∧ x.out = y.out) (A A' : Option Addr) (c c' : Nat) (hr : RdM w A x.mvs) (hr' : RdM w A' y.mvs) :
    Calls Tryd.prog 7 #[rxV x A c, rxV y A' c'] w fun e w' => ∃ v, e = .returned (.tuple #[v, .int .i64 (if (seekS x y).1.isSome then 29 else 0)]) ∧ Below w.heap.size w w' ∧ ((seekS x y).1 = none → v = .slice none 0 0) ∧ (∀ tr, (seekS x y).1 = some tr → w'.ownsRow w.heap.size 3 1 v tr.length (tr.map (Value.int .i64))) := by
  unfold rxV
  have HR := Sd.mk hr
  have HR' := Sd.mk hr'
  have HT := Sd.mk hT
  have HIO := Sd.mk hio
  clear hr hr' hT hio
  have K0 := Sd.mk (two_boxes (w := w) (W := ((w.alloc (.cells #[.int .i64 x.N, .int .i64 x.start, .int .i64 x.inp, .int .i64 x.out, .slice A x.mvs.length c] 24)).alloc (.cells #[.int .i64 y.N, .int .i64 y.start, .int .i64 y.inp, .int .i64 y.out, .slice A' y.mvs.length c'] 24))) ((heap_alloc_old _ _ (by simp)).trans (heap_alloc_new w _)) (alloc_at _ _ (w.heap.size + 1) (by simp)) (((Below.refl _ _).alloc (Nat.le_refl _) _).alloc (by simp) _))
  rcases hb : (seekS x y).1.isSome with _ | _
  · have HB : Sd ((runS (sysOf x) (sysOf y) fuelS 0 (st0 (sysOf x) (sysOf y))).1.isSome = false) := ⟨hb⟩
    have UC := fun (w : World) (_ : Unit) => unless_yes 29 w
    clear hb
    rw [if_neg (by decide)]
    go_enter Tryd.func7, Tryd.ntmps7
    go_wp2_with (first | (go_at_call 28; refine (bothErr_calls _ x y hx hy HIO.out A A' c c' (HR.out.below K0.out.2.2.1) (HR'.out.below K0.out.2.2.1)).mono ?_; rintro e' w2 ⟨rfl, hB2⟩; have K2 := Sd.mk (two_kept K0.out.1 K0.out.2.1 K0.out.2.2.1 hB2); clear hB2; obtain ⟨-, -, -, k0, k1, k2, k3, k4, l0, l1, l2, l3, l4⟩ := K2.out) | (go_at_call 29; refine (compared_calls _ (HT.out.below K2.out.2.2.1) x y hx hy A A' c c' (HR.out.below K2.out.2.2.1) (HR'.out.below K2.out.2.2.1)).mono ?_; rintro e' w3 ⟨g, gx, gs, bm, vp, vf, vb, rfl, hC⟩; have HC := Sd.mk hC; clear hC) | (go_at_call 30; refine (run_calls _ _ g gx gs bm vp vf vb (sysOf x) (sysOf y) HC.out HIO.out).mono ?_; rintro e' w4 ⟨v, he, hO⟩; rw [HB.out] at he; subst he; have HO := Sd.mk hO; clear hO) | (go_at_call 31; refine (UC _ ()).mono ?_; rintro e' w5 ⟨rfl, rfl⟩))

    have HO' : Sd (RunOut _ w4 g gx gs bm (sysOf x) (sysOf y) (seekS x y).1 (seekS x y).2 v) := ⟨HO.out⟩
    clear HO
    go_ret2
    obtain ⟨⟨vp', vf', vb', hC⟩, h2, h3⟩ := HO'.out
    have hBf := below_then K2.out.2.2.1 K2.out.2.2.1.size hC.at_.below
    exact ⟨v, rfl, hBf, h2, fun tr htr => own_mono (h3 tr htr) K2.out.2.2.1.size⟩
  · have HB : Sd ((runS (sysOf x) (sysOf y) fuelS 0 (st0 (sysOf x) (sysOf y))).1.isSome = true) := ⟨hb⟩
    have UC := fun (w : World) (_ : Unit) => unless_no 29 w
    clear hb
    rw [if_pos rfl]
    go_enter Tryd.func7, Tryd.ntmps7
    go_wp2_with (first | (go_at_call 28; refine (bothErr_calls _ x y hx hy HIO.out A A' c c' (HR.out.below K0.out.2.2.1) (HR'.out.below K0.out.2.2.1)).mono ?_; rintro e' w2 ⟨rfl, hB2⟩; have K2 := Sd.mk (two_kept K0.out.1 K0.out.2.1 K0.out.2.2.1 hB2); clear hB2; obtain ⟨-, -, -, k0, k1, k2, k3, k4, l0, l1, l2, l3, l4⟩ := K2.out) | (go_at_call 29; refine (compared_calls _ (HT.out.below K2.out.2.2.1) x y hx hy A A' c c' (HR.out.below K2.out.2.2.1) (HR'.out.below K2.out.2.2.1)).mono ?_; rintro e' w3 ⟨g, gx, gs, bm, vp, vf, vb, rfl, hC⟩; have HC := Sd.mk hC; clear hC) | (go_at_call 30; refine (run_calls _ _ g gx gs bm vp vf vb (sysOf x) (sysOf y) HC.out HIO.out).mono ?_; rintro e' w4 ⟨v, he, hO⟩; rw [HB.out] at he; subst he; have HO := Sd.mk hO; clear hO) | (go_at_call 31; refine (UC _ ()).mono ?_; rintro e' w5 ⟨rfl, rfl⟩))

    have HO' : Sd (RunOut _ w4 g gx gs bm (sysOf x) (sysOf y) (seekS x y).1 (seekS x y).2 v) := ⟨HO.out⟩
    clear HO
    go_ret2
    obtain ⟨⟨vp', vf', vb', hC⟩, h2, h3⟩ := HO'.out
    have hBf := below_then K2.out.2.2.1 K2.out.2.2.1.size hC.at_.below
    exact ⟨v, rfl, hBf, h2, fun tr htr => own_mono (h3 tr htr) K2.out.2.2.1.size⟩
end Go.Proofs.YtcbhaeniahckhaaDoor
end
section
set_option linter.unusedSimpArgs false
namespace Go.Proofs.YtcbhaeniahckhaaDoor
open Go.RowKit Go.Shelf Go.Deep Go.Proofs.YtcbhaeniahckhaaDoorW.PrintLast
theorem Tryd.info78 : (Tryd.prog.info? 78).map (fun i => (i.zero, i.size, i.bytes)) = some (some (.agg #[.slice none 0 0, .slice none 0 0]), 2, 48) := by kernel_rfl
theorem OwnI.below {w w' : World} {base : Nat} {v : Value} {xs : List Nat} (h : OwnI w base v xs) (hB : Below w.heap.size w w') : OwnI w' base v xs :=
  h.kept (row := none) ⟨hB.os, hB.tape, hB.output, hB.size, fun k hk _ => hB.block k hk⟩ (by cases v.ownBlock <;> simp)
/-- the slice of pairs of lists that RelationOf makes -/
def PairsAt (w : World) (base : Nat) (v : Value) (qs : List (Nat × Nat)) : Prop :=
  ∃ us : List (Value × Value), us.length = qs.length ∧ w.ownsRow base 78 2 v qs.length (us.flatMap fun u => [u.1, u.2]) ∧
    ∀ i, i < qs.length → OwnI w base (us.getD i (.bool true, .bool true)).1 (bitsL (qs.getD i (0, 0)).1) ∧ OwnI w base (us.getD i (.bool true, .bool true)).2 (bitsL (qs.getD i (0, 0)).2)
theorem PairsAt.below {w w' : World} {base : Nat} {v : Value} {qs : List (Nat × Nat)} (h : PairsAt w base v qs) (hB : Below w.heap.size w w') : PairsAt w' base v qs := by
  obtain ⟨us, h1, h2, h3⟩ := h
  exact ⟨us, h1, h2.kept (row := none) ⟨hB.os, hB.tape, hB.output, hB.size, fun k hk _ => hB.block k hk⟩ (by cases v.ownBlock <;> simp), fun i hi => ⟨(h3 i hi).1.below hB, (h3 i hi).2.below hB⟩⟩
theorem PairsAt.nil (w : World) (base : Nat) : PairsAt w base (.slice none 0 0) [] := ⟨[], rfl, World.ownsRow_nil _ _ _ _, fun i hi => by simp at hi⟩
/-- one pair more: W is the world in which the two lists are there, w1 the one behind the append -/
theorem PairsAt.more {W w1 : World} {base : Nat} {v v' v1 v2 : Value} {qs : List (Nat × Nat)} {q : Nat × Nat} (us : List (Value × Value)) (h1 : us.length = qs.length)
    (h3 : ∀ i, i < qs.length → OwnI W base (us.getD i (.bool true, .bool true)).1 (bitsL (qs.getD i (0, 0)).1) ∧ OwnI W base (us.getD i (.bool true, .bool true)).2 (bitsL (qs.getD i (0, 0)).2))
    (hv : W.ownsRow base 78 2 v qs.length (us.flatMap fun u => [u.1, u.2])) (o1 : OwnI W base v1 (bitsL q.1)) (o2 : OwnI W base v2 (bitsL q.2)) (hg : W.grownBy w1 v.ownBlock)
    (ho : w1.ownsRow base 78 2 v' (qs.length + 1) ((us.flatMap fun u => [u.1, u.2]) ++ [v1, v2])) : PairsAt w1 base v' (qs ++ [q]) := by
  have kept : ∀ {u : Value} {xs : List Nat}, OwnI W base u xs → OwnI w1 base u xs := by
    intro u xs hu
    refine hu.kept hg ?_
    by_cases e : u.ownBlock = none
    · exact .inl e
    · refine .inr (fun e2 => ?_)
      obtain ⟨k, hk⟩ := Option.ne_none_iff_exists'.1 e
      exact own_ne_type hu hv (by decide) k hk (e2 ▸ hk)
  refine ⟨us ++ [(v1, v2)], by simp [h1], by simpa [List.flatMap_append] using ho, fun i hi => ?_⟩
  simp only [List.length_append, List.length_singleton] at hi
  rcases Nat.lt_or_ge i qs.length with hlt | hge
  · have h4 := h3 i hlt
    rw [List.getD_eq_getElem?_getD, List.getD_eq_getElem?_getD (l := qs ++ [q]), List.getElem?_append_left (by omega), List.getElem?_append_left (by omega), ← List.getD_eq_getElem?_getD, ← List.getD_eq_getElem?_getD]
    exact ⟨kept h4.1, kept h4.2⟩
  · rw [List.getD_eq_getElem?_getD, List.getD_eq_getElem?_getD (l := qs ++ [q]), List.getElem?_append_right (by omega), List.getElem?_append_right (by omega), show i - us.length = 0 by omega, show i - qs.length = 0 by omega]
    exact ⟨kept o1, kept o2⟩
theorem addS_pos (st : St) (p : Nat × Nat) (f b : Int) (h : 0 < st.1.length) : 0 < (addS st p f b).1.length := by
  unfold addS
  split
  · exact h
  · simp
theorem evsS_pos (X S : SysP) (i : Nat) (p : Nat × Nat) (st : St) (h : 0 < st.1.length) : ∀ n, 0 < (evsS X S i p st n).1.length
  | 0 => h
  | n + 1 => by
    rw [evsS_succ]
    unfold evS
    split
    · exact addS_pos _ _ _ _ (evsS_pos X S i p st h n)
    · exact evsS_pos X S i p st h n
theorem runS_pos (X S : SysP) : ∀ (n i : Nat) (st : St), 0 < st.1.length → 0 < (runS X S n i st).2.1.length
  | 0, _, _, h => h
  | n + 1, i, st, h => by
    rw [runS]
    split
    · split
      · exact h
      · exact runS_pos X S n _ _ (evsS_pos X S _ _ _ h _)
    · exact h
theorem seek_pos (x y : Rx) : 0 < (seekS x y).2.1.length := runS_pos _ _ _ _ _ Nat.zero_lt_one
theorem runS_good {X S : SysP} (hX : ∀ a e, X.by_ a e < 2 ^ X.N) (hX' : ∀ a, X.sil a < 2 ^ X.N) (hS : ∀ a e, S.by_ a e < 2 ^ S.N) (hS' : ∀ a, S.sil a < 2 ^ S.N) : ∀ (n i : Nat) (st : St), Good X S st → Good X S (runS X S n i st).2
  | 0, _, _, h => h
  | n + 1, i, st, h => by
    rw [runS]
    split
    · rename_i hi
      split
      · exact h
      · exact runS_good hX hX' hS hS' n _ _ (h.evsS hX hX' hS hS' i _ (h.bd _ (getD_mem' hi)) hi _).1
    · exact h
theorem Rx.byb (x : Rx) (hx : x.ok) : ∀ a e, (sysOf x).by_ a e < 2 ^ (sysOf x).N := fun a e => byOf_lt x hx _ (fun _ h => h) a e
theorem Rx.silb (x : Rx) (hx : x.ok) : ∀ a, (sysOf x).sil a < 2 ^ (sysOf x).N := fun a => silOf_lt x hx _ (fun _ h => h) a
theorem seek_good (x y : Rx) (hx : x.ok) (hy : y.ok) : Good (sysOf x) (sysOf y) (seekS x y).2 :=
  runS_good (x.byb hx) (x.silb hx) (y.byb hy) (y.silb hy) _ _ _ (Good.st0 (firstS_lt _ hx.hs (x.silb hx)) (firstS_lt _ hy.hs (y.silb hy)))
theorem seek_small (x y : Rx) (hx : x.ok) (hy : y.ok) : ∀ p ∈ (seekS x y).2.1, p.1 < 1024 ∧ p.2 < 1024 := fun p hp => by
  have h := (seek_good x y hx hy).bd p hp
  have h1 : (2 : Nat) ^ (sysOf x).N ≤ 1024 := Nat.le_trans (Nat.pow_le_pow_right (by decide) hx.hN) (by decide)
  have h2 : (2 : Nat) ^ (sysOf y).N ≤ 1024 := Nat.le_trans (Nat.pow_le_pow_right (by decide) hy.hN) (by decide)
  omega
theorem take_getD {α : Type} {d : α} (l : List α) (m : Nat) (h : m < l.length) : l.take (m + 1) = l.take m ++ [l.getD m d] := by
  rw [List.getD_eq_getElem?_getD, List.getElem?_eq_getElem h, List.take_succ_eq_append_getElem h]
  rfl
theorem box2_kept {w W W2 : World} {b : Nat} {u v : Value} {B : Nat} (h : W.heap[b]? = some (.cells #[u, v] 75 (0, 0))) (hT : Tab W) (hB : Below B w W) (hBW : B ≤ W.heap.size) (k : Below W.heap.size W W2) :
    W2.heap[b]? = some (.cells #[u, v] 75 (0, 0)) ∧ W2.cell? ⟨b, 0, none⟩ = some u ∧ W2.cell? ⟨b, 1, none⟩ = some v ∧ Tab W2 ∧ Below B w W2 ∧ B ≤ W2.heap.size :=
  have h2 := (k.block _ (Array.getElem?_eq_some_iff.1 h).1).trans h
  ⟨h2, cell_blk h2 0, cell_blk h2 1, hT.below k, below_then hB hBW k, Nat.le_trans hBW k.size⟩
theorem OwnI.mono {w : World} {B B' : Nat} {v : Value} {xs : List Nat} (h : OwnI w B v xs) (hb : B' ≤ B) : OwnI w B' v xs := own_mono h hb
theorem own_slice {w : World} {B e size n : Nat} {v : Value} {xs : List Value} (h : w.ownsRow B e size v n xs) : ∃ a n c, v = .slice a n c := by
  rcases h.2 with ⟨rfl, _⟩ | ⟨g, cap, cur, rfl, _⟩
  · exact ⟨_, _, _, rfl⟩
  · exact ⟨_, _, _, rfl⟩
theorem own_one {w : World} {B e size n : Nat} {v : Value} {xs : List Value} (h : w.ownsRow B e size v n xs) : v.oneCell' = true := by
  rcases h.2 with ⟨rfl, _⟩ | ⟨g, cap, cur, rfl, _⟩ <;> rfl
theorem PairsAt.mono {w : World} {B B' : Nat} {v : Value} {qs : List (Nat × Nat)} (h : PairsAt w B v qs) (hb : B' ≤ B) : PairsAt w B' v qs := by
  obtain ⟨us, h1, h2, h3⟩ := h
  exact ⟨us, h1, own_mono h2 hb, fun i hi => ⟨own_mono (h3 i hi).1 hb, own_mono (h3 i hi).2 hb⟩⟩
set_option maxHeartbeats 8000000 in
set_option maxRecDepth 100000 in
theorem relationOf_calls (w : World) (hT : Tab w) (x y : Rx) (hx : x.ok) (hy : y.ok) (hio : x.inp = y.inp ∧ x.out = y.out) (A A' : Option Addr) (c c' : Nat) (hr : RdM w A x.mvs) (hr' : RdM w A' y.mvs) :
    Calls Tryd.prog 9 #[rxV x A c, rxV y A' c'] w fun e w' => Below w.heap.size w w' ∧
      if (seekS x y).1.isSome then e = .returned (.tuple #[.slice none 0 0, .int .i64 29])
      else if 300 < (seekS x y).2.1.length then e = .returned (.tuple #[.slice none 0 0, .int .i64 32])
      else ∃ v, e = .returned (.tuple #[v, .int .i64 0]) ∧ PairsAt w' w.heap.size v (seekS x y).2.1 := by
  unfold rxV
  have HR := Sd.mk hr
  have HR' := Sd.mk hr'
  have HT := Sd.mk hT
  have HIO := Sd.mk hio
  clear hr hr' hT hio
  have K0 := Sd.mk (two_boxes (w := w) (W := ((w.alloc (.cells #[.int .i64 x.N, .int .i64 x.start, .int .i64 x.inp, .int .i64 x.out, .slice A x.mvs.length c] 24)).alloc (.cells #[.int .i64 y.N, .int .i64 y.start, .int .i64 y.inp, .int .i64 y.out, .slice A' y.mvs.length c'] 24))) ((heap_alloc_old _ _ (by simp)).trans (heap_alloc_new w _)) (alloc_at _ _ (w.heap.size + 1) (by simp)) (((Below.refl _ _).alloc (Nat.le_refl _) _).alloc (by simp) _))
  rcases hb : (seekS x y).1.isSome with _ | _
  · have HB : Sd ((runS (sysOf x) (sysOf y) fuelS 0 (st0 (sysOf x) (sysOf y))).1.isSome = false) := ⟨hb⟩
    clear hb
    simp only [Bool.false_eq_true, if_false]
    have hpos : 0 < (seekS x y).2.1.length := seek_pos x y
    by_cases hbig : 300 < (seekS x y).2.1.length
    · simp only [if_pos hbig]
      have hbig' : (300 : Int) < ((seekS x y).2.1.length : Int) := by omega
      go_enter Tryd.func9, Tryd.ntmps9
      go_wp2_with (first | (go_at_call 28; refine (bothErr_calls _ x y hx hy HIO.out A A' c c' (HR.out.below K0.out.2.2.1) (HR'.out.below K0.out.2.2.1)).mono ?_; rintro e' w2 ⟨rfl, hB2⟩; have K2 := Sd.mk (two_kept K0.out.1 K0.out.2.1 K0.out.2.2.1 hB2); clear hB2; obtain ⟨-, -, -, k0, k1, k2, k3, k4, l0, l1, l2, l3, l4⟩ := K2.out) | (go_at_call 29; refine (compared_calls _ (HT.out.below K2.out.2.2.1) x y hx hy A A' c c' (HR.out.below K2.out.2.2.1) (HR'.out.below K2.out.2.2.1)).mono ?_; rintro e' w3 ⟨g, gx, gs, bm, vp, vf, vb, rfl, hC⟩; have HC := Sd.mk hC; clear hC) | (go_at_call 30; refine (run_calls _ _ g gx gs bm vp vf vb (sysOf x) (sysOf y) HC.out HIO.out).mono ?_; rintro e' w4 ⟨v, he, hO⟩; rw [HB.out] at he; subst he; have HO' : Sd (RunOut _ w4 g gx gs bm (sysOf x) (sysOf y) (seekS x y).1 (seekS x y).2 v) := ⟨hO⟩; clear hO; obtain ⟨⟨vp', vf', vb', hC5⟩, -, -⟩ := HO'.out; have HC5 := Sd.mk hC5; clear hC5; obtain ⟨bp, capp, rfl, hpr⟩ := pairs_at HC5.out.at_.rp hpos; clear hpr; have c2 := cell_blk HC5.out.at_.blk 2))
      go_ret2
      exact ⟨below_then K2.out.2.2.1 K2.out.2.2.1.size HC5.out.at_.below, rfl⟩
    · simp only [if_neg hbig]
      have hbig' : ¬ (300 : Int) < ((seekS x y).2.1.length : Int) := by omega
      go_enter Tryd.func9, Tryd.ntmps9
      go_wp2_with (first | (go_at_call 28; refine (bothErr_calls _ x y hx hy HIO.out A A' c c' (HR.out.below K0.out.2.2.1) (HR'.out.below K0.out.2.2.1)).mono ?_; rintro e' w2 ⟨rfl, hB2⟩; have K2 := Sd.mk (two_kept K0.out.1 K0.out.2.1 K0.out.2.2.1 hB2); clear hB2; obtain ⟨-, -, -, k0, k1, k2, k3, k4, l0, l1, l2, l3, l4⟩ := K2.out) | (go_at_call 29; refine (compared_calls _ (HT.out.below K2.out.2.2.1) x y hx hy A A' c c' (HR.out.below K2.out.2.2.1) (HR'.out.below K2.out.2.2.1)).mono ?_; rintro e' w3 ⟨g, gx, gs, bm, vp, vf, vb, rfl, hC⟩; have HC := Sd.mk hC; clear hC) | (go_at_call 30; refine (run_calls _ _ g gx gs bm vp vf vb (sysOf x) (sysOf y) HC.out HIO.out).mono ?_; rintro e' w4 ⟨v, he, hO⟩; rw [HB.out] at he; subst he; have HO' : Sd (RunOut _ w4 g gx gs bm (sysOf x) (sysOf y) (seekS x y).1 (seekS x y).2 v) := ⟨hO⟩; clear hO; obtain ⟨⟨vp', vf', vb', hC5⟩, -, -⟩ := HO'.out; have HC5 := Sd.mk hC5; clear hC5; obtain ⟨bp, capp, rfl, hpr⟩ := pairs_at HC5.out.at_.rp hpos; have HPR := Sd.mk hpr; clear hpr; have c2 := cell_blk HC5.out.at_.blk 2))
      have hlen : (seekS x y).2.1.length ≤ 300 := by omega
      have HGD := Sd.mk (seek_small x y hx hy)
      generalize hqs : (seekS x y).2.1 = qs at *
      have HQ := Sd.mk hqs
      clear hqs
      go_loopw [10, 39] (fun v10 i wq => ∃ (m : Nat), i = .int .i64 m ∧ m ≤ qs.length ∧ Sd (PairsAt wq w4.heap.size v10 (qs.take m)) ∧ Sd (Below w4.heap.size w4 wq)) (fun _ i _ => qs.length - (intOf i).toNat)
      case atStart => exact ⟨0, rfl, Nat.zero_le _, ⟨PairsAt.nil _ _⟩, ⟨Below.refl _ _⟩⟩
      case round =>
        obtain ⟨W1, hW1⟩ : ∃ W : World, W = wr := ⟨wr, rfl⟩
        subst hW1
        obtain ⟨m, rfl, hm, hP, hBq⟩ := hrel
        by_cases hlt : m < qs.length
        · have h1 := HPR.out m hlt
          have p1 := cell_later hBq.out h1.1
          have p2 := cell_later hBq.out h1.2
          clear h1
          have hpb := HGD.out _ (getD_mem' (d := (0, 0)) hlt)
          have hwl : w.heap.size ≤ W1.heap.size := Nat.le_trans K2.out.2.2.1.size (Nat.le_trans HC5.out.at_.below.size hBq.out.size)
          have htk := Sd.mk (take_getD (d := ((0, 0) : Nat × Nat)) qs m hlt)
          generalize qs.getD m (0, 0) = p at *
          obtain ⟨bo, hbo⟩ : ∃ o, o = Obj.cells #[.int .u64 (p.1 : Int), .int .u64 (p.2 : Int)] 75 := ⟨_, rfl⟩
          have hBo := alloc_below W1 bo
          have hnew := heap_alloc_new W1 bo
          have hTb : Tab (W1.alloc bo) := (HC5.out.tab.below hBq.out).below hBo
          have hPo := Sd.mk ((hP.out.below hBo).below (below_drew (Below.refl _ _)))
          subst hbo
          have K5 := Sd.mk (box2_kept hnew hTb (hBq.out.trans (hBo.mono hBq.out.size)) (Nat.le_trans hBq.out.size hBo.size) (below_drew (Below.refl _ _)))
          have hsz1 : Sd (w.heap.size ≤ ((W1.alloc (Obj.cells #[.int .u64 (p.1 : Int), .int .u64 (p.2 : Int)] 75)).drew).heap.size) := ⟨Nat.le_trans hwl hBo.size⟩
          clear hnew hTb hBo
          go_wp2_with fail
          go_region_held3 (fun wx => wx.heap[W1.heap.size]? = some (.cells #[.int .u64 (p.1 : Int), .int .u64 (p.2 : Int)] 75 (0, 0)) ∧ wx.cell? ⟨W1.heap.size, 0, none⟩ = some (.int .u64 (p.1 : Int)) ∧ wx.cell? ⟨W1.heap.size, 1, none⟩ = some (.int .u64 (p.2 : Int)) ∧ Tab wx ∧ Below w4.heap.size w4 wx ∧ w4.heap.size ≤ wx.heap.size)
            (first | exact K5.out | (go_split_ands; exact box2_kept (by assumption) (by assumption) (by assumption) (by assumption) (by assumption)) | (go_split_ands; exact box2_kept (by assumption) (by assumption) (by assumption) (by assumption) (alloc_below _ _)) | exact ⟨hbk7, cell_blk hbk7 0, cell_blk hbk7 1, HC5.out.tab.below hB7, hB7, hB7.size⟩)
            (first | (go_at_call_of 32 (Value.int IntKind.u64 p.1); refine (states_calls p.1 hpb.1 _ (by go_split_ands; assumption)).mono ?_; rintro e' w5 ⟨v1, rfl, ho1, hB5⟩; obtain ⟨b1, n1, c1, rfl⟩ := own_slice ho1) | (go_at_call_of 32 (Value.int IntKind.u64 p.2); refine (states_calls p.2 hpb.2 _ (by go_split_ands; assumption)).mono ?_; rintro e' w6 ⟨v2, rfl, ho2, hB6⟩; obtain ⟨b2, n2, c2, rfl⟩ := own_slice ho2) | 
              (obtain ⟨us, hus, hrow, hall⟩ := ((hPo.out.below hB5).below hB6).below (alloc_below w6 (Obj.cells #[.slice b1 n1 c1, .slice b2 n2 c2] 78)); have hB56 := below_then (below_then K5.out.2.2.2.2.1 K5.out.2.2.2.2.2 hB5) (Nat.le_trans K5.out.2.2.2.2.2 hB5.size) hB6; have hBl := alloc_below w6 (Obj.cells #[.slice b1 n1 c1, .slice b2 n2 c2] 78); have hHb := (box2_kept (w := w4) (B := w4.heap.size) (by go_split_ands; assumption) (by go_split_ands; assumption) (by go_split_ands; assumption) (by go_split_ands; assumption) (Below.refl _ _)).1; refine app1_step (w := w4) rfl (.tmp 43) (.tmp 51) 32 rfl 78 _ 2 48 Tryd.underlying32 Tryd.info78 rfl (by decide) w4.heap.size (below_then hB56 hB56.size hBl) w4.heap.size (Nat.le_refl _) (Nat.le_trans hB56.size hBl.size) _ (qs.take m).length _ hrow (by simp; omega) (by simp; omega) w6.heap.size [.slice b1 n1 c1, .slice b2 n2 c2] rfl rfl (heap_alloc_new _ _) rfl (fun u hu => by simp only [List.mem_cons, List.not_mem_nil, or_false] at hu; rcases hu with rfl | rfl <;> rfl) ?_; intro gb cap w7 ho7 hB7 hg7 hat7 hlt7; have hbk7 := (hg7.block _ (Nat.lt_of_lt_of_le (Array.getElem?_eq_some_iff.1 hHb).1 (Nat.le_refl _)) (fun e => own_ne_blk hrow hHb (by decide) e.symm)).trans hHb) | fail)
          have htl : (qs.take m).length = m := by simp; omega
          have hm1 := PairsAt.more (v' := .slice (some ⟨gb, 0, none⟩) ((qs.take m).length + 1) cap) us hus hall hrow (((ho1.mono K5.out.2.2.2.2.2).below hB6).below (alloc_below _ _)) ((ho2.mono (Nat.le_trans K5.out.2.2.2.2.2 hB5.size)).below (alloc_below _ _)) hg7 ho7
          rw [htl, ← htk.out] at hm1
          have HP7 := Sd.mk hm1
          have HB7 := Sd.mk hB7
          clear hm1 hB7 hB5 hB6 hB56 hBl hg7 hat7 hlt7 ho7 hbk7 hHb ho1 ho2 hall hrow hus
          go_wp2
          go_roundw
          case rel => exact ⟨m + 1, by go_num, by omega, HP7, HB7⟩
          case measure => simp [intOf]; omega
        · obtain rfl : m = qs.length := by omega
          rw [List.take_length] at hP
          go_wp2
          go_ret2
          have hfin := hP.out.mono (Nat.le_trans K2.out.2.2.1.size HC5.out.at_.below.size)
          rw [← HQ.out] at hfin
          refine ⟨below_then K2.out.2.2.1 K2.out.2.2.1.size (HC5.out.at_.below.trans (hBq.out.mono HC5.out.at_.below.size)), _, ?_, hfin⟩
          rfl
  · have HB : Sd ((runS (sysOf x) (sysOf y) fuelS 0 (st0 (sysOf x) (sysOf y))).1.isSome = true) := ⟨hb⟩
    clear hb
    simp only [if_true]
    go_enter Tryd.func9, Tryd.ntmps9
    go_wp2_with (first | (go_at_call 28; refine (bothErr_calls _ x y hx hy HIO.out A A' c c' (HR.out.below K0.out.2.2.1) (HR'.out.below K0.out.2.2.1)).mono ?_; rintro e' w2 ⟨rfl, hB2⟩; have K2 := Sd.mk (two_kept K0.out.1 K0.out.2.1 K0.out.2.2.1 hB2); clear hB2; obtain ⟨-, -, -, k0, k1, k2, k3, k4, l0, l1, l2, l3, l4⟩ := K2.out) | (go_at_call 29; refine (compared_calls _ (HT.out.below K2.out.2.2.1) x y hx hy A A' c c' (HR.out.below K2.out.2.2.1) (HR'.out.below K2.out.2.2.1)).mono ?_; rintro e' w3 ⟨g, gx, gs, bm, vp, vf, vb, rfl, hC⟩; have HC := Sd.mk hC; clear hC) | (go_at_call 30; refine (run_calls _ _ g gx gs bm vp vf vb (sysOf x) (sysOf y) HC.out HIO.out).mono ?_; rintro e' w4 ⟨v, he, hO⟩; rw [HB.out] at he; subst he; have HO' : Sd (RunOut _ w4 g gx gs bm (sysOf x) (sysOf y) (seekS x y).1 (seekS x y).2 v) := ⟨hO⟩; clear hO; obtain ⟨⟨vp', vf', vb', hC5⟩, -, -⟩ := HO'.out; have HC5 := Sd.mk hC5; clear hC5))
    go_ret2
    exact ⟨below_then K2.out.2.2.1 K2.out.2.2.1.size HC5.out.at_.below, rfl⟩
end Go.Proofs.YtcbhaeniahckhaaDoor
end
