/- All traces of a system, and PassesTo, walked; what a performance tells. Conditions: those that each theorem names. -/
import Derived.Test.YtcbhaeniahckhaaDoorMl
set_option linter.unusedSimpArgs false
set_option linter.unusedVariables false
section
set_option linter.unusedSimpArgs false
namespace Go.Proofs.YtcbhaeniahckhaaDoor
open Go.RowKit Go.Shelf Go.Deep Go.Proofs.YtcbhaeniahckhaaDoorW.PrintLast
theorem Tryd.info27 : (Tryd.prog.info? 27).map (fun i => (i.zero, i.size, i.bytes)) = some (some (.slice none 0 0), 1, 24) := by kernel_rfl
/-- a slice of lists -/
def LLAt (w : World) (base : Nat) (v : Value) (L : List (List Nat)) : Prop :=
  ∃ us : List Value, us.length = L.length ∧ w.ownsRow base 27 1 v L.length us ∧ ∀ i, i < L.length → OwnI w base (us.getD i .nilFunc) (L.getD i [])
theorem LLAt.below {w w' : World} {base : Nat} {v : Value} {L : List (List Nat)} (h : LLAt w base v L) (hB : Below w.heap.size w w') : LLAt w' base v L := by
  obtain ⟨us, h1, h2, h3⟩ := h
  exact ⟨us, h1, h2.kept (row := none) ⟨hB.os, hB.tape, hB.output, hB.size, fun k hk _ => hB.block k hk⟩ (by cases v.ownBlock <;> simp), fun i hi => (h3 i hi).below hB⟩
theorem row_kept {w w' : World} {B B' e e' s s' n n' : Nat} {v v' : Value} {xs xs' : List Value} (h : w.ownsRow B e s v n xs) (h' : w.ownsRow B' e' s' v' n' xs') (hne : e ≠ e') (hg : w.grownBy w' v'.ownBlock) : w'.ownsRow B e s v n xs := by
  refine h.kept hg ?_
  by_cases e : v.ownBlock = none
  · exact .inl e
  · refine .inr (fun e2 => ?_)
    obtain ⟨k, hk⟩ := Option.ne_none_iff_exists'.1 e
    exact own_ne_type h h' hne k hk (e2 ▸ hk)
theorem LLAt.more {W w1 : World} {base : Nat} {v v' u : Value} {L : List (List Nat)} {l : List Nat} (us : List Value) (h1 : us.length = L.length) (h3 : ∀ i, i < L.length → OwnI W base (us.getD i .nilFunc) (L.getD i [])) (hv : W.ownsRow base 27 1 v L.length us) (o1 : OwnI W base u l) (hg : W.grownBy w1 v.ownBlock)
    (ho : w1.ownsRow base 27 1 v' (L.length + 1) (us ++ [u])) : LLAt w1 base v' (L ++ [l]) := by
  refine ⟨us ++ [u], by simp [h1], by simpa using ho, fun i hi => ?_⟩
  simp only [List.length_append, List.length_singleton] at hi
  by_cases hlt : i < L.length
  · rw [gd_lt (by omega), gd_lt hlt]
    exact row_kept (h3 i hlt) hv (by decide) hg
  · have e : i = L.length := by omega
    rw [gd_eq (by omega), gd_eq e]
    exact row_kept o1 hv (by decide) hg
theorem LLAt.other {w w' : World} {base B' e' s' n' : Nat} {v v' : Value} {L : List (List Nat)} {xs' : List Value} (h : LLAt w base v L) (h' : w.ownsRow B' e' s' v' n' xs') (h27 : 27 ≠ e') (h3' : 3 ≠ e') (hg : w.grownBy w' v'.ownBlock) : LLAt w' base v L := by
  obtain ⟨us, h1, h2, h3⟩ := h
  exact ⟨us, h1, row_kept h2 h' h27 hg, fun i hi => row_kept (h3 i hi) h' h3' hg⟩
/-- a list, read in place -/
theorem LLAt.read {w : World} {base : Nat} {v : Value} {L : List (List Nat)} (h : LLAt w base v L) (hp : 0 < L.length) : ∃ g c, v = .slice (some ⟨g, 0, none⟩) L.length c ∧ ∀ i, i < L.length → ∃ A c', w.cell? ⟨g, i, none⟩ = some (.slice A (L.getD i []).length c') ∧ RdI w A (L.getD i []) := by
  obtain ⟨us, h1, h2, h3⟩ := h
  obtain ⟨g, c, rfl⟩ := own_pos h2 hp
  refine ⟨g, c, rfl, fun i hi => ?_⟩
  obtain ⟨A, c', e1, _, e3⟩ := (h3 i hi).read
  refine ⟨A, c', ?_, e3⟩
  rw [h2.cellAt i (by omega), ← e1, List.getD_eq_getElem?_getD, List.getElem?_eq_getElem (by omega)]
  rfl
/-- the traces as they are found -/
structure TrAt (w wr : World) (X : SysP) (vo vs : Value) (L : List (List Nat)) : Prop where
  below : Below w.heap.size w wr
  ll : LLAt wr w.heap.size vo L
  st : wr.ownsRow w.heap.size 73 1 vs L.length (L.map fun l => Value.int .u64 (alongS X l : Nat))
theorem TrAt.later {w wr w' : World} {X : SysP} {vo vs : Value} {L : List (List Nat)} (h : TrAt w wr X vo vs L) (hB : Below wr.heap.size wr w') : TrAt w w' X vo vs L :=
  ⟨below_then h.below h.below.size hB, h.ll.below hB, h.st.kept (row := none) ⟨hB.os, hB.tape, hB.output, hB.size, fun k hk _ => hB.block k hk⟩ (by cases vs.ownBlock <;> simp)⟩
theorem TrAt.set {w wr : World} {X : SysP} {vo vs : Value} {L : List (List Nat)} (h : TrAt w wr X vo vs L) (hp : 0 < L.length) : ∃ g c, vs = .slice (some ⟨g, 0, none⟩) L.length c ∧ ∀ i, i < L.length → wr.cell? ⟨g, i, none⟩ = some (.int .u64 (alongS X (L.getD i []) : Nat)) := by
  obtain ⟨g, c, rfl⟩ := own_pos h.st hp
  refine ⟨g, c, rfl, fun i hi => ?_⟩
  rw [h.st.cellAt i (by omega), List.getElem?_map, List.getElem?_eq_getElem hi, List.getD_eq_getElem?_getD, List.getElem?_eq_getElem hi]
  rfl
/-- the traces found so far: behind the first i of them all, behind the next one those by the first k events -/
structure TrS (X : SysP) (depth : Nat) (L : List (List Nat)) (i k : Nat) : Prop where
  pos : 0 < L.length
  small : L.length ≤ 1500
  first : L.getD 0 [] = []
  each : ∀ l ∈ L, l.length ≤ depth ∧ alongS X l ≠ 0 ∧ ∀ a ∈ l, a ≤ X.inp + X.out
  done : ∀ j, j < i → (L.getD j []).length ≠ depth → ∀ e, e ≤ X.inp + X.out → alongS X (L.getD j [] ++ [e]) ≠ 0 → L.getD j [] ++ [e] ∈ L
  part : ∀ e, e < k → alongS X (L.getD i [] ++ [e]) ≠ 0 → L.getD i [] ++ [e] ∈ L
theorem alongS_snoc (X : SysP) (l : List Nat) (e : Nat) : alongS X (l ++ [e]) = afterS X (alongS X l) e := by unfold alongS; rw [List.foldl_append]; rfl
theorem TrS.skip {X : SysP} {depth : Nat} {L : List (List Nat)} {i k : Nat} (h : TrS X depth L i k) (hz : alongS X (L.getD i [] ++ [k]) = 0) : TrS X depth L i (k + 1) :=
  ⟨h.pos, h.small, h.first, h.each, h.done, fun e he hne => by
    by_cases hk : e = k
    · subst hk; exact absurd hz hne
    · exact h.part e (by omega) hne⟩
theorem TrS.more {X : SysP} {depth : Nat} {L : List (List Nat)} {i k : Nat} (h : TrS X depth L i k) (hi : i < L.length) (hl : L.length ≠ 1500) (hd : (L.getD i []).length ≠ depth) (hk : k ≤ X.inp + X.out) (hz : alongS X (L.getD i [] ++ [k]) ≠ 0) : TrS X depth (L ++ [L.getD i [] ++ [k]]) i (k + 1) := by
  have hs := h.small
  have hm : L.getD i [] ∈ L := by rw [List.getD_eq_getElem?_getD, List.getElem?_eq_getElem hi]; exact List.getElem_mem hi
  obtain ⟨e1, e2, e3⟩ := h.each _ hm
  refine ⟨by simp, by simp; omega, by rw [gd_lt h.pos]; exact h.first, fun l hm' => ?_, fun j hj => ?_, fun e he => ?_⟩
  · rcases List.mem_append.1 hm' with hm' | hm'
    · exact h.each l hm'
    · rw [List.mem_singleton] at hm'
      subst hm'
      refine ⟨by simp only [List.length_append, List.length_singleton]; omega, hz, fun a ha => ?_⟩
      rcases List.mem_append.1 ha with ha | ha
      · exact e3 a ha
      · rw [List.mem_singleton] at ha; omega
  · rw [gd_lt (by omega)]
    exact fun a b c d => List.mem_append_left _ (h.done j hj a b c d)
  · rw [gd_lt hi]
    intro hne
    by_cases hek : e = k
    · subst hek; simp
    · exact List.mem_append_left _ (h.part e (by omega) hne)
theorem TrS.next {X : SysP} {depth : Nat} {L : List (List Nat)} {i k : Nat} (h : TrS X depth L i k) (hk : (L.getD i []).length = depth ∨ k = X.inp + X.out + 1) : TrS X depth L (i + 1) 0 :=
  ⟨h.pos, h.small, h.first, h.each, fun j hj => by
    by_cases e : j = i
    · subst e
      intro hne e he hz
      rcases hk with hk | hk
      · exact absurd hk hne
      · exact h.part e (by omega) hz
    · exact h.done j (by omega), fun e he => by omega⟩
/-- the traces, all of them -/
theorem TrS.all {X : SysP} {depth : Nat} {L : List (List Nat)} (h : TrS X depth L L.length 0) : ∀ (n : Nat) (l : List Nat), l.length = n → n ≤ depth → (∀ a ∈ l, a ≤ X.inp + X.out) → alongS X l ≠ 0 → l ∈ L
  | 0, l, hl, _, _, _ => by
    obtain rfl := List.length_eq_zero_iff.1 hl
    have h0 := h.pos
    have := h.first
    rw [List.getD_eq_getElem?_getD, List.getElem?_eq_getElem h0] at this
    exact this ▸ List.getElem_mem h0
  | n + 1, l, hl, hn, ha, hz => by
    have hne : l ≠ [] := by rintro rfl; simp at hl
    obtain ⟨q, e, rfl⟩ : ∃ q e, l = q ++ [e] := ⟨l.dropLast, l.getLast hne, (List.dropLast_concat_getLast hne).symm⟩
    have hq : q.length = n := by simpa using hl
    have hz' := hz
    rw [alongS_snoc] at hz'
    have hq0 : alongS X q ≠ 0 := fun e0 => hz' (by rw [e0]; exact afterS_zero X e)
    have hm := h.all n q hq (by omega) (fun a h' => ha a (List.mem_append_left _ h')) hq0
    obtain ⟨j, hj, ej⟩ := List.getElem_of_mem hm
    have eg : L.getD j [] = q := by rw [List.getD_eq_getElem?_getD, List.getElem?_eq_getElem hj]; exact ej
    have := h.done j hj (by rw [eg]; omega) e (ha e (by simp)) (by rw [eg]; exact hz)
    rw [eg] at this
    exact this
end Go.Proofs.YtcbhaeniahckhaaDoor
end
section
set_option linter.unusedSimpArgs false
namespace Go.Proofs.YtcbhaeniahckhaaDoor
open Go.RowKit Go.Shelf Go.Deep Go.Proofs.YtcbhaeniahckhaaDoorW.PrintLast
theorem TrAt.start (w w2 : World) (X : SysP) (f : Nat) (hf : f = firstS X) (hB : Below (w.alloc (.cells #[.slice none 0 0] 27)).heap.size (w.alloc (.cells #[.slice none 0 0] 27)) w2) : TrAt w (w2.alloc (.cells #[.int .u64 (f : Int)] 73)) X (.slice (some ⟨w.heap.size, 0, none⟩) 1 1) (.slice (some ⟨w2.heap.size, 0, none⟩) 1 1) [[]] := by
  subst hf
  have h0 := alloc_below w (.cells #[.slice none 0 0] 27)
  have h1 := below_then h0 h0.size hB
  have h2 := below_then h1 h1.size (alloc_below w2 (.cells #[.int .u64 (firstS X : Int)] 73))
  refine ⟨h2, ?_, World.ownsRow_lit (base := w.heap.size) (e := 73) (size := 1) w2 #[.int .u64 (firstS X : Int)] 1 h1.size (by decide) rfl⟩
  have hl : LLAt (w.alloc (.cells #[.slice none 0 0] 27)) w.heap.size (.slice (some ⟨w.heap.size, 0, none⟩) 1 1) [[]] :=
    ⟨[.slice none 0 0], rfl, World.ownsRow_lit (base := w.heap.size) (e := 27) (size := 1) w #[.slice none 0 0] 1 (Nat.le_refl _) (by decide) rfl, fun i hi => by
      simp only [List.length_singleton] at hi
      obtain rfl : i = 0 := by omega
      exact World.ownsRow_nil _ _ _ _⟩
  exact (hl.below hB).below (alloc_below _ _)
set_option maxHeartbeats 8000000 in
set_option maxRecDepth 100000 in
theorem traces_calls (w : World) (hTb : Tab w) (gs : Nat) (X : SysP) (hX : Sys w gs X) (depth : Nat) (hdp : depth ≤ 100) : Calls Tryd.prog 40 #[.pointer (some ⟨gs, 0, none⟩), .int .i64 depth] w fun e w' => Below w.heap.size w w' ∧
    (e = .returned (.tuple #[.slice none 0 0, .bool false]) ∨ ∃ v L, e = .returned (.tuple #[v, .bool true]) ∧ LLAt w' w.heap.size v L ∧ TrS X depth L L.length 0) := by
  have HX := Sd.mk hX
  have HT := Sd.mk hTb
  obtain ⟨hal1, hal2, hi4, ho4⟩ : firstS X < 2 ^ X.N ∧ (∀ l e, l < 2 ^ X.N → afterS X l e < 2 ^ X.N) ∧ X.inp ≤ 4 ∧ X.out ≤ 4 := by
    obtain ⟨mv, Ab, cb, As, cs, Ar, cr, hX1⟩ := hX
    exact ⟨hX1.along_lt.1, hX1.along_lt.2, hX1.hi, hX1.ho⟩
  have hlt : Sd (∀ l : List Nat, alongS X l < 2 ^ X.N) := ⟨fun l => by
    unfold alongS
    have key : ∀ (l : List Nat) (a : Nat), a < 2 ^ X.N → l.foldl (afterS X) a < 2 ^ X.N := by
      intro l
      induction l with
      | nil => exact fun a h => h
      | cons e l ih => exact fun a h => ih _ (hal2 _ _ h)
    exact key l _ hal1⟩
  clear hX hTb hal1 hal2
  go_enter Tryd.func40, Tryd.ntmps40
  go_wp2_with (first | (go_at_call 47; refine (firsts_calls _ (HT.out.below (alloc_below _ _)) gs X (HX.out.below (alloc_below _ _))).mono ?_; rintro e' w2 ⟨rfl, hB2⟩; have HB2 := Sd.mk hB2; clear hB2) | fail)
  have hst := Sd.mk (TrAt.start w w2 X _ rfl HB2.out)
  go_loopw [6, 7, 8] (fun vo vs i wq => ∃ (L : List (List Nat)) (k : Nat), i = .int .i64 k ∧ k ≤ L.length ∧ Sd (TrAt w wq X vo vs L) ∧ Sd (TrS X depth L k 0)) (fun _ _ i _ => 1500 - (intOf i).toNat)
  case atStart => exact ⟨[[]], 0, rfl, Nat.zero_le _, hst, ⟨⟨by decide, by decide, rfl, fun l hl => by rw [List.mem_singleton] at hl; subst hl; exact ⟨Nat.zero_le _, firstS_ne X, fun a ha => by simp at ha⟩, fun j hj => by omega, fun e he => by omega⟩⟩⟩
  case round =>
    obtain ⟨W1, hW1⟩ : ∃ W : World, W = wr := ⟨wr, rfl⟩
    subst hW1
    obtain ⟨L, k, rfl, hk, hA, hS⟩ := hrel
    have hpos := hS.out.pos
    have hsm := hS.out.small
    obtain ⟨go, co, rfl, hcells⟩ := hA.out.ll.read hpos
    have HCells := Sd.mk hcells
    clear hcells
    by_cases hkl : k < L.length
    · obtain ⟨A, cA, e1, e2⟩ := HCells.out k hkl
      have E2 := Sd.mk e2
      have hm : L.getD k [] ∈ L := by rw [List.getD_eq_getElem?_getD, List.getElem?_eq_getElem hkl]; exact List.getElem_mem hkl
      have hdl := (hS.out.each _ hm).1
      have HEv := Sd.mk (hS.out.each _ hm).2.2
      clear e2 hm
      obtain ⟨l, hl⟩ : ∃ l, l = L.getD k [] := ⟨_, rfl⟩
      have Hl := Sd.mk hl
      rw [← hl] at e1 hdl
      clear hl
      by_cases hd : l.length = depth
      · have hbd : ((l.length : Int) == (depth : Int)) = true := by rw [hd]; simp
        have Hd := Sd.mk hd
        clear hd
        go_wp2
        go_roundw
        case rel => exact ⟨L, k + 1, by go_num, by omega, hA, ⟨hS.out.next (.inl (by rw [← Hl.out]; exact Hd.out))⟩⟩
        case measure => simp [intOf]; omega
      · have hbd : ((l.length : Int) == (depth : Int)) = false := by rw [beq_eq_false_iff_ne]; omega
        have Hd := Sd.mk hd
        clear hd
        go_wp2_with (first | (go_at_call 48; refine (silences_calls _ gs X (HX.out.below hA.out.below)).mono ?_; rintro e' w3 ⟨rfl, hB3⟩; have HA3 := Sd.mk (hA.out.later hB3); clear hB3) | fail)
        go_loopw [6, 7, 31] (fun vo vs i wq => ∃ (L' : List (List Nat)) (e : Nat), i = .int .i64 e ∧ e ≤ X.inp + X.out + 1 ∧ Sd (TrAt w wq X vo vs L') ∧ Sd (TrS X depth L' k e) ∧ k < L'.length ∧ Sd (L'.getD k [] = l)) (fun _ _ i _ => X.inp + X.out + 1 - (intOf i).toNat)
        case atStart => exact ⟨L, 0, rfl, Nat.zero_le _, HA3, hS, hkl, ⟨Hl.out.symm⟩⟩
        case round =>
          clear HCells E2 e1 hpos hsm hA HA3 hS
          obtain ⟨W4, hW4⟩ : ∃ W : World, W = wr := ⟨wr, rfl⟩
          subst hW4
          obtain ⟨L', e, rfl, hle, hA4, hS4, hkl4, hlk4⟩ := hrel
          have hpos4 := hS4.out.pos
          have hsm4 := hS4.out.small
          obtain ⟨go4, co4, rfl, hc4⟩ := hA4.out.ll.read hpos4
          obtain ⟨gs4, cs4, rfl, hd4⟩ := hA4.out.set hpos4
          have Hc4 := Sd.mk hc4
          have s4 := hd4 k hkl4
          rw [hlk4.out] at s4
          clear hc4 hd4
          by_cases hlt4 : e < X.inp + X.out + 1
          · have hllt := hlt.out l
            have hsnoc := Sd.mk (alongS_snoc X l e)
            by_cases hz : afterS X (alongS X l) e = 0
            · have hbz : ((afterS X (alongS X l) e : Int) == 0) = true := by rw [hz]; rfl
              have HZ := Sd.mk (hsnoc.out.trans hz)
              clear hz
              go_wp2_with (first | (go_at_call 49; refine (afters_calls _ (HT.out.below hA4.out.below) gs X _ e hllt (by omega) (HX.out.below hA4.out.below)).mono ?_; rintro e' w5 ⟨rfl, hB5⟩; have HA5 := Sd.mk (hA4.out.later hB5); clear hB5) | fail)
              go_roundw
              case rel => exact ⟨L', e + 1, by go_num, by omega, HA5, ⟨hS4.out.skip (by rw [hlk4.out]; exact HZ.out)⟩, hkl4, hlk4⟩
              case measure => simp [intOf]; omega
            · have hbz : ((afterS X (alongS X l) e : Int) == 0) = false := by rw [beq_eq_false_iff_ne]; omega
              have HZ := Sd.mk (fun h => hz (hsnoc.out.symm.trans h))
              clear hz
              by_cases hfull : L'.length = 1500
              · have hbf : ((L'.length : Int) == 1500) = true := by rw [hfull]; rfl
                clear hfull
                go_wp2_with (first | (go_at_call 49; refine (afters_calls _ (HT.out.below hA4.out.below) gs X _ e hllt (by omega) (HX.out.below hA4.out.below)).mono ?_; rintro e' w5 ⟨rfl, hB5⟩; have HA5 := Sd.mk (hA4.out.later hB5); clear hB5) | fail)
                go_ret2
                exact ⟨HA5.out.below, .inl rfl⟩
              · have hbf : ((L'.length : Int) == 1500) = false := by rw [beq_eq_false_iff_ne]; omega
                obtain ⟨Al, cl, r1, r2⟩ := Hc4.out k hkl4
                rw [hlk4.out] at r1 r2
                have R2 := Sd.mk r2
                clear r2
                go_wp2_with (first | (go_at_call 49; refine (afters_calls _ (HT.out.below hA4.out.below) gs X _ e hllt (by omega) (HX.out.below hA4.out.below)).mono ?_; rintro e' w5 ⟨rfl, hB5⟩; have HA5 := Sd.mk (hA4.out.later hB5); have R5 := Sd.mk (R2.out.below hB5); have r5 := cell_later hB5 r1; clear hB5) | (go_at_call 60; refine (clone_calls _ Al cl l (by omega) R5.out).mono ?_; rintro e' w6 ⟨v6, rfl, ho6, hB6⟩; obtain ⟨b6, c6, rfl⟩ := own_len ho6; have HA6 := Sd.mk (HA5.out.later hB6); have HO6 := Sd.mk ho6; have HB6 := Sd.mk hB6; clear ho6 hB6) | (at_builtin; refine app1 rfl _ _ 27 rfl 3 (.int .i64 0) 1 8 Tryd.underlying27 Tryd.info3 rfl (by decide) w5.heap.size HB6.out w5.heap.size (Nat.le_refl _) HB6.out.size _ l.length _ HO6.out ?c1 ?c2 [.int .i64 (e : Int)] rfl rfl rfl ?c3 ?_))
                case c1 => omega
                case c2 => omega
                case c3 => intro u hu; simp at hu; subst hu; rfl
                intro v7 w7 ho7 hB7 hg7 ha7
                have HO7 : Sd (OwnI w7 w5.heap.size v7 (l ++ [e])) := ⟨by unfold OwnI; rw [List.length_append, List.length_singleton, List.map_append]; exact ho7⟩
                have HA7 := Sd.mk (HA5.out.later hB7)
                have HO7' := Sd.mk (HO7.out.mono HA5.out.below.size)
                clear hg7 ha7 hB7
                obtain ⟨b7, c7, rfl⟩ := own_len ho7
                clear ho7
                obtain ⟨us, hus, hrow, hall⟩ := HA7.out.ll
                have HROW := Sd.mk hrow
                have HALL := Sd.mk hall
                have HUS := Sd.mk hus
                clear hrow hall hus
                go_wp2_with (at_builtin; refine app1 rfl _ _ 84 rfl 27 (.slice none 0 0) 1 24 Tryd.underlying84 Tryd.info27 rfl (by decide) w.heap.size HA7.out.below w.heap.size (Nat.le_refl _) HA7.out.below.size _ L'.length us HROW.out ?c1 ?c2 [.slice b7 (l.length + 1) c7] rfl rfl rfl ?c3 ?_)
                case c1 => omega
                case c2 => omega
                case c3 => intro u hu; simp at hu; subst hu; rfl
                intro v8 w8 ho8 hB8 hg8 ha8
                have LL8 := Sd.mk (LLAt.more us HUS.out HALL.out HROW.out HO7'.out hg8 ho8)
                have ST8 := Sd.mk (row_kept HA7.out.st HROW.out (by decide) hg8)
                have HB8 := Sd.mk hB8
                clear hg8 ha8 hB8
                obtain ⟨b8, c8, rfl⟩ := own_len ho8
                clear ho8
                go_wp2_with (at_builtin; refine app1 rfl _ _ 102 rfl 73 (.int .u64 0) 1 8 Tryd.underlying102 Tryd.info73 rfl (by decide) w.heap.size HB8.out w.heap.size (Nat.le_refl _) HB8.out.size _ L'.length _ ST8.out ?c1 ?c2 [.int .u64 (afterS X (alongS X l) e : Nat)] rfl rfl rfl ?c3 ?_)
                case c1 => omega
                case c2 => omega
                case c3 => intro u hu; simp at hu; subst hu; rfl
                intro v9 w9 ho9 hB9 hg9 ha9
                have HA9 : Sd (TrAt w w9 X (.slice b8 (L'.length + 1) c8) v9 (L' ++ [l ++ [e]])) := ⟨⟨hB9, LL8.out.other ST8.out (by decide) (by decide) hg9, by rw [List.length_append, List.length_singleton, List.map_append, List.map_singleton, hsnoc.out]; exact ho9⟩⟩
                have hfd : (L'.getD k []).length ≠ depth := by rw [hlk4.out]; exact Hd.out
                have hS9 := Sd.mk (hS4.out.more hkl4 (fun h => by rw [h] at hbf; simp at hbf) hfd (by omega) (by rw [hlk4.out]; exact HZ.out))
                rw [hlk4.out] at hS9
                clear hg9 ha9 hB9 ho9 hfd
                go_wp2
                go_roundw
                case rel => exact ⟨L' ++ [l ++ [e]], e + 1, by go_num, by omega, HA9, hS9, by rw [List.length_append]; omega, ⟨(gd_lt hkl4).trans hlk4.out⟩⟩
                case measure => simp [intOf]; omega
          · obtain rfl : e = X.inp + X.out + 1 := by omega
            go_wp2
            go_roundw
            case rel => exact ⟨L', k + 1, by go_num, by omega, hA4, ⟨hS4.out.next (.inr rfl)⟩⟩
            case measure => simp [intOf]; omega
    · obtain rfl : k = L.length := by omega
      go_wp2
      go_ret2
      exact ⟨hA.out.below, .inr ⟨_, L, rfl, hA.out.ll, hS.out⟩⟩
end Go.Proofs.YtcbhaeniahckhaaDoor
end
section
set_option linter.unusedSimpArgs false
namespace Go.Proofs.YtcbhaeniahckhaaDoor
open Go.RowKit Go.Shelf Go.Deep Go.Proofs.YtcbhaeniahckhaaDoorW.PrintLast
/-- the system fails the test of some trace of at most so many events -/
def FailD (x y : Rx) (depth : Nat) : Prop := ∃ l : List Nat, l.length ≤ depth ∧ (∀ a ∈ l, a ≤ y.inp + y.out) ∧ alongS (sysOf y) l ≠ 0 ∧ (performS (sysOf x) (testS (sysOf y) l)).1 = 3
theorem NdOK.other {S S' : SysP} {T : List Nd} {i : Nat} (h : NdOK S T i) (h1 : S.inp = S'.inp) (h2 : S.out = S'.out) : NdOK S' T i := by
  unfold NdOK at h ⊢
  rw [← h1, ← h2]
  exact h
theorem testS_ok (S : SysP) (tr : List Nat) : TreeAt S (testS S tr) tr (firstS S) 0 ∧ (∀ i, i < (testS S tr).length → NdOK S (testS S tr) i) ∧ 0 < (testS S tr).length ∧ (testS S tr).length ≤ (S.out + 2) * (tr.length + 1) := by
  have h := tree_of S tr (firstS S) [] (testS S tr) (Agr.refl _ _)
  have h2 := nodeS_len S tr (firstS S) []
  simp only [List.length_nil, Nat.zero_add] at h2
  exact ⟨h.1, fun i hi => h.2 i (Nat.zero_le _) hi, by unfold testS; omega, h2.2⟩
theorem traces_shaped (w : World) (hTb : Tab w) (gs : Nat) (X : SysP) (hX : Sys w gs X) (depth : Nat) (hdp : depth ≤ 100) : Calls Tryd.prog 40 #[.pointer (some ⟨gs, 0, none⟩), .int .i64 depth] w fun e w' => Below w.heap.size w w' ∧
    (e = .returned (.tuple #[.slice none 0 0, .bool false]) ∨ ∃ g c L, e = .returned (.tuple #[.slice (some ⟨g, 0, none⟩) (List.length L) c, .bool true]) ∧ LLAt w' w.heap.size (.slice (some ⟨g, 0, none⟩) L.length c) L ∧ TrS X depth L L.length 0) :=
  (traces_calls w hTb gs X hX depth hdp).mono fun e w' ⟨h1, h2⟩ => ⟨h1, h2.imp id fun ⟨v, L, e1, e2, e3⟩ => by
    obtain ⟨g, c, rfl, _⟩ := e2.read e3.pos
    exact ⟨g, c, L, e1, e2, e3⟩⟩
set_option maxHeartbeats 8000000 in
set_option maxRecDepth 100000 in
theorem passes_calls (w : World) (hTb : Tab w) (x y : Rx) (hx : x.ok) (hy : y.ok) (hio : x.inp = y.inp ∧ x.out = y.out) (A A' : Option Addr) (c c' : Nat) (hr : RdM w A x.mvs) (hr' : RdM w A' y.mvs) (depth : Nat) (hdp : depth ≤ 6) :
    Calls Tryd.prog 11 #[rxV x A c, rxV y A' c', .int .i64 depth] w fun e w' => Below w.heap.size w w' ∧ ∃ v code, e = .returned (.tuple #[v, .int .i64 code]) ∧ (code = 32 ∨ code = 29 ∧ FailD x y depth ∨ code = 0 ∧ ¬ FailD x y depth) := by
  unfold rxV
  have HR := Sd.mk hr
  have HR' := Sd.mk hr'
  have HT := Sd.mk hTb
  have HIO := Sd.mk hio
  clear hr hr' hTb hio
  have K0 := Sd.mk (two_boxes (w := w) (W := ((w.alloc (.cells #[.int .i64 x.N, .int .i64 x.start, .int .i64 x.inp, .int .i64 x.out, .slice A x.mvs.length c] 24)).alloc (.cells #[.int .i64 y.N, .int .i64 y.start, .int .i64 y.inp, .int .i64 y.out, .slice A' y.mvs.length c'] 24))) ((heap_alloc_old _ _ (by simp)).trans (heap_alloc_new w _)) (alloc_at _ _ (w.heap.size + 1) (by simp)) (((Below.refl _ _).alloc (Nat.le_refl _) _).alloc (by simp) _))
  have hfd : ∀ (w : World) (B : Option Addr) (n c : Nat) (z : Int), (Instr.field 88 (.agg #[.slice B n c, .int .i64 z]) 1).run Tryd.prog w = .ok (.int .i64 z) w := fun _ _ _ _ _ => by kernel_rfl
  go_enter Tryd.func11, Tryd.ntmps11
  go_upto_region 4 with (first | (go_at_call 28; refine (bothErr_calls _ x y hx hy HIO.out A A' c c' (HR.out.below K0.out.2.2.1) (HR'.out.below K0.out.2.2.1)).mono ?_; rintro e w2 ⟨rfl, hB2⟩; have K2 := Sd.mk (two_kept K0.out.1 K0.out.2.1 K0.out.2.2.1 hB2); clear hB2) | (go_at_call 38; refine (spans_yes _ _ _ (by omega) (by omega) _).mono ?_; rintro e w3 ⟨rfl, rfl⟩) | (go_at_call 31; refine (unless_yes _ _).mono ?_; rintro e w4 ⟨rfl, rfl⟩) | (go_at_call 37; refine (or37_calls _ _ [0, 0] (by simp) _ (rdZ_new _ [0, 0] _ _ rfl)).mono ?_; rintro e w5 ⟨rfl, rfl⟩) | fail)
  have K3 := Sd.mk (two_kept K2.out.1 K2.out.2.1 K2.out.2.2.1 (below_drew (alloc_below w2 (.cells #[.int .i64 0, .int .i64 0] 28))))
  go_region_held3 (fun wx => wx.heap[w.heap.size]? = some (.cells #[.int .i64 x.N, .int .i64 x.start, .int .i64 x.inp, .int .i64 x.out, .slice A x.mvs.length c] 24 (0, 0)) ∧ wx.heap[w.heap.size + 1]? = some (.cells #[.int .i64 y.N, .int .i64 y.start, .int .i64 y.inp, .int .i64 y.out, .slice A' y.mvs.length c'] 24 (0, 0)) ∧ Below w.heap.size w wx ∧
      wx.cell? ⟨w.heap.size, 0, none⟩ = some (.int .i64 x.N) ∧ wx.cell? ⟨w.heap.size, 1, none⟩ = some (.int .i64 x.start) ∧ wx.cell? ⟨w.heap.size, 2, none⟩ = some (.int .i64 x.inp) ∧ wx.cell? ⟨w.heap.size, 3, none⟩ = some (.int .i64 x.out) ∧ wx.cell? ⟨w.heap.size, 4, none⟩ = some (.slice A x.mvs.length c) ∧
      wx.cell? ⟨w.heap.size + 1, 0, none⟩ = some (.int .i64 y.N) ∧ wx.cell? ⟨w.heap.size + 1, 1, none⟩ = some (.int .i64 y.start) ∧ wx.cell? ⟨w.heap.size + 1, 2, none⟩ = some (.int .i64 y.inp) ∧ wx.cell? ⟨w.heap.size + 1, 3, none⟩ = some (.int .i64 y.out) ∧ wx.cell? ⟨w.heap.size + 1, 4, none⟩ = some (.slice A' y.mvs.length c'))
    (first | exact K3.out | (go_split_ands; exact two_kept (by assumption) (by assumption) (by assumption) (by assumption)) | (go_split_ands; exact two_kept (by assumption) (by assumption) (by assumption) (Below.refl _ _)))
    (first | (go_at_call_of 39 (Value.agg #[Value.int IntKind.i64 x.N, Value.int IntKind.i64 x.start, Value.int IntKind.i64 x.inp, Value.int IntKind.i64 x.out, Value.slice A x.mvs.length c]); refine (systemOf_calls _ x hx A c (HR.out.below (by go_split_ands; assumption))).mono ?_; rintro e' w7 ⟨gx, rfl, hsX, hBX⟩) | (go_at_call_of 39 (Value.agg #[Value.int IntKind.i64 y.N, Value.int IntKind.i64 y.start, Value.int IntKind.i64 y.inp, Value.int IntKind.i64 y.out, Value.slice A' y.mvs.length c']); refine (systemOf_calls _ y hy A' c' (HR'.out.below (by go_split_ands; assumption))).mono ?_; rintro e' w6 ⟨gs, rfl, hsS, hBS⟩))
  have HB7 : Sd (Below w.heap.size w w7) := ⟨by go_split_ands; assumption⟩
  have HSX := Sd.mk hsX
  have HSS := Sd.mk (hsS.below hBX)
  clear hsX hsS hBX hBS
  have HT7 := Sd.mk (HT.out.below HB7.out)
  have hi4 := hy.hi
  have ho4 := hy.ho
  go_wp2_with (first | (go_at_call 40; refine (traces_shaped _ HT7.out gs (sysOf y) HSS.out depth (by omega)).mono ?_; rintro e' w8 ⟨hB8, hor⟩; have HB8 := Sd.mk hB8; have HOR := Sd.mk hor; clear hB8 hor; rcases HOR.out with rfl | ⟨g8, c8, L, rfl, hL, hS⟩) | fail)
  · go_ret2
    exact ⟨below_then HB7.out HB7.out.size HB8.out, _, 32, rfl, .inl rfl⟩
  · have HL := Sd.mk hL
    have HS := Sd.mk hS
    have hsm := hS.small
    clear hL hS
    go_loopw [40] (fun i wq => ∃ k : Nat, i = .int .i64 k ∧ k ≤ L.length ∧ Sd (Below w8.heap.size w8 wq) ∧ Sd (∀ j, j < k → (performS (sysOf x) (testS (sysOf y) (L.getD j []))).1 ≠ 3)) (fun i _ => L.length - (intOf i).toNat)
    case atStart => exact ⟨0, rfl, Nat.zero_le _, ⟨Below.refl _ _⟩, ⟨fun j hj => by omega⟩⟩
    case round =>
      obtain ⟨W1, hW1⟩ : ∃ W : World, W = wr := ⟨wr, rfl⟩
      subst hW1
      obtain ⟨k, rfl, hk, hBq, hno⟩ := hrel
      by_cases hkl : k < L.length
      · obtain ⟨g8', c8', ee, hcells⟩ := (HL.out.below hBq.out).read (by omega)
        cases ee
        obtain ⟨Ak, ck, a1, a2⟩ := hcells k hkl
        have A2 := Sd.mk a2
        have hm : L.getD k [] ∈ L := by rw [List.getD_eq_getElem?_getD, List.getElem?_eq_getElem hkl]; exact List.getElem_mem hkl
        have HEa := Sd.mk (HS.out.each _ hm)
        have hll := HEa.out.1
        clear hcells a2 hm
        obtain ⟨l, hl⟩ : ∃ l, l = L.getD k [] := ⟨_, rfl⟩
        have Hl := Sd.mk hl
        rw [← hl] at a1 hll
        have HE := Sd.mk (hl ▸ HEa.out)
        have A3 := Sd.mk (hl ▸ A2.out)
        clear hl HEa A2
        obtain ⟨t1, t2, t3, t4⟩ := testS_ok (sysOf y) l
        have T2 := Sd.mk (fun i hi => (t2 i hi).other (S' := sysOf x) HIO.out.1.symm HIO.out.2.symm)
        have hTl : (testS (sysOf y) l).length ≤ 1000000 := Nat.le_trans t4 (Nat.le_trans (Nat.mul_le_mul (show (sysOf y).out + 2 ≤ 6 by show y.out + 2 ≤ 6; omega) (show l.length + 1 ≤ 7 by omega)) (by decide))
        clear t1 t2 t4
        have HB8q := Sd.mk (below_then HB8.out HB8.out.size hBq.out)
        by_cases h3 : (performS (sysOf x) (testS (sysOf y) l)).1 = 3
        · have hb3 : ((performS (sysOf x) (testS (sysOf y) l)).1 == 3) = true := by rw [h3]; rfl
          have H3 := Sd.mk h3
          clear h3
          go_wp2_with (first | (go_at_call 42; refine (testOf_calls _ gs (sysOf y) (HSS.out.below HB8q.out) (HT7.out.below HB8q.out) Ak ck l A3.out (by omega) HE.out.2.2).mono ?_; rintro e' w9 ⟨v9, rfl, hT9, hB9⟩; obtain ⟨g9, c9, rfl, hn9⟩ := hT9.node t3; have HN9 := Sd.mk hn9; have HB9 := Sd.mk hB9; clear hn9 hB9 hT9) | (go_at_call 41; refine (perform_calls _ gx g9 c9 (sysOf x) (testS (sysOf y) l) T2.out hTl t3 ((HSX.out.below HB8q.out).below HB9.out) ((HT7.out.below HB8q.out).below HB9.out) HN9.out).mono ?_; rintro e' w10 ⟨B10, n10, c10, rfl, hB10⟩; have HB10 := Sd.mk hB10; clear hB10) | fail)
          go_ret2
          exact ⟨below_then (below_then (below_then HB7.out HB7.out.size HB8q.out) (below_then HB7.out HB7.out.size HB8q.out).size HB9.out) (below_then (below_then HB7.out HB7.out.size HB8q.out) (below_then HB7.out HB7.out.size HB8q.out).size HB9.out).size HB10.out, _, 29, rfl, .inr (.inl ⟨rfl, l, HE.out.1, HE.out.2.2, HE.out.2.1, H3.out⟩)⟩
        · have hb3 : ((performS (sysOf x) (testS (sysOf y) l)).1 == 3) = false := by rw [beq_eq_false_iff_ne]; exact h3
          have H3 := Sd.mk h3
          clear h3
          go_wp2_with (first | (go_at_call 42; refine (testOf_calls _ gs (sysOf y) (HSS.out.below HB8q.out) (HT7.out.below HB8q.out) Ak ck l A3.out (by omega) HE.out.2.2).mono ?_; rintro e' w9 ⟨v9, rfl, hT9, hB9⟩; obtain ⟨g9, c9, rfl, hn9⟩ := hT9.node t3; have HN9 := Sd.mk hn9; have HB9 := Sd.mk hB9; clear hn9 hB9 hT9) | (go_at_call 41; refine (perform_calls _ gx g9 c9 (sysOf x) (testS (sysOf y) l) T2.out hTl t3 ((HSX.out.below HB8q.out).below HB9.out) ((HT7.out.below HB8q.out).below HB9.out) HN9.out).mono ?_; rintro e' w10 ⟨B10, n10, c10, rfl, hB10⟩; have HB10 := Sd.mk hB10; clear hB10) | fail)
          go_roundw
          case rel => exact ⟨k + 1, by go_num, by omega, ⟨below_then (below_then hBq.out hBq.out.size HB9.out) (below_then hBq.out hBq.out.size HB9.out).size HB10.out⟩, ⟨fun j hj => by
            by_cases e : j = k
            · subst e; rw [← Hl.out]; exact H3.out
            · exact hno.out j (by omega)⟩⟩
          case measure => simp [intOf]; omega
      · obtain rfl : k = L.length := by omega
        go_wp2
        go_ret2
        refine ⟨below_then (below_then HB7.out HB7.out.size HB8.out) (below_then HB7.out HB7.out.size HB8.out).size hBq.out, _, 0, rfl, .inr (.inr ⟨rfl, ?_⟩)⟩
        rintro ⟨l, f1, f2, f3, f4⟩
        have hm := HS.out.all l.length l rfl f1 f2 f3
        obtain ⟨j, hj, ej⟩ := List.getElem_of_mem hm
        refine hno.out j hj ?_
        rw [List.getD_eq_getElem?_getD, List.getElem?_eq_getElem hj]
        rw [← ej] at f4
        exact f4
end Go.Proofs.YtcbhaeniahckhaaDoor
end
section
namespace Go.Proofs.YtcbhaeniahckhaaDoor
open Go.RowKit Go.Shelf Go.Deep
/-- the system, at the states a, shows by the test of the rest what the specification, at l, does not -/
def fd (X S : SysP) : List Nat → Nat → Nat → Prop
  | [], l, a => ∃ k, k ≤ S.out ∧ afterS X a (S.inp + k) ≠ 0 ∧ showsS S l (S.inp + k) = false
  | e :: rest, l, a => if e < S.inp then afterS X a e ≠ 0 ∧ fd X S rest (afterS S l e) (afterS X a e) else ∃ k, k ≤ S.out ∧ afterS X a (S.inp + k) ≠ 0 ∧ if e = S.inp + k then fd X S rest (afterS S l e) (afterS X a e) else showsS S l (S.inp + k) = false
theorem noteS_three (u : Int) (tr : List Nat) (v : Int × List Nat) (hu : u ≤ 3) (hv : v.1 ≤ 3) : ((noteS (u, tr) v).1 = 3 ↔ v.1 = 3 ∨ u = 3) ∧ (noteS (u, tr) v).1 ≤ 3 := by
  unfold noteS betterS
  by_cases h1 : v.1 < u
  · simp only [h1, decide_true, Bool.true_or, if_true]
    omega
  · by_cases h2 : u = v.1
    · simp only [h2, Int.lt_irrefl, decide_false, decide_true, Bool.false_or, Bool.true_and]
      split <;> simp <;> omega
    · simp only [h1, h2, decide_false, Bool.false_and, Bool.false_or, Bool.false_eq_true, if_false]
      omega
theorem fold_three (g : Int × List Nat → Nat → Int × List Nat) (P : Nat → Prop) : ∀ (n : Nat) (v : Int × List Nat), v.1 ≤ 3 → (∀ k, k < n → ∀ v : Int × List Nat, v.1 ≤ 3 → ((g v k).1 = 3 ↔ v.1 = 3 ∨ P k) ∧ (g v k).1 ≤ 3) → (((List.range n).foldl g v).1 = 3 ↔ v.1 = 3 ∨ ∃ k, k < n ∧ P k) ∧ ((List.range n).foldl g v).1 ≤ 3
  | 0, v, hv, _ => ⟨⟨.inl, fun h => h.elim id fun ⟨k, hk, _⟩ => by omega⟩, hv⟩
  | n + 1, v, hv, hg => by
    obtain ⟨h1, h2⟩ := fold_three g P n v hv (fun k hk => hg k (by omega))
    rw [List.range_succ, List.foldl_append]
    obtain ⟨h3, h4⟩ := hg n (by omega) _ h2
    refine ⟨h3.trans ?_, h4⟩
    rw [h1]
    constructor
    · rintro ((h | ⟨k, hk, hp⟩) | hp)
      · exact .inl h
      · exact .inr ⟨k, by omega, hp⟩
      · exact .inr ⟨n, by omega, hp⟩
    · rintro (h | ⟨k, hk, hp⟩)
      · exact .inl (.inl h)
      · by_cases e : k = n
        · subst e; exact .inr hp
        · exact .inl (.inr ⟨k, by omega, hp⟩)
theorem leaf_three {X : SysP} {T : List Nd} {i : Nat} {u : Int} (h : LeafAt T i u) (hu : u ≤ 3) (f : Nat) (tr : List Nat) (v : Int × List Nat) (hv : v.1 ≤ 3) : ((downS X T (f + 1) i tr v).1 = 3 ↔ v.1 = 3 ∨ u = 3) ∧ (downS X T (f + 1) i tr v).1 ≤ 3 := by
  rw [downS, visitS, h.2, show leafS ⟨-1, u, []⟩ = true from rfl, if_pos rfl]
  exact noteS_three u tr v hu hv
theorem visit_three {X : SysP} {T : List Nd} {i : Nat} (hl : leafS (T.getD i ndD) = false) (tr : List Nat) (v : Int × List Nat) (hv : v.1 ≤ 3) : ((visitS X T i tr v).1 = 3 ↔ v.1 = 3) ∧ (visitS X T i tr v).1 ≤ 3 := by
  unfold visitS
  rw [hl, if_neg (by decide)]
  split
  · obtain ⟨h1, h2⟩ := noteS_three 1 tr v (by decide) hv
    exact ⟨h1.trans ⟨fun h => h.resolve_right (by decide), .inl⟩, h2⟩
  · exact ⟨Iff.rfl, hv⟩
theorem obs_three {X S : SysP} (hio : X.inp = S.inp) {T : List Nd} {i : Nat} (hi : (T.getD i ndD).inp = -1) (hn : (T.getD i ndD).nx.length = S.out + 1) (P : Nat → Prop) (f : Nat) (tr : List Nat) (v : Int × List Nat) (hv : v.1 ≤ 3)
    (hP : ∀ k, k ≤ S.out → ∀ v : Int × List Nat, v.1 ≤ 3 → ((downS X T f ((T.getD i ndD).nx.getD k 0) (tr ++ [S.inp + k]) v).1 = 3 ↔ v.1 = 3 ∨ P k) ∧ (downS X T f ((T.getD i ndD).nx.getD k 0) (tr ++ [S.inp + k]) v).1 ≤ 3) :
    ((downS X T (f + 1) i tr v).1 = 3 ↔ v.1 = 3 ∨ ∃ k, k ≤ S.out ∧ afterS X (alongS X tr) (S.inp + k) ≠ 0 ∧ P k) ∧ (downS X T (f + 1) i tr v).1 ≤ 3 := by
  have hlf : leafS (T.getD i ndD) = false := by unfold leafS; rw [hn]; simp
  obtain ⟨v1, v2⟩ := visit_three (X := X) hlf tr v hv
  have ev : ∀ k, evNd X (T.getD i ndD) k = S.inp + k := fun k => by unfold evNd; rw [if_pos hi, hio]
  rw [downS, hn]
  obtain ⟨h1, h2⟩ := fold_three (fun v k => if afterS X (alongS X tr) (evNd X (T.getD i ndD) k) != 0 then downS X T f ((T.getD i ndD).nx.getD k 0) (tr ++ [evNd X (T.getD i ndD) k]) v else v) (fun k => afterS X (alongS X tr) (S.inp + k) ≠ 0 ∧ P k) (S.out + 1) _ v2 (fun k hk v hv => by
    rw [ev k]
    by_cases hz : afterS X (alongS X tr) (S.inp + k) = 0
    · rw [if_neg (by rw [hz]; decide)]
      exact ⟨⟨.inl, fun h => h.elim id fun h => absurd hz h.1⟩, hv⟩
    · rw [if_pos (bne_iff_ne.2 hz)]
      obtain ⟨a1, a2⟩ := hP k (by omega) v hv
      exact ⟨a1.trans ⟨fun h => h.imp id fun h => ⟨hz, h⟩, fun h => h.imp id (·.2)⟩, a2⟩)
  refine ⟨h1.trans ?_, h2⟩
  rw [v1]
  exact ⟨fun h => h.imp id fun ⟨k, hk, hp⟩ => ⟨k, by omega, hp⟩, fun h => h.imp id fun ⟨k, hk, hp⟩ => ⟨k, by omega, hp⟩⟩
theorem three_iff (b : Bool) (o : Int) (ho : o ≠ 3) : ((if b then o else 3) = 3 ↔ b = false) := by
  cases b
  · simp
  · simp [ho]
theorem tree_three {X S : SysP} (hio : X.inp = S.inp) {T : List Nd} : ∀ (rest : List Nat) (l at_ f : Nat) (tr : List Nat) (v : Int × List Nat), rest.length + 1 < f → v.1 ≤ 3 → TreeAt S T rest l at_ → ((downS X T f at_ tr v).1 = 3 ↔ v.1 = 3 ∨ fd X S rest l (alongS X tr)) ∧ (downS X T f at_ tr v).1 ≤ 3
  | [], l, at_, f, tr, v, hf, hv, ht => by
    obtain ⟨f, rfl⟩ : ∃ g, f = g + 1 + 1 := ⟨f - 2, by simp at hf; omega⟩
    obtain ⟨_, h1, h2, h3⟩ := ht
    exact obs_three hio h1 h2 (fun k => showsS S l (S.inp + k) = false) (f + 1) tr v hv (fun k hk v hv => by
      obtain ⟨a1, a2⟩ := leaf_three (X := X) (h3 k hk) (by split <;> decide) f (tr ++ [S.inp + k]) v hv
      exact ⟨a1.trans ⟨fun h => h.imp id (three_iff _ _ (by decide)).1, fun h => h.imp id (three_iff _ _ (by decide)).2⟩, a2⟩)
  | e :: rest, l, at_, f, tr, v, hf, hv, ht => by
    obtain ⟨f, rfl⟩ : ∃ g, f = g + 1 := ⟨f - 1, by omega⟩
    simp only [List.length_cons] at hf
    obtain ⟨_, ht⟩ := ht
    by_cases he : e < S.inp
    · rw [if_pos he] at ht
      obtain ⟨h1, j, h2, h3⟩ := ht
      have hlf : leafS (T.getD at_ ndD) = false := by unfold leafS; rw [h2]; simp
      obtain ⟨v1, v2⟩ := visit_three (X := X) hlf tr v hv
      have ev : evNd X (T.getD at_ ndD) 0 = e := by
        unfold evNd
        rw [h1, if_neg (by omega)]
        simp
      rw [downS, h2, fd, if_pos he]
      show ((if afterS X (alongS X tr) (evNd X (T.getD at_ ndD) 0) != 0 then downS X T f j (tr ++ [evNd X (T.getD at_ ndD) 0]) (visitS X T at_ tr v) else visitS X T at_ tr v).1 = 3 ↔ _) ∧ (if afterS X (alongS X tr) (evNd X (T.getD at_ ndD) 0) != 0 then downS X T f j (tr ++ [evNd X (T.getD at_ ndD) 0]) (visitS X T at_ tr v) else visitS X T at_ tr v).1 ≤ 3
      rw [ev]
      by_cases hz : afterS X (alongS X tr) e = 0
      · rw [if_neg (by rw [hz]; decide)]
        exact ⟨v1.trans ⟨.inl, fun h => h.elim id fun h => absurd hz h.1⟩, v2⟩
      · rw [if_pos (bne_iff_ne.2 hz)]
        obtain ⟨a1, a2⟩ := tree_three hio rest (afterS S l e) j f (tr ++ [e]) _ (by omega) v2 h3
        rw [alongS_snoc] at a1
        exact ⟨a1.trans ⟨fun h => h.imp v1.1 fun h => ⟨hz, h⟩, fun h => h.imp v1.2 (·.2)⟩, a2⟩
    · rw [if_neg he] at ht
      obtain ⟨h1, h2, h3⟩ := ht
      rw [fd, if_neg he]
      refine obs_three hio h1 h2 (fun k => if e = S.inp + k then fd X S rest (afterS S l e) (afterS X (alongS X tr) e) else showsS S l (S.inp + k) = false) f tr v hv (fun k hk v hv => ?_)
      have h4 := h3 k hk
      by_cases hk2 : e = S.inp + k
      · rw [if_pos hk2] at h4
        simp only [if_pos hk2]
        obtain ⟨a1, a2⟩ := tree_three hio rest (afterS S l e) _ f (tr ++ [S.inp + k]) v (by omega) hv h4
        rw [alongS_snoc, ← hk2] at a1
        rw [← hk2] at a2 ⊢
        exact ⟨a1, a2⟩
      · rw [if_neg hk2] at h4
        simp only [if_neg hk2]
        obtain ⟨f, rfl⟩ : ∃ g, f = g + 1 := ⟨f - 1, by omega⟩
        obtain ⟨a1, a2⟩ := leaf_three (X := X) h4 (by split <;> decide) f (tr ++ [S.inp + k]) v hv
        exact ⟨a1.trans ⟨fun h => h.imp id (three_iff _ _ (by decide)).1, fun h => h.imp id (three_iff _ _ (by decide)).2⟩, a2⟩
theorem nodeS_deep (S : SysP) : ∀ (rest : List Nat) (l : Nat) (T : List Nd), (∀ a ∈ rest, a ≤ S.inp + S.out) → T.length + rest.length + 1 ≤ (nodeS S rest l T).length
  | [], l, T, _ => by have := (nodeS_pre S [] l T).2; simp; omega
  | e :: rest, l, T, ha => by
    rw [nodeS]
    by_cases he : e < S.inp
    · rw [if_pos he, setNx_len]
      have := nodeS_deep S rest (afterS S l e) (T ++ [⟨e, 0, []⟩]) (fun a h => ha a (List.mem_cons_of_mem _ h))
      simp only [List.length_append, List.length_singleton] at this
      simp only [List.length_cons]
      omega
    · rw [if_neg he, setNx_len]
      have hle := ha e List.mem_cons_self
      obtain ⟨k, hk⟩ : ∃ k, e = S.inp + k := ⟨e - S.inp, by omega⟩
      have hr : ∀ T' : List Nd, Agr 0 T' (nodeS S rest (afterS S l e) T') ∧ T'.length < (nodeS S rest (afterS S l e) T').length := fun T' => nodeS_pre S rest _ T'
      have h1 := (obs_pre (some e) _ 2 S l T hr 0 k).1
      rw [Nat.zero_add, obsS_zero] at h1
      simp only [List.length_append, List.length_singleton] at h1
      have h2 := (obs_pre (some e) _ 2 S l T hr (k + 1) (S.out - k)).1
      rw [show k + 1 + (S.out - k) = S.out + 1 by omega] at h2
      have h3 : (obsS (some e) (nodeS S rest (afterS S l e)) 2 S l T (k + 1)).1 = nodeS S rest (afterS S l e) (obsS (some e) (nodeS S rest (afterS S l e)) 2 S l T k).1 := by
        rw [obsS_succ, obsStep, if_pos (by rw [hk])]
      rw [h3] at h2
      have h4 := nodeS_deep S rest (afterS S l e) (obsS (some e) (nodeS S rest (afterS S l e)) 2 S l T k).1 (fun a h => ha a (List.mem_cons_of_mem _ h))
      simp only [List.length_cons]
      omega
theorem perform_three (X S : SysP) (hio : X.inp = S.inp) (tr : List Nat) (ha : ∀ a ∈ tr, a ≤ S.inp + S.out) : (performS X (testS S tr)).1 = 3 ↔ fd X S tr (firstS S) (firstS X) := by
  obtain ⟨t1, _, _, _⟩ := testS_ok S tr
  have hl := nodeS_deep S tr (firstS S) [] ha
  simp only [List.length_nil, Nat.zero_add] at hl
  have := (tree_three hio tr (firstS S) 0 ((testS S tr).length + 1) [] (-1, []) (by show tr.length + 1 < (nodeS S tr (firstS S) []).length + 1; omega) (by decide) t1).1
  unfold performS
  rw [this]
  simp
  rfl
/-- a failing pair behind a beginning of the trace -/
theorem fd_some {X S : SysP} (hio : X.inp = S.inp ∧ X.out = S.out) : ∀ (rest : List Nat) (l a : Nat), fd X S rest l a → (∀ b ∈ rest, b ≤ S.inp + S.out) → rest.foldl (afterS S) l ≠ 0 → ∃ q : List Nat, q.length ≤ rest.length ∧ (∀ b ∈ q, b ≤ S.inp + S.out) ∧ q.foldl (afterS S) l ≠ 0 ∧ ∃ k, k ≤ S.out ∧ afterS X (q.foldl (afterS X) a) (S.inp + k) ≠ 0 ∧ showsS S (q.foldl (afterS S) l) (S.inp + k) = false
  | [], l, a, h, _, hl => ⟨[], Nat.le_refl _, fun b hb => by simp at hb, hl, h⟩
  | e :: rest, l, a, h, hb, hl => by
    have hl0 : l ≠ 0 := fun e0 => by
      subst e0
      have key : ∀ rest : List Nat, rest.foldl (afterS S) 0 = 0 := fun rest => by
        induction rest with
        | nil => rfl
        | cons e rest ih => rw [List.foldl_cons, afterS_zero]; exact ih
      exact hl (key (e :: rest))
    rw [List.foldl_cons] at hl
    have sub : fd X S rest (afterS S l e) (afterS X a e) → ∃ q : List Nat, q.length ≤ (e :: rest).length ∧ (∀ b ∈ q, b ≤ S.inp + S.out) ∧ q.foldl (afterS S) l ≠ 0 ∧ ∃ k, k ≤ S.out ∧ afterS X (q.foldl (afterS X) a) (S.inp + k) ≠ 0 ∧ showsS S (q.foldl (afterS S) l) (S.inp + k) = false := by
      intro h
      obtain ⟨q, q1, q2, q3⟩ := fd_some hio rest _ _ h (fun b hm => hb b (List.mem_cons_of_mem _ hm)) hl
      exact ⟨e :: q, by simp only [List.length_cons]; omega, fun b hm => by
        rcases List.mem_cons.1 hm with rfl | hm
        · exact hb _ List.mem_cons_self
        · exact q2 b hm, q3⟩
    rw [fd] at h
    split at h
    · exact sub h.2
    · obtain ⟨k, k1, k2, k3⟩ := h
      split at k3
      · exact sub k3
      · exact ⟨[], Nat.zero_le _, fun b hm => by simp at hm, hl0, k, k1, k2, k3⟩
theorem fd_of {X S : SysP} : ∀ (rest : List Nat) (l a : Nat), (∀ b ∈ rest, b ≤ S.inp + S.out) → (∃ k, k ≤ S.out ∧ afterS X (rest.foldl (afterS X) a) (S.inp + k) ≠ 0 ∧ showsS S (rest.foldl (afterS S) l) (S.inp + k) = false) → fd X S rest l a
  | [], l, a, _, h => h
  | e :: rest, l, a, hb, h => by
    have h1 := fd_of rest (afterS S l e) (afterS X a e) (fun b hm => hb b (List.mem_cons_of_mem _ hm)) h
    have hne : afterS X a e ≠ 0 := fun e0 => by
      obtain ⟨k, _, k2, _⟩ := h
      rw [List.foldl_cons, e0] at k2
      have key : ∀ rest : List Nat, rest.foldl (afterS X) 0 = 0 := fun rest => by
        induction rest with
        | nil => rfl
        | cons e rest ih => rw [List.foldl_cons, afterS_zero]; exact ih
      rw [key, afterS_zero] at k2
      exact k2 rfl
    have hle := hb e List.mem_cons_self
    rw [fd]
    split
    · exact ⟨hne, h1⟩
    · exact ⟨e - S.inp, by omega, by rw [show S.inp + (e - S.inp) = e by omega]; exact hne, by rw [if_pos (by omega)]; exact h1⟩
theorem failsS_iff {X S : SysP} (hio : X.inp = S.inp ∧ X.out = S.out) (p : Nat × Nat) : failsS X S p ≠ none ↔ ∃ k, k ≤ S.out ∧ afterS X p.1 (S.inp + k) ≠ 0 ∧ showsS S p.2 (S.inp + k) = false := by
  constructor
  · intro h
    obtain ⟨e, he⟩ := Option.ne_none_iff_exists'.1 h
    obtain ⟨h1, h2, h3, h4, _⟩ := failsFrom_some X S p _ _ _ he
    refine ⟨e - S.inp, by omega, ?_, by rw [show S.inp + (e - S.inp) = e by omega]; exact h4⟩
    rw [show S.inp + (e - S.inp) = e by omega]
    unfold showsS at h3
    simp at h3
    exact h3.2
  · rintro ⟨k, k1, k2, k3⟩ hn
    rcases failsFrom_none X S p _ _ hn (S.inp + k) (by omega) (by omega) with h | h
    · unfold showsS at h
      simp only [Bool.and_eq_false_iff, decide_eq_false_iff_not] at h
      rcases h with h | h
      · omega
      · exact k2 (by simpa using h)
    · rw [k3] at h; cases h
/-- the tests of the traces of at most so many events are failed exactly if a failing pair lies behind such a trace -/
theorem failD_iff (x y : Rx) (hio : x.inp = y.inp ∧ x.out = y.out) (depth : Nat) : FailD x y depth ↔ ∃ q : List Nat, q.length ≤ depth ∧ (∀ a ∈ q, a ≤ y.inp + y.out) ∧ alongS (sysOf y) q ≠ 0 ∧ failsS (sysOf x) (sysOf y) (alongS (sysOf x) q, alongS (sysOf y) q) ≠ none := by
  constructor
  · rintro ⟨l, h1, h2, h3, h4⟩
    rw [perform_three (sysOf x) (sysOf y) hio.1 l h2] at h4
    obtain ⟨q, q1, q2, q3, q4⟩ := fd_some (X := sysOf x) (S := sysOf y) hio l _ _ h4 h2 h3
    exact ⟨q, by omega, q2, q3, (failsS_iff (X := sysOf x) (S := sysOf y) hio _).2 q4⟩
  · rintro ⟨q, h1, h2, h3, h4⟩
    refine ⟨q, h1, h2, h3, ?_⟩
    rw [perform_three (sysOf x) (sysOf y) hio.1 q h2]
    exact fd_of q _ _ h2 ((failsS_iff (X := sysOf x) (S := sysOf y) hio _).1 h4)
theorem failD_none (x y : Rx) (hx : x.ok) (hy : y.ok) (hio : x.inp = y.inp ∧ x.out = y.out) (h : (seekS x y).1 = none) (depth : Nat) : ¬ FailD x y depth := by
  rw [failD_iff x y hio]
  rintro ⟨q, _, h2, h3, h4⟩
  exact h4 ((seek_none x y hx hy h).2 q (by rw [hio.1, hio.2]; exact h2) h3)
theorem failD_some (x y : Rx) (hx : x.ok) (hy : y.ok) (hio : x.inp = y.inp ∧ x.out = y.out) (tr : List Int) (h : (seekS x y).1 = some tr) (depth : Nat) : FailD x y depth ↔ tr.length - 1 ≤ depth := by
  obtain ⟨p, e, rfl, h2, h3, h4, h5⟩ := seek_some x y hx hy tr h
  rw [failD_iff x y hio]
  simp only [List.length_map, List.length_append, List.length_singleton, Nat.add_sub_cancel]
  constructor
  · rintro ⟨q, q1, q2, q3, q4⟩
    rcases Nat.lt_or_ge q.length p.length with hlt | hge
    · exact absurd (h5 q (by rw [hio.1, hio.2]; exact q2) hlt q3) q4
    · omega
  · exact fun hle => ⟨p, hle, by rw [← hio.1, ← hio.2]; exact h2, h3, by rw [h4]; simp⟩
end Go.Proofs.YtcbhaeniahckhaaDoor
end
