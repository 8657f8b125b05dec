/- The test of a trace, walked, and its shape. Conditions: those that each theorem names. -/
import Derived.Test.YtcbhaeniahckhaaDoorMf
import Derived.Test.YtcbhaeniahckhaaDoorMg
set_option linter.unusedSimpArgs false
set_option linter.unusedVariables false
section
set_option linter.unusedSimpArgs false
namespace Go.Proofs.YtcbhaeniahckhaaDoor
open Go.RowKit Go.Shelf Go.Deep Go.Proofs.YtcbhaeniahckhaaDoorW.PrintLast
/-- a node of a test -/
structure Nd where
  inp : Int
  ver : Int
  nx : List Nat
def ndD : Nd := ⟨0, 0, []⟩
theorem Tryd.info109 : (Tryd.prog.info? 109).map (fun i => (i.zero, i.size, i.bytes)) = some (some (.agg #[.int .i64 0, .int .i64 0, .slice none 0 0]), 3, 40) := by kernel_rfl
def ndCells (d : Nd) (u : Value) : List Value := [.int .i64 d.inp, .int .i64 d.ver, u]
def flatT : List Nd → List Value → List Value
  | d :: T, u :: us => ndCells d u ++ flatT T us
  | _, _ => []
/-- a test as it lies, made by the call; F: blocks in which no node's list lies -/
def TestAt (w : World) (base : Nat) (F : Nat → Prop) (v : Value) (T : List Nd) : Prop :=
  ∃ us : List Value, us.length = T.length ∧ w.ownsRow base 109 3 v T.length (flatT T us) ∧ ∀ i, i < T.length → OwnI w base (us.getD i .nilFunc) (T.getD i ndD).nx ∧ ∀ k, (us.getD i .nilFunc).ownBlock = some k → ¬ F k
theorem flatT_append : ∀ (T T' : List Nd) (us us' : List Value), us.length = T.length → flatT (T ++ T') (us ++ us') = flatT T us ++ flatT T' us'
  | [], _, [], _, _ => rfl
  | d :: T, T', u :: us, us', h => by
    simp only [List.cons_append, flatT, List.append_assoc, flatT_append T T' us us' (by simpa using h)]
  | [], _, _ :: _, _, h => by simp at h
  | _ :: _, _, [], _, h => by simp at h
theorem TestAt.nil (w : World) (base : Nat) (F : Nat → Prop) : TestAt w base F (.slice none 0 0) [] := ⟨[], rfl, World.ownsRow_nil _ _ _ _, fun i hi => by simp at hi⟩
theorem TestAt.kept {w w' : World} {base : Nat} {F : Nat → Prop} {v : Value} {T : List Nd} (h : TestAt w base F v T) (hk : ∀ (k : Nat) (cs : Array Value) (e : TypeId), w.heap[k]? = some (Obj.cells cs e (0, 0)) → (e = 109 ∨ e = 3 ∧ ¬ F k) → w'.heap[k]? = w.heap[k]?) : TestAt w' base F v T := by
  have row : ∀ {e size n : Nat} {v : Value} {xs : List Value}, (∀ k, v.ownBlock = some k → (e = 109 ∨ e = 3 ∧ ¬ F k)) → w.ownsRow base e size v n xs → w'.ownsRow base e size v n xs := by
    intro e size n v xs he h
    refine ⟨h.1, h.2.imp id fun ⟨g, cap, cur, h1, h2, h3, h4⟩ => ⟨g, cap, cur, h1, h2, (hk g cur e h3 (he g (by rw [h1]; rfl))).trans h3, h4⟩⟩
  obtain ⟨us, h1, h2, h3⟩ := h
  exact ⟨us, h1, row (fun _ _ => .inl rfl) h2, fun i hi => ⟨row (fun k hk => .inr ⟨rfl, (h3 i hi).2 k hk⟩) (h3 i hi).1, (h3 i hi).2⟩⟩
theorem TestAt.below {w w' : World} {base : Nat} {F : Nat → Prop} {v : Value} {T : List Nd} (h : TestAt w base F v T) (hB : Below w.heap.size w w') : TestAt w' base F v T :=
  TestAt.kept h fun k _ _ hk _ => hB.block k (Array.getElem?_eq_some_iff.1 hk).1
theorem TestAt.other {w : World} {base : Nat} {F F' : Nat → Prop} {v : Value} {T : List Nd} (h : TestAt w base F v T) (hF : ∀ k, k < w.heap.size → F' k → F k) : TestAt w base F' v T := by
  obtain ⟨us, h1, h2, h3⟩ := h
  exact ⟨us, h1, h2, fun i hi => ⟨(h3 i hi).1, fun k hk hf => (h3 i hi).2 k hk (hF k ((h3 i hi).1.lt k hk).2 hf)⟩⟩
/-- one node more, with no nodes behind it -/
theorem TestAt.more {W w1 : World} {base : Nat} {F : Nat → Prop} {v v' : Value} {T : List Nd} (us : List Value) (h1 : us.length = T.length) (h3 : ∀ i, i < T.length → OwnI W base (us.getD i .nilFunc) (T.getD i ndD).nx ∧ ∀ k, (us.getD i .nilFunc).ownBlock = some k → ¬ F k)
    (hv : W.ownsRow base 109 3 v T.length (flatT T us)) (a b : Int) (hg : W.grownBy w1 v.ownBlock) (ho : w1.ownsRow base 109 3 v' (T.length + 1) (flatT T us ++ [.int .i64 a, .int .i64 b, .slice none 0 0])) : TestAt w1 base F v' (T ++ [⟨a, b, []⟩]) := by
  have kept : ∀ {u : Value} {xs : List Nat}, OwnI W base u xs → OwnI w1 base u xs := by
    intro u xs hu
    refine hu.kept hg ?_
    by_cases e : u.ownBlock = none
    · exact .inl e
    · refine .inr (fun e2 => ?_)
      obtain ⟨k, hk⟩ := Option.ne_none_iff_exists'.1 e
      exact own_ne_type hu hv (by decide) k hk (e2 ▸ hk)
  refine ⟨us ++ [.slice none 0 0], by simp [h1], ?_, fun i hi => ?_⟩
  · rw [flatT_append _ _ _ _ h1, List.length_append]
    exact ho
  · simp only [List.length_append, List.length_singleton] at hi
    rcases Nat.lt_or_ge i T.length with hlt | hge
    · have h4 := h3 i hlt
      rw [List.getD_eq_getElem?_getD, List.getD_eq_getElem?_getD (l := T ++ _), List.getElem?_append_left (by omega), List.getElem?_append_left (by omega), ← List.getD_eq_getElem?_getD, ← List.getD_eq_getElem?_getD]
      exact ⟨kept h4.1, h4.2⟩
    · rw [List.getD_eq_getElem?_getD, List.getD_eq_getElem?_getD (l := T ++ _), List.getElem?_append_right (by omega), List.getElem?_append_right (by omega), show i - us.length = 0 by omega, show i - T.length = 0 by omega]
      exact ⟨World.ownsRow_nil _ _ _ _, fun k hk => by simp [Value.ownBlock] at hk⟩
/-- the maker of a test -/
def mkObj (gs : Nat) (At : Option Addr) (n ct : Nat) (vo : Value) : Obj := .cells #[.pointer (some ⟨gs, 0, none⟩), .slice At n ct, vo] 125 (0, 0)
/-- what a call of the maker's leaves: all but its own block, and the row of its nodes -/
structure Grew (w w' : World) (b : Nat) (vo vo' : Value) : Prop where
  os : w'.os = w.os
  tape : w'.tape = w.tape
  output : w'.output = w.output
  size : w.heap.size ≤ w'.heap.size
  block : ∀ k, k < w.heap.size → k ≠ b → vo.ownBlock ≠ some k → w'.heap[k]? = w.heap[k]?
  own : J.At w vo vo'
theorem own_pos {w : World} {B e size n : Nat} {v : Value} {xs : List Value} (h : w.ownsRow B e size v n xs) (hn : 0 < n) : ∃ g cap, v = .slice (some ⟨g, 0, none⟩) n cap := by
  rcases h.2 with ⟨_, e0⟩ | ⟨g, cap, cur, rfl, _⟩
  · omega
  · exact ⟨g, cap, rfl⟩
theorem maker_set {w : World} {b gs base : Nat} {At : Option Addr} {n ct : Nat} {F : Nat → Prop} {vo v : Value} {T : List Nd} (hb : w.heap[b]? = some (mkObj gs At n ct vo)) (hT : TestAt w base F v T) :
    (w.setCell ⟨b, 2, none⟩ v).heap[b]? = some (mkObj gs At n ct v) ∧ TestAt (w.setCell ⟨b, 2, none⟩ v) base F v T := by
  refine ⟨blk_set hb 2 v, TestAt.kept hT fun k cs e hk he => Below.heap_setCell _ _ _ _ (fun e2 => ?_)⟩
  have e3 : k = b := e2
  have h2 : w.heap[b]? = some (Obj.cells cs e (0, 0)) := by rw [← e3]; exact hk
  rw [hb] at h2
  unfold mkObj at h2
  simp only [Option.some.injEq, Obj.cells.injEq] at h2
  rcases he with rfl | ⟨rfl, _⟩ <;> simp at h2
theorem grew_of {w w1 : World} {b : Nat} {vo v' : Value} (hg : w.grownBy w1 vo.ownBlock) (ha : v'.ownBlock = vo.ownBlock ∨ ∃ b, v'.ownBlock = some b ∧ w.heap.size ≤ b) : Grew w w1 b vo v' :=
  ⟨hg.os, hg.tape, hg.output, hg.size, fun k hk _ hn => hg.block k hk (fun e => hn e.symm), ha⟩
theorem grew_set {w w1 : World} {b : Nat} {vo v' : Value} (h : Grew w w1 b vo v') (u : Value) : Grew w (w1.setCell ⟨b, 2, none⟩ u) b vo v' :=
  ⟨h.os, h.tape, h.output, by simpa [World.setCell] using h.size, fun k hk hb hn => (Below.heap_setCell _ _ _ _ hb).trans (h.block k hk hb hn), h.own⟩
set_option maxHeartbeats 4000000 in
set_option maxRecDepth 100000 in
theorem leaf_calls (w : World) (base b gs : Nat) (At : Option Addr) (n ct : Nat) (F : Nat → Prop) (vo : Value) (T : List Nd) (ver : Int) (hb : w.heap[b]? = some (mkObj gs At n ct vo)) (hT : TestAt w base F vo T) (hbase : base ≤ w.heap.size) (hl : T.length ≤ 1000000) :
    Calls Tryd.prog 83 #[.pointer (some ⟨b, 0, none⟩), .int .i64 ver] w fun e w' => e = .returned (.int .i64 T.length) ∧ ∃ vo', w'.heap[b]? = some (mkObj gs At n ct vo') ∧ TestAt w' base F vo' (T ++ [⟨-1, ver, []⟩]) ∧ Grew w w' b vo vo' := by
  unfold mkObj at *
  have c2 := cell_blk hb 2
  have f2 := frz hb 2
  have hbl := (Array.getElem?_eq_some_iff.1 hb).1
  obtain ⟨us, h1, hrow, h3⟩ := hT
  have HR := Sd.mk hrow
  have H3 := Sd.mk h3
  have HB := Sd.mk hb
  have HL := Sd.mk h1
  clear hrow h3 hb h1
  go_enter Tryd.func83, Tryd.ntmps83
  go_wp2_with (at_builtin; refine app1 rfl _ _ 50 rfl 109 (.agg #[.int .i64 0, .int .i64 0, .slice none 0 0]) 3 40 Tryd.underlying50 Tryd.info109 rfl (by decide) 0 (Below.refl _ _) base (Nat.zero_le _) hbase _ T.length _ HR.out ?c1 ?c2 [.int .i64 (-1), .int .i64 ver, .slice none 0 0] rfl rfl rfl ?c3 ?_)
  case c1 => omega
  case c2 => omega
  case c3 => intro u hu; simp only [List.mem_cons, List.not_mem_nil, or_false] at hu; rcases hu with rfl | rfl | rfl <;> rfl
  intro v' w1 ho1 hB1 hg1 hat
  obtain ⟨g', cap', rfl⟩ := own_pos ho1 (Nat.succ_pos _)
  have hne := own_ne_blk HR.out HB.out (by decide)
  have hb1 := (hg1.block b hbl (fun e => hne e.symm)).trans HB.out
  have hT1 := Sd.mk (TestAt.more us HL.out H3.out HR.out (-1) ver hg1 ho1)
  have d2 := cell_blk hb1 2
  have g2 := frz hb1 2
  have hbl1 := (Array.getElem?_eq_some_iff.1 hb1).1
  have H1 := Sd.mk hb1
  have HG := Sd.mk hg1
  have HA := Sd.mk hat
  clear hb1 hg1 hat ho1 hB1
  go_wp2
  go_ret
  refine ⟨ret_i64 (by omega), _, (maker_set H1.out hT1.out).1, (maker_set H1.out hT1.out).2, ?_⟩
  exact grew_set (grew_of HG.out HA.out) _
end Go.Proofs.YtcbhaeniahckhaaDoor
end
section
set_option linter.unusedSimpArgs false
namespace Go.Proofs.YtcbhaeniahckhaaDoor
open Go.RowKit Go.Shelf Go.Deep Go.Proofs.YtcbhaeniahckhaaDoorW.PrintLast
def setNx (T : List Nd) (i : Nat) (nx : List Nat) : List Nd := T.set i { T.getD i ndD with nx := nx }
def obsStep (ev : Option Nat) (rc : List Nd → List Nd) (other : Int) (S : SysP) (l : Nat) (st : List Nd × List Nat) (k : Nat) : List Nd × List Nat :=
  (if ev = some (S.inp + k) then rc st.1 else if showsS S l (S.inp + k) then st.1 ++ [⟨-1, other, []⟩] else st.1 ++ [⟨-1, 3, []⟩], st.2 ++ [st.1.length])
def obsS (ev : Option Nat) (rc : List Nd → List Nd) (other : Int) (S : SysP) (l : Nat) (T : List Nd) (n : Nat) : List Nd × List Nat :=
  (List.range n).foldl (obsStep ev rc other S l) (T ++ [⟨-1, 0, []⟩], [])
/-- the nodes of a test: the ones behind T, for the rest of the trace -/
def nodeS (S : SysP) : List Nat → Nat → List Nd → List Nd
  | [], l, T => setNx (obsS none id 1 S l T (S.out + 1)).1 T.length (obsS none id 1 S l T (S.out + 1)).2
  | e :: rest, l, T =>
    if e < S.inp then setNx (nodeS S rest (afterS S l e) (T ++ [⟨e, 0, []⟩])) T.length [T.length + 1]
    else setNx (obsS (some e) (nodeS S rest (afterS S l e)) 2 S l T (S.out + 1)).1 T.length (obsS (some e) (nodeS S rest (afterS S l e)) 2 S l T (S.out + 1)).2
theorem obsS_succ (ev : Option Nat) (rc : List Nd → List Nd) (other : Int) (S : SysP) (l : Nat) (T : List Nd) (n : Nat) : obsS ev rc other S l T (n + 1) = obsStep ev rc other S l (obsS ev rc other S l T n) n := by
  unfold obsS
  rw [List.range_succ, List.foldl_append]
  rfl
theorem setNx_len (T : List Nd) (i : Nat) (nx : List Nat) : (setNx T i nx).length = T.length := by simp [setNx]
/-- how many nodes an observation has, as far as it has come -/
theorem obsS_len (ev : Option Nat) (rc : List Nd → List Nd) (m : Nat) (hr : ∀ T, T.length + 1 ≤ (rc T).length ∧ (rc T).length ≤ T.length + m ∨ ev = none) (other : Int) (S : SysP) (l : Nat) (T : List Nd) : ∀ n, T.length + 1 + n ≤ (obsS ev rc other S l T n).1.length ∧
    (obsS ev rc other S l T n).1.length ≤ T.length + 1 + n + (match ev with | some e => if e < S.inp + n then m else 0 | none => 0)
  | 0 => by
    have h : (obsS ev rc other S l T 0).1 = T ++ [⟨-1, 0, []⟩] := rfl
    rw [h]
    simp
  | n + 1 => by
    have ⟨h1, h2⟩ := obsS_len ev rc m hr other S l T n
    rw [obsS_succ]
    generalize obsS ev rc other S l T n = st at *
    unfold obsStep
    cases ev with
    | none =>
      simp only [reduceCtorEq, if_false]
      split <;> simp only [List.length_append, List.length_singleton] <;> simp at h2 <;> simp <;> omega
    | some e =>
      simp only [Option.some.injEq]
      by_cases he : e = S.inp + n
      · subst he
        have h3 := (hr st.1).resolve_right (by simp)
        simp at h2
        simp
        omega
      · rw [if_neg he]
        have h4 : (if e < S.inp + n then m else 0) = if e < S.inp + (n + 1) then m else 0 := by
          by_cases h : e < S.inp + n
          · rw [if_pos h, if_pos (by omega)]
          · rw [if_neg h, if_neg (by omega)]
        simp only at h2
        split <;> simp only [List.length_append, List.length_singleton] <;> omega
theorem nodeS_len (S : SysP) (rest : List Nat) : ∀ (l : Nat) (T : List Nd), T.length + 1 ≤ (nodeS S rest l T).length ∧ (nodeS S rest l T).length ≤ T.length + (S.out + 2) * (rest.length + 1) := by
  induction rest with
  | nil =>
    intro l T
    have ⟨h1, h2⟩ := obsS_len none id 0 (fun _ => .inr rfl) 1 S l T (S.out + 1)
    rw [nodeS, setNx_len]
    simp at h2
    simp
    omega
  | cons e rest ih =>
    intro l T
    rw [nodeS]
    split
    · have ⟨h1, h2⟩ := ih (afterS S l e) (T ++ [⟨e, 0, []⟩])
      rw [setNx_len]
      rw [List.length_append, List.length_singleton] at h1 h2
      refine ⟨by omega, ?_⟩
      rw [List.length_cons, Nat.mul_add (S.out + 2) (rest.length + 1) 1]
      omega
    · have ⟨h1, h2⟩ := obsS_len (some e) (nodeS S rest (afterS S l e)) ((S.out + 2) * (rest.length + 1)) (fun T => .inl (ih (afterS S l e) T)) 2 S l T (S.out + 1)
      rw [setNx_len]
      rw [List.length_cons, Nat.mul_add (S.out + 2) (rest.length + 1) 1]
      refine ⟨by omega, ?_⟩
      simp only at h2
      split at h2 <;> omega
theorem flatT_get : ∀ (T : List Nd) (us : List Value) (i : Nat), us.length = T.length → i < T.length → (flatT T us)[i * 3]? = some (.int .i64 (T.getD i ndD).inp) ∧ (flatT T us)[i * 3 + 1]? = some (.int .i64 (T.getD i ndD).ver) ∧ (flatT T us)[i * 3 + 2]? = some (us.getD i .nilFunc)
  | d :: T, u :: us, 0, _, _ => by simp [flatT, ndCells]
  | d :: T, u :: us, i + 1, h, hi => by
    have h1 := flatT_get T us i (by simpa using h) (by simpa using hi)
    rw [show (i + 1) * 3 = i * 3 + 3 by omega, show i * 3 + 3 + 1 = i * 3 + 1 + 3 by omega, show i * 3 + 3 + 2 = i * 3 + 2 + 3 by omega]
    simpa [flatT, ndCells] using h1
  | [], _, _, _, hi => by simp at hi
  | _ :: _, [], _, h, _ => by simp at h
theorem flatT_set : ∀ (T : List Nd) (us : List Value) (i : Nat) (u : Value) (nx : List Nat), us.length = T.length → i < T.length → flatT (setNx T i nx) (us.set i u) = (flatT T us).set (i * 3 + 2) u
  | d :: T, u0 :: us, 0, u, nx, _, _ => by simp [flatT, ndCells, setNx]
  | d :: T, u0 :: us, i + 1, u, nx, h, hi => by
    have h1 := flatT_set T us i u nx (by simpa using h) (by simpa using hi)
    rw [show (i + 1) * 3 + 2 = i * 3 + 2 + 3 by omega]
    unfold setNx at h1 ⊢
    simpa [flatT, ndCells] using h1
  | [], _, _, _, _, _, hi => by simp at hi
  | _ :: _, [], _, _, _, h, _ => by simp at h
end Go.Proofs.YtcbhaeniahckhaaDoor
end
section
namespace Go.Proofs.YtcbhaeniahckhaaDoor
open Go.RowKit Go.Shelf Go.Deep
/-- T' has T as its beginning, from a on -/
def Agr (a : Nat) (T T' : List Nd) : Prop := T.length ≤ T'.length ∧ ∀ i, a ≤ i → i < T.length → T'.getD i ndD = T.getD i ndD
theorem Agr.refl (a : Nat) (T : List Nd) : Agr a T T := ⟨Nat.le_refl _, fun _ _ _ => rfl⟩
theorem Agr.trans {a b : Nat} {T T1 T2 : List Nd} (h : Agr a T T1) (k : Agr b T1 T2) (hb : b ≤ a) : Agr a T T2 :=
  ⟨Nat.le_trans h.1 k.1, fun i h1 h2 => (k.2 i (by omega) (Nat.lt_of_lt_of_le h2 h.1)).trans (h.2 i h1 h2)⟩
theorem Agr.up {a b : Nat} {T T1 : List Nd} (h : Agr a T T1) (hb : a ≤ b) : Agr b T T1 := ⟨h.1, fun i h1 h2 => h.2 i (by omega) h2⟩
theorem Agr.snoc (T : List Nd) (d : Nd) : Agr 0 T (T ++ [d]) := ⟨by simp, fun _ _ h2 => gd_lt h2⟩
theorem setNx_ne (T : List Nd) (n i : Nat) (nx : List Nat) (h : i ≠ n) : (setNx T n nx).getD i ndD = T.getD i ndD := by
  unfold setNx
  rw [List.getD_eq_getElem?_getD, List.getElem?_set_ne (fun e => h e.symm), ← List.getD_eq_getElem?_getD]
theorem setNx_eq (T : List Nd) (n : Nat) (nx : List Nat) (h : n < T.length) : (setNx T n nx).getD n ndD = { T.getD n ndD with nx := nx } := by
  unfold setNx
  rw [List.getD_eq_getElem?_getD, List.getElem?_set_self h]
  rfl
section
variable (ev : Option Nat) (rc : List Nd → List Nd) (other : Int) (S : SysP) (l : Nat) (T : List Nd)
theorem obsS_zero : obsS ev rc other S l T 0 = (T ++ [⟨-1, 0, []⟩], []) := rfl
theorem obs_step (hr : ∀ T', Agr 0 T' (rc T') ∧ T'.length < (rc T').length) (n : Nat) : Agr 0 (obsS ev rc other S l T n).1 (obsS ev rc other S l T (n + 1)).1 ∧ (obsS ev rc other S l T n).1.length < (obsS ev rc other S l T (n + 1)).1.length := by
  rw [obsS_succ]
  generalize obsS ev rc other S l T n = st
  unfold obsStep
  by_cases h : ev = some (S.inp + n)
  · rw [if_pos h]; exact hr _
  · rw [if_neg h]
    cases showsS S l (S.inp + n)
    · exact ⟨Agr.snoc _ _, by simp⟩
    · exact ⟨Agr.snoc _ _, by simp⟩
theorem obs_pre (hr : ∀ T', Agr 0 T' (rc T') ∧ T'.length < (rc T').length) (m : Nat) : ∀ n, Agr 0 (obsS ev rc other S l T m).1 (obsS ev rc other S l T (m + n)).1
  | 0 => Agr.refl _ _
  | n + 1 => (obs_pre hr m n).trans (obs_step ev rc other S l T hr (m + n)).1 (Nat.le_refl _)
theorem obs_nx : ∀ n, (obsS ev rc other S l T n).2.length = n ∧ ∀ k, k < n → (obsS ev rc other S l T n).2.getD k 0 = (obsS ev rc other S l T k).1.length
  | 0 => ⟨rfl, fun k hk => by omega⟩
  | n + 1 => by
    obtain ⟨h1, h2⟩ := obs_nx n
    rw [obsS_succ]
    refine ⟨by simp [obsStep, h1], fun k hk => ?_⟩
    show ((obsS ev rc other S l T n).2 ++ [(obsS ev rc other S l T n).1.length]).getD k 0 = _
    by_cases e : k = n
    · subst e; exact gd_eq h1.symm
    · rw [gd_lt (by omega)]; exact h2 k (by omega)
end
theorem nodeS_pre (S : SysP) : ∀ (rest : List Nat) (l : Nat) (T : List Nd), Agr 0 T (nodeS S rest l T) ∧ T.length < (nodeS S rest l T).length := by
  have obs : ∀ (ev : Option Nat) (rc : List Nd → List Nd) (other : Int) (l : Nat) (T : List Nd), (∀ T', Agr 0 T' (rc T') ∧ T'.length < (rc T').length) → ∀ n nx, Agr 0 T (setNx (obsS ev rc other S l T n).1 T.length nx) ∧ T.length < (setNx (obsS ev rc other S l T n).1 T.length nx).length := by
    intro ev rc other l T hr n nx
    have h := obs_pre ev rc other S l T hr 0 n
    rw [Nat.zero_add, obsS_zero] at h
    have h1 := h.1
    simp only [List.length_append, List.length_singleton] at h1
    refine ⟨⟨by rw [setNx_len]; omega, fun i _ hi => ?_⟩, by rw [setNx_len]; omega⟩
    rw [setNx_ne _ _ _ _ (by omega), h.2 i (Nat.zero_le _) (by simp; omega)]
    exact gd_lt hi
  intro rest
  induction rest with
  | nil =>
    intro l T
    rw [nodeS]
    have h := obs none (fun T' => T' ++ [ndD]) 1 l T (fun T' => ⟨Agr.snoc _ _, by simp⟩) (S.out + 1) (obsS none id 1 S l T (S.out + 1)).2
    have e : ∀ n, obsS none id 1 S l T n = obsS none (fun T' => T' ++ [ndD]) 1 S l T n := by
      intro n
      induction n with
      | zero => rfl
      | succ n ih => rw [obsS_succ, obsS_succ, ih]; unfold obsStep; simp
    rw [e] at h ⊢
    exact h
  | cons e rest ih =>
    intro l T
    rw [nodeS]
    split
    · have h := ih (afterS S l e) (T ++ [⟨e, 0, []⟩])
      have h2 := h.2
      simp only [List.length_append, List.length_singleton] at h2
      refine ⟨⟨by rw [setNx_len]; omega, fun i _ hi => ?_⟩, by rw [setNx_len]; omega⟩
      rw [setNx_ne _ _ _ _ (by omega), h.1.2 i (Nat.zero_le _) (by simp; omega)]
      exact gd_lt hi
    · exact obs (some e) (nodeS S rest (afterS S l e)) 2 l T (fun T' => ih _ T') _ _
/-- the last observation calls nothing further -/
theorem obs_none (S : SysP) (l : Nat) (T : List Nd) (other : Int) : ∀ n, obsS none id other S l T n = obsS none (fun T' => T' ++ [ndD]) other S l T n := by
  intro n
  induction n with
  | zero => rfl
  | succ n ih => rw [obsS_succ, obsS_succ, ih]; unfold obsStep; simp
def LeafAt (T : List Nd) (i : Nat) (v : Int) : Prop := i < T.length ∧ T.getD i ndD = ⟨-1, v, []⟩
/-- the nodes behind a node -/
def TreeAt (S : SysP) (T : List Nd) : List Nat → Nat → Nat → Prop
  | [], l, at_ => at_ < T.length ∧ (T.getD at_ ndD).inp = -1 ∧ (T.getD at_ ndD).nx.length = S.out + 1 ∧ ∀ k, k ≤ S.out → LeafAt T ((T.getD at_ ndD).nx.getD k 0) (if showsS S l (S.inp + k) then 1 else 3)
  | e :: rest, l, at_ => at_ < T.length ∧ if e < S.inp then (T.getD at_ ndD).inp = e ∧ ∃ j, (T.getD at_ ndD).nx = [j] ∧ TreeAt S T rest (afterS S l e) j
    else (T.getD at_ ndD).inp = -1 ∧ (T.getD at_ ndD).nx.length = S.out + 1 ∧ ∀ k, k ≤ S.out → if e = S.inp + k then TreeAt S T rest (afterS S l e) ((T.getD at_ ndD).nx.getD k 0) else LeafAt T ((T.getD at_ ndD).nx.getD k 0) (if showsS S l (S.inp + k) then 2 else 3)
/-- a node that a walk may stand at -/
def NdOK (S : SysP) (T : List Nd) (i : Nat) : Prop := ((T.getD i ndD).inp = -1 ∨ 0 ≤ (T.getD i ndD).inp ∧ (T.getD i ndD).inp < S.inp ∧ (T.getD i ndD).nx.length = 1) ∧ (T.getD i ndD).nx.length ≤ S.out + 1 ∧ ∀ k, k < (T.getD i ndD).nx.length → i < (T.getD i ndD).nx.getD k 0 ∧ (T.getD i ndD).nx.getD k 0 < T.length
/-- an observation, read in what comes of it -/
theorem obs_read (ev : Option Nat) (rc : List Nd → List Nd) (other : Int) (S : SysP) (l : Nat) (T0 T : List Nd) (hr : ∀ T', Agr 0 T' (rc T') ∧ T'.length < (rc T').length)
    (hA : Agr T0.length (setNx (obsS ev rc other S l T0 (S.out + 1)).1 T0.length (obsS ev rc other S l T0 (S.out + 1)).2) T) :
    T0.length < T.length ∧ (T.getD T0.length ndD).inp = -1 ∧ (T.getD T0.length ndD).nx.length = S.out + 1 ∧ ∀ k, k ≤ S.out → T0.length < (T.getD T0.length ndD).nx.getD k 0 ∧ (T.getD T0.length ndD).nx.getD k 0 < T.length ∧
      (T.getD T0.length ndD).nx.getD k 0 = (obsS ev rc other S l T0 k).1.length ∧ Agr (obsS ev rc other S l T0 k).1.length (obsS ev rc other S l T0 (k + 1)).1 T := by
  have h0 := obs_pre ev rc other S l T0 hr 0 (S.out + 1)
  rw [Nat.zero_add, obsS_zero] at h0
  have h1 := h0.1
  simp only [List.length_append, List.length_singleton] at h1
  have hl := hA.1
  rw [setNx_len] at hl
  have hd : T.getD T0.length ndD = ⟨-1, 0, (obsS ev rc other S l T0 (S.out + 1)).2⟩ := by
    rw [hA.2 _ (Nat.le_refl _) (by rw [setNx_len]; omega), setNx_eq _ _ _ (by omega), h0.2 _ (Nat.zero_le _) (by simp), gd_eq rfl]
  obtain ⟨n1, n2⟩ := obs_nx ev rc other S l T0 (S.out + 1)
  rw [hd]
  refine ⟨by omega, rfl, n1, fun k hk => ?_⟩
  have e1 : (obsS ev rc other S l T0 (S.out + 1)).2.getD k 0 = (obsS ev rc other S l T0 k).1.length := n2 k (by omega)
  have h2 := obs_pre ev rc other S l T0 hr 0 k
  rw [Nat.zero_add, obsS_zero] at h2
  have h3 := h2.1
  simp only [List.length_append, List.length_singleton] at h3
  have h4 := (obs_step ev rc other S l T0 hr k).2
  have h5 := obs_pre ev rc other S l T0 hr (k + 1) (S.out - k)
  rw [show k + 1 + (S.out - k) = S.out + 1 by omega] at h5
  have h6 := h5.1
  refine ⟨by simp only [e1]; omega, by simp only [e1]; omega, e1, ⟨by omega, fun i a1 a2 => ?_⟩⟩
  rw [hA.2 i (by omega) (by rw [setNx_len]; omega), setNx_ne _ _ _ _ (by omega), h5.2 i (Nat.zero_le _) a2]
theorem obs_leaf (ev : Option Nat) (rc : List Nd → List Nd) (other : Int) (S : SysP) (l : Nat) (T0 T : List Nd) (k : Nat) (he : ev ≠ some (S.inp + k)) (hA : Agr (obsS ev rc other S l T0 k).1.length (obsS ev rc other S l T0 (k + 1)).1 T) :
    LeafAt T (obsS ev rc other S l T0 k).1.length (if showsS S l (S.inp + k) then other else 3) ∧ (obsS ev rc other S l T0 (k + 1)).1.length = (obsS ev rc other S l T0 k).1.length + 1 := by
  rw [obsS_succ] at hA ⊢
  generalize obsS ev rc other S l T0 k = st at *
  unfold obsStep at hA ⊢
  rw [if_neg he] at hA ⊢
  cases h : showsS S l (S.inp + k)
  · rw [h] at hA
    have h1 := hA.1
    simp only [Bool.false_eq_true, if_false, List.length_append, List.length_singleton] at h1 ⊢
    refine ⟨⟨by omega, ?_⟩, trivial⟩
    rw [hA.2 _ (Nat.le_refl _) (by simp)]
    exact gd_eq rfl
  · rw [h] at hA
    have h1 := hA.1
    simp only [if_true, List.length_append, List.length_singleton] at h1 ⊢
    refine ⟨⟨by omega, ?_⟩, trivial⟩
    rw [hA.2 _ (Nat.le_refl _) (by simp)]
    exact gd_eq rfl
theorem leaf_ok {S : SysP} {T : List Nd} {i : Nat} {v : Int} (h : LeafAt T i v) : NdOK S T i := by
  unfold NdOK
  rw [h.2]
  exact ⟨.inl rfl, by simp, fun k hk => by simp at hk⟩
/-- all nodes of a test are right, and its tree is the one of the trace -/
theorem tree_of (S : SysP) : ∀ (rest : List Nat) (l : Nat) (T0 T : List Nd), Agr T0.length (nodeS S rest l T0) T → TreeAt S T rest l T0.length ∧ ∀ i, T0.length ≤ i → i < (nodeS S rest l T0).length → NdOK S T i := by
  have all : ∀ (ev : Option Nat) (rc : List Nd → List Nd) (other : Int) (l : Nat) (T0 T : List Nd), (∀ T', Agr 0 T' (rc T') ∧ T'.length < (rc T').length) →
      (∀ k, k ≤ S.out → ev = some (S.inp + k) → ∀ i, (obsS ev rc other S l T0 k).1.length ≤ i → i < (obsS ev rc other S l T0 (k + 1)).1.length → NdOK S T i) →
      Agr T0.length (setNx (obsS ev rc other S l T0 (S.out + 1)).1 T0.length (obsS ev rc other S l T0 (S.out + 1)).2) T → ∀ i, T0.length ≤ i → i < (setNx (obsS ev rc other S l T0 (S.out + 1)).1 T0.length (obsS ev rc other S l T0 (S.out + 1)).2).length → NdOK S T i := by
    intro ev rc other l T0 T hr hE hA i hi1 hi2
    obtain ⟨r1, r2, r3, r4⟩ := obs_read ev rc other S l T0 T hr hA
    rw [setNx_len] at hi2
    by_cases hi : i = T0.length
    · subst hi
      exact ⟨.inl r2, by omega, fun k hk => ⟨(r4 k (by omega)).1, (r4 k (by omega)).2.1⟩⟩
    · have key : ∀ n, n ≤ S.out + 1 → i < (obsS ev rc other S l T0 n).1.length → NdOK S T i := by
        intro n
        induction n with
        | zero => intro _ h; rw [obsS_zero] at h; simp at h; omega
        | succ n ih =>
          intro hn h
          by_cases hlt : i < (obsS ev rc other S l T0 n).1.length
          · exact ih (by omega) hlt
          · by_cases he : ev = some (S.inp + n)
            · exact hE n (by omega) he i (by omega) h
            · obtain ⟨k1, k2⟩ := obs_leaf ev rc other S l T0 T n he (r4 n (by omega)).2.2.2
              obtain rfl : i = (obsS ev rc other S l T0 n).1.length := by omega
              exact leaf_ok k1
      exact key _ (Nat.le_refl _) hi2
  intro rest
  induction rest with
  | nil =>
    intro l T0 T hA
    rw [nodeS, obs_none] at hA ⊢
    have hr : ∀ T' : List Nd, Agr 0 T' (T' ++ [ndD]) ∧ T'.length < (T' ++ [ndD]).length := fun T' => ⟨Agr.snoc _ _, by simp⟩
    obtain ⟨r1, r2, r3, r4⟩ := obs_read none (fun T' => T' ++ [ndD]) 1 S l T0 T hr hA
    refine ⟨⟨r1, r2, r3, fun k hk => ?_⟩, all _ _ _ l T0 T hr (fun k _ h => by cases h) hA⟩
    rw [(r4 k hk).2.2.1]
    exact (obs_leaf none _ 1 S l T0 T k (by simp) (r4 k hk).2.2.2).1
  | cons e rest ih =>
    intro l T0 T hA
    rw [nodeS] at hA ⊢
    by_cases he : e < S.inp
    · rw [if_pos he] at hA ⊢
      have hp := nodeS_pre S rest (afterS S l e) (T0 ++ [⟨e, 0, []⟩])
      have hl := hA.1
      rw [setNx_len] at hl
      have h2 := hp.2
      simp only [List.length_append, List.length_singleton] at h2
      have hA' : Agr (T0 ++ [(⟨e, 0, []⟩ : Nd)]).length (nodeS S rest (afterS S l e) (T0 ++ [⟨e, 0, []⟩])) T := ⟨hl, fun i a1 a2 => by
        simp only [List.length_append, List.length_singleton] at a1
        rw [hA.2 i (by omega) (by rw [setNx_len]; exact a2), setNx_ne _ _ _ _ (by omega)]⟩
      obtain ⟨t1, t2⟩ := ih (afterS S l e) (T0 ++ [⟨e, 0, []⟩]) T hA'
      simp only [List.length_append, List.length_singleton] at t1 t2
      have hd : T.getD T0.length ndD = ⟨e, 0, [T0.length + 1]⟩ := by
        rw [hA.2 _ (Nat.le_refl _) (by rw [setNx_len]; omega), setNx_eq _ _ _ (by omega), hp.1.2 _ (Nat.zero_le _) (by simp), gd_eq rfl]
      refine ⟨⟨by omega, ?_⟩, fun i a1 a2 => ?_⟩
      · rw [if_pos he, hd]
        exact ⟨rfl, _, rfl, t1⟩
      · rw [setNx_len] at a2
        by_cases hi : i = T0.length
        · subst hi
          unfold NdOK
          rw [hd]
          refine ⟨.inr ⟨by simp, by simpa using he, rfl⟩, by simp, fun k hk => ?_⟩
          simp only [List.length_singleton] at hk
          obtain rfl : k = 0 := by omega
          simp only [List.getD_eq_getElem?_getD, List.getElem?_cons_zero, Option.getD_some]
          omega
        · exact t2 i (by omega) a2
    · rw [if_neg he] at hA ⊢
      have hr : ∀ T' : List Nd, Agr 0 T' (nodeS S rest (afterS S l e) T') ∧ T'.length < (nodeS S rest (afterS S l e) T').length := fun T' => nodeS_pre S rest _ T'
      obtain ⟨r1, r2, r3, r4⟩ := obs_read (some e) _ 2 S l T0 T hr hA
      have sub : ∀ k, k ≤ S.out → (some e : Option Nat) = some (S.inp + k) → Agr (obsS (some e) (nodeS S rest (afterS S l e)) 2 S l T0 k).1.length (nodeS S rest (afterS S l e) (obsS (some e) (nodeS S rest (afterS S l e)) 2 S l T0 k).1) T := by
        intro k hk hek
        have := (r4 k hk).2.2.2
        rw [obsS_succ, obsStep, if_pos hek] at this
        exact this
      refine ⟨⟨r1, ?_⟩, all _ _ _ l T0 T hr (fun k hk hek i a1 a2 => ?_) hA⟩
      · rw [if_neg he]
        refine ⟨r2, r3, fun k hk => ?_⟩
        rw [(r4 k hk).2.2.1]
        by_cases hek : e = S.inp + k
        · rw [if_pos hek]
          exact (ih _ _ T (sub k hk (by rw [hek]))).1
        · rw [if_neg hek]
          exact (obs_leaf (some e) _ 2 S l T0 T k (by simpa using hek) (r4 k hk).2.2.2).1
      · rw [obsS_succ, obsStep, if_pos hek] at a2
        exact (ih _ _ T (sub k hk hek)).2 i a1 a2
end Go.Proofs.YtcbhaeniahckhaaDoor
end
section
set_option linter.unusedSimpArgs false
namespace Go.Proofs.YtcbhaeniahckhaaDoor
open Go.RowKit Go.Shelf Go.Deep Go.Proofs.YtcbhaeniahckhaaDoorW.PrintLast
theorem own_len {w : World} {B e size n : Nat} {v : Value} {xs : List Value} (h : w.ownsRow B e size v n xs) : ∃ a c, v = .slice a n c := by
  rcases h.2 with ⟨rfl, rfl⟩ | ⟨g, cap, cur, rfl, _⟩
  · exact ⟨_, _, rfl⟩
  · exact ⟨_, _, rfl⟩
theorem TestAt.own {w : World} {base : Nat} {F : Nat → Prop} {v : Value} {T : List Nd} (h : TestAt w base F v T) : ∃ xs, w.ownsRow base 109 3 v T.length xs := let ⟨_, _, h2, _⟩ := h; ⟨_, h2⟩
theorem Grew.of_below {w w' : World} (hB : Below w.heap.size w w') (b : Nat) (vo : Value) : Grew w w' b vo vo := ⟨hB.os, hB.tape, hB.output, hB.size, fun k hk _ _ => hB.block k hk, .inl rfl⟩
theorem Grew.trans {w w1 w2 : World} {b : Nat} {vo v1 v2 : Value} (h : Grew w w1 b vo v1) (k : Grew w1 w2 b v1 v2) : Grew w w2 b vo v2 := by
  refine ⟨k.os.trans h.os, k.tape.trans h.tape, k.output.trans h.output, Nat.le_trans h.size k.size, fun n hn hb ho => ?_, ?_⟩
  · rw [k.block n (Nat.lt_of_lt_of_le hn h.size) hb ?_]
    · exact h.block n hn hb ho
    · intro e
      rcases h.own with h1 | ⟨c, h1, h2⟩
      · exact ho (h1 ▸ e)
      · rw [h1] at e
        cases e
        omega
  · rcases k.own with k1 | ⟨c, k1, k2⟩
    · rcases h.own with h1 | ⟨c, h1, h2⟩
      · exact .inl (k1.trans h1)
      · exact .inr ⟨c, k1.trans h1, h2⟩
    · exact .inr ⟨c, k1, Nat.le_trans h.size k2⟩
theorem Grew.below {w0 w w' : World} {b : Nat} {vo vo' : Value} (h : Grew w w' b vo vo') (hB : Below w0.heap.size w0 w) (hb : w0.heap.size ≤ b) (hv : ∀ k, vo.ownBlock = some k → w0.heap.size ≤ k) : Below w0.heap.size w0 w' :=
  ⟨h.os.trans hB.os, h.tape.trans hB.tape, h.output.trans hB.output, Nat.le_trans hB.size h.size, fun k hk => by
    rw [h.block k (Nat.lt_of_lt_of_le hk hB.size) (by omega) (fun e => by have := hv k e; omega)]
    exact hB.block k hk⟩
/-- a row of numbers behind what the maker does -/
theorem OwnI.grew {w w' : World} {b base B n : Nat} {vo vo' v : Value} {xs : List Nat} {cs : List Value} {o : Array Value} (h : Grew w w' b vo vo') (hb : w.heap[b]? = some (.cells o 125 (0, 0))) (hv : w.ownsRow B 109 3 vo n cs) (hx : OwnI w base v xs) : OwnI w' base v xs := by
  refine ⟨hx.1, hx.2.imp id fun ⟨g, cap, cur, h1, h2, h3, h4⟩ => ⟨g, cap, cur, h1, h2, ?_, h4⟩⟩
  have hne := own_ne_blk hx hb (by decide)
  rw [h.block g (Array.getElem?_eq_some_iff.1 h3).1 (fun e => by subst e; subst h1; exact hne rfl) (fun e => own_ne_type hx hv (by decide) g (by rw [h1]; rfl) e)]
  exact h3
theorem TestAt.setNx {w : World} {base g cap i : Nat} {F : Nat → Prop} {T : List Nd} {u : Value} {nx : List Nat} (h : TestAt w base F (.slice (some ⟨g, 0, none⟩) T.length cap) T) (hi : i < T.length) (hu : OwnI w base u nx) (hF : ∀ k, u.ownBlock = some k → ¬ F k) :
    TestAt (w.setCell ⟨g, i * 3 + 2, none⟩ u) base F (.slice (some ⟨g, 0, none⟩) T.length cap) (setNx T i nx) ∧ w.grownBy (w.setCell ⟨g, i * 3 + 2, none⟩ u) (some g) := by
  obtain ⟨us, h1, h2, h3⟩ := h
  have ⟨h4, h5⟩ := h2.stored (i * 3 + 2) u
  refine ⟨⟨us.set i u, by simp [h1, setNx_len], ?_, ?_⟩, h5⟩
  · rw [setNx_len, flatT_set _ _ _ _ _ h1 hi]
    exact h4
  · intro j hj
    rw [setNx_len] at hj
    have keep : ∀ {v : Value} {xs : List Nat}, OwnI w base v xs → OwnI (w.setCell ⟨g, i * 3 + 2, none⟩ u) base v xs := fun {v xs} hx => hx.kept h5 (by
      by_cases e : v.ownBlock = none
      · exact .inl e
      · exact .inr (fun e2 => own_ne_type hx h2 (by decide) g e2 rfl))
    by_cases hij : j = i
    · subst hij
      rw [List.getD_eq_getElem?_getD, List.getD_eq_getElem?_getD, YtcbhaeniahckhaaDoor.setNx, List.getElem?_set_self (by omega), List.getElem?_set_self hj]
      exact ⟨keep hu, hF⟩
    · rw [List.getD_eq_getElem?_getD, List.getD_eq_getElem?_getD, YtcbhaeniahckhaaDoor.setNx, List.getElem?_set_ne (fun e => hij e.symm), List.getElem?_set_ne (fun e => hij e.symm), ← List.getD_eq_getElem?_getD, ← List.getD_eq_getElem?_getD]
      exact ⟨keep (h3 j hj).1, (h3 j hj).2⟩
end Go.Proofs.YtcbhaeniahckhaaDoor
end
section
set_option linter.unusedSimpArgs false
namespace Go.Proofs.YtcbhaeniahckhaaDoor
open Go.RowKit Go.Shelf Go.Deep Go.Proofs.YtcbhaeniahckhaaDoorW.PrintLast
/-- an observation at work: v11 is the list of the nodes behind it, vq the nodes so far -/
structure Obs (w0 w W : World) (gs : Nat) (At : Option Addr) (n ct b : Nat) (F : Nat → Prop) (vo v11 vq : Value) (T : List Nd) (nx : List Nat) : Prop where
  hb : W.heap[b]? = some (mkObj gs At n ct vq)
  hT : TestAt W w0.heap.size (fun c => F c ∨ v11.ownBlock = some c) vq T
  hN : OwnI W w.heap.size v11 nx
  hG : Grew w W b vo vq
namespace Obs
variable {w0 w W W2 : World} {gs : Nat} {At : Option Addr} {n ct b : Nat} {F : Nat → Prop} {vo v11 vq v' : Value} {T T' : List Nd} {nx : List Nat}
theorem later (h : Obs w0 w W gs At n ct b F vo v11 vq T nx) (hB : Below W.heap.size W W2) : Obs w0 w W2 gs At n ct b F vo v11 vq T nx :=
  ⟨(hB.block b (Array.getElem?_eq_some_iff.1 h.hb).1).trans h.hb, h.hT.below hB, h.hN.below hB, h.hG.trans (Grew.of_below hB b vq)⟩
theorem noded (h : Obs w0 w W gs At n ct b F vo v11 vq T nx) (hb : W2.heap[b]? = some (mkObj gs At n ct v')) (hT : TestAt W2 w0.heap.size (fun c => F c ∨ v11.ownBlock = some c) v' T') (hG : Grew W W2 b vq v') : Obs w0 w W2 gs At n ct b F vo v11 v' T' nx :=
  ⟨hb, hT, by obtain ⟨xs, hx⟩ := h.hT.own; exact OwnI.grew hG h.hb hx h.hN, h.hG.trans hG⟩
theorem appended {v12 : Value} (h : Obs w0 w W gs At n ct b F vo v11 vq T nx) (m : Nat) (hg : W.grownBy W2 v11.ownBlock) (ho : W2.ownsRow w.heap.size 3 1 v12 (nx.length + 1) ((nx.map fun (x : Nat) => Value.int .i64 (x : Int)) ++ [.int .i64 m])) (ha : J.At W v11 v12) :
    Obs w0 w W2 gs At n ct b F vo v12 vq T (nx ++ [m]) := by
  have hne := own_ne_blk h.hN h.hb (by decide)
  obtain ⟨us, h1, h2, h3⟩ := h.hT
  refine ⟨(hg.block b (Array.getElem?_eq_some_iff.1 h.hb).1 (fun e => hne e.symm)).trans h.hb, ⟨us, h1, h2.kept hg ?_, fun i hi => ⟨(h3 i hi).1.kept hg ?_, fun k hk hf => ?_⟩⟩, ?_, ?_⟩
  · by_cases e : vq.ownBlock = none
    · exact .inl e
    · obtain ⟨k, hk⟩ := Option.ne_none_iff_exists'.1 e
      exact .inr (fun e2 => own_ne_type h2 h.hN (by decide) k hk (e2 ▸ hk))
  · by_cases e : (us.getD i .nilFunc).ownBlock = none
    · exact .inl e
    · obtain ⟨k, hk⟩ := Option.ne_none_iff_exists'.1 e
      exact .inr (fun e2 => (h3 i hi).2 k hk (.inr (e2 ▸ hk)))
  · rcases hf with hf | hf
    · exact (h3 i hi).2 k hk (.inl hf)
    · rcases ha with ha | ⟨c, hc, hle⟩
      · exact (h3 i hi).2 k hk (.inr (ha ▸ hf))
      · rw [hc] at hf
        cases hf
        have := ((h3 i hi).1.lt k hk).2
        omega
  · unfold OwnI
    simpa using ho
  · refine ⟨hg.os.trans h.hG.os, hg.tape.trans h.hG.tape, hg.output.trans h.hG.output, Nat.le_trans h.hG.size hg.size, fun k hk hb ho => ?_, h.hG.own⟩
    rw [hg.block k (Nat.lt_of_lt_of_le hk h.hG.size) (fun e => by have := (h.hN.lt k e.symm).1; omega)]
    exact h.hG.block k hk hb ho
theorem below (h : Obs w0 w W gs At n ct b F vo v11 vq T nx) (hB : Below w0.heap.size w0 w) (hb : w0.heap.size ≤ b) (hv : ∀ k, vo.ownBlock = some k → w0.heap.size ≤ k) : Below w0.heap.size w0 W := h.hG.below hB hb hv
end Obs
theorem silences_calls (w : World) (g : Nat) (S : SysP) (h : Sys w g S) : Calls Tryd.prog 48 #[.pointer (some ⟨g, 0, none⟩)] w fun e w' => e = .returned (.int .i64 ((S.inp : Int) + S.out)) ∧ Below w.heap.size w w' := by
  obtain ⟨mv, Ab, cb, As, cs, Ar, cr, h⟩ := h
  exact silence_calls w g S h
theorem showss_calls (w : World) (hT : Tab w) (g : Nat) (S : SysP) (l e : Nat) (hl : l < 2 ^ S.N) (he : e ≤ S.inp + S.out) (h : Sys w g S) : Calls Tryd.prog 76 #[.pointer (some ⟨g, 0, none⟩), .int .u64 l, .int .i64 e] w fun e' w' => e' = .returned (.bool (showsS S l e)) ∧ Below w.heap.size w w' := by
  obtain ⟨mv, Ab, cb, As, cs, Ar, cr, h⟩ := h
  exact shows_calls w hT g S l e hl he h
theorem obsS_len2 (ev : Option Nat) (rc : List Nd → List Nd) (other : Int) (S : SysP) (l : Nat) (T : List Nd) : ∀ n, (obsS ev rc other S l T n).2.length = n
  | 0 => rfl
  | n + 1 => by
    rw [obsS_succ]
    unfold obsStep
    rw [List.length_append, obsS_len2 ev rc other S l T n]
    rfl
theorem TestAt.slot {w : World} {base g cap : Nat} {F : Nat → Prop} {T : List Nd} (h : TestAt w base F (.slice (some ⟨g, 0, none⟩) T.length cap) T) (i : Nat) (hi : i < T.length) : (∃ u, w.cell? ⟨g, i * 3 + 2, none⟩ = some u) ∧ w.frozen? ⟨g, i * 3 + 2, none⟩ = false := by
  obtain ⟨us, h1, h2, h3⟩ := h
  exact ⟨⟨_, (h2.cellAt (i * 3 + 2) (by omega)).trans (flatT_get T us i h1 hi).2.2⟩, h2.frozenAt _⟩
/-- what a call of node leaves -/
def NodePost (w0 : World) (gs : Nat) (At : Option Addr) (n ct b : Nat) (F : Nat → Prop) (T T' : List Nd) (vo : Value) (w : World) (e : Ending) (w' : World) : Prop :=
  e = .returned (.int .i64 T.length) ∧ ∃ vo', w'.heap[b]? = some (mkObj gs At n ct vo') ∧ TestAt w' w0.heap.size F vo' T' ∧ Grew w w' b vo vo'
set_option maxHeartbeats 8000000 in
set_option maxRecDepth 100000 in
theorem node_nil (w0 : World) (gs : Nat) (S : SysP) (hS : Sys w0 gs S) (hT0 : Tab w0) (At : Option Addr) (ct : Nat) (n : Nat) (b : Nat) (F : Nat → Prop) (hb0 : w0.heap.size ≤ b) (l : Nat) (hl : l < 2 ^ S.N) (T : List Nd) (hTl : T.length ≤ 900000) (vo : Value) (w : World) (hB : Below w0.heap.size w0 w)
    (hb : w.heap[b]? = some (mkObj gs At n ct vo)) (hT : TestAt w w0.heap.size F vo T) (hF : ∀ k, F k → k < w.heap.size) :
    Calls Tryd.prog 68 #[.pointer (some ⟨b, 0, none⟩), .int .i64 n, .int .u64 l] w (NodePost w0 gs At n ct b F T (nodeS S [] l T) vo w) := by
  have hio : S.inp ≤ 4 ∧ S.out ≤ 4 := by obtain ⟨mv1, Ab1, cb1, As1, cs1, Ar1, cr1, hS1⟩ := hS; exact ⟨hS1.hi, hS1.ho⟩
  obtain ⟨hio1, hio2⟩ := hio
  have HS := Sd.mk (fun (w1 : World) (h1 : Below w0.heap.size w0 w1) => hS.below h1)
  have HTb := Sd.mk (fun (w1 : World) (h1 : Below w0.heap.size w0 w1) => hT0.below h1)
  have hown : ∀ k, vo.ownBlock = some k → w0.heap.size ≤ k := by obtain ⟨xs, hx⟩ := hT.own; exact fun k hk => (hx.lt k hk).1
  have hbw := hB.size
  obtain ⟨us, h1, hrow, h3⟩ := hT
  obtain ⟨a0, c0', rfl⟩ := own_len hrow
  have HOWN := Sd.mk hown
  unfold mkObj at hb
  have c0 := cell_blk hb 0
  have c1 := cell_blk hb 1
  have c2 := cell_blk hb 2
  have f2 := frz hb 2
  have hbl := (Array.getElem?_eq_some_iff.1 hb).1
  have HR := Sd.mk hrow
  have H3 := Sd.mk h3
  have HL := Sd.mk h1
  have HB := Sd.mk hb
  have HBw := Sd.mk hB
  have HFs := Sd.mk hF
  clear hS hT0 hrow h3 h1 hown hb hB hF
  go_enter Tryd.func68, Tryd.ntmps68
  go_wp2_with (at_builtin; refine app1 rfl _ _ 50 rfl 109 (.agg #[.int .i64 0, .int .i64 0, .slice none 0 0]) 3 40 Tryd.underlying50 Tryd.info109 rfl (by decide) 0 (Below.refl _ _) w0.heap.size (Nat.zero_le _) hbw _ T.length _ HR.out ?c1 ?c2 [.int .i64 (-1), .int .i64 0, .slice none 0 0] rfl rfl rfl ?c3 ?_)
  case c1 => omega
  case c2 => omega
  case c3 => intro u hu; simp only [List.mem_cons, List.not_mem_nil, or_false] at hu; rcases hu with rfl | rfl | rfl <;> rfl
  intro v' w1 ho1 hB1 hg1 hat
  obtain ⟨g', cap', rfl⟩ := own_pos ho1 (Nat.succ_pos _)
  have hne := own_ne_blk HR.out HB.out (by decide)
  have hb1 := (hg1.block b hbl (fun e => hne e.symm)).trans HB.out
  have hT1 := TestAt.more us HL.out H3.out HR.out (-1) 0 hg1 ho1
  have hset := maker_set hb1 hT1
  have hgr := grew_set (b := b) (grew_of hg1 hat) (.slice (some ⟨g', 0, none⟩) (T.length + 1) cap')
  have hbl1 := (Array.getElem?_eq_some_iff.1 hb1).1
  have d2 := cell_blk hb1 2
  have g2 := frz hb1 2
  have HSet := Sd.mk hset
  have HGr := Sd.mk hgr
  have HBw1 := Sd.mk (hgr.below HBw.out hb0 HOWN.out)
  have e0 := cell_blk hb1 0
  have HBq := Sd.mk ((grew_of (b := b) hg1 hat).below HBw.out hb0 HOWN.out)
  have hgb : gs ≠ b ∧ w1.cell? ⟨gs, 2, none⟩ = some (.int .i64 S.inp) := by
    obtain ⟨mv1, Ab1, cb1, As1, cs1, Ar1, cr1, hS1⟩ := HS.out _ HBq.out
    obtain ⟨mv2, Ab2, cb2, As2, cs2, Ar2, cr2, hS2⟩ := HS.out _ (Below.refl _ _)
    have := (Array.getElem?_eq_some_iff.1 hS2.blk).1
    exact ⟨by omega, cell_blk hS1.blk 2⟩
  obtain ⟨hgb, x2⟩ := hgb
  clear hset hgr hb1 hat hg1 ho1 hB1
  go_wp2_with fail
  go_loopw [11, 12] (fun v11 i wq => ∃ (e : Nat) (vq : Value), i = .int .i64 (e : Int) ∧ S.inp ≤ e ∧ e ≤ S.inp + S.out + 1 ∧ Sd (Obs w0 w wq gs At n ct b F (.slice a0 T.length c0') v11 vq (obsS none id 1 S l T (e - S.inp)).1 (obsS none id 1 S l T (e - S.inp)).2)) (fun _ i _ => S.inp + S.out + 1 - (intOf i).toNat)
  case atStart => exact ⟨S.inp, _, rfl, Nat.le_refl _, by omega, ⟨by rw [Nat.sub_self]; exact ⟨HSet.out.1, HSet.out.2.other (fun c _ hc => hc.resolve_right (by simp [Value.ownBlock])), World.ownsRow_nil _ _ _ _, HGr.out⟩⟩⟩
  case round =>
    obtain ⟨W1, hW1⟩ : ∃ W : World, W = wr := ⟨wr, rfl⟩
    subst hW1
    obtain ⟨e, vq, rfl, hle, he, hO⟩ := hrel
    have hln := obsS_len none id 0 (fun _ => .inr rfl) 1 S l T (e - S.inp)
    simp only [Nat.add_zero] at hln
    have hl2 := Nat.le_of_eq (obsS_len2 none id 1 S l T (e - S.inp))
    by_cases hlt : e < S.inp + S.out + 1
    · have hes : e ≤ S.inp + S.out := by omega
      have hd1 : ((e : Int) == -1) = false := by rw [beq_eq_false_iff_ne]; omega
      have hev : Sd (obsS none id 1 S l T (e + 1 - S.inp) = obsStep none id 1 S l (obsS none id 1 S l T (e - S.inp)) (e - S.inp)) := ⟨by rw [show e + 1 - S.inp = (e - S.inp) + 1 by omega, obsS_succ]⟩
      have hsum : Sd (S.inp + (e - S.inp) = e) := ⟨by omega⟩
      generalize obsS none id 1 S l T (e - S.inp) = st at *
      have d0 := cell_blk hO.out.hb 0
      rcases hv : showsS S l e with _ | _
      · have V : Sd (showsS S l e = false) := ⟨hv⟩
        have hst : Sd (obsS none id 1 S l T (e + 1 - S.inp) = (st.1 ++ [⟨-1, 3, []⟩], st.2 ++ [st.1.length])) := ⟨by rw [hev.out]; unfold obsStep; rw [hsum.out, hv]; rfl⟩
        clear hv hev
        go_wp2_with (first | (go_at_call 48; refine (silences_calls _ gs S (HS.out _ (hO.out.below HBw.out hb0 HOWN.out))).mono ?_; rintro e' w2 ⟨rfl, hB2⟩; have hO2 := Sd.mk (hO.out.later hB2); clear hB2; have d2 := cell_blk hO2.out.hb 0) | (go_at_call 76; refine (showss_calls _ (HTb.out _ (hO2.out.below HBw.out hb0 HOWN.out)) gs S l e hl hes (HS.out _ (hO2.out.below HBw.out hb0 HOWN.out))).mono ?_; rintro e' w3 ⟨he', hB3⟩; rw [V.out] at he'; subst he'; have hO3 := Sd.mk (hO2.out.later hB3); clear hB3) | (go_at_call 83; refine (leaf_calls _ w0.heap.size b gs At n ct (fun c => F c ∨ u11.ownBlock = some c) vq st.1 3 hO3.out.hb hO3.out.hT (hO3.out.below HBw.out hb0 HOWN.out).size (by omega)).mono ?_; rintro e' w4 ⟨rfl, vq4, hb4, hT4, hG4⟩; have hO4 := Sd.mk (hO3.out.noded hb4 hT4 hG4); clear hb4 hT4 hG4) | (at_builtin; refine app1 rfl _ _ 27 rfl 3 (.int .i64 0) 1 8 Tryd.underlying27 Tryd.info3 rfl (by decide) 0 (Below.refl _ _) w.heap.size (Nat.zero_le _) hO4.out.hG.size _ st.2.length _ hO4.out.hN ?c1 ?c2 [.int .i64 (st.1.length : Nat)] rfl rfl rfl ?c3 ?_))
        case c1 => omega
        case c2 => omega
        case c3 => intro u hu; simp at hu; subst hu; rfl
        intro v12 w5 ho5 hB5 hg5 ha5
        have hO5 := Sd.mk (hO4.out.appended st.1.length hg5 ho5 ha5)
        clear ho5 hB5 hg5 ha5
        go_wp2
        go_roundw
        case rel => exact ⟨e + 1, vq4, by go_num, by omega, by omega, by rw [hst.out]; exact hO5⟩
        case measure => simp [intOf]; omega
      · have V : Sd (showsS S l e = true) := ⟨hv⟩
        have hst : Sd (obsS none id 1 S l T (e + 1 - S.inp) = (st.1 ++ [⟨-1, 1, []⟩], st.2 ++ [st.1.length])) := ⟨by rw [hev.out]; unfold obsStep; rw [hsum.out, hv]; rfl⟩
        clear hv hev
        go_wp2_with (first | (go_at_call 48; refine (silences_calls _ gs S (HS.out _ (hO.out.below HBw.out hb0 HOWN.out))).mono ?_; rintro e' w2 ⟨rfl, hB2⟩; have hO2 := Sd.mk (hO.out.later hB2); clear hB2; have d2 := cell_blk hO2.out.hb 0) | (go_at_call 76; refine (showss_calls _ (HTb.out _ (hO2.out.below HBw.out hb0 HOWN.out)) gs S l e hl hes (HS.out _ (hO2.out.below HBw.out hb0 HOWN.out))).mono ?_; rintro e' w3 ⟨he', hB3⟩; rw [V.out] at he'; subst he'; have hO3 := Sd.mk (hO2.out.later hB3); clear hB3) | (go_at_call 83; refine (leaf_calls _ w0.heap.size b gs At n ct (fun c => F c ∨ u11.ownBlock = some c) vq st.1 1 hO3.out.hb hO3.out.hT (hO3.out.below HBw.out hb0 HOWN.out).size (by omega)).mono ?_; rintro e' w4 ⟨rfl, vq4, hb4, hT4, hG4⟩; have hO4 := Sd.mk (hO3.out.noded hb4 hT4 hG4); clear hb4 hT4 hG4) | (at_builtin; refine app1 rfl _ _ 27 rfl 3 (.int .i64 0) 1 8 Tryd.underlying27 Tryd.info3 rfl (by decide) 0 (Below.refl _ _) w.heap.size (Nat.zero_le _) hO4.out.hG.size _ st.2.length _ hO4.out.hN ?c1 ?c2 [.int .i64 (st.1.length : Nat)] rfl rfl rfl ?c3 ?_))
        case c1 => omega
        case c2 => omega
        case c3 => intro u hu; simp at hu; subst hu; rfl
        intro v12 w5 ho5 hB5 hg5 ha5
        have hO5 := Sd.mk (hO4.out.appended st.1.length hg5 ho5 ha5)
        clear ho5 hB5 hg5 ha5
        go_wp2
        go_roundw
        case rel => exact ⟨e + 1, vq4, by go_num, by omega, by omega, by rw [hst.out]; exact hO5⟩
        case measure => simp [intOf]; omega
    · obtain rfl : e = S.inp + S.out + 1 := by omega
      rw [show S.inp + S.out + 1 - S.inp = S.out + 1 by omega] at hO hln hl2
      have hfin : Sd (nodeS S [] l T = setNx (obsS none id 1 S l T (S.out + 1)).1 T.length (obsS none id 1 S l T (S.out + 1)).2) := ⟨rfl⟩
      generalize obsS none id 1 S l T (S.out + 1) = st at *
      obtain ⟨xs, hx⟩ := hO.out.hT.own
      obtain ⟨gq, cq, rfl⟩ := own_pos hx (by omega)
      clear hx xs
      obtain ⟨a11, n11, c11, rfl⟩ := own_slice hO.out.hN
      have d0 := cell_blk hO.out.hb 0
      go_wp2_with (go_at_call 48; refine (silences_calls _ gs S (HS.out _ (hO.out.below HBw.out hb0 HOWN.out))).mono ?_; rintro e' w2 ⟨rfl, hB2⟩; have hO2 := Sd.mk (hO.out.later hB2); clear hB2; have d2 := cell_blk hO2.out.hb 2; obtain ⟨⟨u2, y2⟩, z2⟩ := hO2.out.hT.slot T.length (by omega))
      go_ret
      have hgb2 : Sd (gq ≠ b) := ⟨by
        obtain ⟨xs, hx⟩ := hO2.out.hT.own
        intro e2
        exact own_ne_blk hx hO2.out.hb (by decide) (by rw [← e2]; rfl)⟩
      have hTF := hO2.out.hT.other (F' := F) (fun c _ hc => .inl hc)
      obtain ⟨hs1, hs2⟩ := hTF.setNx (i := T.length) (by omega) (hO2.out.hN.mono hbw) (fun k hk hf => by have h4 := (hO2.out.hN.lt k hk).1; have h5 := HFs.out k hf; omega)
      rw [← hfin.out] at hs1
      exact ⟨ret_i64 rfl, _, (hs2.block b (Array.getElem?_eq_some_iff.1 hO2.out.hb).1 (fun e2 => hgb2.out (by cases e2; rfl))).trans hO2.out.hb, hs1, hO2.out.hG.trans ⟨hs2.os, hs2.tape, hs2.output, hs2.size, fun k hk _ hn => hs2.block k hk (fun e2 => hn e2.symm), .inl rfl⟩⟩
end Go.Proofs.YtcbhaeniahckhaaDoor
end
