/- The set of pairs of sets as a map, and the rows of the search. Conditions: those that each theorem names. -/
import Derived.Test.YtcbhaeniahckhaaDoorMb
import Derived.DeepKeys3
import Derived.Test.YtcbhaeniahckhaaDoorWLast
set_option linter.unusedSimpArgs false
set_option linter.unusedVariables false
section
namespace Go.Proofs.YtcbhaeniahckhaaDoor
open Go.RowKit Go.Shelf Go.Deep
def keyV (p : Nat × Nat) : Value := .agg #[.int .u64 (p.1 : Int), .int .u64 (p.2 : Int)]
theorem stood75 : Tryd.prog.stoodInHeld 75 = false := by kernel_rfl
theorem fields75 : Tryd.prog.underlying 75 = some (.struct (Tryd.prog.fieldsOf 75)) := by kernel_rfl
theorem fields75' : (Tryd.prog.fieldsOf 75).toList = [{ name := "x", type := 73, offset := 0, embedded := false, tag := "", pkgPath := "examiner/conform", byteOffset := 0 }, { name := "spec", type := 73, offset := 1, embedded := false, tag := "", pkgPath := "examiner/conform", byteOffset := 8 }] := by
  unfold Program.fieldsOf; rw [Tryd.underlying75]
theorem eq_pair (w : World) (d : Nat) (p q : Nat × Nat) : (Op.equalIn (d + 2) 75 (keyV p) (keyV q)).run Tryd.prog w = .ok (decide (p = q)) w := by
  unfold keyV
  rw [run_equalIn_struct w (d + 1) 75 _ _ fields75 stood75, fields75']
  have hu := Tryd.underlying73
  by_cases h1 : p.1 = q.1 <;> by_cases h2 : p.2 = q.2
  all_goals
    simp [Op.eqFields, part, go_sem, hu, h1, h2, Prod.ext_iff]
    try omega
theorem check_int (w : World) (e : Bool) (n : Nat) (a : Int) : (Instr.checkKey e (n + 1) 73 (.int .u64 a)).run Tryd.prog w = .ok () w := by
  have hu := Tryd.underlying73
  unfold Instr.checkKey
  simp [run_underlying hu]
theorem check_pair (w : World) (e : Bool) (p : Nat × Nat) : (Instr.checkKey e 10000 75 (keyV p)).run Tryd.prog w = .ok () w := by
  unfold keyV
  unfold Instr.checkKey
  have hu2 := Tryd.underlying75
  simp [run_underlying hu2, part, go_sem, check_int]
/-- the entries of a map that is a set of pairs -/
def entOk (es : List MapEntry) (ps : List (Nat × Nat)) : Prop := es.map (fun e => (e.key, e.val)) = ps.map fun p => (keyV p, Value.bool true)
def MapIs (w : World) (b : Nat) (ps : List (Nat × Nat)) : Prop := ∃ es clock, w.heap[b]? = some (.map es clock) ∧ entOk es.toList ps
theorem run_findAsking (w : World) (q : Nat × Nat) : ∀ (es : List MapEntry) (ps : List (Nat × Nat)), entOk es ps → ∀ i, ∃ r, (Instr.findAsking 75 (keyV q) es i).run Tryd.prog w = .ok r w ∧ (r = none ∧ q ∉ ps ∨ ∃ j, r = some (j, .bool true) ∧ q ∈ ps)
  | [], ps, h, i => by
    have : ps = [] := by cases ps <;> simp [entOk] at h ⊢
    subst this
    exact ⟨none, by simp [Instr.findAsking], .inl ⟨rfl, by simp⟩⟩
  | e :: es, [], h, i => by simp [entOk] at h
  | e :: es, p :: ps, h, i => by
    have h' : e.key = keyV p ∧ e.val = .bool true ∧ entOk es ps := by
      unfold entOk at h ⊢
      simp only [List.map_cons, List.cons.injEq, Prod.mk.injEq] at h
      exact ⟨h.1.1, h.1.2, h.2⟩
    obtain ⟨hk, hv, ht⟩ := h'
    have heq : (Op.equal 75 (keyV q) e.key).run Tryd.prog w = .ok (decide (q = p)) w := by rw [hk]; exact eq_pair w 9998 q p
    by_cases hqp : q = p
    · subst hqp
      refine ⟨some (i, .bool true), ?_, .inr ⟨i, rfl, by simp⟩⟩
      simp [Instr.findAsking, heq, hv]
    · obtain ⟨r, hr, hc⟩ := run_findAsking w q es ps ht (i + 1)
      refine ⟨r, by simp [Instr.findAsking, heq, hqp, hr], ?_⟩
      rcases hc with ⟨h1, h2⟩ | ⟨j, h1, h2⟩
      · exact .inl ⟨h1, by simp [hqp, h2]⟩
      · exact .inr ⟨j, h1, by simp [h2]⟩
theorem run_findKey (w : World) (q : Nat × Nat) (es : List MapEntry) (ps : List (Nat × Nat)) (h : entOk es ps) : ∃ r, (Instr.findKey 75 (keyV q) es).run Tryd.prog w = .ok r w ∧ (r = none ∧ q ∉ ps ∨ ∃ j, r = some (j, .bool true) ∧ q ∈ ps) := by
  have hu2 := Tryd.underlying75
  cases es with
  | nil =>
    have : ps = [] := by cases ps <;> simp [entOk] at h ⊢
    subst this
    exact ⟨none, by simp [Instr.findKey, run_underlying hu2, Instr.findNow], .inl ⟨rfl, by simp⟩⟩
  | cons e es =>
    obtain ⟨r, hr, hc⟩ := run_findAsking w q (e :: es) ps h 0
    refine ⟨r, ?_, hc⟩
    have hn : Instr.sameNow (.struct #[{ name := "x", type := 73, offset := 0, embedded := false, tag := "", pkgPath := "examiner/conform", byteOffset := 0 }, { name := "spec", type := 73, offset := 1, embedded := false, tag := "", pkgPath := "examiner/conform", byteOffset := 8 }]) (keyV q) e.key = none := by
      unfold Instr.sameNow; rfl
    simp [Instr.findKey, run_underlying hu2, Instr.findNow, hn, hr]
theorem run_lookup_set (w : World) (b : Nat) (ps : List (Nat × Nat)) (h : MapIs w b ps) (q : Nat × Nat) : (Instr.lookup 69 (.map (some b)) (keyV q) false).run Tryd.prog w = .ok (.bool (decide (q ∈ ps))) w := by
  obtain ⟨es, clock, hb, he⟩ := h
  obtain ⟨r, hr, hc⟩ := run_findKey w q es.toList ps he
  have hm := Tryd.underlying69
  have h4 := Tryd.underlying4
  have hz : (zeroValue 4).run Tryd.prog w = .ok (.bool false) w := by kernel_rfl
  rcases hc with ⟨rfl, hq⟩ | ⟨j, rfl, hq⟩
  · simp [Instr.lookup, run_underlying hm, Sem.run, getObj, hb, check_pair, hr, hz, hq]
  · simp [Instr.lookup, run_underlying hm, Sem.run, getObj, hb, check_pair, hr, hq]
theorem run_update_set (w : World) (b : Nat) (ps : List (Nat × Nat)) (h : MapIs w b ps) (q : Nat × Nat) (hq : q ∉ ps) : ∃ w', (Instr.mapUpdate 69 (.map (some b)) (keyV q) (.bool true)).run Tryd.prog w = .ok () w' ∧ MapIs w' b (ps ++ [q]) ∧ (∀ k, k ≠ b → w'.heap[k]? = w.heap[k]?) ∧ w'.heap.size = w.heap.size ∧ w'.os = w.os ∧ w'.tape = w.tape ∧ w'.output = w.output := by
  obtain ⟨es, clock, hb, he⟩ := h
  obtain ⟨r, hr, hc⟩ := run_findKey w q es.toList ps he
  have hm := Tryd.underlying69
  rcases hc with ⟨rfl, _⟩ | ⟨j, rfl, hq'⟩
  · refine ⟨{ w with heap := w.heap.setIfInBounds b (.map (es.push { key := keyV q, val := .bool true, born := clock }) (clock + 1)) }, ?_, ⟨es.push { key := keyV q, val := .bool true, born := clock }, clock + 1, ?_, ?_⟩, ?_, ?_, rfl, rfl, rfl⟩
    · simp [Instr.mapUpdate, run_underlying hm, Sem.run, getObj, setObj, hb, check_pair, hr]
    · have := (Array.getElem?_eq_some_iff.1 hb).1
      simp [this]
    · unfold entOk at he ⊢
      rw [Array.toList_push, List.map_append, List.map_append, he]
      rfl
    · intro k hk
      simp [Ne.symm hk]
    · simp
  · exact absurd hq' hq
end Go.Proofs.YtcbhaeniahckhaaDoor
end
section
namespace Go.Proofs.YtcbhaeniahckhaaDoor
open Go.RowKit Go.Shelf Go.Deep

/-- three rows of the call's own in w, which came of w0; what was appended to them stands in boxes -/
structure J (B : Nat) (w0 w : World) (vp0 vf0 vb0 vp vf vb : Value) (np nf nb : Nat) (cp cf cb : List Value) (bp bf bb : Option Nat) (op of ob : Obj) : Prop where
  os : w.os = w0.os
  tape : w.tape = w0.tape
  output : w.output = w0.output
  size : w0.heap.size ≤ w.heap.size
  hB : B ≤ w0.heap.size
  keep : ∀ k, k < w0.heap.size → vp0.ownBlock ≠ some k → vf0.ownBlock ≠ some k → vb0.ownBlock ≠ some k → w.heap[k]? = w0.heap[k]?
  lt0 : ∀ k, (vp0.ownBlock = some k ∨ vf0.ownBlock = some k ∨ vb0.ownBlock = some k) → k < w0.heap.size
  rp : w.ownsRow B 75 2 vp np cp
  rf : w.ownsRow B 3 1 vf nf cf
  rb : w.ownsRow B 3 1 vb nb cb
  npf : ∀ k, vp.ownBlock = some k → vf.ownBlock ≠ some k
  npb : ∀ k, vp.ownBlock = some k → vb.ownBlock ≠ some k
  nfb : ∀ k, vf.ownBlock = some k → vb.ownBlock ≠ some k
  xp : ∀ b, bp = some b → w0.heap.size ≤ b ∧ w.heap[b]? = some op
  xf : ∀ b, bf = some b → w0.heap.size ≤ b ∧ w.heap[b]? = some of
  xb : ∀ b, bb = some b → w0.heap.size ≤ b ∧ w.heap[b]? = some ob

theorem ownsRow_lt {w : World} {B e size n : Nat} {v : Value} {xs : List Value} (h : w.ownsRow B e size v n xs) {k : Nat} (hk : v.ownBlock = some k) : k < w.heap.size := (h.lt k hk).2
theorem own_ne_type {w : World} {B B' e e' s s' n n' : Nat} {v v' : Value} {xs xs' : List Value} (h : w.ownsRow B e s v n xs) (h' : w.ownsRow B' e' s' v' n' xs') (hne : e ≠ e') : ∀ k, v.ownBlock = some k → v'.ownBlock ≠ some k := by
  intro k hk hk'
  rcases h.2 with ⟨rfl, _⟩ | ⟨g, cap, cur, rfl, _, hg, _⟩
  · simp [Value.ownBlock] at hk
  · rcases h'.2 with ⟨rfl, _⟩ | ⟨g', cap', cur', rfl, _, hg', _⟩
    · simp [Value.ownBlock] at hk'
    · simp [Value.ownBlock] at hk hk'
      subst hk
      subst hk'
      rw [hg] at hg'
      simp at hg'
      exact hne hg'.2
namespace J
variable {B : Nat} {w0 w w' : World} {vp0 vf0 vb0 vp vf vb v' : Value} {np nf nb : Nat} {cp cf cb : List Value} {bp bf bb : Option Nat} {op of ob : Obj}
theorem start (w : World) (hB : B ≤ w.heap.size) (rp : w.ownsRow B 75 2 vp np cp) (rf : w.ownsRow B 3 1 vf nf cf) (rb : w.ownsRow B 3 1 vb nb cb) (hne : ∀ k, vf.ownBlock = some k → vb.ownBlock ≠ some k) : J B w w vp vf vb vp vf vb np nf nb cp cf cb none none none op of ob :=
  ⟨rfl, rfl, rfl, Nat.le_refl _, hB, fun _ _ _ _ _ => rfl, fun k hk => hk.elim (ownsRow_lt rp) (fun h => h.elim (ownsRow_lt rf) (ownsRow_lt rb)), rp, rf, rb, own_ne_type rp rf (by decide), own_ne_type rp rb (by decide), hne, fun _ h => by simp at h, fun _ h => by simp at h, fun _ h => by simp at h⟩
/-- any step that leaves the blocks other than 'row' -/
theorem box_kept {b : Nat} {o : Obj} {row : Option Nat} (hg : w.grownBy w' row) (h : w.heap[b]? = some o) (hne : row ≠ some b) : w'.heap[b]? = some o :=
  (hg.block b (Array.getElem?_eq_some_iff.1 h).1 (fun e => hne e.symm)).trans h
theorem alloc_ (h : J B w0 w vp0 vf0 vb0 vp vf vb np nf nb cp cf cb bp bf bb op of ob) (o : Obj) : J B w0 (w.alloc o) vp0 vf0 vb0 vp vf vb np nf nb cp cf cb bp bf bb op of ob :=
  ⟨h.os, h.tape, h.output, by have := h.size; simp; omega, h.hB, fun k hk a b c => (heap_alloc_old w o (by have := h.size; omega)).trans (h.keep k hk a b c), h.lt0, h.rp.alloc o, h.rf.alloc o, h.rb.alloc o, h.npf, h.npb, h.nfb,
    fun b hb => ⟨(h.xp b hb).1, box_kept (World.grownBy_alloc w o none) (h.xp b hb).2 (by simp)⟩, fun b hb => ⟨(h.xf b hb).1, box_kept (World.grownBy_alloc w o none) (h.xf b hb).2 (by simp)⟩, fun b hb => ⟨(h.xb b hb).1, box_kept (World.grownBy_alloc w o none) (h.xb b hb).2 (by simp)⟩⟩
theorem allocP (h : J B w0 w vp0 vf0 vb0 vp vf vb np nf nb cp cf cb bp bf bb op of ob) (b : Nat) (hb : b = w.heap.size) : J B w0 (w.alloc op) vp0 vf0 vb0 vp vf vb np nf nb cp cf cb (some b) bf bb op of ob :=
  { h.alloc_ op with xp := fun b' hb' => by cases hb'; subst hb; exact ⟨h.size, heap_alloc_new w op⟩ }
theorem allocF (h : J B w0 w vp0 vf0 vb0 vp vf vb np nf nb cp cf cb bp bf bb op of ob) (b : Nat) (hb : b = w.heap.size) : J B w0 (w.alloc of) vp0 vf0 vb0 vp vf vb np nf nb cp cf cb bp (some b) bb op of ob :=
  { h.alloc_ of with xf := fun b' hb' => by cases hb'; subst hb; exact ⟨h.size, heap_alloc_new w of⟩ }
theorem allocB (h : J B w0 w vp0 vf0 vb0 vp vf vb np nf nb cp cf cb bp bf bb op of ob) (b : Nat) (hb : b = w.heap.size) : J B w0 (w.alloc ob) vp0 vf0 vb0 vp vf vb np nf nb cp cf cb bp bf (some b) op of ob :=
  { h.alloc_ ob with xb := fun b' hb' => by cases hb'; subst hb; exact ⟨h.size, heap_alloc_new w ob⟩ }
theorem grown_ (h : J B w0 w vp0 vf0 vb0 vp vf vb np nf nb cp cf cb bp bf bb op of ob) {row : Option Nat} (hg : w.grownBy w' row) (hrow : row = vp0.ownBlock ∨ row = vf0.ownBlock ∨ row = vb0.ownBlock) :
    w'.os = w0.os ∧ w'.tape = w0.tape ∧ w'.output = w0.output ∧ w0.heap.size ≤ w'.heap.size ∧ (∀ k, k < w0.heap.size → vp0.ownBlock ≠ some k → vf0.ownBlock ≠ some k → vb0.ownBlock ≠ some k → w'.heap[k]? = w0.heap[k]?) ∧
    (∀ b o, w0.heap.size ≤ b → w.heap[b]? = some o → w'.heap[b]? = some o) := by
  refine ⟨hg.os.trans h.os, hg.tape.trans h.tape, hg.output.trans h.output, Nat.le_trans h.size hg.size, fun k hk a b c => ?_, fun b o hb ho => box_kept hg ho (fun e => ?_)⟩
  · refine (hg.block k (by have := h.size; omega) (fun e => ?_)).trans (h.keep k hk a b c)
    rcases hrow with rfl | rfl | rfl
    · exact a e.symm
    · exact b e.symm
    · exact c e.symm
  · have := h.lt0 b (hrow.elim (fun q => .inl (q ▸ e)) (fun q => q.elim (fun q => .inr (.inl (q ▸ e))) (fun q => .inr (.inr (q ▸ e)))))
    omega
/-- where the row behind an append lies -/
def At (w : World) (v v' : Value) : Prop := v'.ownBlock = v.ownBlock ∨ ∃ b, v'.ownBlock = some b ∧ w.heap.size ≤ b
theorem At.mono (h : At w v' vp) (hle : w0.heap.size ≤ w.heap.size) : At w0 v' vp := h.elim .inl fun ⟨b, h1, h2⟩ => .inr ⟨b, h1, Nat.le_trans hle h2⟩
theorem appP {newp : List Value} (h : J B w0 w vp0 vf0 vb0 vp0 vf vb np nf nb cp cf cb bp bf bb op of ob) (hg : w.grownBy w' vp0.ownBlock) (ho : w'.ownsRow B 75 2 v' (np + 1) (cp ++ newp)) :
    J B w0 w' vp0 vf0 vb0 v' vf vb (np + 1) nf nb (cp ++ newp) cf cb bp bf bb op of ob := by
  obtain ⟨g1, g2, g3, g4, g5, g6⟩ := h.grown_ hg (.inl rfl)
  have kf := h.rf.kept hg (by by_cases e : vf.ownBlock = none; exact .inl e; exact .inr (fun e2 => by obtain ⟨k, hk⟩ := Option.ne_none_iff_exists'.1 e; exact h.npf k (e2 ▸ hk) hk))
  have kb := h.rb.kept hg (by by_cases e : vb.ownBlock = none; exact .inl e; exact .inr (fun e2 => by obtain ⟨k, hk⟩ := Option.ne_none_iff_exists'.1 e; exact h.npb k (e2 ▸ hk) hk))
  exact ⟨g1, g2, g3, g4, h.hB, g5, h.lt0, ho, kf, kb, own_ne_type ho kf (by decide), own_ne_type ho kb (by decide), h.nfb, fun b hb => ⟨(h.xp b hb).1, g6 b _ (h.xp b hb).1 (h.xp b hb).2⟩, fun b hb => ⟨(h.xf b hb).1, g6 b _ (h.xf b hb).1 (h.xf b hb).2⟩, fun b hb => ⟨(h.xb b hb).1, g6 b _ (h.xb b hb).1 (h.xb b hb).2⟩⟩
theorem appF {newf : List Value} (h : J B w0 w vp0 vf0 vb0 vp vf0 vb np nf nb cp cf cb bp bf bb op of ob) (hg : w.grownBy w' vf0.ownBlock) (ho : w'.ownsRow B 3 1 v' (nf + 1) (cf ++ newf)) (hat : At w vf0 v') :
    J B w0 w' vp0 vf0 vb0 vp v' vb np (nf + 1) nb cp (cf ++ newf) cb bp bf bb op of ob := by
  obtain ⟨g1, g2, g3, g4, g5, g6⟩ := h.grown_ hg (.inr (.inl rfl))
  have kp := h.rp.kept hg (by by_cases e : vp.ownBlock = none; exact .inl e; exact .inr (fun e2 => by obtain ⟨k, hk⟩ := Option.ne_none_iff_exists'.1 e; exact h.npf k hk (e2 ▸ hk)))
  have kb := h.rb.kept hg (by by_cases e : vb.ownBlock = none; exact .inl e; exact .inr (fun e2 => by obtain ⟨k, hk⟩ := Option.ne_none_iff_exists'.1 e; exact h.nfb k (e2 ▸ hk) hk))
  have nn : ∀ k, v'.ownBlock = some k → vb.ownBlock ≠ some k := by
    intro k hk
    rcases hat with e | ⟨b, e, hb⟩
    · exact h.nfb k (e ▸ hk)
    · intro hk'
      have := ownsRow_lt h.rb hk'
      rw [e] at hk
      simp at hk
      omega
  exact ⟨g1, g2, g3, g4, h.hB, g5, h.lt0, kp, ho, kb, own_ne_type kp ho (by decide), own_ne_type kp kb (by decide), nn, fun b hb => ⟨(h.xp b hb).1, g6 b _ (h.xp b hb).1 (h.xp b hb).2⟩, fun b hb => ⟨(h.xf b hb).1, g6 b _ (h.xf b hb).1 (h.xf b hb).2⟩, fun b hb => ⟨(h.xb b hb).1, g6 b _ (h.xb b hb).1 (h.xb b hb).2⟩⟩
theorem appB {newb : List Value} (h : J B w0 w vp0 vf0 vb0 vp vf vb0 np nf nb cp cf cb bp bf bb op of ob) (hg : w.grownBy w' vb0.ownBlock) (ho : w'.ownsRow B 3 1 v' (nb + 1) (cb ++ newb)) (hat : At w vb0 v') :
    J B w0 w' vp0 vf0 vb0 vp vf v' np nf (nb + 1) cp cf (cb ++ newb) bp bf bb op of ob := by
  obtain ⟨g1, g2, g3, g4, g5, g6⟩ := h.grown_ hg (.inr (.inr rfl))
  have kp := h.rp.kept hg (by by_cases e : vp.ownBlock = none; exact .inl e; exact .inr (fun e2 => by obtain ⟨k, hk⟩ := Option.ne_none_iff_exists'.1 e; exact h.npb k hk (e2 ▸ hk)))
  have kf := h.rf.kept hg (by by_cases e : vf.ownBlock = none; exact .inl e; exact .inr (fun e2 => by obtain ⟨k, hk⟩ := Option.ne_none_iff_exists'.1 e; exact h.nfb k hk (e2 ▸ hk)))
  have nn : ∀ k, vf.ownBlock = some k → v'.ownBlock ≠ some k := by
    intro k hk hk'
    rcases hat with e | ⟨b, e, hb⟩
    · exact h.nfb k hk (e ▸ hk')
    · have := ownsRow_lt h.rf hk
      rw [e] at hk'
      simp at hk'
      omega
  exact ⟨g1, g2, g3, g4, h.hB, g5, h.lt0, kp, kf, ho, own_ne_type kp kf (by decide), own_ne_type kp ho (by decide), nn, fun b hb => ⟨(h.xp b hb).1, g6 b _ (h.xp b hb).1 (h.xp b hb).2⟩, fun b hb => ⟨(h.xf b hb).1, g6 b _ (h.xf b hb).1 (h.xf b hb).2⟩, fun b hb => ⟨(h.xb b hb).1, g6 b _ (h.xb b hb).1 (h.xb b hb).2⟩⟩
end J
end Go.Proofs.YtcbhaeniahckhaaDoor
end
section
namespace Go.Proofs.YtcbhaeniahckhaaDoor
open Go.RowKit Go.Shelf Go.Deep

def pcells (p : Nat × Nat) : List Value := [.int .u64 (p.1 : Int), .int .u64 (p.2 : Int)]
structure CmpAt (wb w : World) (g gx gs bm : Nat) (vp vf vb : Value) (ps : List (Nat × Nat)) (fr bs : List Int) : Prop where
  below : Below wb.heap.size wb w
  gg : wb.heap.size ≤ g
  gm : wb.heap.size ≤ bm
  blk : w.heap[g]? = some (.cells #[.pointer (some ⟨gx, 0, none⟩), .pointer (some ⟨gs, 0, none⟩), vp, vf, vb, .map (some bm)] 71 (0, 0))
  rp : w.ownsRow wb.heap.size 75 2 vp ps.length (ps.flatMap pcells)
  rf : w.ownsRow wb.heap.size 3 1 vf fr.length (fr.map (Value.int .i64))
  rb : w.ownsRow wb.heap.size 3 1 vb bs.length (bs.map (Value.int .i64))
  ne : ∀ k, vf.ownBlock = some k → vb.ownBlock ≠ some k
  map : MapIs w bm ps
theorem Tryd.info75 : (Tryd.prog.info? 75).map (fun i => (i.zero, i.size, i.bytes)) = some (some (.agg #[.int .u64 0, .int .u64 0]), 2, 16) := by kernel_rfl

section
variable {P : Program}
/-- append of one element, as one step of a region that draws; what the element's block is, and where the row lies behind it -/
theorem app1_at {ops : Array Oper} {o : Oper} {a : Act} {K : Act → World → Prop} {Q : Exit → Act → World → Prop} {E : Prop} {W : World} (hgd : o.guard = none) (s x : Operand) (t : TypeId)
    (ho : o.op = .call { callee := .builtin .append, args := #[s, x], argTypes := #[t, t] }) (e : TypeId) (z : Value) (size bytes : Nat)
    (ht : P.underlying t = some (.slice e)) (hi : (P.info? e).map (fun i => (i.zero, i.size, i.bytes)) = some (some z, size, bytes)) (hzs : z.cells.size = size) (hsz : 0 < size)
    (base : Nat) (hbase : base ≤ W.heap.size)
    (v : Value) (n : Nat) (xs : List Value) (hown : W.ownsRow base e size v n xs) (h63 : n + 1 ≤ 4611686018427387904) (hbytes : (n + 1) * bytes ≤ 140737488355328)
    (b : Nat) (news : List Value) (hs : a.eval s = v) (hx : a.eval x = .slice (some ⟨b, 0, none⟩) 1 1) (hg : W.heap[b]? = some (.cells news.toArray e (0, 0))) (hl : news.length = size) (h1 : ∀ u ∈ news, u.oneCell' = true)
    (h : ∀ v' w', w'.ownsRow base e size v' (n + 1) (xs ++ news) → W.grownBy w' v.ownBlock → J.At W v v' → (∃ g cap, v' = .slice (some ⟨g, 0, none⟩) (n + 1) cap) → K (a.put o.dst v') w') :
    if Region.wanted o (yielded ops a.tmps) = true then Oper.wp P o a W K Q else E := by
  refine app1_step (w := W) hgd s x t ho e z size bytes ht hi hzs hsz 0 (Below.refl _ _) base (Nat.zero_le _) hbase v n xs hown h63 hbytes b news hs hx hg hl h1 ?_
  intro g cap w' ho' _ hg' hat _
  exact h _ w' ho' hg' (by rcases hat with hat | hat; exact .inl (by rw [hat]; rfl); exact .inr ⟨g, rfl, by omega⟩) ⟨g, cap, rfl⟩
end
namespace J
variable {ops : Array Oper} {o : Oper} {a : Act} {K : Act → World → Prop} {Q : Exit → Act → World → Prop} {E : Prop} {B : Nat} {w0 w : World} {vp0 vf0 vb0 vp vf vb : Value} {np nf nb : Nat} {cp cf cb : List Value} {bp bf bb : Option Nat} {b : Nat} {op of ob : Obj}
theorem base_le (h : J B w0 w vp0 vf0 vb0 vp vf vb np nf nb cp cf cb bp bf bb op of ob) : B ≤ w.heap.size := Nat.le_trans h.hB h.size
theorem stepP (q : Nat × Nat) (h : J B w0 w vp0 vf0 vb0 vp0 vf vb np nf nb cp cf cb (some b) bf bb (.cells #[.int .u64 (q.1 : Int), .int .u64 (q.2 : Int)] 75) of ob)
    (hgd : o.guard = none) (s x : Operand) (ho : o.op = .call { callee := .builtin .append, args := #[s, x], argTypes := #[68, 68] }) (hs : a.eval s = vp0) (hx : a.eval x = .slice (some ⟨b, 0, none⟩) 1 1) (hn : np ≤ 4294967296)
    (k : ∀ v' w', (∃ g cap, v' = .slice (some ⟨g, 0, none⟩) (np + 1) cap) → At w vp0 v' → J B w0 w' vp0 vf0 vb0 v' vf vb (np + 1) nf nb (cp ++ pcells q) cf cb (some b) bf bb (.cells #[.int .u64 (q.1 : Int), .int .u64 (q.2 : Int)] 75) of ob → K (a.put o.dst v') w') :
    if Region.wanted o (yielded ops a.tmps) = true then Oper.wp Tryd.prog o a w K Q else E :=
  app1_at hgd s x 68 ho 75 _ 2 16 Tryd.underlying68 Tryd.info75 rfl (by decide) B h.base_le vp0 np cp h.rp (by omega) (by omega) b (pcells q) hs hx (h.xp b rfl).2 rfl
    (fun u hu => by simp only [pcells, List.mem_cons, List.not_mem_nil, or_false] at hu; rcases hu with rfl | rfl <;> rfl) fun v' w' h1 h2 h3 h4 => k v' w' h4 h3 (h.appP h2 h1)
theorem stepF (f : Int) (h : J B w0 w vp0 vf0 vb0 vp vf0 vb np nf nb cp cf cb bp (some b) bb op (.cells #[.int .i64 f] 3) ob)
    (hgd : o.guard = none) (s x : Operand) (ho : o.op = .call { callee := .builtin .append, args := #[s, x], argTypes := #[27, 27] }) (hs : a.eval s = vf0) (hx : a.eval x = .slice (some ⟨b, 0, none⟩) 1 1) (hn : nf ≤ 4294967296)
    (k : ∀ v' w', (∃ g cap, v' = .slice (some ⟨g, 0, none⟩) (nf + 1) cap) → At w vf0 v' → J B w0 w' vp0 vf0 vb0 vp v' vb np (nf + 1) nb cp (cf ++ [.int .i64 f]) cb bp (some b) bb op (.cells #[.int .i64 f] 3) ob → K (a.put o.dst v') w') :
    if Region.wanted o (yielded ops a.tmps) = true then Oper.wp Tryd.prog o a w K Q else E :=
  app1_at hgd s x 27 ho 3 _ 1 8 Tryd.underlying27 Tryd.info3 rfl (by decide) B h.base_le vf0 nf cf h.rf (by omega) (by omega) b [.int .i64 f] hs hx (h.xf b rfl).2 rfl
    (fun u hu => by rw [List.mem_singleton] at hu; rw [hu]; rfl) fun v' w' h1 h2 h3 h4 => k v' w' h4 h3 (h.appF h2 h1 h3)
theorem stepB (f : Int) (h : J B w0 w vp0 vf0 vb0 vp vf vb0 np nf nb cp cf cb bp bf (some b) op of (.cells #[.int .i64 f] 3))
    (hgd : o.guard = none) (s x : Operand) (ho : o.op = .call { callee := .builtin .append, args := #[s, x], argTypes := #[27, 27] }) (hs : a.eval s = vb0) (hx : a.eval x = .slice (some ⟨b, 0, none⟩) 1 1) (hn : nb ≤ 4294967296)
    (k : ∀ v' w', (∃ g cap, v' = .slice (some ⟨g, 0, none⟩) (nb + 1) cap) → At w vb0 v' → J B w0 w' vp0 vf0 vb0 vp vf v' np nf (nb + 1) cp cf (cb ++ [.int .i64 f]) bp bf (some b) op of (.cells #[.int .i64 f] 3) → K (a.put o.dst v') w') :
    if Region.wanted o (yielded ops a.tmps) = true then Oper.wp Tryd.prog o a w K Q else E :=
  app1_at hgd s x 27 ho 3 _ 1 8 Tryd.underlying27 Tryd.info3 rfl (by decide) B h.base_le vb0 nb cb h.rb (by omega) (by omega) b [.int .i64 f] hs hx (h.xb b rfl).2 rfl
    (fun u hu => by rw [List.mem_singleton] at hu; rw [hu]; rfl) fun v' w' h1 h2 h3 h4 => k v' w' h4 h3 (h.appB h2 h1 h3)
end J
end Go.Proofs.YtcbhaeniahckhaaDoor
end
