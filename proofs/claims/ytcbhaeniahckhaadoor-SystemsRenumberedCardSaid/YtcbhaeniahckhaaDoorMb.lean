/- The systems of conform built from plain data, and their check, walked. Conditions: those that each theorem names. -/
import Derived.Test.YtcbhaeniahckhaaDoorMa
import Derived.Deep.OwnRows
import Derived.Deep.RegionHeld3
import Derived.Deep.RegionLaw
import Derived.Deep.AppendLies
import Derived.StillTailTactics
set_option linter.unusedSimpArgs false
set_option linter.unusedVariables false
section
namespace Go.Proofs.YtcbhaeniahckhaaDoor
open Go.RowKit Go.Shelf Go.Deep

structure Mv where
  frm : Nat
  kind : Nat
  lab : Nat
  tgt : Nat
def mvZ : Mv := ⟨0, 0, 0, 0⟩
def mvCells (m : Mv) : List Value := [.int .i64 m.frm, .int .i64 m.kind, .int .i64 m.lab, .int .i64 m.tgt]
def RdM (w : World) (A : Option Addr) (xs : List Mv) : Prop := ∀ i, i < xs.length → ∃ ad, A = some ad ∧ w.cell? (ad.add (i * 4)) = some (.int .i64 ((xs.getD i mvZ).frm : Int)) ∧ w.cell? ⟨(ad.add (i * 4)).block, (ad.add (i * 4)).off + 1, none⟩ = some (.int .i64 ((xs.getD i mvZ).kind : Int)) ∧ w.cell? ⟨(ad.add (i * 4)).block, (ad.add (i * 4)).off + 2, none⟩ = some (.int .i64 ((xs.getD i mvZ).lab : Int)) ∧ w.cell? ⟨(ad.add (i * 4)).block, (ad.add (i * 4)).off + 3, none⟩ = some (.int .i64 ((xs.getD i mvZ).tgt : Int))
def cmpI (a b : Int) : Int := if a < b then -1 else if b < a then 1 else 0
def orL : List Int → Int
  | [] => 0
  | x :: xs => if x = 0 then orL xs else x
def orL4 (a b : Mv) : Int := orL [cmpI a.frm b.frm, cmpI a.kind b.kind, cmpI a.lab b.lab, cmpI a.tgt b.tgt]
/-- a system, as it came in -/
structure Rx where
  N : Nat
  start : Nat
  inp : Nat
  out : Nat
  mvs : List Mv
structure Rx.ok (x : Rx) : Prop where
  hs : x.start < x.N
  hN : x.N ≤ 10
  hi : x.inp ≤ 4
  ho : x.out ≤ 4
  hm : x.mvs.length ≤ 80
  srt : ∀ i, i + 1 < x.mvs.length → orL4 (x.mvs.getD i mvZ) (x.mvs.getD (i + 1) mvZ) < 0
  mv : ∀ m ∈ x.mvs, m.frm < x.N ∧ m.tgt < x.N ∧ (m.kind = 0 ∧ m.lab < x.inp ∨ m.kind = 1 ∧ m.lab < x.out ∨ m.kind = 2 ∧ m.lab = 0)

theorem Tryd.info73 : (Tryd.prog.info? 73).map (fun i => (i.zero, i.size, i.bytes)) = some (some (.int .u64 0), 1, 8) := by kernel_rfl
theorem Tryd.info102 : (Tryd.prog.info? 102).map (fun i => (i.zero, i.size, i.bytes)) = some (some (.slice none 0 0), 1, 24) := by kernel_rfl

section
variable {P : Program}
/-- append of one element, as one step of a region that draws; the element stands in block b -/
theorem app1_step {ops : Array Oper} {o : Oper} {a : Act} {K : Act → World → Prop} {Q : Exit → Act → World → Prop} {E : Prop} {w W : World} (hgd : o.guard = none) (s x : Operand) (t : TypeId)
    (ho : o.op = .call { callee := .builtin .append, args := #[s, x], argTypes := #[t, t] }) (e : TypeId) (z : Value) (size bytes : Nat)
    (ht : P.underlying t = some (.slice e)) (hi : (P.info? e).map (fun i => (i.zero, i.size, i.bytes)) = some (some z, size, bytes)) (hzs : z.cells.size = size) (hsz : 0 < size)
    (B : Nat) (hBW : Below B w W) (base : Nat) (hbb : B ≤ base) (hbase : base ≤ W.heap.size)
    (v : Value) (n : Nat) (xs : List Value) (hown : W.ownsRow base e size v n xs) (h63 : n + 1 ≤ 4611686018427387904) (hbytes : (n + 1) * bytes ≤ 140737488355328)
    (b : Nat) (news : List Value) (hs : a.eval s = v) (hx : a.eval x = .slice (some ⟨b, 0, none⟩) 1 1) (hg : W.heap[b]? = some (.cells news.toArray e (0, 0))) (hl : news.length = size) (h1 : ∀ u ∈ news, u.oneCell' = true)
    (h : ∀ g cap w', w'.ownsRow base e size (.slice (some ⟨g, 0, none⟩) (n + 1) cap) (n + 1) (xs ++ news) → Below B w w' → W.grownBy w' v.ownBlock → (v.ownBlock = some g ∨ g = W.heap.size) → g < w'.heap.size → K (a.put o.dst (.slice (some ⟨g, 0, none⟩) (n + 1) cap)) w') :
    if Region.wanted o (yielded ops a.tmps) = true then Oper.wp P o a W K Q else E := by
  obtain ⟨i0, hi, hz0, hz1, hz2⟩ := info_parts hi
  refine step_append_lies _ hgd s x t ho base e i0 z size bytes ht hi hz0 hz1 hz2 hzs hsz v n xs hs hown ⟨b, 0, none⟩ 1 1 news hx (by simpa using hl) ?_ h1 (by decide) (by unfold maxLen; omega) hbytes hbase W.heap.size rfl ?_
  · intro j u hj
    have hadd : (⟨b, 0, none⟩ : Addr).add j = ⟨b, j, none⟩ := by unfold Addr.add; split <;> simp_all
    rw [hadd, cell_of_row _ _ j _ _ _ hg]
    simpa using hj
  · intro g cap w' hown' hgr hat hlt
    have hrow : ∀ k, v.ownBlock = some k → base ≤ k := fun k hk => (hown.lt k hk).1
    exact h g cap w' hown' (hBW.grown hgr (by omega) (fun k hk => by have := hrow k hk; omega)) hgr hat hlt
end

theorem heap2 (w : World) (o1 o2 : Obj) : ((w.alloc o1).alloc o2).drew.heap[w.heap.size + 1]? = some o2 := by
  have := heap_alloc_new (w.alloc o1) o2
  show ((w.alloc o1).alloc o2).heap[w.heap.size + 1]? = some o2
  simpa using this
theorem frz {w : World} {g : Nat} {cs : Array Value} {t : TypeId} (h : w.heap[g]? = some (.cells cs t (0, 0))) (i : Nat) : w.frozen? ⟨g, i, none⟩ = false := by simp [World.frozen?, h]
theorem heap_old2 {w : World} {o1 o2 o : Obj} {g : Nat} (h : w.heap[g]? = some o) : ((w.alloc o1).alloc o2).drew.heap[g]? = some o := by
  have hl := (Array.getElem?_eq_some_iff.1 h).1
  exact (heap_alloc_old (w.alloc o1) o2 (by simp; omega)).trans ((heap_alloc_old w o1 hl).trans h)
/-- a block that is not the appended row's -/
theorem grown_blk {w w1 : World} {g : Nat} {o : Obj} {v : Value} {base : Nat} (hg : w.grownBy w1 v.ownBlock) (h : w.heap[g]? = some o) (hv : ∀ k, v.ownBlock = some k → base ≤ k) (hb : g < base) : w1.heap[g]? = some o :=
  (hg.block g (Array.getElem?_eq_some_iff.1 h).1 (fun e => by have := hv g e.symm; omega)).trans h

/-- the memory while the rows are made: k of them -/
structure L1 (w wr : World) (x : Rx) (mv : Value) (k : Nat) (vb : Value) (rb : Nat → Nat) : Prop where
  below : Below w.heap.size w wr
  size : w.heap.size + 1 + 1 + 1 ≤ wr.heap.size
  b0 : wr.heap[w.heap.size]? = some (.cells #[.int .i64 x.N, .int .i64 x.start, .int .i64 x.inp, .int .i64 x.out, mv] 24 (0, 0))
  b2 : wr.heap[w.heap.size + 1 + 1]? = some (.cells #[.int .i64 x.N, .int .i64 x.start, .int .i64 x.inp, .int .i64 x.out, mv, vb, .slice (some ⟨w.heap.size + 1, 0, none⟩) x.N x.N] 104 (0, 0))
  b1 : wr.rowIs (w.heap.size + 1) 73 x.N (fun _ => .int .u64 0)
  own : wr.ownsRow (w.heap.size + 1 + 1 + 1) 102 1 vb k ((List.range k).map fun a => Value.slice (some ⟨rb a, 0, none⟩) (x.inp + x.out) (x.inp + x.out))
  rows : ∀ a, a < k → w.heap.size + 1 + 1 + 1 ≤ rb a ∧ wr.rowIs (rb a) 73 (x.inp + x.out) (fun _ => .int .u64 0)
  inj : ∀ a b, a < k → b < k → rb a = rb b → a = b
theorem L1.step {w wr w1 : World} {x : Rx} {mv : Value} {k cv gb cap : Nat} {Av : Option Addr} {rb : Nat → Nat} (h : L1 w wr x mv k (.slice Av k cv) rb)
    (ho : w1.ownsRow (w.heap.size + 1 + 1 + 1) 102 1 (.slice (some ⟨gb, 0, none⟩) (k + 1) cap) (k + 1) (((List.range k).map fun a => Value.slice (some ⟨rb a, 0, none⟩) (x.inp + x.out) (x.inp + x.out)) ++ [.slice (some ⟨wr.heap.size, 0, none⟩) (x.inp + x.out) (x.inp + x.out)]))
    (hB : Below w.heap.size w w1) {o2 : Obj} (hg : ((wr.alloc (.cells (madeCells #[.int .u64 0] (x.inp + x.out)) 73)).alloc o2).drew.grownBy w1 (Value.slice Av k cv).ownBlock)
    (hat : (Value.slice Av k cv).ownBlock = some gb ∨ gb = ((wr.alloc (.cells (madeCells #[.int .u64 0] (x.inp + x.out)) 73)).alloc o2).drew.heap.size) (hlt : gb < w1.heap.size) :
    L1 w (w1.setCell ⟨w.heap.size + 1 + 1, 5, none⟩ (.slice (some ⟨gb, 0, none⟩) (k + 1) cap)) x mv (k + 1) (.slice (some ⟨gb, 0, none⟩) (k + 1) cap) (fun a => if a = k then wr.heap.size else rb a) := by
  have hbase : ∀ j, (Value.slice Av k cv).ownBlock = some j → w.heap.size + 1 + 1 + 1 ≤ j := fun j hj => (h.own.lt j hj).1
  have hty : ∀ j (cs : Array Value), (Value.slice Av k cv).ownBlock = some j → wr.heap[j]? = some (.cells cs 73 (0, 0)) → False := by
    intro j cs hj hc
    rcases h.own.2 with ⟨e1, _⟩ | ⟨g, cap', cur, e1, _, hh, _⟩
    · rw [e1] at hj; simp [Value.ownBlock] at hj
    · rw [e1] at hj; simp [Value.ownBlock] at hj; subst hj
      rw [hc] at hh; simp at hh
  have hsz := h.size
  have hold : ∀ j o, wr.heap[j]? = some o → (Value.slice Av k cv).ownBlock ≠ some j → w1.heap[j]? = some o := fun j o hj hne =>
    (hg.block j (by have := (Array.getElem?_eq_some_iff.1 (heap_old2 (o1 := (.cells (madeCells #[.int .u64 0] (x.inp + x.out)) 73)) (o2 := o2) hj)).1; exact this) (fun e => hne e.symm)).trans (heap_old2 hj)
  have hs1 := hg.size
  have hs2 : wr.heap.size + 2 ≤ w1.heap.size := by
    have : ((wr.alloc (.cells (madeCells #[.int .u64 0] (x.inp + x.out)) 73)).alloc o2).drew.heap.size = wr.heap.size + 2 := by show ((wr.alloc _).alloc _).heap.size = _; simp
    omega
  have hgb : gb ≠ w.heap.size + 1 + 1 ∧ w.heap.size + 1 + 1 + 1 ≤ gb := by
    have := (ho.lt gb rfl).1
    omega
  have hne2 : ∀ j, j ≠ w.heap.size + 1 + 1 → (w1.setCell ⟨w.heap.size + 1 + 1, 5, none⟩ (.slice (some ⟨gb, 0, none⟩) (k + 1) cap)).heap[j]? = w1.heap[j]? := fun j hj => Below.heap_setCell _ _ _ _ hj
  have hnb : ∀ j, j < w.heap.size + 1 + 1 + 1 → (Value.slice Av k cv).ownBlock ≠ some j := fun j hj e => by have := hbase j e; omega
  refine ⟨hB.setCell (by simp; omega) _, by simp [World.setCell]; omega, ?_, ?_, ?_, ?_, ?_, ?_⟩
  · rw [hne2 _ (by omega)]; exact hold _ _ h.b0 (hnb _ (by omega))
  · have := hold _ _ h.b2 (hnb _ (by omega))
    simp only [World.setCell, Array.getElem?_modify, if_true, this, Option.map_some]
    simp
  · refine World.rowIs.of_block h.b1 ?_
    rw [hne2 _ (by omega)]
    obtain ⟨o, ho'⟩ : ∃ o, wr.heap[w.heap.size + 1]? = some o := ⟨_, Array.getElem?_eq_getElem (by omega)⟩
    rw [ho', hold _ _ ho' (hnb _ (by omega))]
  · have e : ((List.range (k + 1)).map fun a => Value.slice (some ⟨(fun a => if a = k then wr.heap.size else rb a) a, 0, none⟩) (x.inp + x.out) (x.inp + x.out)) = ((List.range k).map fun a => Value.slice (some ⟨rb a, 0, none⟩) (x.inp + x.out) (x.inp + x.out)) ++ [.slice (some ⟨wr.heap.size, 0, none⟩) (x.inp + x.out) (x.inp + x.out)] := by
      rw [List.range_succ, List.map_append]
      congr 1
      · apply List.map_congr_left
        intro a ha
        have : a ≠ k := by have := List.mem_range.1 ha; omega
        simp [this]
      · simp
    rw [e]
    exact ownsRow_setCell_below ho (by simp) _
  · intro a ha
    by_cases e : a = k
    · subst e
      simp only [if_true]
      refine ⟨by omega, ?_⟩
      have hmade := World.rowIs_made wr (.int .u64 0) (x.inp + x.out) 73
      refine World.rowIs.of_block hmade ?_
      rw [hne2 _ (by omega)]
      have hb := hg.block wr.heap.size (by show _ < ((wr.alloc _).alloc _).heap.size; simp; omega) (fun e => by have := (h.own.lt _ e.symm).2; omega)
      rw [hb]
      exact heap_alloc_old _ _ (by simp)
    · simp only [e, if_false]
      obtain ⟨r1, r2⟩ := h.rows a (by omega)
      refine ⟨r1, World.rowIs.of_block r2 ?_⟩
      rw [hne2 _ (by omega)]
      obtain ⟨cs, hc, hc2⟩ : ∃ cs, wr.heap[rb a]? = some (.cells cs 73 (0, 0)) ∧ True := by
        obtain ⟨cs, hc, _⟩ := r2
        exact ⟨cs, hc, trivial⟩
      rw [hc, hold _ _ hc (fun e => hty _ _ e hc)]
  · intro a b ha hb e
    have hlt' : ∀ a, a < k → rb a < wr.heap.size := fun a ha => (h.rows a ha).2.lt
    by_cases ea : a = k <;> by_cases eb : b = k
    · omega
    · simp only [ea, eb, if_true, if_false] at e; have := hlt' b (by omega); omega
    · simp only [ea, eb, if_true, if_false] at e; have := hlt' a (by omega); omega
    · simp only [ea, eb, if_false] at e; exact h.inj a b (by omega) (by omega) e
end Go.Proofs.YtcbhaeniahckhaaDoor
end
section
namespace Go.Proofs.YtcbhaeniahckhaaDoor
open Go.RowKit Go.Shelf Go.Deep

def evOf (x : Rx) (m : Mv) : Nat := if m.kind = 0 then m.lab else x.inp + m.lab
def byStep (x : Rx) (a e o : Nat) (m : Mv) : Nat := if m.kind ≠ 2 ∧ m.frm = a ∧ evOf x m = e then o ||| 2 ^ m.tgt else o
def silStep (a o : Nat) (m : Mv) : Nat := if m.kind = 2 ∧ m.frm = a then o ||| 2 ^ m.tgt else o
def byOf (x : Rx) (l : List Mv) (a e : Nat) : Nat := l.foldl (byStep x a e) 0
def silOf (l : List Mv) (a : Nat) : Nat := l.foldl (silStep a) 0
def sysOf (x : Rx) : SysP := ⟨x.N, x.start, x.inp, x.out, byOf x x.mvs, silOf x.mvs⟩
theorem byOf_snoc (x : Rx) (l : List Mv) (m : Mv) (a e : Nat) : byOf x (l ++ [m]) a e = byStep x a e (byOf x l a e) m := by unfold byOf; rw [List.foldl_append]; rfl
theorem silOf_snoc (l : List Mv) (m : Mv) (a : Nat) : silOf (l ++ [m]) a = silStep a (silOf l a) m := by unfold silOf; rw [List.foldl_append]; rfl
theorem foldl_lt {β : Type} {N : Nat} (f : Nat → β → Nat) : ∀ (l : List β), (∀ o m, m ∈ l → o < N → f o m < N) → ∀ o, o < N → l.foldl f o < N
  | [], _, _, h => h
  | m :: l, hf, o, h => foldl_lt f l (fun o m' hm => hf o m' (List.mem_cons_of_mem _ hm)) _ (hf o m List.mem_cons_self h)
theorem byOf_lt (x : Rx) (hx : x.ok) (l : List Mv) (hl : ∀ m ∈ l, m ∈ x.mvs) (a e : Nat) : byOf x l a e < 2 ^ x.N := by
  refine foldl_lt _ l (fun o m hm h => ?_) 0 (Nat.two_pow_pos _)
  unfold byStep
  split
  · exact Nat.or_lt_two_pow h (Nat.pow_lt_pow_right (by decide) (hx.mv m (hl m hm)).2.1)
  · exact h
theorem silOf_lt (x : Rx) (hx : x.ok) (l : List Mv) (hl : ∀ m ∈ l, m ∈ x.mvs) (a : Nat) : silOf l a < 2 ^ x.N := by
  refine foldl_lt _ l (fun o m hm h => ?_) 0 (Nat.two_pow_pos _)
  unfold silStep
  split
  · exact Nat.or_lt_two_pow h (Nat.pow_lt_pow_right (by decide) (hx.mv m (hl m hm)).2.1)
  · exact h

/-- the memory while the moves are entered -/
structure L2 (w wr : World) (x : Rx) (mv : Value) (gy cy : Nat) (rb : Nat → Nat) (by_ : Nat → Nat → Nat) (sil : Nat → Nat) : Prop where
  below : Below w.heap.size w wr
  size : w.heap.size + 1 + 1 + 1 ≤ wr.heap.size
  b0 : wr.heap[w.heap.size]? = some (.cells #[.int .i64 x.N, .int .i64 x.start, .int .i64 x.inp, .int .i64 x.out, mv] 24 (0, 0))
  b2 : wr.heap[w.heap.size + 1 + 1]? = some (.cells #[.int .i64 x.N, .int .i64 x.start, .int .i64 x.inp, .int .i64 x.out, mv, .slice (some ⟨gy, 0, none⟩) x.N cy, .slice (some ⟨w.heap.size + 1, 0, none⟩) x.N x.N] 104 (0, 0))
  b1 : wr.rowIs (w.heap.size + 1) 73 x.N (fun a => .int .u64 (sil a))
  own : wr.ownsRow (w.heap.size + 1 + 1 + 1) 102 1 (.slice (some ⟨gy, 0, none⟩) x.N cy) x.N ((List.range x.N).map fun a => Value.slice (some ⟨rb a, 0, none⟩) (x.inp + x.out) (x.inp + x.out))
  rows : ∀ a, a < x.N → w.heap.size + 1 + 1 + 1 ≤ rb a ∧ wr.rowIs (rb a) 73 (x.inp + x.out) (fun e => .int .u64 (by_ a e))
  inj : ∀ a b, a < x.N → b < x.N → rb a = rb b → a = b
theorem L1.to2 {w wr : World} {x : Rx} (hx : x.ok) {mv vb : Value} {rb : Nat → Nat} (h : L1 w wr x mv x.N vb rb) : ∃ gy cy, vb = .slice (some ⟨gy, 0, none⟩) x.N cy ∧ L2 w wr x mv gy cy rb (byOf x []) (silOf []) := by
  have h0 : 0 < x.N := by have := hx.hs; omega
  have ho := h.own
  obtain ⟨_, h2⟩ := ho
  rcases h2 with ⟨_, e⟩ | ⟨g, cap, cur, rfl, _⟩
  · omega
  · exact ⟨g, cap, rfl, h.below, h.size, h.b0, h.b2, h.b1, h.own, h.rows, h.inj⟩
namespace L2
variable {w wr : World} {x : Rx} {mv : Value} {gy cy : Nat} {rb : Nat → Nat} {by_ : Nat → Nat → Nat} {sil : Nat → Nat}
theorem gy_ge (h : L2 w wr x mv gy cy rb by_ sil) : w.heap.size + 1 + 1 + 1 ≤ gy ∧ gy < wr.heap.size := h.own.lt gy rfl
theorem step_ (h : L2 w wr x mv gy cy rb by_ sil) {w1 : World} (hB : Below wr.heap.size wr w1) : L2 w w1 x mv gy cy rb by_ sil := by
  have hk : ∀ {j o}, wr.heap[j]? = some o → w1.heap[j]? = some o := fun {j o} hj => (hB.block j (Array.getElem?_eq_some_iff.1 hj).1).trans hj
  have hr : ∀ {b n f}, wr.rowIs b 73 n f → w1.rowIs b 73 n f := fun {b n f} hb => hb.of_block (hB.block b hb.lt)
  refine ⟨below_then h.below h.below.size hB, Nat.le_trans h.size hB.size, hk h.b0, hk h.b2, hr h.b1, ?_, fun a ha => ⟨(h.rows a ha).1, hr (h.rows a ha).2⟩, h.inj⟩
  exact h.own.kept (row := none) ⟨hB.os, hB.tape, hB.output, hB.size, fun k hk' _ => hB.block k hk'⟩ (.inr (by simp [Value.ownBlock]))
theorem ty_gy (h : L2 w wr x mv gy cy rb by_ sil) {b n : Nat} {f : Nat → Value} (hb : wr.rowIs b 73 n f) : b ≠ gy := by
  rintro rfl
  obtain ⟨cs, hc, _⟩ := hb
  rcases h.own.2 with ⟨e1, _⟩ | ⟨g, cap', cur, e1, _, hh, _⟩
  · simp at e1
  · simp at e1; obtain ⟨rfl, _⟩ := e1; rw [hc] at hh; simp at hh
theorem row_ptr (h : L2 w wr x mv gy cy rb by_ sil) (a : Nat) (ha : a < x.N) : wr.cell? ⟨gy, a, none⟩ = some (.slice (some ⟨rb a, 0, none⟩) (x.inp + x.out) (x.inp + x.out)) := by
  have := h.own.cells (g := gy) rfl a (.slice (some ⟨rb a, 0, none⟩) (x.inp + x.out) (x.inp + x.out)) (by simp [ha])
  have hadd : (⟨gy, 0, none⟩ : Addr).add a = ⟨gy, a, none⟩ := by unfold Addr.add; split <;> simp_all
  rwa [hadd] at this
/-- a store into a row -/
theorem setBy (h : L2 w wr x mv gy cy rb by_ sil) (a e v : Nat) (ha : a < x.N) : L2 w (wr.setCell ⟨rb a, e, none⟩ (.int .u64 v)) x mv gy cy rb (fun a' e' => if a' = a ∧ e' = e then v else by_ a' e') sil := by
  obtain ⟨r1, r2⟩ := h.rows a ha
  have hne := h.ty_gy r2
  have hk : ∀ j, j ≠ rb a → (wr.setCell ⟨rb a, e, none⟩ (.int .u64 v)).heap[j]? = wr.heap[j]? := fun j hj => Below.heap_setCell _ _ _ _ hj
  refine ⟨h.below.setCell (by simp; omega) _, by simp [World.setCell]; exact h.size, by rw [hk _ (by omega)]; exact h.b0, by rw [hk _ (by omega)]; exact h.b2, h.b1.of_block (hk _ (by omega)), ?_, ?_, h.inj⟩
  · refine h.own.kept (row := some (rb a)) ⟨rfl, rfl, rfl, by simp [World.setCell], fun k _ hk' => hk k (fun e => hk' (by rw [e]))⟩ (.inr ?_)
    simp [Value.ownBlock]; exact fun e => hne e.symm
  · intro a' ha'
    obtain ⟨q1, q2⟩ := h.rows a' ha'
    refine ⟨q1, ?_⟩
    by_cases e1 : a' = a
    · subst e1
      exact (q2.set e (.int .u64 v)).congr (fun i _ => by by_cases e2 : i = e <;> simp [e2])
    · refine (q2.of_block (hk _ (fun e2 => e1 (h.inj _ _ ha' ha e2)))).congr (fun i _ => by simp [e1])
/-- a store into the silent ones -/
theorem setSil (h : L2 w wr x mv gy cy rb by_ sil) (a v : Nat) : L2 w (wr.setCell ⟨w.heap.size + 1, a, none⟩ (.int .u64 v)) x mv gy cy rb by_ (fun a' => if a' = a then v else sil a') := by
  have hg := h.gy_ge
  have hk : ∀ j, j ≠ w.heap.size + 1 → (wr.setCell ⟨w.heap.size + 1, a, none⟩ (.int .u64 v)).heap[j]? = wr.heap[j]? := fun j hj => Below.heap_setCell _ _ _ _ hj
  refine ⟨h.below.setCell (by simp) _, by simp [World.setCell]; exact h.size, by rw [hk _ (by omega)]; exact h.b0, by rw [hk _ (by omega)]; exact h.b2, ?_, ?_, ?_, h.inj⟩
  · exact (h.b1.set a (.int .u64 v)).congr (fun i _ => by by_cases e2 : i = a <;> simp [e2])
  · refine h.own.kept (row := some (w.heap.size + 1)) ⟨rfl, rfl, rfl, by simp [World.setCell], fun k _ hk' => hk k (fun e => hk' (by rw [e]))⟩ (.inr ?_)
    simp [Value.ownBlock]; omega
  · intro a' ha'
    obtain ⟨q1, q2⟩ := h.rows a' ha'
    exact ⟨q1, q2.of_block (hk _ (by omega))⟩
theorem congr (h : L2 w wr x mv gy cy rb by_ sil) {by' : Nat → Nat → Nat} {sil' : Nat → Nat} (h1 : ∀ a e, by_ a e = by' a e) (h2 : ∀ a, sil a = sil' a) : L2 w wr x mv gy cy rb by' sil' := by
  obtain rfl : by_ = by' := by funext a e; exact h1 a e
  obtain rfl : sil = sil' := by funext a; exact h2 a
  exact h
theorem drew_ (h : L2 w wr x mv gy cy rb by_ sil) : L2 w wr.drew x mv gy cy rb by_ sil := ⟨below_drew h.below, h.size, h.b0, h.b2, h.b1, h.own, h.rows, h.inj⟩
theorem alloc_ (h : L2 w wr x mv gy cy rb by_ sil) (o : Obj) : L2 w (wr.alloc o) x mv gy cy rb by_ sil := h.step_ ((Below.refl _ _).alloc (Nat.le_refl _) _)
end L2
end Go.Proofs.YtcbhaeniahckhaaDoor
end
section
namespace Go.Proofs.YtcbhaeniahckhaaDoor
open Go.RowKit Go.Shelf Go.Deep

def Sys (w : World) (g : Nat) (S : SysP) : Prop := ∃ mv Ab cb As cs Ar cr, SysAt w g S mv Ab cb As cs Ar cr
theorem RdM.below {w w' : World} {A : Option Addr} {xs : List Mv} (h : RdM w A xs) (hB : Below w.heap.size w w') : RdM w' A xs :=
  fun i hi => let ⟨ad, e1, e2, e3, e4, e5⟩ := h i hi; ⟨ad, e1, cell_later hB e2, cell_later hB e3, cell_later hB e4, cell_later hB e5⟩
theorem L2.sys {w wr : World} {x : Rx} (hx : x.ok) {mv : Value} {gy cy : Nat} {rb : Nat → Nat} (h : L2 w wr x mv gy cy rb (byOf x x.mvs) (silOf x.mvs)) : Sys wr (w.heap.size + 1 + 1) (sysOf x) := by
  refine ⟨mv, ⟨gy, 0, none⟩, cy, ⟨w.heap.size + 1, 0, none⟩, x.N, fun a => some ⟨rb a, 0, none⟩, fun _ => x.inp + x.out, h.b2, hx.hs, hx.hN, hx.hi, hx.ho, ?_, ?_, ?_, fun a e => byOf_lt x hx _ (fun _ h => h) a e, fun a => silOf_lt x hx _ (fun _ h => h) a⟩
  · intro a ha
    have hadd : (⟨gy, 0, none⟩ : Addr).add a = ⟨gy, a, none⟩ := by unfold Addr.add; split <;> simp_all
    rw [hadd]; exact h.row_ptr a ha
  · intro a ha e he
    have hadd : (⟨rb a, 0, none⟩ : Addr).add e = ⟨rb a, e, none⟩ := by unfold Addr.add; split <;> simp_all
    exact ⟨_, rfl, by rw [hadd]; exact (h.rows a ha).2.cell he⟩
  · intro a ha
    have hadd : (⟨w.heap.size + 1, 0, none⟩ : Addr).add a = ⟨w.heap.size + 1, a, none⟩ := by unfold Addr.add; split <;> simp_all
    rw [hadd]; exact h.b1.cell ha

theorem L1.start (w : World) (x : Rx) (mv : Value) : L1 w (((w.alloc (.cells #[.int .i64 x.N, .int .i64 x.start, .int .i64 x.inp, .int .i64 x.out, mv] 24)).alloc (.cells (madeCells #[.int .u64 0] x.N) 73)).alloc (.cells #[.int .i64 x.N, .int .i64 x.start, .int .i64 x.inp, .int .i64 x.out, mv, .slice none 0 0, .slice (some ⟨w.heap.size + 1, 0, none⟩) x.N x.N] 104)).drew x mv 0 (.slice none 0 0) (fun _ => 0) := by
  generalize e0 : Obj.cells #[.int .i64 x.N, .int .i64 x.start, .int .i64 x.inp, .int .i64 x.out, mv] 24 = o0
  generalize e2 : Obj.cells #[.int .i64 x.N, .int .i64 x.start, .int .i64 x.inp, .int .i64 x.out, mv, .slice none 0 0, .slice (some ⟨w.heap.size + 1, 0, none⟩) x.N x.N] 104 = o2
  have s1 : (w.alloc o0).heap.size = w.heap.size + 1 := by simp
  have s2 : ((w.alloc o0).alloc (.cells (madeCells #[.int .u64 0] x.N) 73)).heap.size = w.heap.size + 1 + 1 := by simp
  refine ⟨below_drew ((((Below.refl _ _).alloc (Nat.le_refl _) _).alloc (by simp) _).alloc (by simp; omega) _), by show _ ≤ (((w.alloc o0).alloc _).alloc o2).heap.size; simp, ?_, ?_, ?_, World.ownsRow_nil _ _ _ _, fun a ha => by omega, fun a b ha => by omega⟩
  · rw [e0]
    show (((w.alloc o0).alloc _).alloc o2).heap[w.heap.size]? = _
    rw [heap_alloc_old _ _ (by simp; omega), heap_alloc_old _ _ (by simp), heap_alloc_new]
  · rw [e2]
    show (((w.alloc o0).alloc _).alloc o2).heap[w.heap.size + 1 + 1]? = _
    have := heap_alloc_new ((w.alloc o0).alloc (.cells (madeCells #[.int .u64 0] x.N) 73)) o2
    rwa [s2] at this
  · have h1 := World.rowIs_made (w.alloc o0) (.int .u64 0) x.N 73
    rw [s1] at h1
    exact (h1.alloc o2).drew

set_option maxHeartbeats 4000000 in
theorem systemOf_calls (w : World) (x : Rx) (hx : x.ok) (A : Option Addr) (c : Nat) (hr : RdM w A x.mvs) :
    Calls Tryd.prog 39 #[.agg #[.int .i64 x.N, .int .i64 x.start, .int .i64 x.inp, .int .i64 x.out, .slice A x.mvs.length c]] w fun e' w' => ∃ g, e' = .returned (.pointer (some ⟨g, 0, none⟩)) ∧ Sys w' g (sysOf x) ∧ Below w.heap.size w w' := by
  have HR := Sd.mk hr
  clear hr
  have hN := hx.hN
  have hi := hx.hi
  have ho := hx.ho
  have hm := hx.hm
  have hmk := run_make_row' (P := Tryd.prog) 102 73 (.int .u64 0) 8 Tryd.underlying102 Tryd.info73 rfl .i64 .i64 x.N (by omega) (by omega)
  go_enter Tryd.func39, Tryd.ntmps39
  go_wp2
  go_region
  go_wp2
  clear hmk
  have hmk := run_make_row' (P := Tryd.prog) 102 73 (.int .u64 0) 8 Tryd.underlying102 Tryd.info73 rfl .i64 .i64 (x.inp + x.out) (by omega) (by omega)
  rw [show ((x.inp + x.out : Nat) : Int) = (x.inp : Int) + (x.out : Int) from by omega] at hmk
  have hwr : IntKind.i64.wrap ((x.inp : Int) + (x.out : Int)) = (x.inp : Int) + (x.out : Int) := IntWalk.i64_in _ (by omega)
  go_loopw [15] (fun i wr => ∃ (k : Nat) (vb : Value) (rb : Nat → Nat), k ≤ x.N ∧ i = .int .i64 k ∧ Sd (L1 w wr x (.slice A x.mvs.length c) k vb rb)) (fun i _ => x.N - (intOf i).toNat)
  case atStart => exact ⟨0, .slice none 0 0, fun _ => 0, Nat.zero_le _, rfl, ⟨L1.start _ _ _⟩⟩
  case round =>
    obtain ⟨k, vb, rb, hk, rfl, hL⟩ := hrel
    by_cases hlt : k < x.N
    · obtain ⟨Av, cv, rfl⟩ : ∃ Av cv, vb = .slice Av k cv := by
        rcases hL.out.own.2 with ⟨e1, e2⟩ | ⟨g, cap, cur, e1, _⟩
        · exact ⟨_, _, e1.trans (by rw [e2])⟩
        · exact ⟨_, _, e1⟩
      have c2 := cell_blk hL.out.b0 2
      have c3 := cell_blk hL.out.b0 3
      have c5 := cell_blk hL.out.b2 5
      have f5 := frz hL.out.b2 5
      have hsz' := hL.out.size
      have hl5 : w.heap.size + 1 + 1 < wr.heap.size := by omega
      have hl0 : w.heap.size < wr.heap.size := by omega
      have hl6 : w.heap.size + 1 + 1 < wr.heap.size + 1 := by omega
      go_wp2
      go_region_law (refine app1_step (w := w) rfl (.tmp 21) (.tmp 28) 101 rfl 102 (.slice none 0 0) 1 24 Tryd.underlying101 Tryd.info102 rfl (by decide) w.heap.size (below_drew ((hL.out.below.alloc hL.out.below.size _).alloc (by simp; omega) _)) (w.heap.size + 1 + 1 + 1) (by omega) (by simp; omega) (.slice Av k cv) k ((List.range k).map fun a => Value.slice (some ⟨rb a, 0, none⟩) (x.inp + x.out) (x.inp + x.out)) (World.ownsRow.alloc (World.ownsRow.alloc hL.out.own _) _) (by omega) (by omega) (wr.heap.size + 1) [.slice (some ⟨wr.heap.size, 0, none⟩) (x.inp + x.out) (x.inp + x.out)] rfl rfl (heap2 _ _ _) rfl (fun u hu => by rw [List.mem_singleton] at hu; rw [hu]; rfl) ?_; intro gb cap w1 ho1 hB1 hg1 hat1 hlt1; have h21 := grown_blk hg1 (heap_old2 hL.out.b2) (fun k hk => (hL.out.own.lt k hk).1) (by omega); have c51 := cell_blk h21 5; have f51 := frz h21 5; have HS := Sd.mk (hL.out.step ho1 hB1 hg1 hat1 hlt1); clear ho1 hB1 hg1 hat1 hlt1 h21)
      all_goals
        go_wp2
        go_roundw
        case rel => exact ⟨k + 1, _, _, by omega, by go_num, HS⟩
        case measure => simp [intOf]; omega
    · obtain rfl : k = x.N := by omega
      obtain ⟨gy, cy, rfl, hL2⟩ := hL.out.to2 hx
      have HL2 := Sd.mk hL2
      clear hL2 hL
      have c4 := cell_blk HL2.out.b0 4
      go_wp2
      clear c4 hmk hwr
      go_loopw [36] (fun i wr => ∃ (j : Nat), j ≤ x.mvs.length ∧ i = .int .i64 j ∧ Sd (L2 w wr x (.slice A x.mvs.length c) gy cy rb (byOf x (x.mvs.take j)) (silOf (x.mvs.take j)))) (fun i _ => x.mvs.length - (intOf i).toNat)
      case atStart => exact ⟨0, Nat.zero_le _, rfl, HL2⟩
      case round =>
        clear HL2
        rename_i wr1 _ _ _ _
        obtain ⟨j, hj, rfl, HL2⟩ := hrel
        by_cases hlt : j < x.mvs.length
        · obtain ⟨ad, e1, e2, e3, e4, e5⟩ := (HR.out.below HL2.out.below) j hlt
          cases e1
          have hmem : x.mvs.getD j mvZ ∈ x.mvs := by rw [List.getD_eq_getElem?_getD, List.getElem?_eq_getElem hlt]; exact List.getElem_mem hlt
          have htake : Sd (x.mvs.take (j + 1) = x.mvs.take j ++ [x.mvs.getD j mvZ]) := ⟨by rw [List.take_succ_eq_append_getElem hlt, List.getD_eq_getElem?_getD, List.getElem?_eq_getElem hlt]; rfl⟩
          obtain ⟨v1, v2, v3⟩ := hx.mv _ hmem
          generalize x.mvs.getD j mvZ = m at *
          have hgy := HL2.out.gy_ge
          have hsz := HL2.out.size
          have hby := byOf_lt x hx (x.mvs.take j) (fun m hm => List.mem_of_mem_take hm) m.frm (evOf x m)
          have hp := two_pow_le hx.hN
          obtain ⟨p, hp2, hp3, e6⟩ := one_shl m.tgt (by omega)
          have HP := Sd.mk hp2
          clear hp2
          have c5 := cell_blk HL2.out.b2 5
          have c6 := cell_blk HL2.out.b2 6
          have c2 := cell_blk HL2.out.b0 2
          have hl5 : w.heap.size + 1 + 1 < wr.heap.size := by omega
          have hl1 : w.heap.size + 1 < wr.heap.size := by omega
          have hl0 : w.heap.size < wr.heap.size := by omega
          have hrb := (HL2.out.rows m.frm v1).2.lt
          have hgy2 := hgy.2
          have hrow := HL2.out.row_ptr m.frm v1
          rcases v3 with ⟨k0, hl⟩ | ⟨k1, hl⟩ | ⟨k2, hl⟩
          · have ek : Sd (m.kind = 0) := ⟨k0⟩
            rw [k0] at e3
            have hev : Sd (evOf x m = m.lab) := ⟨by unfold evOf; rw [if_pos k0]⟩
            clear k0
            have hcell := (HL2.out.rows m.frm v1).2.cell (i := m.lab) (by omega)
            rw [hev.out] at hby
            have hold : Sd (byOf x (x.mvs.take j) m.frm m.lab = byOf x (x.mvs.take j) m.frm m.lab) := ⟨rfl⟩
            generalize h_ : byOf x (x.mvs.take j) m.frm m.lab = old at hby hcell
            have HOLD := Sd.mk h_
            clear h_ hold
            have hfz := (HL2.out.rows m.frm v1).2.frozen m.lab
            have eo := u64_or_nat old p (by omega) (by omega)
            have HS := Sd.mk (fun o => ((HL2.out.setBy m.frm m.lab (old ||| p) v1).alloc_ o).drew_)
            have HC1 : Sd (∀ a e, (if a = m.frm ∧ e = m.lab then old ||| p else byOf x (x.mvs.take j) a e) = byOf x (x.mvs.take (j + 1)) a e) := ⟨fun a e => by
              rw [htake.out, byOf_snoc]
              unfold byStep
              rw [ek.out, hev.out, HP.out, ← HOLD.out]
              by_cases e1 : a = m.frm <;> by_cases e2 : e = m.lab
              · subst e1 e2; simp
              · have : ¬ m.lab = e := fun h => e2 h.symm
                simp [e2, this]
              · have : ¬ m.frm = a := fun h => e1 h.symm
                simp [e1, this]
              · have : ¬ m.frm = a := fun h => e1 h.symm
                simp [e1, this]⟩
            have HC2 : Sd (∀ a, silOf (x.mvs.take j) a = silOf (x.mvs.take (j + 1)) a) := ⟨fun a => by rw [htake.out, silOf_snoc]; unfold silStep; rw [ek.out]; simp⟩
            go_wp2
            go_region
            go_wp2
            go_roundw
            case rel => exact ⟨j + 1, by omega, by go_num, ⟨(HS.out _).congr HC1.out HC2.out⟩⟩
            case measure => simp [intOf]; omega
          · have ek : Sd (m.kind = 1) := ⟨k1⟩
            rw [k1] at e3
            have hev : Sd (evOf x m = x.inp + m.lab) := ⟨by unfold evOf; rw [if_neg (by omega)]⟩
            clear k1
            have hcell := (HL2.out.rows m.frm v1).2.cell (i := x.inp + m.lab) (by omega)
            rw [hev.out] at hby
            have hold : Sd (byOf x (x.mvs.take j) m.frm (x.inp + m.lab) = byOf x (x.mvs.take j) m.frm (x.inp + m.lab)) := ⟨rfl⟩
            generalize h_ : byOf x (x.mvs.take j) m.frm (x.inp + m.lab) = old at hby hcell
            have HOLD := Sd.mk h_
            clear h_ hold
            have hfz := (HL2.out.rows m.frm v1).2.frozen (x.inp + m.lab)
            have eo := u64_or_nat old p (by omega) (by omega)
            have HS := Sd.mk (fun o => ((HL2.out.setBy m.frm (x.inp + m.lab) (old ||| p) v1).alloc_ o).drew_)
            have HC1 : Sd (∀ a e, (if a = m.frm ∧ e = x.inp + m.lab then old ||| p else byOf x (x.mvs.take j) a e) = byOf x (x.mvs.take (j + 1)) a e) := ⟨fun a e => by
              rw [htake.out, byOf_snoc]
              unfold byStep
              rw [ek.out, hev.out, HP.out, ← HOLD.out]
              by_cases e1 : a = m.frm <;> by_cases e2 : e = x.inp + m.lab
              · subst e1 e2; simp
              · have : ¬ x.inp + m.lab = e := fun h => e2 h.symm
                simp [e2, this]
              · have : ¬ m.frm = a := fun h => e1 h.symm
                simp [e1, this]
              · have : ¬ m.frm = a := fun h => e1 h.symm
                simp [e1, this]⟩
            have HC2 : Sd (∀ a, silOf (x.mvs.take j) a = silOf (x.mvs.take (j + 1)) a) := ⟨fun a => by rw [htake.out, silOf_snoc]; unfold silStep; rw [ek.out]; simp⟩
            have hw2 : IntKind.i64.wrap ((x.inp : Int) + (m.lab : Int)) = (x.inp : Int) + (m.lab : Int) := IntWalk.i64_in _ (by omega)
            have hw3 : ((x.inp : Int) + (m.lab : Int)).toNat = x.inp + m.lab := by omega
            have hw4 : (0 : Int) ≤ (x.inp : Int) + (m.lab : Int) := by omega
            go_wp2
            go_region
            go_wp2
            go_roundw
            case rel => exact ⟨j + 1, by omega, by go_num, ⟨(HS.out _).congr HC1.out HC2.out⟩⟩
            case measure => simp [intOf]; omega
          · have ek : Sd (m.kind = 2) := ⟨k2⟩
            rw [k2] at e3
            clear k2
            have hcell := HL2.out.b1.cell (i := m.frm) (by omega)
            have hsl := silOf_lt x hx (x.mvs.take j) (fun m hm => List.mem_of_mem_take hm) m.frm
            generalize h_ : silOf (x.mvs.take j) m.frm = old at hsl hcell
            have HOLD := Sd.mk h_
            clear h_
            have hfz := HL2.out.b1.frozen m.frm
            have eo := u64_or_nat old p (by omega) (by omega)
            have HS := Sd.mk (fun o => ((HL2.out.setSil m.frm (old ||| p)).alloc_ o).drew_)
            have HC2 : Sd (∀ a, (if a = m.frm then old ||| p else silOf (x.mvs.take j) a) = silOf (x.mvs.take (j + 1)) a) := ⟨fun a => by
              rw [htake.out, silOf_snoc]
              unfold silStep
              rw [ek.out, HP.out, ← HOLD.out]
              by_cases e1 : a = m.frm
              · subst e1; simp
              · have : ¬ m.frm = a := fun h => e1 h.symm
                simp [e1, this]⟩
            have HC1 : Sd (∀ a e, byOf x (x.mvs.take j) a e = byOf x (x.mvs.take (j + 1)) a e) := ⟨fun a e => by rw [htake.out, byOf_snoc]; unfold byStep; rw [ek.out]; simp⟩
            go_wp2
            go_region
            go_wp2
            go_roundw
            case rel => exact ⟨j + 1, by omega, by go_num, ⟨(HS.out _).congr HC1.out HC2.out⟩⟩
            case measure => simp [intOf]; omega
        · obtain rfl : j = x.mvs.length := by omega
          rw [List.take_length] at HL2
          have HS := Sd.mk (HL2.out.sys hx)
          have HB := Sd.mk HL2.out.below
          go_wp2
          go_ret
          exact ⟨_, rfl, HS.out, HB.out⟩
end Go.Proofs.YtcbhaeniahckhaaDoor
end
section
namespace Go.Proofs.YtcbhaeniahckhaaDoor
open Go.RowKit Go.Shelf Go.Deep

theorem unless_calls (b : Bool) (c : Int) (w : World) : Calls Tryd.prog 31 #[.bool b, .int .i64 c] w fun e w' => e = .returned (.int .i64 (if b then 0 else c)) ∧ w = w' := by
  cases b
  all_goals
    go_enter Tryd.func31, Tryd.ntmps31
    go_wp2
    go_ret
    exact ⟨rfl, rfl⟩
theorem spans_calls (n lo hi : Int) (w : World) : Calls Tryd.prog 38 #[.int .i64 n, .int .i64 lo, .int .i64 hi] w fun e w' => e = .returned (.bool (decide (lo ≤ n) && decide (n ≤ hi))) ∧ w = w' := by
  by_cases h : lo ≤ n
  · have hd : decide (lo ≤ n) = true := by simpa using h
    go_enter Tryd.func38, Tryd.ntmps38
    go_wp2
    go_ret
    exact ⟨ret_bool (by simp [h]), rfl⟩
  · have hd : decide (lo ≤ n) = false := by simpa using h
    go_enter Tryd.func38, Tryd.ntmps38
    go_wp2
    go_ret
    exact ⟨ret_bool (by first | rfl | simp [hd]), rfl⟩
theorem isNaN_calls (n : Int) (w : World) : Calls Tryd.prog 89 #[.int .i64 n] w fun e w' => e = .returned (.bool false) ∧ w = w' := by
  go_enter Tryd.func89, Tryd.ntmps89
  go_wp2
  go_ret
  exact ⟨ret_bool (by simp), rfl⟩
theorem compare_calls (a b : Int) (w : World) : Calls Tryd.prog 80 #[.int .i64 a, .int .i64 b] w fun e w' => e = .returned (.int .i64 (cmpI a b)) ∧ w = w' := by
  rcases Int.lt_trichotomy a b with h | h | h
  · have hc : Sd (cmpI a b = -1) := ⟨by unfold cmpI; rw [if_pos h]⟩
    go_enter Tryd.func80, Tryd.ntmps80
    go_wp2_with (go_at_call 89; refine (isNaN_calls _ _).mono ?_; rintro e w1 ⟨rfl, rfl⟩)
    go_ret
    exact ⟨ret_i64 (by rw [hc.out]), rfl⟩
  · subst h
    have hc : Sd (cmpI a a = 0) := ⟨by unfold cmpI; simp⟩
    go_enter Tryd.func80, Tryd.ntmps80
    go_wp2_with (go_at_call 89; refine (isNaN_calls _ _).mono ?_; rintro e w1 ⟨rfl, rfl⟩)
    go_ret
    exact ⟨ret_i64 (by rw [hc.out]), rfl⟩
  · have hc : Sd (cmpI a b = 1) := ⟨by unfold cmpI; rw [if_neg (by omega), if_pos h]⟩
    go_enter Tryd.func80, Tryd.ntmps80
    go_wp2_with (go_at_call 89; refine (isNaN_calls _ _).mono ?_; rintro e w1 ⟨rfl, rfl⟩)
    go_ret
    exact ⟨ret_i64 (by rw [hc.out]), rfl⟩
/-- a slice of whole numbers that can be read -/
def RdZ (w : World) (A : Option Addr) (xs : List Int) : Prop := ∀ i, i < xs.length → ∃ ad, A = some ad ∧ w.cell? (ad.add i) = some (.int .i64 (xs.getD i 0))
theorem orL_drop (xs : List Int) (j : Nat) (h : j < xs.length) : orL (xs.drop j) = if xs.getD j 0 = 0 then orL (xs.drop (j + 1)) else xs.getD j 0 := by
  rw [List.drop_eq_getElem_cons h, List.getD_eq_getElem?_getD, List.getElem?_eq_getElem h]; rfl
set_option maxHeartbeats 400000 in
theorem or37_calls (A : Option Addr) (c : Nat) (xs : List Int) (hl : xs.length ≤ 1000) (w : World) (hr : RdZ w A xs) : Calls Tryd.prog 37 #[.slice A xs.length c] w fun e w' => e = .returned (.int .i64 (orL xs)) ∧ w = w' := by
  have HR := Sd.mk hr
  clear hr
  go_enter Tryd.func37, Tryd.ntmps37
  go_wp2
  go_loop [8] (fun i => ∃ (j : Nat), j ≤ xs.length ∧ i = .int .i64 j ∧ Sd (orL (xs.drop j) = orL xs)) (fun i => xs.length - (intOf i).toNat)
  case atStart => exact ⟨0, Nat.zero_le _, rfl, ⟨rfl⟩⟩
  case round =>
    obtain ⟨j, hj, rfl, ho⟩ := hrel
    by_cases hlt : j < xs.length
    · obtain ⟨ad, e1, e2⟩ := HR.out j hlt
      have hd := Sd.mk (orL_drop xs j hlt)
      generalize xs.getD j 0 = v at *
      cases e1
      by_cases hv : v = 0
      · subst hv
        go_wp2
        go_round
        case rel => exact ⟨j + 1, by omega, by go_num, ⟨by rw [← ho.out, hd.out]; simp⟩⟩
        case measure => simp [intOf]; omega
      · have hr : Sd (orL xs = v) := ⟨by rw [← ho.out, hd.out, if_neg hv]⟩
        have hne : (v != 0) = true := by rw [bne_iff_ne]; exact hv
        go_wp2
        go_ret
        exact ⟨ret_i64 (by rw [hr.out]), rfl⟩
    · obtain rfl : j = xs.length := by omega
      have hr : Sd (orL xs = 0) := ⟨by rw [← ho.out, List.drop_length]; rfl⟩
      go_wp2
      go_ret
      exact ⟨ret_i64 (by rw [hr.out]), rfl⟩
set_option maxHeartbeats 400000 in
theorem or79_calls (A : Option Addr) (c : Nat) (xs : List Int) (hl : xs.length ≤ 1000) (w : World) (hr : RdZ w A xs) : Calls Tryd.prog 79 #[.slice A xs.length c] w fun e w' => e = .returned (.int .i64 (orL xs)) ∧ w = w' := by
  have HR := Sd.mk hr
  clear hr
  go_enter Tryd.func79, Tryd.ntmps79
  go_wp2
  go_loop [8] (fun i => ∃ (j : Nat), j ≤ xs.length ∧ i = .int .i64 j ∧ Sd (orL (xs.drop j) = orL xs)) (fun i => xs.length - (intOf i).toNat)
  case atStart => exact ⟨0, Nat.zero_le _, rfl, ⟨rfl⟩⟩
  case round =>
    obtain ⟨j, hj, rfl, ho⟩ := hrel
    by_cases hlt : j < xs.length
    · obtain ⟨ad, e1, e2⟩ := HR.out j hlt
      have hd := Sd.mk (orL_drop xs j hlt)
      generalize xs.getD j 0 = v at *
      cases e1
      by_cases hv : v = 0
      · subst hv
        go_wp2
        go_round
        case rel => exact ⟨j + 1, by omega, by go_num, ⟨by rw [← ho.out, hd.out]; simp⟩⟩
        case measure => simp [intOf]; omega
      · have hr : Sd (orL xs = v) := ⟨by rw [← ho.out, hd.out, if_neg hv]⟩
        have hne : (v != 0) = true := by rw [bne_iff_ne]; exact hv
        go_wp2
        go_ret
        exact ⟨ret_i64 (by rw [hr.out]), rfl⟩
    · obtain rfl : j = xs.length := by omega
      have hr : Sd (orL xs = 0) := ⟨by rw [← ho.out, List.drop_length]; rfl⟩
      go_wp2
      go_ret
      exact ⟨ret_i64 (by rw [hr.out]), rfl⟩
/-- a slice literal that was just made -/
theorem rdZ_new (w : World) (xs : List Int) (cs : List Value) (t : TypeId) (hc : cs = xs.map (Value.int .i64)) : RdZ (w.alloc (.cells cs.toArray t)) (some ⟨w.heap.size, 0, none⟩) xs := by
  intro i hi
  refine ⟨_, rfl, ?_⟩
  have hadd : (⟨w.heap.size, 0, none⟩ : Addr).add i = ⟨w.heap.size, i, none⟩ := by unfold Addr.add; split <;> simp_all
  rw [hadd, cell_blk (heap_alloc_new w _), hc]
  simp [hi]
theorem rdZ_blk {W : World} {b : Nat} {t : TypeId} (xs : List Int) (h : W.heap[b]? = some (.cells (xs.map (Value.int .i64)).toArray t (0, 0))) : RdZ W (some ⟨b, 0, none⟩) xs := by
  intro i hi
  refine ⟨_, rfl, ?_⟩
  have hadd : (⟨b, 0, none⟩ : Addr).add i = ⟨b, i, none⟩ := by unfold Addr.add; split <;> simp_all
  rw [hadd, cell_blk h]
  simp [hi]
theorem alloc_drew_at (W : World) (o : Obj) (n : Nat) (hn : n = W.heap.size) : (W.alloc o).drew.heap[n]? = some o := by subst hn; exact heap_alloc_new W o
theorem alloc_at (W : World) (o : Obj) (n : Nat) (hn : n = W.heap.size) : (W.alloc o).heap[n]? = some o := by subst hn; exact heap_alloc_new W o
set_option maxHeartbeats 4000000 in
set_option maxRecDepth 100000 in
theorem compareMoves_calls (a b : Mv) (w : World) : Calls Tryd.prog 85 #[.agg (mvCells a).toArray, .agg (mvCells b).toArray] w fun e w' => e = .returned (.int .i64 (orL4 a b)) ∧ Below w.heap.size w w' := by
  unfold mvCells
  have hsz : w.heap.size < w.heap.size + 1 := by omega
  go_enter Tryd.func85, Tryd.ntmps85
  go_wp2
  go_region_held3 (fun wx => wx.cell? ⟨w.heap.size, 0, none⟩ = some (.int .i64 a.frm) ∧ wx.cell? ⟨w.heap.size, 1, none⟩ = some (.int .i64 a.kind) ∧ wx.cell? ⟨w.heap.size, 2, none⟩ = some (.int .i64 a.lab) ∧ wx.cell? ⟨w.heap.size, 3, none⟩ = some (.int .i64 a.tgt) ∧ wx.cell? ⟨w.heap.size + 1, 0, none⟩ = some (.int .i64 b.frm) ∧ wx.cell? ⟨w.heap.size + 1, 1, none⟩ = some (.int .i64 b.kind) ∧ wx.cell? ⟨w.heap.size + 1, 2, none⟩ = some (.int .i64 b.lab) ∧ wx.cell? ⟨w.heap.size + 1, 3, none⟩ = some (.int .i64 b.tgt)) (go_keep) (first | (go_at_call 80; refine (compare_calls _ _ _).mono ?_; rintro e w1 ⟨rfl, rfl⟩) | (go_at_call 79; refine (or79_calls _ _ [cmpI a.frm b.frm, cmpI a.kind b.kind, cmpI a.lab b.lab, cmpI a.tgt b.tgt] (by simp) _ (rdZ_blk _ (alloc_drew_at _ _ _ (by simp)))).mono ?_; rintro e w1 ⟨rfl, rfl⟩))
  go_wp2
  go_ret
  exact ⟨rfl, below_drew ((((Below.refl _ _).alloc (Nat.le_refl _) _).alloc (by simp) _).alloc (by simp; omega) _)⟩
theorem spans_yes (n lo hi : Int) (h1 : lo ≤ n) (h2 : n ≤ hi) (w : World) : Calls Tryd.prog 38 #[.int .i64 n, .int .i64 lo, .int .i64 hi] w fun e w' => e = .returned (.bool true) ∧ w = w' :=
  (spans_calls n lo hi w).mono fun e w' ⟨h, hw⟩ => ⟨by rw [h]; simp [h1, h2], hw⟩
end Go.Proofs.YtcbhaeniahckhaaDoor
end
section
namespace Go.Proofs.YtcbhaeniahckhaaDoor
open Go.RowKit Go.Shelf Go.Deep
def rxV (x : Rx) (A : Option Addr) (c : Nat) : Value := .agg #[.int .i64 x.N, .int .i64 x.start, .int .i64 x.inp, .int .i64 x.out, .slice A x.mvs.length c]
set_option maxHeartbeats 16000000 in
set_option maxRecDepth 100000 in
theorem check_calls (w : World) (x : Rx) (hx : x.ok) (A : Option Addr) (c : Nat) (hr : RdM w A x.mvs) :
    Calls Tryd.prog 70 #[rxV x A c] w fun e w' => e = .returned (.tuple #[.int .i64 0, .int .i64 0]) ∧ Below w.heap.size w w' := by
  unfold rxV
  have HR := Sd.mk hr
  clear hr
  have hs := hx.hs
  have hN := hx.hN
  have hi := hx.hi
  have ho := hx.ho
  have hm := hx.hm
  go_enter Tryd.func70, Tryd.ntmps70
  go_wp2_with (go_at_call 38; refine (spans_yes _ _ _ (by omega) (by omega) _).mono ?_; rintro e w1 ⟨rfl, rfl⟩)
  go_loopw [39] (fun i wr => ∃ (j : Nat), j ≤ x.mvs.length ∧ i = .int .i64 j ∧ Sd (Below w.heap.size w wr) ∧ w.heap.size < wr.heap.size ∧ Sd (wr.heap[w.heap.size]? = some (.cells #[.int .i64 x.N, .int .i64 x.start, .int .i64 x.inp, .int .i64 x.out, .slice A x.mvs.length c] 24 (0, 0)))) (fun i _ => x.mvs.length - (intOf i).toNat)
  case atStart => exact ⟨0, Nat.zero_le _, rfl, ⟨(Below.refl _ _).alloc (Nat.le_refl _) _⟩, by simp, ⟨heap_alloc_new _ _⟩⟩
  case round =>
    obtain ⟨j, hj, rfl, hB, hsz, hb⟩ := hrel
    have c0 := cell_blk hb.out 0
    have c2 := cell_blk hb.out 2
    have c3 := cell_blk hb.out 3
    have c4 := cell_blk hb.out 4
    by_cases hlt : j < x.mvs.length
    · obtain ⟨ad, e1, e2, e3, e4, e5⟩ := (HR.out.below hB.out) j hlt
      cases e1
      have hmem : x.mvs.getD j mvZ ∈ x.mvs := by rw [List.getD_eq_getElem?_getD, List.getElem?_eq_getElem hlt]; exact List.getElem_mem hlt
      obtain ⟨v1, v2, v3⟩ := hx.mv _ hmem
      have hprev := Sd.mk (hx.srt (j - 1))
      have hRj := Sd.mk ((HR.out.below hB.out) (j - 1))
      have hmj : Sd (x.mvs.getD j mvZ = x.mvs.getD j mvZ) := ⟨rfl⟩
      generalize h_ : x.mvs.getD j mvZ = m at e2 e3 e4 e5 v1 v2 v3
      have HM := Sd.mk h_
      clear h_ hmj hmem
      have HBA : Sd (∀ o, Below w.heap.size w (wr.alloc o)) := ⟨fun o => hB.out.alloc hB.out.size o⟩
      have HBD : Sd (∀ o, Below w.heap.size w (wr.alloc o).drew) := ⟨fun o => below_drew (hB.out.alloc hB.out.size o)⟩
      by_cases hj0 : j = 0
      · subst hj0
        rw [Nat.zero_mul, show ad.add 0 = ad from rfl] at e2 e3 e4 e5
        clear hprev hRj
        have hd0 : decide ((0 : Int) < 0) = false := rfl
        rcases v3 with ⟨k0, hl⟩ | ⟨k1, hl⟩ | ⟨k2, hl⟩
        · have b0 : ((m.kind : Int) == 0) = true := by simp [k0]
          clear k0
          go_wp2_with (go_at_call 38; refine (spans_yes _ _ _ (by omega) (by omega) _).mono ?_; rintro e w1 ⟨rfl, rfl⟩)
          go_quiet (fail)
          go_wp2
          go_roundw
          case rel => exact ⟨0 + 1, by omega, by go_num, ⟨below_drewN (HBA.out _) _⟩, by show _ < (wr.alloc _).heap.size; simp; omega, ⟨(heap_alloc_old _ _ (by omega)).trans hb.out⟩⟩
          case measure => simp [intOf]; omega
        · have b0 : ((m.kind : Int) == 0) = false := by simp [k1]
          have b1 : ((m.kind : Int) == 1) = true := by simp [k1]
          clear k1
          go_wp2_with (go_at_call 38; refine (spans_yes _ _ _ (by omega) (by omega) _).mono ?_; rintro e w1 ⟨rfl, rfl⟩)
          go_quiet (fail)
          go_wp2
          go_roundw
          case rel => exact ⟨0 + 1, by omega, by go_num, ⟨below_drewN (HBA.out _) _⟩, by show _ < (wr.alloc _).heap.size; simp; omega, ⟨(heap_alloc_old _ _ (by omega)).trans hb.out⟩⟩
          case measure => simp [intOf]; omega
        · have b0 : ((m.kind : Int) == 0) = false := by simp [k2]
          have b1 : ((m.kind : Int) == 1) = false := by simp [k2]
          have b2 : ((m.kind : Int) == 2) = true := by simp [k2]
          replace hl : m.lab ≤ 0 := by omega
          clear k2
          go_wp2_with (go_at_call 38; refine (spans_yes _ _ _ (by omega) (by omega) _).mono ?_; rintro e w1 ⟨rfl, rfl⟩)
          go_quiet (fail)
          go_wp2
          go_roundw
          case rel => exact ⟨0 + 1, by omega, by go_num, ⟨below_drewN (HBA.out _) _⟩, by show _ < (wr.alloc _).heap.size; simp; omega, ⟨(heap_alloc_old _ _ (by omega)).trans hb.out⟩⟩
          case measure => simp [intOf]; omega
      · obtain ⟨ad2, q1, q2, q3, q4, q5⟩ := hRj.out (by omega)
        cases q1
        have hp := hprev.out (by omega)
        rw [show j - 1 + 1 = j from by omega, HM.out] at hp
        generalize x.mvs.getD (j - 1) mvZ = m0 at *
        obtain ⟨i, hi2⟩ : ∃ i, i = j - 1 := ⟨_, rfl⟩
        rw [← hi2] at q2 q3 q4 q5
        have hw : IntKind.i64.wrap ((j : Int) - 1) = (i : Int) := by rw [IntWalk.i64_in _ (by omega)]; omega
        have hi0 : (0 : Int) ≤ (i : Int) := by omega
        have hi1 : (i : Int) < (x.mvs.length : Int) := by omega
        have hbl := World.block_lt_of_cell? _ _ q2
        clear hi2 hprev hRj
        have hd0 : decide ((0 : Int) < (j : Int)) = true := by simp; omega
        have hd1 : decide (0 < j) = true := by simp; omega
        have hpos : 0 < j := by omega
        have HC : Sd (orL4 m0 m < 0) := ⟨hp⟩
        have hc2 : decide (0 ≤ orL4 m0 m) = false := by simp; omega
        clear hp
        rcases v3 with ⟨k0, hl⟩ | ⟨k1, hl⟩ | ⟨k2, hl⟩
        · have b0 : ((m.kind : Int) == 0) = true := by simp [k0]
          clear k0
          go_wp2_with (go_at_call 38; refine (spans_yes _ _ _ (by omega) (by omega) _).mono ?_; rintro e w1 ⟨rfl, rfl⟩)
          go_region_with (go_at_call 85; refine (compareMoves_calls m0 m _).mono ?_; rintro e w1 ⟨rfl, hB1⟩)
          all_goals
            have hs1 := hB1.size
            have hb1 := hB1.block w.heap.size
            have HB1 := Sd.mk hB1
            have HB2 := Sd.mk hb1
            clear hB1 hb1
            go_wp2
            go_roundw
            case rel => exact ⟨j + 1, by omega, by go_num, ⟨below_then (HBD.out _) (HBD.out _).size HB1.out⟩, by (have : wr.heap.size + 1 ≤ w1.heap.size := by simpa using hs1); omega, ⟨(HB2.out (by show _ < (wr.alloc _).heap.size; simp; omega)).trans ((heap_alloc_old _ _ (by omega)).trans hb.out)⟩⟩
            case measure => simp [intOf]; omega
        · have b0 : ((m.kind : Int) == 0) = false := by simp [k1]
          have b1 : ((m.kind : Int) == 1) = true := by simp [k1]
          clear k1
          go_wp2_with (go_at_call 38; refine (spans_yes _ _ _ (by omega) (by omega) _).mono ?_; rintro e w1 ⟨rfl, rfl⟩)
          go_region_with (go_at_call 85; refine (compareMoves_calls m0 m _).mono ?_; rintro e w1 ⟨rfl, hB1⟩)
          all_goals
            have hs1 := hB1.size
            have hb1 := hB1.block w.heap.size
            have HB1 := Sd.mk hB1
            have HB2 := Sd.mk hb1
            clear hB1 hb1
            go_wp2
            go_roundw
            case rel => exact ⟨j + 1, by omega, by go_num, ⟨below_then (HBD.out _) (HBD.out _).size HB1.out⟩, by (have : wr.heap.size + 1 ≤ w1.heap.size := by simpa using hs1); omega, ⟨(HB2.out (by show _ < (wr.alloc _).heap.size; simp; omega)).trans ((heap_alloc_old _ _ (by omega)).trans hb.out)⟩⟩
            case measure => simp [intOf]; omega
        · have b0 : ((m.kind : Int) == 0) = false := by simp [k2]
          have b1 : ((m.kind : Int) == 1) = false := by simp [k2]
          have b2 : ((m.kind : Int) == 2) = true := by simp [k2]
          replace hl : m.lab ≤ 0 := by omega
          clear k2
          go_wp2_with (go_at_call 38; refine (spans_yes _ _ _ (by omega) (by omega) _).mono ?_; rintro e w1 ⟨rfl, rfl⟩)
          go_region_with (go_at_call 85; refine (compareMoves_calls m0 m _).mono ?_; rintro e w1 ⟨rfl, hB1⟩)
          all_goals
            have hs1 := hB1.size
            have hb1 := hB1.block w.heap.size
            have HB1 := Sd.mk hB1
            have HB2 := Sd.mk hb1
            clear hB1 hb1
            go_wp2
            go_roundw
            case rel => exact ⟨j + 1, by omega, by go_num, ⟨below_then (HBD.out _) (HBD.out _).size HB1.out⟩, by (have : wr.heap.size + 1 ≤ w1.heap.size := by simpa using hs1); omega, ⟨(HB2.out (by show _ < (wr.alloc _).heap.size; simp; omega)).trans ((heap_alloc_old _ _ (by omega)).trans hb.out)⟩⟩
            case measure => simp [intOf]; omega
    · obtain rfl : j = x.mvs.length := by omega
      go_wp2
      go_ret2
      exact ⟨rfl, hB.out⟩
end Go.Proofs.YtcbhaeniahckhaaDoor
end
