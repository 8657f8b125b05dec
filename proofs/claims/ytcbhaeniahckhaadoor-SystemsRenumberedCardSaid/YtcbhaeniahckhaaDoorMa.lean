/- The small functions of the package conform (sets of states, first, after, shows, along), walked: each answers what its plain twin says. Conditions: those that each theorem names. -/
import Derived.Test.YtcbhaeniahckhaaDoorProg
import Derived.WalkKit
import Derived.KernelRfl
import Derived.RowKit3
import Derived.Maps.AppendAt
import Derived.Deep.LoopGhost
import Derived.Deep.QuietTactic
import Derived.BigQuiet
import Derived.Deep.DeepCutAuto
import Derived.Lib.Hide
import Derived.Outline
import Derived.Shelf.Lay
import Derived.Shelf.Spec.TrailingZeros
set_option linter.unusedSimpArgs false
set_option linter.unusedVariables false
section
namespace Go.Proofs.YtcbhaeniahckhaaDoor
open Go.RowKit Go.Shelf

/-- a fact kept from the walk -/
structure Sd (p : Prop) : Prop where mk :: (out : p)
section
variable {P : Program}
/-- append of one element to a row of the call's own; the element stands in a new block -/
theorem app1 {ops : Array Oper} {rest : List Oper} {o : Oper} {a : Act} {Q : Exit → Act → World → Prop} {w W : World} (hgd : o.guard = none) (s x : Operand) (t : TypeId)
    (ho : o.op = .call { callee := .builtin .append, args := #[s, x], argTypes := #[t, t] }) (e : TypeId) (z : Value) (size bytes : Nat)
    (ht : P.underlying t = some (.slice e)) (hi : (P.info? e).map (fun i => (i.zero, i.size, i.bytes)) = some (some z, size, bytes)) (hzs : z.cells.size = size) (hsz : 0 < size)
    (B : Nat) (hBW : Below B w W) (base : Nat) (hbb : B ≤ base) (hbase : base ≤ W.heap.size)
    (v : Value) (n : Nat) (xs : List Value) (hown : W.ownsRow base e size v n xs) (h63 : n + 1 ≤ 4611686018427387904) (hbytes : (n + 1) * bytes ≤ 140737488355328)
    (news : List Value) (hs : a.eval s = v) (hx : a.eval x = .slice (some ⟨W.heap.size, 0, none⟩) 1 1) (hl : news.length = size) (h1 : ∀ u ∈ news, u.oneCell' = true)
    (h : ∀ v' w', w'.ownsRow base e size v' (n + 1) (xs ++ news) → Below B w w' → W.grownBy w' v.ownBlock → (v'.ownBlock = v.ownBlock ∨ ∃ b, v'.ownBlock = some b ∧ W.heap.size ≤ b) → wpList P ops Q rest (a.put o.dst v') w') :
    wpList P ops Q (o :: rest) a (W.alloc (.cells news.toArray e)) := by
  obtain ⟨i0, hi, hz0, hz1, hz2⟩ := info_parts hi
  have hg : (W.alloc (.cells news.toArray e)).heap[W.heap.size]? = some (.cells news.toArray e (0, 0)) := heap_alloc_new W _
  refine wpList_append_own_at _ hgd s x t ho base e i0 z size bytes ht hi hz0 hz1 hz2 hzs hsz v n xs hs (hown.alloc _) ⟨W.heap.size, 0, none⟩ 1 1 news hx (by simpa using hl) ?_ h1 (by unfold maxLen; omega) hbytes (by simp; omega) ?_
  · intro j u hj
    have hadd : (⟨W.heap.size, 0, none⟩ : Addr).add j = ⟨W.heap.size, j, none⟩ := by unfold Addr.add; split <;> simp_all
    rw [hadd, cell_of_row _ _ j _ _ _ hg]
    simpa using hj
  · intro v' w' hown' hgr _ hat
    have hrow : ∀ k, v.ownBlock = some k → base ≤ k := fun k hk => (hown.lt k hk).1
    have hgW : W.grownBy w' v.ownBlock := ⟨hgr.os, hgr.tape, hgr.output, by have := hgr.size; simp at this; omega, fun k hk hne => (hgr.block k (by simp; omega) hne).trans (heap_alloc_old W _ hk)⟩
    refine h v' w' hown' (hBW.grown hgW (by omega) (fun k hk => by have := hrow k hk; omega)) hgW ?_
    rcases hat with hat | hat
    · exact .inl hat
    · exact .inr ⟨_, hat, by simp⟩
end
/-- the struct behind a `*system` -/
structure SysP where
  N : Nat
  start : Nat
  inp : Nat
  out : Nat
  by_ : Nat → Nat → Nat
  sil : Nat → Nat

structure SysAt (w : World) (g : Nat) (S : SysP) (mv : Value) (Ab : Addr) (cb : Nat) (As : Addr) (cs : Nat) (Ar : Nat → Option Addr) (cr : Nat → Nat) : Prop where
  blk : w.heap[g]? = some (.cells #[.int .i64 S.N, .int .i64 S.start, .int .i64 S.inp, .int .i64 S.out, mv, .slice (some Ab) S.N cb, .slice (some As) S.N cs] 104 (0, 0))
  hs : S.start < S.N
  hN : S.N ≤ 10
  hi : S.inp ≤ 4
  ho : S.out ≤ 4
  rows : ∀ a, a < S.N → w.cell? (Ab.add a) = some (.slice (Ar a) (S.inp + S.out) (cr a))
  cells : ∀ a, a < S.N → ∀ e, e < S.inp + S.out → ∃ ad, Ar a = some ad ∧ w.cell? (ad.add e) = some (.int .u64 (S.by_ a e))
  sils : ∀ a, a < S.N → w.cell? (As.add a) = some (.int .u64 (S.sil a))
  byb : ∀ a e, S.by_ a e < 2 ^ S.N
  silb : ∀ a, S.sil a < 2 ^ S.N


theorem cell_blk {w : World} {g : Nat} {cs : Array Value} {t : TypeId} (h : w.heap[g]? = some (.cells cs t (0, 0))) (i : Nat) : w.cell? ⟨g, i, none⟩ = cs[i]? := cell_of_row w g i cs t (0, 0) h
theorem ret_bool {a b : Bool} (h : a = b) : Ending.returned (.bool a) = .returned (.bool b) := by rw [h]
theorem ret_u64 {a b : Int} (h : a = b) : Ending.returned (.int .u64 a) = .returned (.int .u64 b) := by rw [h]
theorem ret_i64 {a b : Int} (h : a = b) : Ending.returned (.int .i64 a) = .returned (.int .i64 b) := by rw [h]
theorem below_drewN {B : Nat} {w W : World} (h : Below B w W) (n : Nat) : Below B w (W.drewN n) := ⟨h.os, h.tape, h.output, h.size, h.block⟩
theorem below_drew {B : Nat} {w W : World} (h : Below B w W) : Below B w W.drew := ⟨h.os, h.tape, h.output, h.size, h.block⟩
theorem below_then {B : Nat} {w w1 w2 : World} (h : Below B w w1) (hB : B ≤ w1.heap.size) (k : Below w1.heap.size w1 w2) : Below B w w2 := h.trans (k.mono hB)

set_option maxHeartbeats 400000 in
theorem silence_calls (w : World) (g : Nat) (S : SysP) {mv Ab cb As cs Ar cr} (h : SysAt w g S mv Ab cb As cs Ar cr) :
    Calls Tryd.prog 48 #[.pointer (some ⟨g, 0, none⟩)] w fun e w' => e = .returned (.int .i64 ((S.inp : Int) + S.out)) ∧ Below w.heap.size w w' := by
  have hi := h.hi
  have ho := h.ho
  have c2 := cell_blk h.blk 2
  have c3 := cell_blk h.blk 3
  go_enter Tryd.func48, Tryd.ntmps48
  go_wp2
  go_quiet (fail)
  go_wp2
  go_ret
  exact ⟨rfl, below_drewN (Below.refl _ _) _⟩

/-- no output and no silent move leaves a state -/
def quietUpto (S : SysP) (a : Nat) : Nat → Bool
  | 0 => true
  | k + 1 => quietUpto S a k && S.by_ a (S.inp + k) == 0
def quietS (S : SysP) (a : Nat) : Bool := quietUpto S a S.out && S.sil a == 0
theorem quietUpto_false (S : SysP) (a : Nat) : ∀ n k, k < n → S.by_ a (S.inp + k) ≠ 0 → quietUpto S a n = false
  | 0, k, h, _ => by omega
  | n + 1, k, h, hne => by
    unfold quietUpto
    by_cases e : k = n
    · subst e; simp [hne]
    · rw [quietUpto_false S a n k (by omega) hne]; rfl

theorem cell_later {w w' : World} {p : Addr} {v : Value} (hB : Below w.heap.size w w') (h : w.cell? p = some v) : w'.cell? p = some v := (hB.cell (World.block_lt_of_cell? w p h)).trans h
theorem SysAt.below {w w' : World} {g : Nat} {S : SysP} {mv Ab cb As cs Ar cr} (h : SysAt w g S mv Ab cb As cs Ar cr) (hB : Below w.heap.size w w') : SysAt w' g S mv Ab cb As cs Ar cr :=
  ⟨(hB.block g (Array.getElem?_eq_some_iff.1 h.blk).1).trans h.blk, h.hs, h.hN, h.hi, h.ho, fun a ha => cell_later hB (h.rows a ha),
    fun a ha e he => let ⟨ad, e1, e2⟩ := h.cells a ha e he; ⟨ad, e1, cell_later hB e2⟩, fun a ha => cell_later hB (h.sils a ha), h.byb, h.silb⟩

set_option maxHeartbeats 1000000 in
theorem isQuiet_calls (w : World) (g : Nat) (S : SysP) (a : Nat) (ha : a < S.N) {mv Ab cb As cs Ar cr} (h : SysAt w g S mv Ab cb As cs Ar cr) :
    Calls Tryd.prog 71 #[.pointer (some ⟨g, 0, none⟩), .int .i64 a] w fun e w' => e = .returned (.bool (quietS S a)) ∧ Below w.heap.size w w' := by
  have hi := h.hi
  have ho := h.ho
  have hN := h.hN
  have c3 := cell_blk h.blk 3
  go_enter Tryd.func71, Tryd.ntmps71
  go_wp2
  go_loopw [5, 11] (fun _ i wr => ∃ k : Nat, k ≤ S.out ∧ i = .int .i64 k ∧ Sd (quietUpto S a k = true) ∧ Below w.heap.size w wr) (fun _ i _ => S.out - (intOf i).toNat)
  case atStart => exact ⟨0, Nat.zero_le _, rfl, ⟨rfl⟩, Below.refl _ _⟩
  case round =>
    obtain ⟨k, hk, rfl, hq, hB⟩ := hrel
    have h' := h.below hB
    clear c3
    have c2 := cell_blk h'.blk 2
    have c5 := cell_blk h'.blk 5
    have c6 := cell_blk h'.blk 6
    have r := h'.rows a ha
    have sl := h'.sils a ha
    by_cases hlt : k < S.out
    · obtain ⟨ad, e1, e2⟩ := h'.cells a ha (S.inp + k) (by omega)
      rw [e1] at r
      clear e1
      by_cases hz : S.by_ a (S.inp + k) = 0
      · rw [hz] at e2
        have hq' := Sd.mk (show quietUpto S a (k + 1) = true by unfold quietUpto; rw [hq.out, hz]; rfl)
        clear hz
        go_wp2
        go_quiet (fail)
        go_wp2
        go_roundw
        case rel => exact ⟨k + 1, by omega, by go_num, hq', below_drewN hB _⟩
        case measure => simp [intOf]; omega
      · have hn := quietUpto_false S a S.out k hlt hz
        have hr : Sd (quietS S a = false) := Sd.mk (by unfold quietS; rw [hn]; rfl)
        clear hn
        have hz' : ((S.by_ a (S.inp + k) : Int) != 0) = true := by rw [bne_iff_ne]; omega
        go_wp2
        go_quiet (fail)
        go_wp2
        go_ret
        exact ⟨ret_bool hr.out.symm, below_drewN hB _⟩
    · have e : k = S.out := by omega
      subst e
      have hr : Sd (quietS S a = (S.sil a == 0)) := Sd.mk (by unfold quietS; rw [hq.out]; rfl)
      go_wp2
      go_ret
      exact ⟨ret_bool (by rw [hr.out]; rw [Bool.eq_iff_iff]; simp), hB⟩
end Go.Proofs.YtcbhaeniahckhaaDoor
end
section
namespace Go.Proofs.YtcbhaeniahckhaaDoor
open Go.RowKit Go.Shelf

/-- the bits of a set, ascending -/
def bitsL (n : Nat) : List Nat := (List.range 10).filter fun i => n.testBit i
theorem bitsL_zero : bitsL 0 = [] := by decide +kernel
theorem bitsL_step : ∀ n, n < 1024 → n ≠ 0 → bitsL n = Lib.ctz 64 n :: bitsL (n &&& (n - 1)) ∧ (n &&& (n - 1)) < n := by decide +kernel
theorem bitsL_len (n : Nat) : (bitsL n).length ≤ 10 := by
  unfold bitsL
  exact Nat.le_trans (List.length_filter_le _ _) (by simp)
theorem bitsL_lt (n : Nat) : ∀ a ∈ bitsL n, a < 10 := by
  intro a h; unfold bitsL at h; simp at h; exact h.1

def Tab (w : World) : Prop := TabAt 1 Lib.deBruijn64tab w
theorem Tab.below {w w' : World} (h : Tab w) (hB : Below w.heap.size w w') : Tab w' := fun j hj => cell_later hB (h j hj)

set_option maxHeartbeats 1000000 in
theorem tz64_core (x k idx : Nat) (w : World) (hx0 : ((x : Int) == 0) = false)
    (key : IntKind.u64.wrap (bits BinOp.and IntKind.u64 (x : Int) (IntKind.u64.wrap (-(x : Int))) * 285870213051353865) / 288230376151711744 = (idx : Int))
    (hi : idx < 64) (hk : k < 64) (hcell : w.cell? ⟨1, idx, none⟩ = some (.int .u8 k)) :
    Calls Tryd.prog 78 #[.int .u64 x] w fun e w' => e = .returned (.int .i64 k) ∧ w = w' := by
  go_enter Tryd.func78, Tryd.ntmps78
  go_wp2_with (simp only [key])
  go_ret
  exact ⟨rfl, rfl⟩
theorem tz64_calls (x : Nat) (hx : x < 18446744073709551616) (hx0 : x ≠ 0) (w : World) (hT : Tab w) :
    Calls Tryd.prog 78 #[.int .u64 x] w fun e w' => e = .returned (.int .i64 (Lib.ctz 64 x)) ∧ w = w' := by
  obtain ⟨hlow, hk⟩ := Lib.lowest_bit 64 x hx0 hx
  obtain ⟨hi, htab⟩ := Lib.deBruijn64_at _ hk
  have hcell := hT _ hi
  rw [htab] at hcell
  exact tz64_core x _ _ w (by simp; omega) (tz64_key x _ hx hx0 hlow) hi hk hcell
set_option maxHeartbeats 400000 in
theorem tz_calls (x : Nat) (hx : x < 18446744073709551616) (hx0 : x ≠ 0) (w : World) (hT : Tab w) :
    Calls Tryd.prog 58 #[.int .u64 x] w fun e w' => e = .returned (.int .i64 (Lib.ctz 64 x)) ∧ w = w' := by
  have hw : IntKind.u64.wrap (x : Int) = (x : Int) := by rw [IntKind.wrap_u64]; omega
  go_enter Tryd.func58, Tryd.ntmps58
  go_wp2_with (go_at_call 78; refine (tz64_calls x hx hx0 _ hT).mono ?_; rintro e w' ⟨rfl, rfl⟩)
  go_ret
  exact ⟨rfl, rfl⟩

theorem Tryd.info3 : (Tryd.prog.info? 3).map (fun i => (i.zero, i.size, i.bytes)) = some (some (.int .i64 0), 1, 8) := by kernel_rfl
/-- a slice of numbers that the call made -/
def OwnI (w : World) (base : Nat) (v : Value) (xs : List Nat) : Prop := w.ownsRow base 3 1 v xs.length (xs.map fun (x : Nat) => Value.int .i64 (x : Int))

set_option maxHeartbeats 1000000 in
theorem states_calls (s : Nat) (hs : s < 1024) (w : World) (hT : Tab w) :
    Calls Tryd.prog 32 #[.int .u64 s] w fun e w' => ∃ v, e = .returned v ∧ OwnI w' w.heap.size v (bitsL s) ∧ Below w.heap.size w w' := by
  go_enter Tryd.func32, Tryd.ntmps32
  go_wp2
  go_loopw [0, 3] (fun s0 v wr => ∃ (k : Nat) (pre : List Nat), k < 1024 ∧ s0 = .int .u64 k ∧ Sd (pre ++ bitsL k = bitsL s) ∧ Sd (OwnI wr w.heap.size v pre) ∧ Below w.heap.size w wr) (fun s0 _ _ => (intOf s0).toNat)
  case atStart => exact ⟨s, [], hs, rfl, ⟨rfl⟩, ⟨World.ownsRow_nil _ _ _ _⟩, Below.refl _ _⟩
  case round =>
    obtain ⟨k, pre, hk, rfl, hp, ho, hB⟩ := hrel
    by_cases h0 : k = 0
    · subst h0
      go_wp2
      go_ret
      refine ⟨_, rfl, ?_, hB⟩
      have := hp.out
      rw [bitsL_zero, List.append_nil] at this
      rw [← this]
      exact ho.out
    · have hk0 : ((k : Int) != 0) = true := by rw [bne_iff_ne]; omega
      obtain ⟨hb1, hb2⟩ := bitsL_step k hk h0
      have hle : pre.length ≤ 10 := by
        have h1 := congrArg List.length hp.out
        have h2 := bitsL_len s
        simp at h1; omega
      have e1 : IntKind.u64.wrap ((k : Int) - 1) = ((k - 1 : Nat) : Int) := by rw [IntKind.wrap_u64]; omega
      have e2 := bits_and_u64_nat k (k - 1) (by omega) (by omega)
      have HB1 := Sd.mk hb1
      clear hb1
      go_wp2_with (first | (go_at_call 58; refine (tz_calls k (by omega) h0 _ (hT.below hB)).mono ?_; rintro e w' ⟨rfl, rfl⟩) | (at_builtin; refine app1 rfl _ _ 27 rfl 3 (.int .i64 0) 1 8 Tryd.underlying27 Tryd.info3 rfl (by decide) w.heap.size hB w.heap.size (Nat.le_refl _) hB.size _ pre.length _ ho.out ?c1 ?c2 [.int .i64 (Lib.ctz 64 k)] rfl rfl rfl ?c3 ?_))
      case c1 => omega
      case c2 => omega
      case c3 => intro u hu; simp at hu; subst hu; rfl
      intro v' w1 ho1 hB1 _ _
      have ho2 : Sd (OwnI w1 w.heap.size v' (pre ++ [Lib.ctz 64 k])) := ⟨by unfold OwnI; simpa using ho1⟩
      clear ho1
      go_wp2
      go_roundw
      case rel =>
        refine ⟨k &&& (k - 1), pre ++ [Lib.ctz 64 k], by omega, rfl, ⟨?_⟩, ho2, hB1⟩
        rw [List.append_assoc, List.singleton_append, ← HB1.out, hp.out]
      case measure => simp [intOf]; omega
end Go.Proofs.YtcbhaeniahckhaaDoor
end
section
namespace Go.Proofs.YtcbhaeniahckhaaDoor
open Go.RowKit Go.Shelf

/-- a slice of numbers that can be read -/
def RdI (w : World) (A : Option Addr) (xs : List Nat) : Prop := ∀ i, i < xs.length → ∃ ad, A = some ad ∧ w.cell? (ad.add i) = some (.int .i64 ((xs.getD i 0 : Nat) : Int))
theorem RdI.below {w w' : World} {A : Option Addr} {xs : List Nat} (h : RdI w A xs) (hB : Below w.heap.size w w') : RdI w' A xs :=
  fun i hi => let ⟨ad, e1, e2⟩ := h i hi; ⟨ad, e1, cell_later hB e2⟩
theorem OwnI.read {w : World} {base : Nat} {v : Value} {xs : List Nat} (h : OwnI w base v xs) : ∃ A c, v = .slice A xs.length c ∧ xs.length ≤ c ∧ RdI w A xs := by
  obtain ⟨h1, h2⟩ := h
  rcases h2 with ⟨rfl, h0⟩ | ⟨g, cap, cur, rfl, _, hg, hle, _, _, htake⟩
  · exact ⟨none, 0, by rw [h0], by omega, fun i hi => by omega⟩
  · refine ⟨_, _, rfl, hle, fun i hi => ⟨_, rfl, ?_⟩⟩
    have hadd : (⟨g, 0, none⟩ : Addr).add i = ⟨g, i, none⟩ := by unfold Addr.add; split <;> simp_all
    rw [hadd, cell_of_row w g i cur 3 (0, 0) hg]
    have := congrArg (fun l => l[i]?) htake
    simp only [List.getElem?_take, List.getElem?_map, Nat.mul_one, hi, if_true] at this
    rw [← Array.getElem?_toList, this]
    simp [hi]

/-- one round of closing -/
def stepS (S : SysP) (l : Nat) : Nat := (bitsL l).foldl (fun o a => o ||| S.sil a) l
def closeN (S : SysP) : Nat → Nat → Nat
  | 0, l => l
  | k + 1, l => if stepS S l = l then l else closeN S k (stepS S l)
def closedS (S : SysP) (l : Nat) : Nat := closeN S 1024 l
theorem two_pow_le {N : Nat} (h : N ≤ 10) : 2 ^ N ≤ 1024 := Nat.pow_le_pow_right (by decide) h
theorem le_or (a b : Nat) : a ≤ a ||| b := Nat.left_le_or
theorem foldl_or_lt {N : Nat} (f : Nat → Nat) (hf : ∀ a, f a < 2 ^ N) : ∀ (xs : List Nat) (l : Nat), l < 2 ^ N → xs.foldl (fun o a => o ||| f a) l < 2 ^ N
  | [], _, h => h
  | x :: xs, _, h => foldl_or_lt f hf xs _ (Nat.or_lt_two_pow h (hf x))
theorem foldl_or_le (f : Nat → Nat) : ∀ (xs : List Nat) (l : Nat), l ≤ xs.foldl (fun o a => o ||| f a) l
  | [], _ => Nat.le_refl _
  | x :: xs, l => Nat.le_trans (le_or l (f x)) (foldl_or_le f xs _)
theorem stepS_lt (S : SysP) (hS : ∀ a, S.sil a < 2 ^ S.N) {l : Nat} (hl : l < 2 ^ S.N) : stepS S l < 2 ^ S.N := foldl_or_lt _ hS _ _ hl
theorem stepS_le (S : SysP) (l : Nat) : l ≤ stepS S l := foldl_or_le _ _ _
theorem bitsL_in {l N : Nat} (h : l < 2 ^ N) : ∀ a ∈ bitsL l, a < N := by
  intro a ha
  unfold bitsL at ha
  simp only [List.mem_filter] at ha
  rcases Nat.lt_or_ge a N with h1 | h1
  · exact h1
  · have := Nat.testBit_lt_two_pow (Nat.lt_of_lt_of_le h (Nat.pow_le_pow_right (by decide) h1))
    rw [this] at ha
    simp at ha
theorem foldl_take_succ {β : Type} (f : β → Nat → β) (b : β) (xs : List Nat) (i : Nat) (h : i < xs.length) : (xs.take (i + 1)).foldl f b = f ((xs.take i).foldl f b) (xs.getD i 0) := by
  rw [List.take_succ_eq_append_getElem h, List.foldl_append]
  simp [List.getD_eq_getElem?_getD, h]
theorem getD_mem {xs : List Nat} {i : Nat} (h : i < xs.length) : xs.getD i 0 ∈ xs := by
  rw [List.getD_eq_getElem?_getD, List.getElem?_eq_getElem h]; exact List.getElem_mem h

set_option maxHeartbeats 2000000 in
theorem closed_calls (w : World) (hT : Tab w) (g : Nat) (S : SysP) (l : Nat) (hl : l < 2 ^ S.N) {mv Ab cb As cs Ar cr} (h : SysAt w g S mv Ab cb As cs Ar cr) :
    Calls Tryd.prog 50 #[.pointer (some ⟨g, 0, none⟩), .int .u64 l] w fun e w' => e = .returned (.int .u64 (closedS S l)) ∧ Below w.heap.size w w' := by
  have hN := h.hN
  have hp := two_pow_le hN
  go_enter Tryd.func50, Tryd.ntmps50
  go_wp2
  go_loopw [1] (fun s wr => ∃ (k l' : Nat), l' < 2 ^ S.N ∧ s = .int .u64 l' ∧ Sd (closeN S k l' = closedS S l) ∧ 1024 - l' ≤ k ∧ Below w.heap.size w wr) (fun s _ => 1024 - (intOf s).toNat)
  case atStart => exact ⟨1024, l, hl, rfl, ⟨rfl⟩, by omega, Below.refl _ _⟩
  case round =>
    obtain ⟨k, l', hl', rfl, hc, hk, hB⟩ := hrel
    go_wp2_with (go_at_call 32; refine (states_calls l' (by omega) _ (hT.below hB)).mono ?_; rintro e w1 ⟨v, rfl, ho, hB1⟩; obtain ⟨A, c, rfl, _, hr⟩ := ho.read)
    have hlen := bitsL_len l'
    have hW : Below w.heap.size w w1 := below_then hB hB.size hB1
    have hR := Sd.mk hr
    have hB0 := Sd.mk hB
    clear hB hB1 ho
    have h' := h.below hW
    clear hr
    go_loop [5, 12] (fun s i => ∃ (j : Nat), j ≤ (bitsL l').length ∧ i = .int .i64 j ∧ s = .int .u64 (((bitsL l').take j).foldl (fun o a => o ||| S.sil a) l' : Nat)) (fun _ i => (bitsL l').length - (intOf i).toNat)
    case atStart => exact ⟨0, Nat.zero_le _, rfl, rfl⟩
    case round =>
      obtain ⟨j, hj, rfl, rfl⟩ := hrel
      have hcur := foldl_or_lt S.sil h.silb ((bitsL l').take j) l' hl'
      by_cases hlt : j < (bitsL l').length
      · have c6 := cell_blk h'.blk 6
        obtain ⟨ad, e1, e2⟩ := hR.out j hlt
        have hst := bitsL_in hl' _ (getD_mem hlt)
        have hfold := Sd.mk (foldl_take_succ (fun o a => o ||| S.sil a) l' (bitsL l') j hlt)
        generalize (bitsL l').getD j 0 = a at *
        generalize ((bitsL l').take j).foldl (fun o a => o ||| S.sil a) l' = cur at *
        have sl := h'.sils a hst
        have hsb := h.silb a
        have e3 := u64_or_nat cur (S.sil a) (by omega) (by omega)
        cases e1
        go_wp2
        go_round
        case rel => exact ⟨j + 1, by omega, by go_num, by rw [hfold.out]⟩
        case measure => simp [intOf]; omega
      · have e : j = (bitsL l').length := by omega
        subst e
        rw [List.take_length] at *
        have hs : Sd ((bitsL l').foldl (fun o a => o ||| S.sil a) l' = stepS S l') := ⟨rfl⟩
        generalize (bitsL l').foldl (fun o a => o ||| S.sil a) l' = cur at *
        by_cases hfix : cur = l'
        · subst hfix
          have hres : Sd (closedS S l = cur) := ⟨by
            rw [← hc.out]
            obtain ⟨k', rfl⟩ : ∃ k', k = k' + 1 := ⟨k - 1, by omega⟩
            unfold closeN
            rw [if_pos hs.out.symm]⟩
          go_wp2
          go_ret
          exact ⟨ret_u64 (by rw [hres.out]), hW⟩
        · have hne : ((cur : Int) == (l' : Int)) = false := by rw [beq_eq_false_iff_ne]; omega
          have hlt2 : l' < cur := by have := stepS_le S l'; rw [← hs.out] at this; omega
          have hc2 : Sd (closeN S (k - 1) cur = closedS S l) := ⟨by
            rw [← hc.out]
            obtain ⟨k', rfl⟩ : ∃ k', k = k' + 1 := ⟨k - 1, by omega⟩
            conv => rhs; unfold closeN
            rw [← hs.out, if_neg hfix]; rfl⟩
          clear hfix
          go_wp2
          go_roundw
          case rel => exact ⟨k - 1, cur, hcur, rfl, hc2, by omega, hW⟩
          case measure => simp [intOf]; omega
end Go.Proofs.YtcbhaeniahckhaaDoor
end
section
namespace Go.Proofs.YtcbhaeniahckhaaDoor
open Go.RowKit Go.Shelf

theorem closeN_lt (S : SysP) (hS : ∀ a, S.sil a < 2 ^ S.N) : ∀ (k l : Nat), l < 2 ^ S.N → closeN S k l < 2 ^ S.N
  | 0, _, h => h
  | k + 1, l, h => by
    unfold closeN
    split
    · exact h
    · exact closeN_lt S hS k _ (stepS_lt S hS h)
theorem closedS_lt (S : SysP) (hS : ∀ a, S.sil a < 2 ^ S.N) {l : Nat} (h : l < 2 ^ S.N) : closedS S l < 2 ^ S.N := closeN_lt S hS _ _ h
def firstS (S : SysP) : Nat := closedS S (2 ^ S.start)
theorem one_shl (a : Nat) (ha : a < 10) : ∃ p : Nat, p = 2 ^ a ∧ p ≤ 1024 ∧ IntKind.u64.wrap (2 ^ a : Int) = (p : Int) := by
  have h1 : 2 ^ a ≤ 1024 := Nat.pow_le_pow_right (by decide) (by omega : a ≤ 10)
  refine ⟨2 ^ a, rfl, h1, ?_⟩
  have h2 : (2 ^ a : Int) = ((2 ^ a : Nat) : Int) := by simp
  rw [IntKind.wrap_u64, h2]
  generalize 2 ^ a = q at *
  omega
def outS (S : SysP) (l e : Nat) : Nat := if e < S.inp + S.out then (bitsL l).foldl (fun o a => o ||| S.by_ a e) 0 else (bitsL l).foldl (fun o a => if quietS S a then o ||| 2 ^ a else o) 0
def afterS (S : SysP) (l e : Nat) : Nat := closedS S (outS S l e)
theorem foldl_quiet_lt (S : SysP) : ∀ (xs : List Nat) (l : Nat), (∀ a ∈ xs, a < S.N) → l < 2 ^ S.N → xs.foldl (fun o a => if quietS S a then o ||| 2 ^ a else o) l < 2 ^ S.N
  | [], _, _, h => h
  | x :: xs, l, hx, h => by
    refine foldl_quiet_lt S xs _ (fun a ha => hx a (List.mem_cons_of_mem _ ha)) ?_
    dsimp only
    split
    · exact Nat.or_lt_two_pow h (Nat.pow_lt_pow_right (by decide) (hx x List.mem_cons_self))
    · exact h
theorem outS_lt (S : SysP) (hS : ∀ a e, S.by_ a e < 2 ^ S.N) {l e : Nat} (h : l < 2 ^ S.N) : outS S l e < 2 ^ S.N := by
  unfold outS
  split
  · exact foldl_or_lt _ (fun a => hS a e) _ _ (Nat.two_pow_pos _)
  · exact foldl_quiet_lt S _ _ (bitsL_in h) (Nat.two_pow_pos _)
theorem afterS_lt (S : SysP) (hS : ∀ a e, S.by_ a e < 2 ^ S.N) (hS' : ∀ a, S.sil a < 2 ^ S.N) {l e : Nat} (h : l < 2 ^ S.N) : afterS S l e < 2 ^ S.N := closedS_lt S hS' (outS_lt S hS h)

set_option maxHeartbeats 1000000 in
theorem first_calls (w : World) (hT : Tab w) (g : Nat) (S : SysP) {mv Ab cb As cs Ar cr} (h : SysAt w g S mv Ab cb As cs Ar cr) :
    Calls Tryd.prog 47 #[.pointer (some ⟨g, 0, none⟩)] w fun e w' => e = .returned (.int .u64 (firstS S)) ∧ Below w.heap.size w w' := by
  have hN := h.hN
  have hs := h.hs
  have c1 := cell_blk h.blk 1
  have hst : 2 ^ S.start < 2 ^ S.N := Nat.pow_lt_pow_right (by decide) hs
  obtain ⟨p, hp, _, e1⟩ := one_shl S.start (by omega)
  have hf : Sd (firstS S = closedS S p) := ⟨by unfold firstS; rw [hp]⟩
  rw [← hp] at hst
  clear hp
  go_enter Tryd.func47, Tryd.ntmps47
  go_wp2_with (go_at_call 50; refine (closed_calls _ hT g S p hst h).mono ?_; rintro e w1 ⟨rfl, hB1⟩)
  go_ret
  exact ⟨ret_u64 (by rw [hf.out]), hB1⟩

set_option maxHeartbeats 2000000 in
theorem after_calls (w : World) (hT : Tab w) (g : Nat) (S : SysP) (l e : Nat) (hl : l < 2 ^ S.N) (he : e ≤ S.inp + S.out) {mv Ab cb As cs Ar cr} (h : SysAt w g S mv Ab cb As cs Ar cr) :
    Calls Tryd.prog 49 #[.pointer (some ⟨g, 0, none⟩), .int .u64 l, .int .i64 e] w fun e' w' => e' = .returned (.int .u64 (afterS S l e)) ∧ Below w.heap.size w w' := by
  have hN := h.hN
  have hi := h.hi
  have ho := h.ho
  have hp := two_pow_le hN
  go_enter Tryd.func49, Tryd.ntmps49
  go_wp2_with (go_at_call 32; refine (states_calls l (by omega) _ hT).mono ?_; rintro e w1 ⟨v, rfl, ho, hB1⟩; obtain ⟨A, c, rfl, _, hr⟩ := ho.read)
  have hlen := bitsL_len l
  have HR := Sd.mk hr
  clear hr
  by_cases hev : e < S.inp + S.out
  · have hev' : decide ((e : Int) < (S.inp : Int) + (S.out : Int)) = true := by simp; omega
    go_loopw [7, 13] (fun s i wq => ∃ (j : Nat), j ≤ (bitsL l).length ∧ i = .int .i64 j ∧ s = .int .u64 (((bitsL l).take j).foldl (fun o a => o ||| S.by_ a e) 0 : Nat) ∧ Below w.heap.size w wq ∧ Sd (RdI wq A (bitsL l))) (fun _ i _ => (bitsL l).length - (intOf i).toNat)
    case atStart => exact ⟨0, Nat.zero_le _, rfl, rfl, hB1, HR⟩
    case round =>
      obtain ⟨j, hj, rfl, rfl, hB, hR⟩ := hrel
      have h' := h.below hB
      have hcur := foldl_or_lt (fun a => S.by_ a e) (fun a => h.byb a e) ((bitsL l).take j) 0 (Nat.two_pow_pos _)
      by_cases hlt : j < (bitsL l).length
      · obtain ⟨ad, e1, e2⟩ := hR.out j hlt
        have hst := bitsL_in hl _ (getD_mem hlt)
        have hfold := Sd.mk (foldl_take_succ (fun o a => o ||| S.by_ a e) 0 (bitsL l) j hlt)
        generalize (bitsL l).getD j 0 = a at *
        generalize ((bitsL l).take j).foldl (fun o a => o ||| S.by_ a e) 0 = cur at *
        have e3 := u64_or_nat cur (S.by_ a e) (by omega) (by have := h.byb a e; omega)
        cases e1
        go_wp2_with (go_at_call 48; refine (silence_calls _ g S h').mono ?_; rintro e w2 ⟨rfl, hB2⟩; have hX := Sd.mk (below_then hB hB.size hB2); have hR2 := Sd.mk (hR.out.below hB2); have h2 := h'.below hB2; obtain ⟨ad2, e4, e5⟩ := h2.cells a hst _ hev; have r2 := h2.rows a hst; rw [e4] at r2; clear e4; have c5 := cell_blk h2.blk 5; clear hB2)
        go_roundw
        case rel => exact ⟨j + 1, by omega, by go_num, by rw [hfold.out], hX.out, hR2⟩
        case measure => simp [intOf]; omega
      · obtain rfl : j = (bitsL l).length := by omega
        rw [List.take_length] at *
        have hs : Sd (outS S l e = (bitsL l).foldl (fun o a => o ||| S.by_ a e) 0) := ⟨by unfold outS; rw [if_pos hev]⟩
        generalize (bitsL l).foldl (fun o a => o ||| S.by_ a e) 0 = cur at *
        go_wp2_with (go_at_call 50; refine (closed_calls _ (hT.below hB) g S cur hcur h').mono ?_; rintro e w2 ⟨rfl, hB2⟩)
        go_ret
        exact ⟨ret_u64 (by unfold afterS; rw [hs.out]), below_then hB hB.size hB2⟩
  · have hev' : decide ((e : Int) < (S.inp : Int) + (S.out : Int)) = false := by simp; omega
    go_loopw [7, 13] (fun s i wq => ∃ (j : Nat), j ≤ (bitsL l).length ∧ i = .int .i64 j ∧ s = .int .u64 (((bitsL l).take j).foldl (fun o a => if quietS S a then o ||| 2 ^ a else o) 0 : Nat) ∧ Below w.heap.size w wq ∧ Sd (RdI wq A (bitsL l))) (fun _ i _ => (bitsL l).length - (intOf i).toNat)
    case atStart => exact ⟨0, Nat.zero_le _, rfl, rfl, hB1, HR⟩
    case round =>
      obtain ⟨j, hj, rfl, rfl, hB, hR⟩ := hrel
      have h' := h.below hB
      have hcur := foldl_quiet_lt S ((bitsL l).take j) 0 (fun a ha => bitsL_in hl a (List.mem_of_mem_take ha)) (Nat.two_pow_pos _)
      by_cases hlt : j < (bitsL l).length
      · obtain ⟨ad, e1, e2⟩ := hR.out j hlt
        have hst := bitsL_in hl _ (getD_mem hlt)
        have hfold := Sd.mk (foldl_take_succ (fun o a => if quietS S a then o ||| 2 ^ a else o) 0 (bitsL l) j hlt)
        generalize (bitsL l).getD j 0 = a at *
        generalize ((bitsL l).take j).foldl (fun o a => if quietS S a then o ||| 2 ^ a else o) 0 = cur at *
        obtain ⟨p, hp2, hp3, e4⟩ := one_shl a (by omega)
        rw [← hp2] at hfold
        clear hp2
        have e3 := u64_or_nat cur p (by omega) (by omega)
        cases e1
        cases hq : quietS S a
        · rw [hq] at hfold
          go_wp2_with (first | (go_at_call 48; refine (silence_calls _ g S h').mono ?_; rintro e w2 ⟨rfl, hB2⟩; have hX := Sd.mk (below_then hB hB.size hB2); have hR2 := Sd.mk (hR.out.below hB2); have h2 := h'.below hB2; clear hB2) | (go_at_call 71; refine (isQuiet_calls _ g S a hst h2).mono ?_; rw [hq]; rintro e w3 ⟨rfl, hB3⟩; have hX3 := Sd.mk (below_then hX.out hX.out.size hB3); have hR3 := Sd.mk (hR2.out.below hB3); clear hB3))
          go_roundw
          case rel => exact ⟨j + 1, by omega, by go_num, by rw [hfold.out]; simp, hX3.out, hR3⟩
          case measure => simp [intOf]; omega
        · rw [hq] at hfold
          go_wp2_with (first | (go_at_call 48; refine (silence_calls _ g S h').mono ?_; rintro e w2 ⟨rfl, hB2⟩; have hX := Sd.mk (below_then hB hB.size hB2); have hR2 := Sd.mk (hR.out.below hB2); have h2 := h'.below hB2; clear hB2) | (go_at_call 71; refine (isQuiet_calls _ g S a hst h2).mono ?_; rw [hq]; rintro e w3 ⟨rfl, hB3⟩; have hX3 := Sd.mk (below_then hX.out hX.out.size hB3); have hR3 := Sd.mk (hR2.out.below hB3); clear hB3))
          go_roundw
          case rel => exact ⟨j + 1, by omega, by go_num, by rw [hfold.out]; simp, hX3.out, hR3⟩
          case measure => simp [intOf]; omega
      · obtain rfl : j = (bitsL l).length := by omega
        rw [List.take_length] at *
        have hs : Sd (outS S l e = (bitsL l).foldl (fun o a => if quietS S a then o ||| 2 ^ a else o) 0) := ⟨by unfold outS; rw [if_neg hev]⟩
        generalize (bitsL l).foldl (fun o a => if quietS S a then o ||| 2 ^ a else o) 0 = cur at *
        go_wp2_with (go_at_call 50; refine (closed_calls _ (hT.below hB) g S cur hcur h').mono ?_; rintro e w2 ⟨rfl, hB2⟩)
        go_ret
        exact ⟨ret_u64 (by unfold afterS; rw [hs.out]), below_then hB hB.size hB2⟩
end Go.Proofs.YtcbhaeniahckhaaDoor
end
section
namespace Go.Proofs.YtcbhaeniahckhaaDoor
open Go.RowKit Go.Shelf

def showsS (S : SysP) (l e : Nat) : Bool := decide (S.inp ≤ e) && afterS S l e != 0
def alongS (S : SysP) (tr : List Nat) : Nat := tr.foldl (afterS S) (firstS S)
theorem firstS_lt (S : SysP) (hs : S.start < S.N) (hS' : ∀ a, S.sil a < 2 ^ S.N) : firstS S < 2 ^ S.N := closedS_lt S hS' (Nat.pow_lt_pow_right (by decide) hs)
theorem foldl_after_lt (S : SysP) (hS : ∀ a e, S.by_ a e < 2 ^ S.N) (hS' : ∀ a, S.sil a < 2 ^ S.N) : ∀ (tr : List Nat) (l : Nat), l < 2 ^ S.N → tr.foldl (afterS S) l < 2 ^ S.N
  | [], _, h => h
  | _ :: tr, _, h => foldl_after_lt S hS hS' tr _ (afterS_lt S hS hS' h)

set_option maxHeartbeats 1000000 in
theorem shows_calls (w : World) (hT : Tab w) (g : Nat) (S : SysP) (l e : Nat) (hl : l < 2 ^ S.N) (he : e ≤ S.inp + S.out) {mv Ab cb As cs Ar cr} (h : SysAt w g S mv Ab cb As cs Ar cr) :
    Calls Tryd.prog 76 #[.pointer (some ⟨g, 0, none⟩), .int .u64 l, .int .i64 e] w fun e' w' => e' = .returned (.bool (showsS S l e)) ∧ Below w.heap.size w w' := by
  have hN := h.hN
  have hi := h.hi
  have ho := h.ho
  have c2 := cell_blk h.blk 2
  by_cases hev : S.inp ≤ e
  · have hs : Sd (showsS S l e = (afterS S l e != 0)) := ⟨by unfold showsS; simp [hev]⟩
    have hd : decide ((S.inp : Int) ≤ (e : Int)) = true := by simp; omega
    go_enter Tryd.func76, Tryd.ntmps76
    go_wp2_with (go_at_call 49; refine (after_calls _ hT g S l e hl he h).mono ?_; rintro e w2 ⟨rfl, hB2⟩)
    go_ret
    exact ⟨ret_bool (by rw [hs.out, Bool.eq_iff_iff]; simp), hB2⟩
  · have hs : Sd (showsS S l e = false) := ⟨by unfold showsS; simp [hev]⟩
    have hd : decide ((S.inp : Int) ≤ (e : Int)) = false := by simp; omega
    go_enter Tryd.func76, Tryd.ntmps76
    go_wp2
    go_ret
    exact ⟨ret_bool (by rw [hs.out]), Below.refl _ _⟩

set_option maxHeartbeats 1000000 in
theorem along_calls (w : World) (hT : Tab w) (g : Nat) (S : SysP) (A : Option Addr) (c : Nat) (tr : List Nat) (htr : tr.length ≤ 4294967296) (hev : ∀ e ∈ tr, e ≤ S.inp + S.out) (hr : RdI w A tr) {mv Ab cb As cs Ar cr} (h : SysAt w g S mv Ab cb As cs Ar cr) :
    Calls Tryd.prog 52 #[.pointer (some ⟨g, 0, none⟩), .slice A tr.length c] w fun e' w' => e' = .returned (.int .u64 (alongS S tr)) ∧ Below w.heap.size w w' := by
  have hN := h.hN
  have HR := Sd.mk hr
  clear hr
  go_enter Tryd.func52, Tryd.ntmps52
  go_wp2_with (go_at_call 47; refine (first_calls _ hT g S h).mono ?_; rintro e w2 ⟨rfl, hB2⟩)
  go_loopw [5, 12] (fun s i wq => ∃ (j : Nat), j ≤ tr.length ∧ i = .int .i64 j ∧ s = .int .u64 ((tr.take j).foldl (afterS S) (firstS S) : Nat) ∧ Below w.heap.size w wq) (fun _ i _ => tr.length - (intOf i).toNat)
  case atStart => exact ⟨0, Nat.zero_le _, rfl, rfl, hB2⟩
  case round =>
    obtain ⟨j, hj, rfl, rfl, hB⟩ := hrel
    have h' := h.below hB
    have hcur := foldl_after_lt S h.byb h.silb (tr.take j) _ (firstS_lt S h.hs h.silb)
    by_cases hlt : j < tr.length
    · obtain ⟨ad, e1, e2⟩ := (HR.out.below hB) j hlt
      have hst := hev _ (getD_mem hlt)
      have hfold := Sd.mk (foldl_take_succ (afterS S) (firstS S) tr j hlt)
      generalize tr.getD j 0 = a at *
      generalize (tr.take j).foldl (afterS S) (firstS S) = cur at *
      cases e1
      go_wp2_with (go_at_call 49; refine (after_calls _ (hT.below hB) g S cur a hcur hst h').mono ?_; rintro e w2 ⟨rfl, hB2⟩)
      go_roundw
      case rel => exact ⟨j + 1, by omega, by go_num, by rw [hfold.out], below_then hB hB.size hB2⟩
      case measure => simp [intOf]; omega
    · obtain rfl : j = tr.length := by omega
      rw [List.take_length] at *
      go_wp2
      go_ret
      exact ⟨rfl, hB⟩
end Go.Proofs.YtcbhaeniahckhaaDoor
end
