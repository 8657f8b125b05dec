/- OwnTest, SameTest, CheckTest and Perform, walked. Conditions: those that each theorem names. -/
import Derived.Test.YtcbhaeniahckhaaDoorNe
import Derived.Test.YtcbhaeniahckhaaDoorMo
import Derived.Test.YtcbhaeniahckhaaDoorNd
import Derived.Test.YtcbhaeniahckhaaDoorNb
set_option linter.unusedSimpArgs false
set_option linter.unusedVariables false
section
set_option linter.unusedSimpArgs false
namespace Go.Proofs.YtcbhaeniahckhaaDoor
open Go.RowKit Go.Shelf Go.Deep Go.Proofs.YtcbhaeniahckhaaDoorW.PrintLast
theorem below_drew_l {w w' : World} (h : Below w.drew.heap.size w.drew w') : Below w.heap.size w w' := Below.trans (below_drew (Below.refl _ _)) h
/-- one node more, with the nodes behind it -/
theorem TestAt.push {W w1 : World} {base : Nat} {v v' u : Value} {T : List Nd} {d : Nd} (us : List Value) (h1 : us.length = T.length) (h3 : ∀ i, i < T.length → OwnI W base (us.getD i .nilFunc) (T.getD i ndD).nx)
    (hv : W.ownsRow base 109 3 v T.length (flatT T us)) (hu : OwnI W base u d.nx) (hg : W.grownBy w1 v.ownBlock) (ho : w1.ownsRow base 109 3 v' (T.length + 1) (flatT T us ++ ndCells d u)) : TestAt w1 base (fun _ => False) v' (T ++ [d]) := by
  have kept : ∀ {u : Value} {xs : List Nat}, OwnI W base u xs → OwnI w1 base u xs := by
    intro u xs hu
    refine hu.kept hg ?_
    by_cases e : u.ownBlock = none
    · exact .inl e
    · refine .inr (fun e2 => ?_)
      obtain ⟨k, hk⟩ := Option.ne_none_iff_exists'.1 e
      exact own_ne_type hu hv (by decide) k hk (e2 ▸ hk)
  refine ⟨us ++ [u], by simp [h1], ?_, fun i hi => ⟨?_, fun _ _ h => h⟩⟩
  · rw [flatT_append _ _ _ _ h1, List.length_append]
    simpa [flatT] using ho
  · simp only [List.length_append, List.length_singleton] at hi
    rcases Nat.lt_or_ge i T.length with hlt | hge
    · rw [List.getD_eq_getElem?_getD, List.getD_eq_getElem?_getD (l := T ++ _), List.getElem?_append_left (by omega), List.getElem?_append_left (by omega), ← List.getD_eq_getElem?_getD, ← List.getD_eq_getElem?_getD]
      exact kept (h3 i hlt)
    · rw [List.getD_eq_getElem?_getD, List.getD_eq_getElem?_getD (l := T ++ _), List.getElem?_append_right (by omega), List.getElem?_append_right (by omega), show i - us.length = 0 by omega, show i - T.length = 0 by omega]
      exact kept hu
set_option maxHeartbeats 4000000 in
set_option maxRecDepth 100000 in
theorem ownTest_calls (w : World) (g ct : Nat) (T : List Nd) (hT4 : T.length ≤ 1000) (hN : NodesAt w g T) (hnl : ∀ i, i < T.length → (T.getD i ndD).nx.length ≤ 1000) :
    Calls Tryd.prog 24 #[.slice (some ⟨g, 0, none⟩) T.length ct] w fun e w' => ∃ v, e = .returned v ∧ TestAt w' w.heap.size (fun _ => False) v T ∧ Below w.heap.size w w' := by
  have HN := Sd.mk hN
  have HL := Sd.mk hnl
  clear hN hnl
  go_enter Tryd.func24, Tryd.ntmps24
  go_wp2
  go_loopw [3, 4] (fun v i wq => ∃ k : Nat, i = .int .i64 k ∧ k ≤ T.length ∧ Sd (TestAt wq w.heap.size (fun _ => False) v (T.take k)) ∧ Sd (Below w.heap.size w wq)) (fun _ i _ => T.length - (intOf i).toNat)
  case atStart => exact ⟨0, rfl, Nat.zero_le _, ⟨TestAt.nil _ _ _⟩, ⟨Below.refl _ _⟩⟩
  case round =>
    obtain ⟨W1, hW1⟩ : ∃ W : World, W = wr := ⟨wr, rfl⟩
    subst hW1
    obtain ⟨k, rfl, hk, hT, hB⟩ := hrel
    by_cases hlt : k < T.length
    · obtain ⟨A, c', n0, n1, n2, n3⟩ := HN.out k hlt
      have hl := HL.out k hlt
      have m0 := cell_later hB.out n0
      have m1 := cell_later hB.out n1
      have m2 := cell_later hB.out n2
      have HR := Sd.mk (n3.below hB.out)
      obtain ⟨d, hd⟩ : ∃ d, d = T.getD k ndD := ⟨_, rfl⟩
      rw [← hd] at m0 m1 m2 HR hl
      have htk := take_getD (d := ndD) T k hlt
      rw [← hd] at htk
      have HTK := Sd.mk htk
      have hlen : (T.take k).length = k := by rw [List.length_take]; omega
      have HLen := Sd.mk hlen
      clear n0 n1 n2 n3 hd htk hlen
      have HBx := Sd.mk (heap_alloc_new W1 (.cells #[.int .i64 d.inp, .int .i64 d.ver, .slice A d.nx.length c'] 109))
      go_upto_region 7 with (first | (go_at_call 21; refine (ownInts_calls _ A c' d.nx (by omega) (HR.out.below (alloc_below _ _))).mono ?_; rintro e w2 ⟨u, rfl, hu, hB2⟩; obtain ⟨ua, un, uc, rfl⟩ := own_slice hu; have hbox := (hB2.block W1.heap.size (by simp)).trans HBx.out; have HBo := Sd.mk hbox; have d0 := cell_blk hbox 0; have d1 := cell_blk hbox 1; have d2 := cell_blk hbox 2; have f2 := frz hbox 2; have HU := Sd.mk hu; have HB2 := Sd.mk hB2; clear hbox hu hB2) | fail)
      have hBW : Below W1.heap.size W1 (w2.setCell ⟨W1.heap.size, 2, none⟩ (.slice ua un uc)) := ((alloc_below W1 _).trans (HB2.out.mono (by simp))).setCell (Nat.le_refl _) _
      have hbox := blk_set HBo.out 2 (.slice ua un uc)
      have hU2 : OwnI (w2.setCell ⟨W1.heap.size, 2, none⟩ (.slice ua un uc)) w.heap.size (.slice ua un uc) d.nx := (HU.out.mono (Nat.le_trans hB.out.size (by simp))).kept (grown_set (World.grownBy.refl w2 _) 2 _) (.inr (fun e => by have := (HU.out.lt _ e).1; simp at this; omega))
      clear d0 d1 d2 f2
      generalize w2.setCell ⟨W1.heap.size, 2, none⟩ (.slice ua un uc) = w4 at *
      have d0 := cell_blk hbox 0
      have d1 := cell_blk hbox 1
      have d2 := cell_blk hbox 2
      have hTW := hT.out.below hBW
      obtain ⟨us, h1, h2, h3⟩ := hTW
      have H2 := Sd.mk h2
      have H1 := Sd.mk h1
      have H3 := Sd.mk h3
      have HBW := Sd.mk hBW
      have HU2 := Sd.mk hU2
      clear h1 h2 h3 hBW hU2 hbox
      go_wp2_with (at_builtin; refine app1 rfl _ _ 50 rfl 109 (.agg #[.int .i64 0, .int .i64 0, .slice none 0 0]) 3 40 Tryd.underlying50 Tryd.info109 rfl (by decide) w.heap.size (below_then hB.out hB.out.size HBW.out) w.heap.size (Nat.le_refl _) (Nat.le_trans hB.out.size HBW.out.size) _ (T.take k).length _ H2.out ?c1 ?c2 [.int .i64 d.inp, .int .i64 d.ver, .slice ua un uc] rfl rfl rfl ?c3 ?_)
      case c1 => have := HLen.out; omega
      case c2 => have := HLen.out; omega
      case c3 => exact ⟨rfl, rfl, rfl⟩
      intro v' w3 ho3 hB3 hg3 hat3
      have hT3 : TestAt w3 w.heap.size (fun _ => False) v' (T.take k ++ [d]) := TestAt.push us H1.out (fun i hi => (H3.out i hi).1) H2.out HU2.out hg3 (by rw [HLen.out]; exact ho3)
      rw [← HTK.out] at hT3
      have HT3 := Sd.mk hT3
      have HB3 := Sd.mk hB3
      clear ho3 hB3 hg3 hat3 hT3
      go_wp2_with fail
      go_roundw
      case rel => exact ⟨k + 1, by go_num, by omega, HT3, HB3⟩
      case measure => simp [intOf]; omega
    · obtain rfl : k = T.length := by omega
      go_wp2
      go_ret
      rw [List.take_length] at hT
      exact ⟨_, rfl, hT.out, hB.out⟩
set_option maxHeartbeats 4000000 in
set_option maxRecDepth 100000 in
theorem sameTest_calls (w : World) (g g' ct ct' : Nat) (T : List Nd) (hT4 : T.length ≤ 1000) (hN : NodesAt w g T) (hN' : NodesAt w g' T) (hnl : ∀ i, i < T.length → (T.getD i ndD).nx.length ≤ 1000) :
    Calls Tryd.prog 22 #[.slice (some ⟨g, 0, none⟩) T.length ct, .slice (some ⟨g', 0, none⟩) T.length ct'] w fun e w' => e = .returned (.bool true) ∧ Below w.heap.size w w' := by
  have HN := Sd.mk hN
  have HN' := Sd.mk hN'
  have HL := Sd.mk hnl
  clear hN hN' hnl
  go_enter Tryd.func22, Tryd.ntmps22
  go_wp2
  go_loopw [5] (fun i wq => ∃ k : Nat, i = .int .i64 k ∧ k ≤ T.length ∧ Sd (Below w.heap.size w wq)) (fun i _ => T.length - (intOf i).toNat)
  case atStart => exact ⟨0, rfl, Nat.zero_le _, ⟨Below.refl _ _⟩⟩
  case round =>
    obtain ⟨W1, hW1⟩ : ∃ W : World, W = wr := ⟨wr, rfl⟩
    subst hW1
    obtain ⟨k, rfl, hk, hB⟩ := hrel
    by_cases hlt : k < T.length
    · obtain ⟨A, c, n0, n1, n2, n3⟩ := HN.out k hlt
      obtain ⟨A', c', o0, o1, o2, o3⟩ := HN'.out k hlt
      have hl := HL.out k hlt
      have m0 := cell_later hB.out n0
      have m1 := cell_later hB.out n1
      have m2 := cell_later hB.out n2
      have p0 := cell_later hB.out o0
      have p1 := cell_later hB.out o1
      have p2 := cell_later hB.out o2
      have HR := Sd.mk (n3.below hB.out)
      have HR' := Sd.mk (o3.below hB.out)
      generalize T.getD k ndD = d at *
      clear n0 n1 n2 n3 o0 o1 o2 o3
      have hd1 : (d.inp != d.inp) = false := by simp
      have hd2 : (d.ver != d.ver) = false := by simp
      go_wp2_with fail
      go_region_held3 (fun wx => wx.cell? ⟨g, k * 3, none⟩ = some (.int .i64 d.inp) ∧ wx.cell? ⟨g, k * 3 + 1, none⟩ = some (.int .i64 d.ver) ∧ wx.cell? ⟨g, k * 3 + 2, none⟩ = some (.slice A d.nx.length c) ∧ wx.cell? ⟨g', k * 3, none⟩ = some (.int .i64 d.inp) ∧ wx.cell? ⟨g', k * 3 + 1, none⟩ = some (.int .i64 d.ver) ∧ wx.cell? ⟨g', k * 3 + 2, none⟩ = some (.slice A' d.nx.length c'))
        (first | exact ⟨m0, m1, m2, p0, p1, p2⟩ | exact ⟨cell_later hB4 m0, cell_later hB4 m1, cell_later hB4 m2, cell_later hB4 p0, cell_later hB4 p1, cell_later hB4 p2⟩ | fail)
        (first | (go_at_call 19; refine (same_calls _ A A' c c' d.nx d.nx (by omega) (by omega) (HR.out.below (below_drew (Below.refl _ _))) (HR'.out.below (below_drew (Below.refl _ _)))).mono ?_; rintro e w4 ⟨rfl, hB4⟩) | fail)
      have HB4 := Sd.mk (below_then hB.out hB.out.size (below_drew_l hB4))
      clear hB4 m0 m1 m2 p0 p1 p2
      go_wp2_with fail
      go_roundw
      case rel => exact ⟨k + 1, by go_num, by omega, HB4⟩
      case measure => simp [intOf]; omega
    · obtain rfl : k = T.length := by omega
      go_wp2
      go_ret
      exact ⟨rfl, hB.out⟩
end Go.Proofs.YtcbhaeniahckhaaDoor
end
section
set_option linter.unusedSimpArgs false
namespace Go.Proofs.YtcbhaeniahckhaaDoor
open Go.RowKit Go.Shelf Go.Deep Go.Proofs.YtcbhaeniahckhaaDoorW.PrintLast
/-- no number, and one, among numbers -/
def hasZ (xs : List Nat) : Bool := decide (0 ∈ xs)
theorem hasZ_at {xs : List Nat} {k : Nat} (h : k < xs.length) (e : xs.getD k 0 = 0) : hasZ xs = true := decide_eq_true (e ▸ getD_mem h)
theorem hasZ_no {xs : List Nat} (h : ∀ k, k < xs.length → xs.getD k 0 ≠ 0) : hasZ xs = false := decide_eq_false fun hm => by
  obtain ⟨i, hi, e⟩ := List.getElem_of_mem hm
  refine h i hi ?_
  rw [List.getD_eq_getElem?_getD, List.getElem?_eq_getElem hi, Option.getD_some, e]
def IdxPost (xs : List Nat) (w : World) (e : Ending) (w' : World) : Prop := ∃ k : Int, e = .returned (.int .i64 k) ∧ w = w' ∧ (if hasZ xs = true then 0 ≤ k else k = -1)
set_option maxHeartbeats 2000000 in
set_option maxRecDepth 100000 in
theorem index_calls (w : World) (A : Option Addr) (c : Nat) (xs : List Nat) (hl : xs.length ≤ 1000000) (hr : RdI w A xs) : Calls Tryd.prog 90 #[.slice A xs.length c, .int .i64 0] w (IdxPost xs w) := by
  have HR := Sd.mk hr
  have HP : ∀ e (k : Int), e = .returned (.int .i64 k) → (if hasZ xs = true then 0 ≤ k else k = -1) → IdxPost xs w e w := fun e k h1 h2 => ⟨k, h1, rfl, h2⟩
  have HP := Sd.mk HP
  clear hr
  go_enter Tryd.func90, Tryd.ntmps90
  go_wp2
  go_loop [5, 8] (fun _ t => ∃ k : Nat, k ≤ xs.length ∧ t = .int .i64 k ∧ Sd (∀ i, i < k → xs.getD i 0 ≠ 0)) (fun _ t => xs.length - (intOf t).toNat)
  case atStart => exact ⟨0, Nat.zero_le _, rfl, ⟨fun i hi => by omega⟩⟩
  case round =>
    obtain ⟨k, hk, rfl, hN⟩ := hrel
    by_cases hlt : k < xs.length
    · obtain ⟨ad, e1, e2⟩ := HR.out k hlt
      subst e1
      by_cases hz : xs.getD k 0 = 0
      · have HZ := Sd.mk (hasZ_at hlt hz)
        rw [hz] at e2
        clear hz
        go_wp2_with fail
        go_ret
        exact HP.out _ k rfl (by rw [if_pos HZ.out]; omega)
      · have hne : ((xs.getD k 0 : Int) == 0) = false := by rw [beq_eq_false_iff_ne]; omega
        have HN : Sd (∀ i, i < k + 1 → xs.getD i 0 ≠ 0) := ⟨fun i hi => by
          by_cases e : i = k
          · subst e; exact hz
          · exact hN.out i (by omega)⟩
        clear hz
        generalize xs.getD k 0 = a at *
        go_wp2_with fail
        go_round
        case rel => exact ⟨k + 1, by omega, by go_num, HN⟩
        case measure => simp [intOf]; omega
    · obtain rfl : k = xs.length := by omega
      have HZ := Sd.mk (hasZ_no hN.out)
      go_wp2_with fail
      go_ret
      exact HP.out _ (-1) rfl (by rw [HZ.out]; rfl)
set_option maxHeartbeats 2000000 in
set_option maxRecDepth 100000 in
theorem contains_calls (w : World) (A : Option Addr) (c : Nat) (xs : List Nat) (hl : xs.length ≤ 1000000) (hr : RdI w A xs) : Calls Tryd.prog 88 #[.slice A xs.length c, .int .i64 0] w fun e w' => e = .returned (.bool (hasZ xs)) ∧ w = w' := by
  have HR := Sd.mk hr
  clear hr
  rcases hz : hasZ xs with _ | _
  · have HI := Sd.mk (fun w (h : RdI w A xs) => (index_calls w A c xs hl h).mono (R' := fun e w' => e = .returned (.int .i64 (-1)) ∧ w = w') fun e w' ⟨k, h1, h2, h3⟩ => by rw [hz] at h3; simp at h3; subst h3; exact ⟨h1, h2⟩)
    clear hz
    go_enter Tryd.func88, Tryd.ntmps88
    go_wp2_with (go_at_call 90; refine (HI.out _ HR.out).mono ?_; rintro e w3 ⟨rfl, rfl⟩)
    go_ret
    exact ⟨rfl, rfl⟩
  · have HI := Sd.mk (fun w (h : RdI w A xs) => (index_calls w A c xs hl h).mono (R' := fun e w' => ∃ k : Nat, e = .returned (.int .i64 k) ∧ w = w') fun e w' ⟨k, h1, h2, h3⟩ => by rw [if_pos hz] at h3; exact ⟨k.toNat, by rw [h1, Int.toNat_of_nonneg h3], h2⟩)
    clear hz
    go_enter Tryd.func88, Tryd.ntmps88
    go_wp2_with (go_at_call 90; refine (HI.out _ HR.out).mono ?_; rintro e w3 ⟨k, rfl, rfl⟩)
    go_ret
    exact ⟨rfl, rfl⟩
def ckN (inp out : Nat) (T : List Nd) : Nat → Nat → List Nat → Int × Int
  | 0, _, beh => if hasZ (beh.drop 1) = true then (T.length, 10) else (0, 0)
  | f + 1, i, beh => if (ndErr inp out T.length i (T.getD i ndD) beh).1 = 0 then ckN inp out T f (i + 1) (ndErr inp out T.length i (T.getD i ndD) beh).2 else (i, (ndErr inp out T.length i (T.getD i ndD) beh).1)
def ckS (inp out : Nat) (T : List Nd) : Int × Int := ckN inp out T T.length 0 (List.replicate T.length 0)
theorem bumpN_ok : ∀ (ks beh : List Nat), (bumpN ks beh).1 = 0 → (∀ k, beh.getD k 0 ≤ 1) → (bumpN ks beh).2.length = beh.length ∧ ∀ k, (bumpN ks beh).2.getD k 0 ≤ 1
  | [], _, _, h => ⟨rfl, h⟩
  | k :: ks, beh, h0, h => by
    rw [bumpN_eq] at h0 ⊢
    by_cases hk : 1 < beh.getD k 0 + 1
    · rw [if_pos hk] at h0; simp at h0
    · rw [if_neg hk] at h0 ⊢
      obtain ⟨h1, h2⟩ := bumpN_ok ks _ h0 (fun i => by
        rw [getD_set]
        split
        · omega
        · exact h i)
      exact ⟨by rw [h1, List.length_set], h2⟩
theorem ndErr_ok {inp out n i : Nat} {d : Nd} {beh : List Nat} (h0 : (ndErr inp out n i d beh).1 = 0) (h : ∀ k, beh.getD k 0 ≤ 1) : (ndErr inp out n i d beh).2.length = beh.length ∧ ∀ k, (ndErr inp out n i d beh).2.getD k 0 ≤ 1 := by
  unfold ndErr at h0 ⊢
  split at h0
  · simp at h0
  · split at h0
    · simp at h0
    · split at h0
      · simp at h0
      · rename_i a b c
        rw [if_neg a, if_neg b, if_neg c]
        exact bumpN_ok _ _ h0 h
theorem made_zero (n : Nat) : madeCells #[.int .i64 0] n = ((List.replicate n 0).map cellI).toArray := by
  unfold madeCells
  apply Array.ext
  · simp
  · intro i h1 h2
    simp [cellI, Nat.mod_one]
/-- where the check of a test stands -/
structure CkAt (w W wq : World) (x : Rx) (A : Option Addr) (c g : Nat) (T : List Nd) (gb : Nat) (beh : List Nat) : Prop where
  chk : ChkAt W wq g T gb beh
  below : Below w.heap.size w wq
  bx : wq.heap[w.heap.size]? = some (.cells #[.int .i64 x.N, .int .i64 x.start, .int .i64 x.inp, .int .i64 x.out, .slice A x.mvs.length c] 24 (0, 0))
  gt : w.heap.size < gb
theorem CkAt.step {w W wq w' : World} {x : Rx} {A : Option Addr} {c g : Nat} {T : List Nd} {gb : Nat} {beh b2 : List Nat} (h : CkAt w W wq x A c g T gb beh) (hg : wq.grownBy w' (some gb)) (hr : w'.heap[gb]? = some (.cells (b2.map cellI).toArray 3 (0, 0))) (hl : b2.length = beh.length) (hs : ∀ k, b2.getD k 0 ≤ 1) : CkAt w W w' x A c g T gb b2 :=
  ⟨⟨h.chk.nodes, h.chk.kept.grown h.chk.hgb hg, h.chk.hgb, hr, hl.trans h.chk.len, hs⟩, h.below.grown hg h.below.size (fun k hk => by cases hk; have := h.gt; omega), (hg.block _ (Array.getElem?_eq_some_iff.1 h.bx).1 (fun e => by have := h.gt; cases e; omega)).trans h.bx, h.gt⟩
set_option maxHeartbeats 4000000 in
set_option maxRecDepth 100000 in
theorem checkTest_calls (w : World) (x : Rx) (hx : x.ok) (A : Option Addr) (c g ct : Nat) (hr : RdM w A x.mvs) (T : List Nd) (hT0 : 0 < T.length) (hT4 : T.length ≤ 400) (hN : NodesAt w g T) (hnl : ∀ i, i < T.length → (T.getD i ndD).nx.length ≤ 1000) :
    Calls Tryd.prog 74 #[rxV x A c, .slice (some ⟨g, 0, none⟩) T.length ct] w fun e w' => e = .returned (.tuple #[.int .i64 (ckS x.inp x.out T).1, .int .i64 (ckS x.inp x.out T).2]) ∧ Below w.heap.size w w' := by
  unfold rxV
  have HX := Sd.mk hx
  have HR := Sd.mk hr
  have HN := Sd.mk hN
  have HL := Sd.mk hnl
  have HB := Sd.mk (alloc_below w (.cells #[.int .i64 x.N, .int .i64 x.start, .int .i64 x.inp, .int .i64 x.out, .slice A x.mvs.length c] 24))
  have HBk := Sd.mk (heap_alloc_new w (.cells #[.int .i64 x.N, .int .i64 x.start, .int .i64 x.inp, .int .i64 x.out, .slice A x.mvs.length c] 24))
  have hT0' : (0 : Int) < (T.length : Int) := by omega
  have hT4' : (T.length : Int) ≤ 400 := by omega
  have hmk := run_make_row' (P := Tryd.prog) 27 3 (.int .i64 0) 8 Tryd.underlying27 Tryd.info3 rfl .i64 .i64 T.length (by omega) (by omega)
  have UY := fun (c : Int) (w : World) (_ : Unit) => unless_yes c w
  have UY := Sd.mk UY
  clear hx hr hN hnl
  obtain ⟨r1, hr1⟩ : ∃ r1, r1 = (ckS x.inp x.out T).1 := ⟨_, rfl⟩
  obtain ⟨r2, hr2⟩ : ∃ r2, r2 = (ckS x.inp x.out T).2 := ⟨_, rfl⟩
  rw [← hr1, ← hr2]
  have HR12 : Sd (ckN x.inp x.out T T.length 0 (List.replicate T.length 0) = (r1, r2)) := ⟨by rw [hr1, hr2]; rfl⟩
  clear hr1 hr2
  go_enter Tryd.func74, Tryd.ntmps74
  go_wp2_with (first | (go_at_call 46; refine (systemErr_calls _ x HX.out A c (HR.out.below HB.out)).mono ?_; rintro e w1 ⟨rfl, hB1⟩; have HB1 := Sd.mk (below_then HB.out HB.out.size hB1); have hbk := (hB1.block w.heap.size (by simp)).trans HBk.out; have HBk1 := Sd.mk hbk; clear hB1 hbk) | (go_at_call 31; refine (UY.out _ _ ()).mono ?_; rintro e w4 ⟨rfl, rfl⟩) | (go_at_call 37; refine (or37_calls _ _ [0, 0, 0] (by simp) _ (rdZ_new _ [0, 0, 0] _ _ rfl)).mono ?_; rintro e w5 ⟨he, rfl⟩; rw [show orL [0, 0, 0] = 0 from rfl] at he; subst he) | fail)
  have hC0 : CkAt w (w1.alloc (.cells #[.int .i64 0, .int .i64 0, .int .i64 0] 28)) ((w1.alloc (.cells #[.int .i64 0, .int .i64 0, .int .i64 0] 28)).alloc (.cells (madeCells #[.int .i64 0] T.length) 3)) x A c g T (w1.heap.size + 1) (List.replicate T.length 0) := by
    have hBa := alloc_below w1 (.cells #[.int .i64 0, .int .i64 0, .int .i64 0] 28)
    have hBb := alloc_below (w1.alloc (.cells #[.int .i64 0, .int .i64 0, .int .i64 0] 28)) (.cells (madeCells #[.int .i64 0] T.length) 3)
    have hw1 := HB1.out.size
    have hbl := (Array.getElem?_eq_some_iff.1 HBk1.out).1
    refine ⟨⟨?_, (KeptC.refl _).below hBb, by simp, ?_, by simp, fun k => ?_⟩, ?_, ?_, Nat.lt_succ_of_lt hbl⟩
    · intro i hi
      obtain ⟨A', c', h1, h2, h3, h4⟩ := HN.out i hi
      have hB := below_then HB1.out hw1 hBa
      exact ⟨A', c', cell_later hB h1, cell_later hB h2, cell_later hB h3, h4.below hB⟩
    · rw [made_zero]; exact alloc_at _ _ _ (by simp)
    · rw [List.getD_eq_getElem?_getD, List.getElem?_replicate]
      split <;> simp
    · exact below_then (below_then HB1.out hw1 hBa) (Nat.le_trans hw1 hBa.size) hBb
    · exact (heap_alloc_old _ _ (by simp; omega)).trans ((heap_alloc_old _ _ hbl).trans HBk1.out)
  have HC0 := Sd.mk hC0
  clear hC0 hmk
  go_loopw [8, 9, 30] (fun _ _ i wq => ∃ (k : Nat) (beh : List Nat), i = .int .i64 k ∧ k ≤ T.length ∧ Sd (CkAt w (w1.alloc (.cells #[.int .i64 0, .int .i64 0, .int .i64 0] 28)) wq x A c g T (w1.heap.size + 1) beh) ∧ Sd (ckN x.inp x.out T (T.length - k) k beh = (r1, r2))) (fun _ _ i _ => T.length - (intOf i).toNat)
  case atStart => exact ⟨0, _, rfl, Nat.zero_le _, HC0, HR12⟩
  case round =>
    obtain ⟨W1, hW1⟩ : ∃ W : World, W = wr := ⟨wr, rfl⟩
    subst hW1
    obtain ⟨k, beh, rfl, hk, hC, hE⟩ := hrel
    by_cases hlt : k < T.length
    · have b0 := cell_blk hC.out.bx 0
      have b1 := cell_blk hC.out.bx 1
      have b2 := cell_blk hC.out.bx 2
      have b3 := cell_blk hC.out.bx 3
      have b4 := cell_blk hC.out.bx 4
      have hNE := nodeErr_calls _ W1 x HX.out A c g ct T (by omega) k hlt (w1.heap.size + 1) beh hC.out.chk (HL.out k hlt)
      obtain ⟨r, hr⟩ : ∃ r, r = ndErr x.inp x.out T.length k (T.getD k ndD) beh := ⟨_, rfl⟩
      rw [← hr] at hNE
      have HNE := Sd.mk hNE
      have hE2 := hE.out
      rw [show T.length - k = (T.length - (k + 1)) + 1 by omega, ckN, ← hr] at hE2
      have HRr := Sd.mk hr
      clear hr hNE
      by_cases hz : r.1 = 0
      · rw [if_pos hz] at hE2
        have HE2 := Sd.mk hE2
        have HZ := Sd.mk hz
        have hz' : (r.1 != 0) = false := by rw [hz]; rfl
        clear hz hE2
        go_wp2_with (first | (go_at_call 87; refine HNE.out.mono ?_; rintro e w6 ⟨rfl, hg6, hr6⟩; have HG6 := Sd.mk hg6; have HR6 := Sd.mk hr6; clear hg6 hr6) | fail)
        have hok := ndErr_ok (inp := x.inp) (out := x.out) (n := T.length) (i := k) (d := T.getD k ndD) (beh := beh) (by rw [← HRr.out]; exact HZ.out) hC.out.chk.sm
        rw [← HRr.out] at hok
        have HC6 := Sd.mk (hC.out.step HG6.out HR6.out hok.1 hok.2)
        clear hok
        go_roundw
        case rel => exact ⟨k + 1, r.2, by go_num, by omega, HC6, HE2⟩
        case measure => simp [intOf]; omega
      · rw [if_neg hz] at hE2
        have hz' : (r.1 != 0) = true := bne_iff_ne.2 hz
        have HE2 := Sd.mk hE2
        clear hz hE2
        go_wp2_with (first | (go_at_call 87; refine HNE.out.mono ?_; rintro e w6 ⟨rfl, hg6, hr6⟩; have HG6 := Sd.mk hg6; clear hg6 hr6) | fail)
        go_ret2
        have e1 : (k : Int) = r1 := congrArg Prod.fst HE2.out
        have e2 : r.1 = r2 := congrArg Prod.snd HE2.out
        refine ⟨by rw [e1, e2]; rfl, hC.out.below.grown HG6.out hC.out.below.size (fun k hk => by cases hk; have := hC.out.gt; omega)⟩
    · obtain rfl : k = T.length := by omega
      have hE2 := hE.out
      rw [Nat.sub_self, ckN] at hE2
      have hrow : ∀ (ad : Addr), (ad = ⟨w1.heap.size + 1, 1, none⟩ ∨ (beh.drop 1).length = 0) → RdI W1 (some ad) (beh.drop 1) := fun ad had i hi => by
        rcases had with rfl | had
        · refine ⟨_, rfl, ?_⟩
          rw [List.length_drop] at hi
          rw [show (⟨w1.heap.size + 1, 1, none⟩ : Addr).add i = ⟨w1.heap.size + 1, 1 + i, none⟩ by unfold Addr.add; split <;> simp_all, row_at hC.out.chk.row (by omega)]
          rw [List.getD_eq_getElem?_getD, List.getD_eq_getElem?_getD, List.getElem?_drop]
        · omega
      have HRow := Sd.mk hrow
      have hdl : (beh.drop 1).length = T.length - 1 := by rw [List.length_drop, hC.out.chk.len]
      have hCN := fun (w : World) (ad : Addr) (c n : Nat) (hn : n = (beh.drop 1).length) (h : RdI w (some ad) (beh.drop 1)) => (show Calls Tryd.prog 88 #[.slice (some ad) n c, .int .i64 0] w fun e w' => e = .returned (.bool (hasZ (beh.drop 1))) ∧ w = w' by subst hn; exact contains_calls w (some ad) c (beh.drop 1) (by omega) h)
      have HCN := Sd.mk hCN
      have HDL := Sd.mk hdl
      clear hrow hCN hdl
      rcases hz : hasZ (beh.drop 1) with _ | _
      · rw [hz] at HCN hE2
        have e1 : (0 : Int) = r1 := congrArg Prod.fst hE2
        have e2 : (0 : Int) = r2 := congrArg Prod.snd hE2
        have HE1 := Sd.mk e1
        have HE2 := Sd.mk e2
        clear hz hE2 e1 e2
        by_cases h1 : T.length = 1
        · have hd1 : decide ((1 : Nat) < T.length) = false := by simp; omega
          have H0 := Sd.mk (show 0 = (beh.drop 1).length by have := HDL.out; omega)
          rw [h1] at *
          go_wp2_with (first | (go_at_call 88; refine (HCN.out _ _ _ _ H0.out (HRow.out _ (.inr H0.out.symm))).mono ?_; rintro e w6 ⟨rfl, rfl⟩) | fail)
          go_ret2
          exact ⟨by rw [← HE1.out, ← HE2.out]; rfl, hC.out.below⟩
        · have h1' : 1 < T.length := by omega
          clear h1
          go_wp2_with (first | (go_at_call 88; refine (HCN.out _ _ _ _ (by rw [HDL.out]) (HRow.out _ (.inl rfl))).mono ?_; rintro e w6 ⟨rfl, rfl⟩) | fail)
          go_ret2
          exact ⟨by rw [← HE1.out, ← HE2.out]; rfl, hC.out.below⟩
      · rw [hz] at HCN hE2
        have e1 : (T.length : Int) = r1 := congrArg Prod.fst hE2
        have e2 : (10 : Int) = r2 := congrArg Prod.snd hE2
        have HE1 := Sd.mk e1
        have HE2 := Sd.mk e2
        have h1' : 1 < T.length := by
          by_cases h : 1 < T.length
          · exact h
          · have := HDL.out
            rw [List.eq_nil_of_length_eq_zero (by omega : (beh.drop 1).length = 0)] at hz
            cases hz
        clear hz hE2 e1 e2
        go_wp2_with (first | (go_at_call 88; refine (HCN.out _ _ _ _ (by rw [HDL.out]) (HRow.out _ (.inl rfl))).mono ?_; rintro e w6 ⟨rfl, rfl⟩) | fail)
        go_ret2
        exact ⟨by rw [← HE1.out, ← HE2.out]; rfl, hC.out.below⟩
set_option maxHeartbeats 2000000 in
set_option maxRecDepth 100000 in
theorem testErr_calls (w : World) (x : Rx) (hx : x.ok) (A : Option Addr) (c g ct : Nat) (hr : RdM w A x.mvs) (T : List Nd) (hT0 : 0 < T.length) (hT4 : T.length ≤ 400) (hN : NodesAt w g T) (hnl : ∀ i, i < T.length → (T.getD i ndD).nx.length ≤ 1000) :
    Calls Tryd.prog 53 #[rxV x A c, .slice (some ⟨g, 0, none⟩) T.length ct] w fun e w' => e = .returned (.int .i64 (ckS x.inp x.out T).2) ∧ Below w.heap.size w w' := by
  have HB := alloc_below w (.cells #[.int .i64 x.N, .int .i64 x.start, .int .i64 x.inp, .int .i64 x.out, .slice A x.mvs.length c] 24)
  have HC := Sd.mk (checkTest_calls _ x hx A c g ct (hr.below HB) T hT0 hT4 (fun i hi => by
    obtain ⟨A', c', h1, h2, h3, h4⟩ := hN i hi
    exact ⟨A', c', cell_later HB h1, cell_later HB h2, cell_later HB h3, h4.below HB⟩) hnl)
  have HBB := Sd.mk HB
  unfold rxV at *
  clear hr hN hnl hx HB
  generalize ckS x.inp x.out T = r at *
  go_enter Tryd.func53, Tryd.ntmps53
  go_wp2_with (go_at_call 74; refine HC.out.mono ?_; rintro e w3 ⟨rfl, hB3⟩)
  go_ret
  exact ⟨rfl, below_then HBB.out HBB.out.size hB3⟩
theorem NodesAt.below {w w' : World} {g : Nat} {T : List Nd} (h : NodesAt w g T) (hB : Below w.heap.size w w') : NodesAt w' g T := fun i hi =>
  let ⟨A', c', h1, h2, h3, h4⟩ := h i hi
  ⟨A', c', cell_later hB h1, cell_later hB h2, cell_later hB h3, h4.below hB⟩
def PerfPost (x : Rx) (T : List Nd) (w : World) (e : Ending) (w' : World) : Prop := Below w.heap.size w w' ∧ ((ckS x.inp x.out T).2 ≠ 0 ∧ e = .returned (.tuple #[.int .i64 0, .slice none 0 0, .int .i64 (ckS x.inp x.out T).2]) ∨
  (ckS x.inp x.out T).2 = 0 ∧ ∃ B c, e = .returned (.tuple #[.int .i64 (performS (sysOf x) T).1, .slice B (performS (sysOf x) T).2.length c, .int .i64 0]) ∧ RdI w' B (performS (sysOf x) T).2)
set_option maxHeartbeats 2000000 in
set_option maxRecDepth 100000 in
theorem perform_top (w : World) (hT : Tab w) (x : Rx) (hx : x.ok) (A : Option Addr) (c g ct : Nat) (hr : RdM w A x.mvs) (T : List Nd) (hok : ∀ i, i < T.length → NdOK (sysOf x) T i) (hT0 : 0 < T.length) (hT4 : T.length ≤ 400) (hN : NodesAt w g T) (hnl : ∀ i, i < T.length → (T.getD i ndD).nx.length ≤ 1000) :
    Calls Tryd.prog 23 #[.slice (some ⟨g, 0, none⟩) T.length ct, rxV x A c] w (PerfPost x T w) := by
  have hB := alloc_below w (.cells #[.int .i64 x.N, .int .i64 x.start, .int .i64 x.inp, .int .i64 x.out, .slice A x.mvs.length c] 24)
  have HBk := Sd.mk (heap_alloc_new w (.cells #[.int .i64 x.N, .int .i64 x.start, .int .i64 x.inp, .int .i64 x.out, .slice A x.mvs.length c] 24))
  have HC := Sd.mk (testErr_calls _ x hx A c g ct (hr.below hB) T hT0 hT4 (hN.below hB) hnl)
  have HB := Sd.mk hB
  have HR := Sd.mk hr
  have HN := Sd.mk hN
  have HT := Sd.mk hT
  have HX := Sd.mk hx
  have HOK := Sd.mk hok
  clear hr hN hnl hx hB hT hok
  unfold rxV at *
  by_cases hz : (ckS x.inp x.out T).2 = 0
  · have HP : ∀ e w' B c, Below w.heap.size w w' → e = .returned (.tuple #[.int .i64 (performS (sysOf x) T).1, .slice B (performS (sysOf x) T).2.length c, .int .i64 0]) → RdI w' B (performS (sysOf x) T).2 → PerfPost x T w e w' := fun e w' B c h1 h2 h3 => ⟨h1, .inr ⟨hz, B, c, h2, h3⟩⟩
    have HP := Sd.mk HP
    rw [hz] at HC
    have HSO := Sd.mk (fun w' (h : RdM w' A x.mvs) => systemOf_calls w' x HX.out A c h)
    clear hz
    have HPf := Sd.mk (fun w' gs (hX : Sys w' gs (sysOf x)) (hTb : Tab w') (hN : NodesAt w' g T) => perform_tr w' gs g ct (sysOf x) T HOK.out (by omega) hT0 hX hTb hN)
    clear HOK
    go_enter Tryd.func23, Tryd.ntmps23
    go_wp2_with (first | (go_at_call 53; refine HC.out.mono ?_; rintro e w1 ⟨rfl, hB1⟩; have HB1 := Sd.mk (below_then HB.out HB.out.size hB1); have hbk := (hB1.block w.heap.size (by simp)).trans HBk.out; have b0 := cell_blk hbk 0; have b1 := cell_blk hbk 1; have b2 := cell_blk hbk 2; have b3 := cell_blk hbk 3; have b4 := cell_blk hbk 4; clear hB1 hbk) | (go_at_call 39; refine (HSO.out _ (HR.out.below HB1.out)).mono ?_; rintro e w2 ⟨gs, rfl, hS, hB2⟩; have HB2 := Sd.mk (below_then HB1.out HB1.out.size hB2); have HS := Sd.mk hS; clear hB2 hS) | (go_at_call 41; refine (HPf.out _ gs HS.out (HT.out.below HB2.out) (HN.out.below HB2.out)).mono ?_; rintro e w3 ⟨Bt, cb, rfl, hR3, hB3⟩; have HB3 := Sd.mk (below_then HB2.out HB2.out.size hB3); have HR3 := Sd.mk hR3; clear hB3 hR3) | fail)
    go_quiet (fail)
    go_wp2_with fail
    refine bodyPost_ret (v := .tuple #[.int .i64 (performS (sysOf x) T).1, .slice Bt (performS (sysOf x) T).2.length cb, .int .i64 0]) (by simp [results, Tryd.results23, go_sem]) rfl (HP.out _ _ Bt cb ?_ rfl ?_)
    · exact below_drewN (HB3.out.alloc HB3.out.size _) _
    · exact (HR3.out.below (alloc_below _ _)).below (below_drewN (Below.refl _ _) _)
  · have hne : ((ckS x.inp x.out T).2 != 0) = true := bne_iff_ne.2 hz
    have HP : ∀ e w', Below w.heap.size w w' → e = .returned (.tuple #[.int .i64 0, .slice none 0 0, .int .i64 (ckS x.inp x.out T).2]) → PerfPost x T w e w' := fun e w' h1 h2 => ⟨h1, .inl ⟨hz, h2⟩⟩
    have HP := Sd.mk HP
    clear hz
    generalize (ckS x.inp x.out T).2 = code at *
    go_enter Tryd.func23, Tryd.ntmps23
    go_wp2_with (first | (go_at_call 53; refine HC.out.mono ?_; rintro e w1 ⟨rfl, hB1⟩; have HB1 := Sd.mk (below_then HB.out HB.out.size hB1); clear hB1) | fail)
    exact bodyPost_ret (v := .tuple #[.int .i64 0, .slice none 0 0, .int .i64 code]) (by simp [results, Tryd.results23, go_sem]) rfl (HP.out _ _ HB1.out rfl)
end Go.Proofs.YtcbhaeniahckhaaDoor
end
section
set_option linter.unusedSimpArgs false
set_option linter.unusedVariables false
namespace Go.Proofs.YtcbhaeniahckhaaDoor
open Go.RowKit Go.Shelf Go.Deep Go.Proofs.YtcbhaeniahckhaaDoorW.PrintLast
set_option maxHeartbeats 4000000 in
set_option maxRecDepth 100000 in
theorem same2_calls (w : World) (A B : Option Addr) (c c' : Nat) (xs ys : List Nat) (hl : xs.length ≤ 2000000) (hl' : ys.length ≤ 2000000) (hr : RdI w A xs) (hr' : RdI w B ys) : Calls Tryd.prog 19 #[.slice A xs.length c, .slice B ys.length c'] w fun e w' => e = .returned (.bool (decide (xs = ys))) ∧ Below w.heap.size w w' := by
  have HR := Sd.mk hr
  have HR' := Sd.mk hr'
  clear hr hr'
  by_cases hlen : xs.length = ys.length
  · have hbl : ((xs.length : Int) != (ys.length : Int)) = false := by rw [hlen]; simp
    have HL := Sd.mk hlen
    clear hlen
    go_enter Tryd.func19, Tryd.ntmps19
    go_wp2
    go_loopw [5] (fun i wq => ∃ j : Nat, i = .int .i64 j ∧ j ≤ xs.length ∧ Sd (decide (xs = ys) = decide (xs.drop j = ys.drop j)) ∧ Sd (Below w.heap.size w wq)) (fun i _ => xs.length - (intOf i).toNat)
    case atStart => exact ⟨0, rfl, Nat.zero_le _, ⟨rfl⟩, ⟨Below.refl _ _⟩⟩
    case round =>
      obtain ⟨W1, hW1⟩ : ∃ W : World, W = wr := ⟨wr, rfl⟩
      subst hW1
      obtain ⟨j, rfl, hj, hq, hB⟩ := hrel
      by_cases hlt : j < xs.length
      · have hlt2 : Sd (j < ys.length) := ⟨by have := HL.out; omega⟩
        obtain ⟨ad, e1, e2⟩ := (HR.out.below hB.out) j hlt
        obtain ⟨bd, e3, e4⟩ := (HR'.out.below hB.out) j hlt2.out
        subst e1
        subst e3
        have hlt3 := hlt2.out
        have hst : Sd (decide (xs = ys) = (decide (xs.getD j 0 = ys.getD j 0) && decide (xs.drop (j + 1) = ys.drop (j + 1)))) := ⟨by rw [hq.out, drop_getD xs j hlt, drop_getD ys j hlt2.out, Bool.eq_iff_iff]; simp⟩
        generalize xs.getD j 0 = a at *
        generalize ys.getD j 0 = b at *
        by_cases hf : a = b
        · have b0 : ((a : Int) != (b : Int)) = false := by rw [hf]; simp
          have HN : Sd (decide (xs = ys) = decide (xs.drop (j + 1) = ys.drop (j + 1))) := ⟨by rw [hst.out, decide_eq_true hf, Bool.true_and]⟩
          clear hf
          go_wp2_with fail
          go_quiet (fail)
          go_wp2
          go_roundw
          case rel => exact ⟨j + 1, by go_num, by omega, HN, ⟨below_drewN hB.out _⟩⟩
          case measure => simp [intOf]; omega
        · have b0 : ((a : Int) != (b : Int)) = true := by rw [bne_iff_ne]; omega
          have HN : Sd (decide (xs = ys) = false) := ⟨by rw [hst.out, decide_eq_false hf, Bool.false_and]⟩
          clear hf
          go_wp2_with fail
          go_quiet (fail)
          go_wp2
          go_ret
          exact ⟨ret_bool HN.out.symm, below_drewN hB.out _⟩
      · obtain rfl : j = xs.length := by omega
        have HN : Sd (decide (xs = ys) = true) := ⟨by rw [hq.out, List.drop_length, HL.out, List.drop_length]; simp⟩
        clear hbl
        go_wp2
        go_ret
        exact ⟨ret_bool HN.out.symm, hB.out⟩
  · have hbl : ((xs.length : Int) != (ys.length : Int)) = true := by rw [bne_iff_ne]; omega
    have HN : Sd (decide (xs = ys) = false) := ⟨decide_eq_false (fun h => hlen (by rw [h]))⟩
    clear hlen
    go_enter Tryd.func19, Tryd.ntmps19
    go_wp2
    go_ret
    exact ⟨ret_bool HN.out.symm, Below.refl _ _⟩
set_option maxHeartbeats 2000000 in
set_option maxRecDepth 100000 in
theorem own2_calls (w : World) (A : Option Addr) (c : Nat) (xs : List Nat) (hl : xs.length ≤ 2000000) (hr : RdI w A xs) :
    Calls Tryd.prog 21 #[.slice A xs.length c] w fun e w' => ∃ v, e = .returned v ∧ OwnI w' w.heap.size v xs ∧ Below w.heap.size w w' := by
  cases A with
  | none =>
    have h0 : xs = [] := by
      cases xs with
      | nil => rfl
      | cons a xs => obtain ⟨ad, h1, _⟩ := hr 0 (by simp); cases h1
    subst h0
    go_enter Tryd.func21, Tryd.ntmps21
    go_wp2
    go_ret
    exact ⟨_, rfl, World.ownsRow_made w #[] 0 (Nat.le_refl _) (Nat.zero_le _) rfl, alloc_below _ _⟩
  | some ad =>
    obtain ⟨i0, hi, hz0, hz1, hz2⟩ := info_parts Tryd.info3
    have HR := Sd.mk hr
    clear hr
    go_enter Tryd.func21, Tryd.ntmps21
    go_wp2_with (at_builtin; refine wpList_append_own _ rfl _ _ 27 rfl w.heap.size 3 i0 (.int .i64 0) 1 8 Tryd.underlying27 hi hz0 hz1 hz2 rfl (by decide) _ _ _ rfl (World.ownsRow_made w #[] 0 (Nat.le_refl _) (Nat.zero_le _) rfl) ad xs.length c (xs.map fun (x : Nat) => Value.int .i64 (x : Int)) rfl ?qc1 ?qc2 ?qc3 ?qc4 ?qc5 ?qc6 ?_)
    case qc1 => simp
    case qc2 =>
      intro j u hj
      have hjn : j < xs.length := by have := (List.getElem?_eq_some_iff.1 hj).1; simpa using this
      obtain ⟨ad', h1, h2⟩ := HR.out j hjn
      cases h1
      refine cell_later (alloc_below w _) (h2.trans ?_)
      rw [← hj, List.getElem?_map, List.getElem?_eq_getElem hjn]
      simp [List.getD_eq_getElem?_getD, List.getElem?_eq_getElem hjn]
    case qc3 => intro u hu; obtain ⟨x, _, rfl⟩ := List.mem_map.1 hu; rfl
    case qc4 => unfold maxLen; omega
    case qc5 => omega
    case qc6 => simp
    intro v' w1 hown hgrow hnil
    go_wp2
    go_ret
    refine ⟨v', rfl, by unfold OwnI; simpa using hown, ?_⟩
    exact ((Below.refl _ w).alloc (Nat.le_refl _) _).grown hgrow (by simp) (by intro k hk; simp [Value.ownBlock] at hk; omega)
theorem same_true (w : World) (A B : Option Addr) (c c' n : Nat) (xs : List Nat) (hn : n = xs.length) (hl : xs.length ≤ 2000000) (hr : RdI w A xs) (hr' : RdI w B xs) : Calls Tryd.prog 19 #[.slice A n c, .slice B n c'] w fun e w' => e = .returned (.bool true) ∧ Below w.heap.size w w' := by
  subst hn
  exact (same2_calls w A B c c' xs xs hl hl hr hr').mono fun e w' ⟨h1, h2⟩ => ⟨by rw [h1, decide_eq_true rfl], h2⟩
theorem own_n (w : World) (A : Option Addr) (c n : Nat) (xs : List Nat) (hn : n = xs.length) (hl : xs.length ≤ 2000000) (hr : RdI w A xs) : Calls Tryd.prog 21 #[.slice A n c] w fun e w' => ∃ B cB, e = .returned (.slice B n cB) ∧ RdI w' B xs ∧ Below w.heap.size w w' := by
  subst hn
  exact (own2_calls w A c xs hl hr).mono fun e w' ⟨v, h1, h2, h3⟩ => by
    obtain ⟨B, cB, rfl, _, hr2⟩ := h2.read
    exact ⟨B, cB, h1, hr2, h3⟩
theorem conf_some2 (w : World) (hT : Tab w) (x y : Rx) (hx : x.ok) (hy : y.ok) (hio : x.inp = y.inp ∧ x.out = y.out) (A A' : Option Addr) (c c' : Nat) (hr : RdM w A x.mvs) (hr' : RdM w A' y.mvs) (p : List Nat) (e : Nat) (hs : SomeP x y p e) (n : Nat) (hn : n = p.length) : Calls Tryd.prog 7 #[rxV x A c, rxV y A' c'] w fun e' w' => ∃ at_ ct, e' = .returned (.tuple #[.slice (some at_) (n + 1) ct, .int .i64 29]) ∧ n + 1 ≤ ct ∧ RdI w' (some at_) (p ++ [e]) ∧ Below w.heap.size w w' :=
  (conforms_calls w hT x y hx hy hio A A' c c' hr hr').mono fun e' w' ⟨v, h1, hB, _, h2⟩ => by
    have ho : OwnI w' w.heap.size v (p ++ [e]) := by
      have := h2 _ hs.tr
      unfold OwnI
      rw [List.length_map, List.map_map] at this
      exact this
    obtain ⟨At, ct, rfl, hct, hr⟩ := ho.read
    obtain ⟨ad, hA, _⟩ := hr 0 (by simp)
    subst hA
    rw [List.length_append, List.length_singleton] at hct
    refine ⟨ad, ct, ?_, by omega, hr, hB⟩
    rw [h1, hs.tr, hn]
    simp
theorem someP_ren {x y q z : Rx} {tl ul : List Nat} (h : Ren2 x y q z tl ul) {p : List Nat} {e : Nat} (hs : SomeP x y p e) : SomeP q z p e := by
  obtain ⟨p', e', h'⟩ := someP_of q z h.a.ok' h.b.ok' _ (h.seek.1.trans hs.tr)
  have h1 := Option.some.inj (h'.tr.symm.trans (h.seek.1.trans hs.tr))
  have h2 : p' ++ [e'] = p ++ [e] := by
    have := congrArg (List.map Int.toNat) h1
    simpa [List.map_map, Function.comp_def] using this
  obtain ⟨h3, h4⟩ := List.append_inj' h2 rfl
  rw [← h3, ← (List.cons.inj h4).1]
  exact h'
theorem RdI.left {w : World} {A : Option Addr} {xs ys : List Nat} (h : RdI w A (xs ++ ys)) : RdI w A xs := fun i hi => by
  obtain ⟨ad, e1, e2⟩ := h i (by rw [List.length_append]; omega)
  refine ⟨ad, e1, e2.trans ?_⟩
  rw [List.getD_eq_getElem?_getD, List.getD_eq_getElem?_getD, List.getElem?_append_left hi]
set_option maxHeartbeats 2000000 in
set_option maxRecDepth 100000 in
theorem sameTest_nil (w : World) : Calls Tryd.prog 22 #[.slice none 0 0, .slice none 0 0] w fun e w' => e = .returned (.bool true) ∧ Below w.heap.size w w' := by
  go_enter Tryd.func22, Tryd.ntmps22
  go_wp2
  go_loop [5] (fun i => i = .int .i64 0) (fun _ => 0)
  case atStart => rfl
  case round =>
    subst hrel
    go_wp2
    go_ret
    exact ⟨rfl, Below.refl _ _⟩
/-- the test of a trace that is short enough -/
structure TOK (x : Rx) (p : List Nat) : Prop where
  pos : 0 < (testS (sysOf x) p).length
  le : (testS (sysOf x) p).length ≤ 400
  ok : ∀ i, i < (testS (sysOf x) p).length → NdOK (sysOf x) (testS (sysOf x) p) i
  nl : ∀ i, i < (testS (sysOf x) p).length → ((testS (sysOf x) p).getD i ndD).nx.length ≤ 1000
theorem tok_of (x : Rx) (hx : x.ok) (p : List Nat) (hp : p.length ≤ 40) : TOK x p := by
  obtain ⟨_, h2, h3, h4⟩ := testS_ok (sysOf x) p
  have ho : (sysOf x).out ≤ 4 := hx.ho
  refine ⟨h3, ?_, h2, fun i hi => ?_⟩
  · have := Nat.mul_le_mul (show (sysOf x).out + 2 ≤ 6 by omega) (show p.length + 1 ≤ 41 by omega)
    omega
  · have := (h2 i hi).2.1
    omega
theorem test_big (w : World) (hT : Tab w) (x : Rx) (hx : x.ok) (A B : Option Addr) (c c' n : Nat) (tr : List Nat) (hn : n = tr.length) (hl : tr.length ≤ 2000000) (hev : ∀ e ∈ tr, e ≤ x.inp + x.out) (hne : alongS (sysOf x) tr ≠ 0) (hrx : RdM w A x.mvs) (hr : RdI w B tr) (hb : 40 < tr.length) :
    Calls Tryd.prog 20 #[rxV x A c, .slice B n c'] w fun e w' => e = .returned (.tuple #[.slice none 0 0, .int .i64 2]) ∧ Below w.heap.size w w' := by
  subst hn
  exact (testOf_top w hT x hx A B c c' tr hl hev hne hrx hr).mono fun e w' ⟨h1, h2⟩ => h2.elim (fun h => ⟨h.2, h1⟩) (fun h => absurd hb h.1)
theorem test_small (w : World) (hT : Tab w) (x : Rx) (hx : x.ok) (A B : Option Addr) (c c' n : Nat) (tr : List Nat) (hn : n = tr.length) (hl : tr.length ≤ 2000000) (hev : ∀ e ∈ tr, e ≤ x.inp + x.out) (hne : alongS (sysOf x) tr ≠ 0) (hrx : RdM w A x.mvs) (hr : RdI w B tr) (hb : ¬ 40 < tr.length) (T : List Nd) (hTe : testS (sysOf x) tr = T) (hT0 : 0 < T.length) :
    Calls Tryd.prog 20 #[rxV x A c, .slice B n c'] w fun e w' => ∃ g cg, e = .returned (.tuple #[.slice (some ⟨g, 0, none⟩) T.length cg, .int .i64 0]) ∧ NodesAt w' g T ∧ Below w.heap.size w w' := by
  subst hn
  subst hTe
  exact (testOf_top w hT x hx A B c c' tr hl hev hne hrx hr).mono fun e w' ⟨h1, h2⟩ => h2.elim (fun h => absurd h.1 hb) (fun ⟨_, v, h3, h4⟩ => by
    obtain ⟨g, cg, rfl, h5⟩ := h4.node hT0
    exact ⟨g, cg, h3, h5, h1⟩)
theorem ownTest_n (w : World) (g ct : Nat) (T : List Nd) (hT0 : 0 < T.length) (hT4 : T.length ≤ 1000) (hN : NodesAt w g T) (hnl : ∀ i, i < T.length → (T.getD i ndD).nx.length ≤ 1000) :
    Calls Tryd.prog 24 #[.slice (some ⟨g, 0, none⟩) T.length ct] w fun e w' => ∃ g' c', e = .returned (.slice (some ⟨g', 0, none⟩) T.length c') ∧ NodesAt w' g' T ∧ Below w.heap.size w w' :=
  (ownTest_calls w g ct T hT4 hN hnl).mono fun e w' ⟨v, h1, h2, h3⟩ => by
    obtain ⟨g', c', rfl, h5⟩ := h2.node hT0
    exact ⟨g', c', h1, h5, h3⟩
theorem perform_bad (w : World) (hT : Tab w) (x : Rx) (hx : x.ok) (A : Option Addr) (c g ct : Nat) (hr : RdM w A x.mvs) (T : List Nd) (hok : ∀ i, i < T.length → NdOK (sysOf x) T i) (hT0 : 0 < T.length) (hT4 : T.length ≤ 400) (hN : NodesAt w g T) (hnl : ∀ i, i < T.length → (T.getD i ndD).nx.length ≤ 1000) (code : Int) (hc : (ckS x.inp x.out T).2 = code) (h0 : code ≠ 0) :
    Calls Tryd.prog 23 #[.slice (some ⟨g, 0, none⟩) T.length ct, rxV x A c] w fun e w' => e = .returned (.tuple #[.int .i64 0, .slice none 0 0, .int .i64 code]) ∧ Below w.heap.size w w' := by
  subst hc
  exact (perform_top w hT x hx A c g ct hr T hok hT0 hT4 hN hnl).mono fun e w' ⟨h1, h2⟩ => h2.elim (fun h => ⟨h.2, h1⟩) (fun h => absurd h.1 h0)
theorem perform_good (w : World) (hT : Tab w) (x : Rx) (hx : x.ok) (A : Option Addr) (c g ct : Nat) (hr : RdM w A x.mvs) (T : List Nd) (hok : ∀ i, i < T.length → NdOK (sysOf x) T i) (hT0 : 0 < T.length) (hT4 : T.length ≤ 400) (hN : NodesAt w g T) (hnl : ∀ i, i < T.length → (T.getD i ndD).nx.length ≤ 1000) (h0 : (ckS x.inp x.out T).2 = 0) (p : List Nat) (e0 n : Nat) (hn : n = p.length) (hp : performS (sysOf x) T = (3, p ++ [e0])) :
    Calls Tryd.prog 23 #[.slice (some ⟨g, 0, none⟩) T.length ct, rxV x A c] w fun e w' => ∃ B c, e = .returned (.tuple #[.int .i64 3, .slice B (n + 1) c, .int .i64 0]) ∧ RdI w' B (p ++ [e0]) ∧ Below w.heap.size w w' := by
  subst hn
  exact (perform_top w hT x hx A c g ct hr T hok hT0 hT4 hN hnl).mono fun e w' ⟨h1, h2⟩ => h2.elim (fun h => absurd h0 h.1) (fun ⟨_, B, c, h3, h4⟩ => by
    rw [hp] at h3 h4
    refine ⟨B, c, ?_, h4, h1⟩
    rw [h3]
    simp)
end Go.Proofs.YtcbhaeniahckhaaDoor
end
