/- A system's states numbered anew, walked. Conditions: those that the theorem names. -/
import Derived.Test.YtcbhaeniahckhaaDoorNb
import Derived.Deep.CutBlock
set_option linter.unusedSimpArgs false
set_option linter.unusedVariables false
set_option linter.unusedSimpArgs false
namespace Go.Proofs.YtcbhaeniahckhaaDoor
open Go.RowKit Go.Shelf Go.Deep Go.Proofs.YtcbhaeniahckhaaDoorW.PrintLast
section
variable {P : Program}
/-- append of a piece of a row, maybe of nil, as one step of a region that draws -/
theorem step_append_opt {ops : Array Oper} {o : Oper} {a : Act} {K : Act → World → Prop} {Q : Exit → Act → World → Prop} {E : Prop} {w : World} (hgd : o.guard = none) (s x : Operand) (t : TypeId)
    (ho : o.op = .call { callee := .builtin .append, args := #[s, x], argTypes := #[t, t] })
    (base : Nat) (e : TypeId) (i : TypeInfo) (z : Value) (size bytes : Nat) (ht : P.underlying t = some (.slice e)) (hi : P.info? e = some i) (hz : i.zero = some z)
    (hsize : i.size = size) (hby : i.bytes = bytes) (hzs : z.cells.size = size) (hsz : 0 < size)
    (v : Value) (n : Nat) (xs : List Value) (hs : a.eval s = v) (hown : w.ownsRow base e size v n xs)
    (A : Option Addr) (m c : Nat) (news : List Value) (hx : a.eval x = .slice A m c) (hl : news.length = m * size) (hnews : ∀ j u, news[j]? = some u → ∃ ad, A = some ad ∧ w.cell? (ad.add j) = some u) (h1 : ∀ u ∈ news, u.oneCell' = true)
    (h63 : n + m ≤ maxLen) (hbytes : (n + m) * bytes ≤ 140737488355328) (hbase : base ≤ w.heap.size)
    (h : ∀ v' w', w'.ownsRow base e size v' (n + m) (xs ++ news) → w.grownBy w' v.ownBlock → (v'.ownBlock = v.ownBlock ∨ v'.ownBlock = some w.heap.size) → K (a.put o.dst v') w') :
    if Region.wanted o (yielded ops a.tmps) = true then Oper.wp P o a w K Q else E := by
  cases A with
  | some ad =>
    exact step_append_any hgd s x t ho base e i z size bytes ht hi hz hsize hby hzs hsz v n xs hs hown ad m c news hx hl (fun j u hj => by obtain ⟨ad', h1, h2⟩ := hnews j u hj; cases h1; exact h2) h1 h63 hbytes hbase h
  | none =>
    have hn : news = [] := by
      cases news with
      | nil => rfl
      | cons u us => obtain ⟨ad', h1, _⟩ := hnews 0 u rfl; cases h1
    subst hn
    have hm : m = 0 := by
      rcases Nat.eq_zero_or_pos m with h0 | h0
      · exact h0
      · have : 0 < m * size := Nat.mul_pos h0 hsz
        simp at hl; omega
    subst hm
    have hrun : (Builtin.append_ #[t, t] o.type #[v, .slice none 0 c]).run P w = .ok v w := by
      rcases hown.2 with ⟨rfl, rfl⟩ | ⟨g, cap, cur, rfl, _, _, hnc, _⟩
      · simp [Builtin.append_, run_underlying ht, sizeOf, typeInfo, hi, Builtin.lenOf, Builtin.firstCells]
      · simp [Builtin.append_, run_underlying ht, sizeOf, typeInfo, hi, Builtin.lenOf, Builtin.firstCells, hnc, storeCells]
    have hw : Region.wanted o (yielded ops a.tmps) = true := by simp [Region.wanted, hgd]
    rw [if_pos hw]
    unfold Oper.wp execOp
    simp only [ho, resolve, invoke, builtin, Sem.run_bind, Sem.run_pure, Result.andThen_ok, List.map_toArray, List.map_cons, List.map_nil, hs, hx, hrun]
    exact h _ _ (by simpa using hown) (World.grownBy.refl w _) (.inl rfl)
end
theorem row_below {w w' : World} {base e size n : Nat} {v : Value} {xs : List Value} (h : w.ownsRow base e size v n xs) (hB : Below w.heap.size w w') : w'.ownsRow base e size v n xs :=
  h.kept (row := none) ⟨hB.os, hB.tape, hB.output, hB.size, fun k hk _ => hB.block k hk⟩ (Classical.em _)
theorem own_cap {w : World} {base e size g n cap : Nat} {xs : List Value} (h : w.ownsRow base e size (.slice (some ⟨g, 0, none⟩) n cap) n xs) : n ≤ cap := by
  rcases h.2 with ⟨h1, _⟩ | ⟨g', cap', cur, h1, _, _, h2, _⟩
  · cases h1
  · cases h1; exact h2
theorem own_mkE (W : World) : (W.alloc (.cells #[] 94)).ownsRow W.heap.size 94 4 (.slice (some ⟨W.heap.size, 0, none⟩) 0 0) 0 [] := World.ownsRow_made W #[] 0 (Nat.le_refl _) (Nat.zero_le _) rfl
theorem own_mkE3 (W : World) (o : Obj) : ((W.alloc o).alloc (.cells #[] 94)).ownsRow W.heap.size 94 4 (.slice (some ⟨W.heap.size + 1, 0, none⟩) 0 0) 0 [] := by
  have h := World.ownsRow_made (base := W.heap.size) (e := 94) (size := 4) (W.alloc o) #[] 0 (by simp) (Nat.zero_le _) rfl
  rw [show (W.alloc o).heap.size = W.heap.size + 1 by simp] at h
  exact h
/-- a system that is being moved, as it lies -/
structure MvAt (w wq : World) (x : Rx) (A : Option Addr) (c : Nat) (tl : List Nat) (L : List Mv) (v : Value) : Prop where
  below : Below w.heap.size w wq
  b0 : wq.heap[w.heap.size]? = some (.cells #[.int .i64 x.N, .int .i64 x.start, .int .i64 x.inp, .int .i64 x.out, .slice A x.mvs.length c] 24 (0, 0))
  b1 : wq.heap[w.heap.size + 1]? = some (.cells #[.int .i64 0, .int .i64 0, .int .i64 0, .int .i64 0, .slice none 0 0] 24 (0, 0))
  b2 : wq.heap[w.heap.size + 1 + 1]? = some (.cells #[.int .i64 x.N, .int .i64 (tl.getD x.start 0 : Nat), .int .i64 x.inp, .int .i64 x.out, v] 24 (0, 0))
  own : wq.ownsRow (w.heap.size + 1 + 1 + 1) 94 4 v L.length (L.flatMap mvCells)
theorem MvAt.later {w wq w' : World} {x : Rx} {A : Option Addr} {c : Nat} {tl : List Nat} {L : List Mv} {v : Value} (h : MvAt w wq x A c tl L v) (hB : Below wq.heap.size wq w') : MvAt w w' x A c tl L v :=
  ⟨below_then h.below h.below.size hB, (hB.block _ (Array.getElem?_eq_some_iff.1 h.b0).1).trans h.b0, (hB.block _ (Array.getElem?_eq_some_iff.1 h.b1).1).trans h.b1, (hB.block _ (Array.getElem?_eq_some_iff.1 h.b2).1).trans h.b2, row_below h.own hB⟩
theorem MvAt.set {w W3 w3 : World} {x : Rx} {A : Option Addr} {c n : Nat} {tl : List Nat} {L L' : List Mv} {v v3 : Value} {xs : List Value} (h : MvAt w W3 x A c tl L v) (hB : Below W3.heap.size W3 w3) (ho : w3.ownsRow W3.heap.size 94 4 v3 n xs) (hn : n = L'.length) (hx : xs = L'.flatMap mvCells) :
    MvAt w (w3.setCell ⟨w.heap.size + 1 + 1, 4, none⟩ v3) x A c tl L' v3 := by
  have z2 := (Array.getElem?_eq_some_iff.1 h.b2).1
  have h2 := (hB.block _ z2).trans h.b2
  have h0 := (hB.block _ (Array.getElem?_eq_some_iff.1 h.b0).1).trans h.b0
  have h1 := (hB.block _ (Array.getElem?_eq_some_iff.1 h.b1).1).trans h.b1
  subst hn
  subst hx
  refine ⟨(below_then h.below h.below.size hB).setCell (by simp; omega) _, (Below.heap_setCell _ _ _ _ (by show w.heap.size ≠ w.heap.size + 1 + 1; omega)).trans h0, (Below.heap_setCell _ _ _ _ (by show w.heap.size + 1 ≠ w.heap.size + 1 + 1; omega)).trans h1, blk_set h2 4 _, ?_⟩
  refine (own_mono ho (show w.heap.size + 1 + 1 + 1 ≤ W3.heap.size by omega)).kept (row := some (w.heap.size + 1 + 1)) ⟨rfl, rfl, rfl, by simp [World.setCell], fun k hk hne => Below.heap_setCell _ _ _ _ (fun e => hne (by rw [e]))⟩ ?_
  by_cases e : v3.ownBlock = some (w.heap.size + 1 + 1)
  · have := (ho.lt _ e).1; omega
  · exact .inr e
/-- cells of a block, as what is appended -/
theorem news_blk {W : World} {b : Nat} {t : TypeId} (cs : List Value) (h : W.heap[b]? = some (.cells cs.toArray t (0, 0))) : ∀ i u, cs[i]? = some u → ∃ ad, some (⟨b, 0, none⟩ : Addr) = some ad ∧ W.cell? (ad.add i) = some u := fun i u hi => by
  refine ⟨_, rfl, ?_⟩
  rw [show (⟨b, 0, none⟩ : Addr).add i = ⟨b, i, none⟩ by unfold Addr.add; split <;> simp_all, cell_blk h]
  simpa using hi
/-- moves of a row from one place on, as what is appended -/
theorem news_mv {W W' : World} {base g n cap : Nat} {L : List Mv} (h : W.ownsRow base 94 4 (.slice (some ⟨g, 0, none⟩) n cap) n (L.flatMap mvCells)) (hn : n = L.length) (hB : Below W.heap.size W W') (L1 L2 L3 : List Mv) (he : L = L1 ++ L2 ++ L3) : ∀ i u, (L2.flatMap mvCells)[i]? = some u → ∃ ad, some (⟨g, L1.length * 4, none⟩ : Addr) = some ad ∧ W'.cell? (ad.add i) = some u := fun i u hi => by
  refine ⟨_, rfl, cell_later hB ?_⟩
  have hil := (List.getElem?_eq_some_iff.1 hi).1
  have h1 := (flat_mv L1).1
  have h2 := (flat_mv L2).1
  have hl : L.length = L1.length + L2.length + L3.length := by rw [he]; simp; omega
  rw [show (⟨g, L1.length * 4, none⟩ : Addr).add i = ⟨g, L1.length * 4 + i, none⟩ by unfold Addr.add; split <;> simp_all, h.cellAt _ (by omega), he, List.flatMap_append, List.flatMap_append, List.append_assoc, List.getElem?_append_right (by omega), List.getElem?_append_left (by omega), ← hi]
  congr 1
  omega
theorem mv_one (L : List Mv) : ∀ u ∈ L.flatMap mvCells, u.oneCell' = true := fun u hu => by
  obtain ⟨m, _, hm2⟩ := List.mem_flatMap.1 hu
  simp only [mvCells, List.mem_cons, List.not_mem_nil, or_false] at hm2
  rcases hm2 with rfl | rfl | rfl | rfl <;> rfl
set_option maxHeartbeats 8000000 in
set_option maxRecDepth 100000 in
theorem moved_calls (w : World) (x : Rx) (hx : x.ok) (A : Option Addr) (c : Nat) (hr : RdM w A x.mvs) (tl : List Nat) (ht : ShI x.N x.N [] tl) (B : Option Addr) (c' : Nat) (hto : RdI w B tl) :
    Calls Tryd.prog 16 #[rxV x A c, .slice B tl.length c'] w fun e w' => ∃ q A' cq, e = .returned (rxV q A' cq) ∧ Moved x tl q ∧ RdM w' A' q.mvs ∧ (∀ ad, A' = some ad → ∃ cs, w'.heap[ad.block]? = some (.cells cs 94 (0, 0))) ∧ Below w.heap.size w w' := by
  have HX := Sd.mk hx
  have HR := Sd.mk hr
  have HT := Sd.mk ht
  have HTO := Sd.mk hto
  have hN := hx.hN
  have hs := hx.hs
  have hm := hx.hm
  have hlo := ht.lo
  have hlo1 : tl.length ≤ x.N := by omega
  have hlo2 : x.N ≤ tl.length := by omega
  obtain ⟨ad, e1, e2⟩ := hto x.start (by omega)
  have e3 := cell_later (((alloc_below w (.cells #[.int .i64 x.N, .int .i64 x.start, .int .i64 x.inp, .int .i64 x.out, .slice A x.mvs.length c] 24)).alloc (by simp) (.cells #[.int .i64 0, .int .i64 0, .int .i64 0, .int .i64 0, .slice none 0 0] 24))) e2
  have e4 := cell_later ((((alloc_below w (.cells #[.int .i64 x.N, .int .i64 x.start, .int .i64 x.inp, .int .i64 x.out, .slice A x.mvs.length c] 24)).alloc (by simp) (.cells #[.int .i64 0, .int .i64 0, .int .i64 0, .int .i64 0, .slice none 0 0] 24))).alloc (by simp <;> omega) (.cells #[.int .i64 0, .int .i64 0, .int .i64 0, .int .i64 0, .slice none 0 0] 24)) e2
  obtain ⟨s', hs'⟩ : ∃ s', s' = tl.getD x.start 0 := ⟨_, rfl⟩
  rw [← hs'] at e2 e3 e4
  have HS' := Sd.mk hs'
  have hst : (x.start : Int) < (tl.length : Int) := by omega
  subst e1
  clear hx hr ht hto hlo hs'
  unfold rxV
  have hM0 : MvAt w ((((w.alloc (.cells #[.int .i64 x.N, .int .i64 x.start, .int .i64 x.inp, .int .i64 x.out, .slice A x.mvs.length c] 24)).alloc (.cells #[.int .i64 0, .int .i64 0, .int .i64 0, .int .i64 0, .slice none 0 0] 24)).alloc (.cells #[.int .i64 x.N, .int .i64 s', .int .i64 x.inp, .int .i64 x.out, .slice none 0 0] 24)).drew) x A c tl [] (.slice none 0 0) :=
    ⟨below_drew (((alloc_below _ _).alloc (by simp) _).alloc (by simp <;> omega) _), (heap_alloc_old _ _ (by simp <;> omega)).trans ((heap_alloc_old _ _ (by simp)).trans (heap_alloc_new w _)), (heap_alloc_old _ _ (by simp)).trans (alloc_at _ _ _ (by simp)), (alloc_at _ _ _ (by simp)).trans (by rw [HS'.out]), World.ownsRow_nil _ _ _ _⟩
  have HM0 := Sd.mk hM0
  clear hM0
  go_enter Tryd.func16, Tryd.ntmps16
  go_upto_region 1 with fail
  go_cut [5] (fun s5 wx => s5 = .pointer (some ⟨w.heap.size + 1 + 1, 0, none⟩) ∧ Sd (MvAt w wx x A c tl [] (.slice none 0 0)))
  case first =>
    go_region
    go_wp2_with fail
    go_meet
    exact ⟨rfl, HM0⟩
  case rest =>
  obtain ⟨rfl, HM1⟩ := hcut
  clear HM0 e2 e3 e4 hst
  go_wp2_with fail
  go_loopw [6] (fun i wq => ∃ (k : Nat) (L : List Mv) (v : Value), i = .int .i64 k ∧ k ≤ x.mvs.length ∧ Sd (MvAt w wq x A c tl L v) ∧ Sd (MovI x tl k L) ∧ Sd (k = 0 → v = .slice none 0 0)) (fun i _ => x.mvs.length - (intOf i).toNat)
  case atStart => exact ⟨0, [], _, rfl, Nat.zero_le _, HM1, ⟨⟨by simp, List.Pairwise.nil⟩⟩, ⟨fun _ => rfl⟩⟩
  case round =>
    obtain ⟨W1, hW1⟩ : ∃ W : World, W = wr := ⟨wr, rfl⟩
    subst hW1
    obtain ⟨k, L, v, rfl, hk, hM, hI, hv0⟩ := hrel
    have c4 := cell_blk hM.out.b0 4
    by_cases hlt : k < x.mvs.length
    · obtain ⟨am, f1, f2, f3, f4, f5⟩ := (HR.out.below hM.out.below) k hlt
      subst f1
      have hkm : x.mvs.getD k mvZ ∈ x.mvs := getD_mem' hlt
      obtain ⟨m1, m2, m3⟩ := HX.out.mv _ hkm
      obtain ⟨m, hm'⟩ : ∃ m, m = x.mvs.getD k mvZ := ⟨_, rfl⟩
      rw [← hm'] at f2 f3 f4 f5 m1 m2
      have HMM := Sd.mk hm'
      clear hm' hkm m3
      have hm1 : (m.frm : Int) < (tl.length : Int) := by omega
      have hm2 : (m.tgt : Int) < (tl.length : Int) := by omega
      obtain ⟨ad1, g1, g2⟩ := (HTO.out.below hM.out.below) m.frm (by omega)
      obtain ⟨ad2, g3, g4⟩ := (HTO.out.below hM.out.below) m.tgt (by omega)
      cases g1
      cases g3
      have hbx := alloc_below W1 (.cells #[.int .i64 m.frm, .int .i64 m.kind, .int .i64 m.lab, .int .i64 m.tgt] 94)
      have g5 := cell_later hbx g2
      have g6 := cell_later hbx g4
      obtain ⟨s1, hs1⟩ : ∃ s1, s1 = tl.getD m.frm 0 := ⟨_, rfl⟩
      obtain ⟨s2, hs2⟩ : ∃ s2, s2 = tl.getD m.tgt 0 := ⟨_, rfl⟩
      rw [← hs1] at g2 g5
      rw [← hs2] at g4 g6
      have HS1 := Sd.mk hs1
      have HS2 := Sd.mk hs2
      have g7 := cell_later (alloc_below W1 (.cells #[.int .i64 s1, .int .i64 m.kind, .int .i64 m.lab, .int .i64 m.tgt] 94)) g4
      have g8 := cell_later (alloc_below W1 (.cells #[.int .i64 m.frm, .int .i64 m.kind, .int .i64 m.lab, .int .i64 s2] 94)) g2
      clear hs1 hs2 hbx
      go_upto_region 6 with fail
      go_cut [7] (fun s7 wx => ∃ nb, s7 = .pointer (some ⟨nb, 0, none⟩) ∧ w.heap.size + 1 + 1 < nb ∧ Sd (MvAt w wx x (some am) c tl L v) ∧ Sd (wx.heap[nb]? = some (.cells #[.int .i64 s1, .int .i64 m.kind, .int .i64 m.lab, .int .i64 s2] 94 (0, 0))) ∧ Sd (∀ b, v.ownBlock = some b → w.heap.size + 1 + 1 + 1 ≤ b ∧ b < nb))
      case first =>
        have HM2 := Sd.mk (hM.out.later (below_drew (alloc_below W1 (.cells #[.int .i64 s1, .int .i64 m.kind, .int .i64 m.lab, .int .i64 s2] 94))))
        have HBN := Sd.mk (alloc_drew_at W1 (.cells #[.int .i64 s1, .int .i64 m.kind, .int .i64 m.lab, .int .i64 s2] 94) W1.heap.size rfl)
        have hnb2 := (Array.getElem?_eq_some_iff.1 hM.out.b2).1
        have HVL : Sd (∀ b, v.ownBlock = some b → w.heap.size + 1 + 1 + 1 ≤ b ∧ b < W1.heap.size) := ⟨hM.out.own.lt⟩
        go_region
        go_wp2_with fail
        go_meet
        exact ⟨_, rfl, hnb2, HM2, HBN, HVL⟩
      case rest =>
      obtain ⟨W2, hW2⟩ : ∃ W : World, W = wc := ⟨wc, rfl⟩
      subst hW2
      obtain ⟨nb, rfl, hnb2, HM2, HBN, HVL⟩ := hcut
      clear g2 g4 g5 g6 g7 g8 f2 f3 f4 f5 c4 hm1 hm2 hM
      have hLl := hI.out.len (by omega)
      have hLk : L.length ≤ k := by omega
      clear hLl
      go_upto_block 2 with fail
      go_cut [8] (fun s8 wx => ∃ j : Nat, s8 = .int .i64 j ∧ j ≤ L.length ∧ Sd (∀ i, i < j → cmpMv (L.getD i mvZ) ⟨s1, m.kind, m.lab, s2⟩ < 0) ∧ Sd (j < L.length → ¬ cmpMv (L.getD j mvZ) ⟨s1, m.kind, m.lab, s2⟩ < 0) ∧ Sd (Below W2.heap.size W2 wx))
      case first =>
        go_wp2_with fail
        go_loopw [8] (fun i wq => ∃ j : Nat, i = .int .i64 j ∧ j ≤ L.length ∧ Sd (∀ i, i < j → cmpMv (L.getD i mvZ) ⟨s1, m.kind, m.lab, s2⟩ < 0) ∧ Sd (Below W2.heap.size W2 wq)) (fun i _ => L.length - (intOf i).toNat)
        case atStart => exact ⟨0, rfl, Nat.zero_le _, ⟨fun i hi => by omega⟩, ⟨Below.refl _ _⟩⟩
        case round =>
          obtain ⟨W3, hW3⟩ : ∃ W : World, W = wr := ⟨wr, rfl⟩
          subst hW3
          obtain ⟨j, rfl, hj, hc, hB3⟩ := hrel
          have HM3 := Sd.mk (HM2.out.later hB3.out)
          have hbn3 := (hB3.out.block nb (Array.getElem?_eq_some_iff.1 HBN.out).1).trans HBN.out
          have n0 := cell_blk hbn3 0
          have n1 := cell_blk hbn3 1
          have n2 := cell_blk hbn3 2
          have n3 := cell_blk hbn3 3
          have v4 := cell_blk HM3.out.b2 4
          clear hbn3
          by_cases hjl : j < L.length
          · have h0 : 0 < L.length := by omega
            obtain ⟨g, cap, hv⟩ := own_pos HM3.out.own h0
            subst hv
            have hfl := flat_mv L
            obtain ⟨a0, a1, a2, a3⟩ := hfl.2 j hjl
            have q0 := (HM3.out.own.cellAt (j * 4) (by omega)).trans a0
            have q1 := (HM3.out.own.cellAt (j * 4 + 1) (by omega)).trans a1
            have q2 := (HM3.out.own.cellAt (j * 4 + 2) (by omega)).trans a2
            have q3 := (HM3.out.own.cellAt (j * 4 + 3) (by omega)).trans a3
            clear hfl a0 a1 a2 a3
            obtain ⟨a, ha⟩ : ∃ a, a = L.getD j mvZ := ⟨_, rfl⟩
            rw [← ha] at q0 q1 q2 q3
            have HA := Sd.mk ha
            clear ha
            have hd : decide ((j : Int) < (L.length : Int)) = true := by simp; omega
            rcases hcm : decide (cmpMv a ⟨s1, m.kind, m.lab, s2⟩ < 0) with _ | _
            · have HCM := Sd.mk hcm
              have HNo := Sd.mk (of_decide_eq_false hcm)
              clear hcm
              go_wp2_with fail
              go_region_held3 (fun wx => wx.cell? ⟨w.heap.size + 1 + 1, 4, none⟩ = some (.slice (some ⟨g, 0, none⟩) L.length cap) ∧ wx.cell? ⟨nb, 0, none⟩ = some (.int .i64 s1) ∧ wx.cell? ⟨nb, 1, none⟩ = some (.int .i64 m.kind) ∧ wx.cell? ⟨nb, 2, none⟩ = some (.int .i64 m.lab) ∧ wx.cell? ⟨nb, 3, none⟩ = some (.int .i64 s2) ∧ wx.cell? ⟨g, j * 4, none⟩ = some (.int .i64 a.frm) ∧ wx.cell? ⟨g, j * 4 + 1, none⟩ = some (.int .i64 a.kind) ∧ wx.cell? ⟨g, j * 4 + 2, none⟩ = some (.int .i64 a.lab) ∧ wx.cell? ⟨g, j * 4 + 3, none⟩ = some (.int .i64 a.tgt))
                (first | exact ⟨v4, n0, n1, n2, n3, q0, q1, q2, q3⟩ | exact ⟨cell_later hB4 v4, cell_later hB4 n0, cell_later hB4 n1, cell_later hB4 n2, cell_later hB4 n3, cell_later hB4 q0, cell_later hB4 q1, cell_later hB4 q2, cell_later hB4 q3⟩ | fail)
                (first | (go_at_call 45; refine (less_calls _ a ⟨s1, m.kind, m.lab, s2⟩).mono ?_; rw [HCM.out]; rintro e w4 ⟨rfl, hB4⟩) | fail)
              have HB4 := Sd.mk (Below.trans (below_drew (Below.refl _ _)) hB4)
              clear hB4 n0 n1 n2 n3 q0 q1 q2 q3 v4
              go_wp2_with fail
              go_meet
              exact ⟨j, rfl, hj, hc, ⟨fun _ => by rw [← HA.out]; exact HNo.out⟩, ⟨below_then hB3.out hB3.out.size HB4.out⟩⟩
            · have HCM := Sd.mk hcm
              have HN := Sd.mk (show ∀ i, i < j + 1 → cmpMv (L.getD i mvZ) ⟨s1, m.kind, m.lab, s2⟩ < 0 from fun i hi => by
                by_cases e : i = j
                · subst e; rw [← HA.out]; exact of_decide_eq_true hcm
                · exact hc.out i (by omega))
              clear hcm
              go_wp2_with fail
              go_region_held3 (fun wx => wx.cell? ⟨w.heap.size + 1 + 1, 4, none⟩ = some (.slice (some ⟨g, 0, none⟩) L.length cap) ∧ wx.cell? ⟨nb, 0, none⟩ = some (.int .i64 s1) ∧ wx.cell? ⟨nb, 1, none⟩ = some (.int .i64 m.kind) ∧ wx.cell? ⟨nb, 2, none⟩ = some (.int .i64 m.lab) ∧ wx.cell? ⟨nb, 3, none⟩ = some (.int .i64 s2) ∧ wx.cell? ⟨g, j * 4, none⟩ = some (.int .i64 a.frm) ∧ wx.cell? ⟨g, j * 4 + 1, none⟩ = some (.int .i64 a.kind) ∧ wx.cell? ⟨g, j * 4 + 2, none⟩ = some (.int .i64 a.lab) ∧ wx.cell? ⟨g, j * 4 + 3, none⟩ = some (.int .i64 a.tgt))
                (first | exact ⟨v4, n0, n1, n2, n3, q0, q1, q2, q3⟩ | exact ⟨cell_later hB4 v4, cell_later hB4 n0, cell_later hB4 n1, cell_later hB4 n2, cell_later hB4 n3, cell_later hB4 q0, cell_later hB4 q1, cell_later hB4 q2, cell_later hB4 q3⟩ | fail)
                (first | (go_at_call 45; refine (less_calls _ a ⟨s1, m.kind, m.lab, s2⟩).mono ?_; rw [HCM.out]; rintro e w4 ⟨rfl, hB4⟩) | fail)
              have HB4 := Sd.mk (Below.trans (below_drew (Below.refl _ _)) hB4)
              clear hB4 n0 n1 n2 n3 q0 q1 q2 q3 v4
              go_wp2_with fail
              go_roundw
              case rel => exact ⟨j + 1, by go_num, by omega, HN, ⟨below_then hB3.out hB3.out.size HB4.out⟩⟩
              case measure => simp [intOf]; omega
          · obtain rfl : j = L.length := by omega
            obtain ⟨va, vn, vc, hvs⟩ := own_slice HM3.out.own
            have hvl : vn = L.length := by
              have h := HM3.out.own
              rw [hvs] at h
              rcases h.2 with ⟨h1, h2⟩ | ⟨g, cap, cur, h1, _⟩
              · cases h1; omega
              · cases h1; rfl
            subst hvl
            subst hvs
            have hd : decide ((L.length : Int) < (L.length : Int)) = false := by simp
            go_wp2_with fail
            go_quiet (fail)
            go_wp2_with fail
            go_meet
            exact ⟨_, rfl, hj, hc, ⟨fun h => by omega⟩, ⟨below_drewN hB3.out _⟩⟩
      case rest =>
      obtain ⟨W3, hW3⟩ : ∃ W : World, W = wc := ⟨wc, rfl⟩
      subst hW3
      obtain ⟨j, rfl, hj, hc1, hc2, hB3⟩ := hcut
      have HM3 := Sd.mk (HM2.out.later hB3.out)
      have hbn3 := (hB3.out.block nb (Array.getElem?_eq_some_iff.1 HBN.out).1).trans HBN.out
      have n0 := cell_blk hbn3 0
      have n1 := cell_blk hbn3 1
      have n2 := cell_blk hbn3 2
      have n3 := cell_blk hbn3 3
      have v4 := cell_blk HM3.out.b2 4
      have f4 := frz HM3.out.b2 4
      have zb := (Array.getElem?_eq_some_iff.1 HM3.out.b2).1
      have zn := (Array.getElem?_eq_some_iff.1 hbn3).1
      have hlk : L.length ≤ 80 := by omega
      obtain ⟨i0, hi, hz0, hz1, hz2⟩ := info_parts Tryd.info94
      have HI := Sd.mk (hI.out.step HX.out HT.out hlt hj (fun i hi => by rw [← HMM.out, show mvP tl m = ⟨s1, m.kind, m.lab, s2⟩ by rw [HS1.out, HS2.out]; rfl]; exact hc1.out i hi) (fun h => by rw [← HMM.out, show mvP tl m = ⟨s1, m.kind, m.lab, s2⟩ by rw [HS1.out, HS2.out]; rfl]; exact hc2.out h))
      rw [← HMM.out, show mvP tl m = ⟨s1, m.kind, m.lab, s2⟩ by rw [HS1.out, HS2.out]; rfl] at HI
      go_upto_region 10 with fail
      have HM4 : Sd (MvAt w W3.drew x (some am) c tl L v) := ⟨HM3.out.later (below_drew (Below.refl _ _))⟩
      have HBN4 : Sd (W3.drew.heap[nb]? = some (.cells #[.int .i64 s1, .int .i64 m.kind, .int .i64 m.lab, .int .i64 s2] 94 (0, 0))) := ⟨hbn3⟩
      have HL1 : Sd (((L.take j).flatMap mvCells).length = j * 4) := ⟨by rw [(flat_mv _).1, List.length_take, Nat.min_eq_left hj]⟩
      have HL3 : Sd (((L.drop j).flatMap mvCells).length = (L.length - j) * 4) := ⟨by rw [(flat_mv _).1, List.length_drop]⟩
      clear hbn3 n0 n1 n2 n3 v4 f4 zb zn HM3
      refine start_ (n := 16) (S := (fun wx => wx.heap[w.heap.size + 1 + 1]? = some (.cells #[.int .i64 x.N, .int .i64 (tl.getD x.start 0 : Nat), .int .i64 x.inp, .int .i64 x.out, v] 24 (0, 0)) ∧ wx.heap[nb]? = some (.cells #[.int .i64 s1, .int .i64 m.kind, .int .i64 m.lab, .int .i64 s2] 94 (0, 0)))) (ds := [15]) #[false, false, false, false, false, false, false, false, false, false, false, false, false, false, false, false] (by kernel_rfl) rfl rfl ⟨HM4.out.b2, HBN4.out⟩ (fun hHeld => ?_)
      generalize W3.drew = W4 at HM4 HBN4 hHeld ⊢
      have hS : ∀ wx, Below W4.heap.size W4 wx → wx.heap[w.heap.size + 1 + 1]? = some (.cells #[.int .i64 x.N, .int .i64 (tl.getD x.start 0 : Nat), .int .i64 x.inp, .int .i64 x.out, v] 24 (0, 0)) ∧ wx.heap[nb]? = some (.cells #[.int .i64 s1, .int .i64 m.kind, .int .i64 m.lab, .int .i64 s2] 94 (0, 0)) := fun wx hB => ⟨(hB.block _ (Array.getElem?_eq_some_iff.1 HM4.out.b2).1).trans HM4.out.b2, (hB.block _ (Array.getElem?_eq_some_iff.1 HBN4.out).1).trans HBN4.out⟩
      rcases Nat.eq_zero_or_pos L.length with h0 | h0
      · have hk0 : k = 0 := by have := hI.out.len (by omega); omega
        obtain rfl : v = .slice none 0 0 := hv0.out hk0
        obtain rfl : j = 0 := by omega
        have HL3 : Sd (((L.drop 0).flatMap mvCells).length = 0 * 4) := ⟨by rw [(flat_mv _).1, List.length_drop, h0]⟩
        have HN0 : Sd (∀ W', Below W4.heap.size W4 W' → ∀ i u, ((L.take 0).flatMap mvCells)[i]? = some u → ∃ ad, (none : Option Addr) = some ad ∧ W'.cell? (ad.add i) = some u) := ⟨fun W' hB i u h => by simp at h⟩
        have HN3 : Sd (∀ W', Below W4.heap.size W4 W' → ∀ i u, ((L.drop 0).flatMap mvCells)[i]? = some u → ∃ ad, (none : Option Addr) = some ad ∧ W'.cell? (ad.add i) = some u) := ⟨fun W' hB i u h => by
          have := (List.getElem?_eq_some_iff.1 h).1
          rw [HL3.out] at this
          omega⟩
        clear hv0
        refine pure_ (i := 1) (N := some 62) (v := ?_) (a' := ?_) #[false, true, false, false, false, false, false, false, false, false, false, false, false, false, false, false] rfl rfl (by kernel_rfl) (fun _ _ _ h => h) (Or.inl ⟨by rfl, ?_⟩) ?_ ?_
        rotate_left
        · intro w'
          go_simp
          with_reducible rfl
        rotate_left
        · simp only [Act.put, List.setIfInBounds_toArray, List.set_cons_zero, List.set_cons_succ]
          rfl
        refine take_ (i := 2) (N := some 63) (v := ?_) (a' := ?_) #[false, true, true, false, false, false, false, false, false, false, false, false, false, false, false, false] rfl rfl (by kernel_rfl) (fun _ _ _ h => h) (Or.inl ⟨by rfl, ?_⟩) hHeld ?_ ?_
        rotate_left
        · rintro w' ⟨s0, s1⟩
          have q4 := cell_blk s0 4
          have p0 := cell_blk s1 0
          have p1 := cell_blk s1 1
          have p2 := cell_blk s1 2
          have p3 := cell_blk s1 3
          go_simp
          with_reducible rfl
        rotate_left
        · simp only [Act.put, List.setIfInBounds_toArray, List.set_cons_zero, List.set_cons_succ]
          rfl
        refine pure_ (i := 3) (N := some 64) (v := ?_) (a' := ?_) #[false, true, true, true, false, false, false, false, false, false, false, false, false, false, false, false] rfl rfl (by kernel_rfl) (fun _ _ _ h => h) (Or.inl ⟨by rfl, ?_⟩) ?_ ?_
        rotate_left
        · intro w'
          go_simp
          with_reducible rfl
        rotate_left
        · simp only [Act.put, List.setIfInBounds_toArray, List.set_cons_zero, List.set_cons_succ]
          rfl
        refine pure_ (i := 4) (N := some 65) (v := ?_) (a' := ?_) #[false, true, true, true, true, false, false, false, false, false, false, false, false, false, false, false] rfl rfl (by kernel_rfl) (fun _ _ _ h => h) (Or.inl ⟨by rfl, ?_⟩) ?_ ?_
        rotate_left
        · intro w'
          go_simp
          with_reducible rfl
        rotate_left
        · simp only [Act.put, List.setIfInBounds_toArray, List.set_cons_zero, List.set_cons_succ]
          rfl
        refine take_ (i := 6) (N := some 67) (v := ?_) (a' := ?_) #[false, true, true, true, true, false, true, false, false, false, false, false, false, false, false, false] rfl rfl (by kernel_rfl) (fun _ _ _ h => h) (Or.inl ⟨by rfl, ?_⟩) hHeld ?_ ?_
        rotate_left
        · rintro w' ⟨s0, s1⟩
          have q4 := cell_blk s0 4
          have p0 := cell_blk s1 0
          have p1 := cell_blk s1 1
          have p2 := cell_blk s1 2
          have p3 := cell_blk s1 3
          go_simp
          with_reducible rfl
        rotate_left
        · simp only [Act.put, List.setIfInBounds_toArray, List.set_cons_zero, List.set_cons_succ]
          rfl
        refine pure_ (i := 9) (N := some 70) (v := ?_) (a' := ?_) #[false, true, true, true, true, false, true, false, false, true, false, false, false, false, false, false] rfl rfl (by kernel_rfl) (fun _ _ _ h => h) (Or.inl ⟨by rfl, ?_⟩) ?_ ?_
        rotate_left
        · intro w'
          go_simp
          with_reducible rfl
        rotate_left
        · simp only [Act.put, List.setIfInBounds_toArray, List.set_cons_zero, List.set_cons_succ]
          rfl
        refine take_ (i := 10) (N := some 71) (v := ?_) (a' := ?_) #[false, true, true, true, true, false, true, false, false, true, true, false, false, false, false, false] rfl rfl (by kernel_rfl) (fun _ _ _ h => h) (Or.inl ⟨by rfl, ?_⟩) hHeld ?_ ?_
        rotate_left
        · rintro w' ⟨s0, s1⟩
          have q4 := cell_blk s0 4
          have p0 := cell_blk s1 0
          have p1 := cell_blk s1 1
          have p2 := cell_blk s1 2
          have p3 := cell_blk s1 3
          go_simp
          with_reducible rfl
        rotate_left
        · simp only [Act.put, List.setIfInBounds_toArray, List.set_cons_zero, List.set_cons_succ]
          rfl
        refine pure_ (i := 11) (N := some 72) (v := ?_) (a' := ?_) #[false, true, true, true, true, false, true, false, false, true, true, true, false, false, false, false] rfl rfl (by kernel_rfl) (fun _ _ _ h => h) (Or.inl ⟨by rfl, ?_⟩) ?_ ?_
        rotate_left
        · intro w'
          go_simp
          with_reducible rfl
        rotate_left
        · simp only [Act.put, List.setIfInBounds_toArray, List.set_cons_zero, List.set_cons_succ]
          rfl
        refine pure_ (i := 12) (N := some 73) (v := ?_) (a' := ?_) #[false, true, true, true, true, false, true, false, false, true, true, true, true, false, false, false] rfl rfl (by kernel_rfl) (fun _ _ _ h => h) (Or.inl ⟨by rfl, ?_⟩) ?_ ?_
        rotate_left
        · intro w'
          go_simp
          with_reducible rfl
        rotate_left
        · simp only [Act.put, List.setIfInBounds_toArray, List.set_cons_zero, List.set_cons_succ]
          rfl
        refine join_ (σ := Value × Value × Value × Value × Value) 2 #[true, true, true, true, true, true, true, true, true, true, true, true, true, true, false, false] (fun s => [(61, s.1), (66, s.2.1), (68, s.2.2.1), (69, s.2.2.2.1), (74, s.2.2.2.2)]) (fun s w' => Below W4.heap.size W4 w' ∧ w'.ownsRow W4.heap.size 94 4 s.2.2.2.2 (0 + 0 + 1 + 0) ([] ++ (L.take 0).flatMap mvCells ++ mvCells ⟨s1, m.kind, m.lab, s2⟩ ++ (L.drop 0).flatMap mvCells)) ?_ ?_
        rotate_left
        · intro hcont
          refine two_ (i := 0) (j := 7) (Ni := some 61) (Nj := some 68) #[true, true, true, true, true, false, true, false, false, true, true, true, true, false, false, false] #[false, true, true, true, true, false, true, true, false, true, true, true, true, false, false, false] rfl rfl rfl rfl (by kernel_rfl) (by decide) (by decide) (fun K hK => ?_) (fun K hK => ?_)
          · refine value_ (v := .slice (some ⟨W4.heap.size, 0, none⟩) 0 0) (w1 := (W4.alloc (.cells #[] 94))) (by rfl) rfl (by go_simp) ?_
            refine hK.out _ _ (hS _ (alloc_below W4 _)) (fun _ => ?_)
            clear hK K
            refine norm_ (a' := ?_) ?_ ?_
            rotate_left
            · simp only [Act.put, List.setIfInBounds_toArray, List.set_cons_zero, List.set_cons_succ]
              rfl
            refine two_ (i := 5) (j := 7) (Ni := some 66) (Nj := some 68) #[true, true, true, true, true, true, true, false, false, true, true, true, true, false, false, false] #[true, true, true, true, true, false, true, true, false, true, true, true, true, false, false, false] rfl rfl rfl rfl (by kernel_rfl) (by decide) (by decide) (fun K hK => ?_) (fun K hK => ?_)
            · refine step_append_opt rfl (.tmp 61) (.tmp 65) 22 rfl W4.heap.size 94 i0 (.agg #[.int .i64 0, .int .i64 0, .int .i64 0, .int .i64 0]) 4 32 Tryd.underlying22 hi hz0 hz1 hz2 rfl (by decide) (.slice (some ⟨W4.heap.size, 0, none⟩) 0 0) 0 [] rfl (own_mkE W4) none 0 0 ((L.take 0).flatMap mvCells) rfl HL1.out (HN0.out _ (alloc_below W4 _)) (mv_one _) (by unfold maxLen; omega) (by omega) (alloc_below W4 _).size ?_
              intro v1 w1 ho1 hg1 ha1
              have hB1 : Below W4.heap.size W4 w1 := Below.grown (alloc_below W4 _) hg1 (alloc_below W4 _).size (fun k hk => by simp [Value.ownBlock] at hk; omega)
              clear ha1
              refine hK.out _ _ (hS _ hB1) (fun _ => ?_)
              clear hK K
              refine norm_ (a' := ?_) ?_ ?_
              rotate_left
              · simp only [Act.put, List.setIfInBounds_toArray, List.set_cons_zero, List.set_cons_succ]
                rfl
              refine one_ (i := 7) (N := some 68) #[true, true, true, true, true, true, true, true, false, true, true, true, true, false, false, false] rfl rfl (by kernel_rfl) (by decide) (fun K hK => ?_)
              refine value_ (v := .slice (some ⟨w1.heap.size, 0, none⟩) 1 1) (w1 := (w1.alloc (.cells #[.int .i64 s1, .int .i64 m.kind, .int .i64 m.lab, .int .i64 s2] 94))) (by rfl) rfl (by go_simp) ?_
              refine hK.out _ _ (hS _ (hB1.alloc hB1.size _)) (fun _ => ?_)
              clear hK K
              refine norm_ (a' := ?_) ?_ ?_
              rotate_left
              · simp only [Act.put, List.setIfInBounds_toArray, List.set_cons_zero, List.set_cons_succ]
                rfl
              refine one_ (i := 8) (N := some 69) #[true, true, true, true, true, true, true, true, true, true, true, true, true, false, false, false] rfl rfl (by kernel_rfl) (by decide) (fun K hK => ?_)
              refine step_append_opt rfl (.tmp 66) (.tmp 68) 22 rfl W4.heap.size 94 i0 (.agg #[.int .i64 0, .int .i64 0, .int .i64 0, .int .i64 0]) 4 32 Tryd.underlying22 hi hz0 hz1 hz2 rfl (by decide) v1 (0 + 0) _ rfl (ho1.alloc _) (some ⟨w1.heap.size, 0, none⟩) 1 1 (mvCells ⟨s1, m.kind, m.lab, s2⟩) rfl rfl (news_blk (t := 94) _ (heap_alloc_new w1 _)) (fun u hu => mv_one [⟨s1, m.kind, m.lab, s2⟩] u (by simpa using hu)) (by unfold maxLen; omega) (by omega) (hB1.alloc hB1.size _).size ?_
              intro v2 w2 ho2 hg2 ha2
              have hB2 : Below W4.heap.size W4 w2 := Below.grown (hB1.alloc hB1.size _) hg2 (hB1.alloc hB1.size _).size (fun k hk => (ho1.lt k hk).1)
              clear ha2 hg1
              refine hK.out _ _ (hS _ hB2) (fun _ => ?_)
              clear hK K
              refine norm_ (a' := ?_) ?_ ?_
              rotate_left
              · simp only [Act.put, List.setIfInBounds_toArray, List.set_cons_zero, List.set_cons_succ]
                rfl
              refine one_ (i := 13) (N := some 74) #[true, true, true, true, true, true, true, true, true, true, true, true, true, true, false, false] rfl rfl (by kernel_rfl) (by decide) (fun K hK => ?_)
              refine step_append_opt rfl (.tmp 69) (.tmp 73) 22 rfl W4.heap.size 94 i0 (.agg #[.int .i64 0, .int .i64 0, .int .i64 0, .int .i64 0]) 4 32 Tryd.underlying22 hi hz0 hz1 hz2 rfl (by decide) v2 (0 + 0 + 1) _ rfl ho2 none 0 0 ((L.drop 0).flatMap mvCells) rfl HL3.out (HN3.out _ hB2) (mv_one _) (by unfold maxLen; omega) (by omega) hB2.size ?_
              intro v3 w3 ho3 hg3 ha3
              have hB3 : Below W4.heap.size W4 w3 := Below.grown hB2 hg3 hB2.size (fun k hk => (ho2.lt k hk).1)
              clear ha3 hg2
              refine hK.out _ _ (hS _ hB3) (fun _ => ?_)
              clear hK K
              refine norm_ (a' := ?_) ?_ ?_
              rotate_left
              · simp only [Act.put, List.setIfInBounds_toArray, List.set_cons_zero, List.set_cons_succ]
                rfl
              exact hcont (.slice (some ⟨W4.heap.size, 0, none⟩) 0 0, v1, .slice (some ⟨w1.heap.size, 0, none⟩) 1 1, v2, v3) _ ⟨hB3, ho3⟩
            · refine value_ (v := .slice (some ⟨W4.heap.size + 1, 0, none⟩) 1 1) (w1 := ((W4.alloc (.cells #[] 94)).alloc (.cells #[.int .i64 s1, .int .i64 m.kind, .int .i64 m.lab, .int .i64 s2] 94))) (by rfl) rfl (by go_simp) ?_
              refine hK.out _ _ (hS _ ((alloc_below W4 _).alloc (by simp) _)) (fun _ => ?_)
              clear hK K
              refine norm_ (a' := ?_) ?_ ?_
              rotate_left
              · simp only [Act.put, List.setIfInBounds_toArray, List.set_cons_zero, List.set_cons_succ]
                rfl
              refine one_ (i := 5) (N := some 66) #[true, true, true, true, true, true, true, true, false, true, true, true, true, false, false, false] rfl rfl (by kernel_rfl) (by decide) (fun K hK => ?_)
              refine step_append_opt rfl (.tmp 61) (.tmp 65) 22 rfl W4.heap.size 94 i0 (.agg #[.int .i64 0, .int .i64 0, .int .i64 0, .int .i64 0]) 4 32 Tryd.underlying22 hi hz0 hz1 hz2 rfl (by decide) (.slice (some ⟨W4.heap.size, 0, none⟩) 0 0) 0 [] rfl ((own_mkE W4).alloc _) none 0 0 ((L.take 0).flatMap mvCells) rfl HL1.out (HN0.out _ ((alloc_below W4 _).alloc (by simp) _)) (mv_one _) (by unfold maxLen; omega) (by omega) ((alloc_below W4 _).alloc (by simp) _).size ?_
              intro v1 w1 ho1 hg1 ha1
              have hB1 : Below W4.heap.size W4 w1 := Below.grown ((alloc_below W4 _).alloc (by simp) _) hg1 ((alloc_below W4 _).alloc (by simp) _).size (fun k hk => by simp [Value.ownBlock] at hk; omega)
              clear ha1
              refine hK.out _ _ (hS _ hB1) (fun _ => ?_)
              clear hK K
              refine norm_ (a' := ?_) ?_ ?_
              rotate_left
              · simp only [Act.put, List.setIfInBounds_toArray, List.set_cons_zero, List.set_cons_succ]
                rfl
              refine one_ (i := 8) (N := some 69) #[true, true, true, true, true, true, true, true, true, true, true, true, true, false, false, false] rfl rfl (by kernel_rfl) (by decide) (fun K hK => ?_)
              refine step_append_opt rfl (.tmp 66) (.tmp 68) 22 rfl W4.heap.size 94 i0 (.agg #[.int .i64 0, .int .i64 0, .int .i64 0, .int .i64 0]) 4 32 Tryd.underlying22 hi hz0 hz1 hz2 rfl (by decide) v1 (0 + 0) _ rfl ho1 (some ⟨W4.heap.size + 1, 0, none⟩) 1 1 (mvCells ⟨s1, m.kind, m.lab, s2⟩) rfl rfl (news_blk (t := 94) _ ((hg1.block (W4.heap.size + 1) (by simp) (by simp [Value.ownBlock])).trans (alloc_at _ _ _ (by simp)))) (fun u hu => mv_one [⟨s1, m.kind, m.lab, s2⟩] u (by simpa using hu)) (by unfold maxLen; omega) (by omega) hB1.size ?_
              intro v2 w2 ho2 hg2 ha2
              have hB2 : Below W4.heap.size W4 w2 := Below.grown hB1 hg2 hB1.size (fun k hk => (ho1.lt k hk).1)
              clear ha2 hg1
              refine hK.out _ _ (hS _ hB2) (fun _ => ?_)
              clear hK K
              refine norm_ (a' := ?_) ?_ ?_
              rotate_left
              · simp only [Act.put, List.setIfInBounds_toArray, List.set_cons_zero, List.set_cons_succ]
                rfl
              refine one_ (i := 13) (N := some 74) #[true, true, true, true, true, true, true, true, true, true, true, true, true, true, false, false] rfl rfl (by kernel_rfl) (by decide) (fun K hK => ?_)
              refine step_append_opt rfl (.tmp 69) (.tmp 73) 22 rfl W4.heap.size 94 i0 (.agg #[.int .i64 0, .int .i64 0, .int .i64 0, .int .i64 0]) 4 32 Tryd.underlying22 hi hz0 hz1 hz2 rfl (by decide) v2 (0 + 0 + 1) _ rfl ho2 none 0 0 ((L.drop 0).flatMap mvCells) rfl HL3.out (HN3.out _ hB2) (mv_one _) (by unfold maxLen; omega) (by omega) hB2.size ?_
              intro v3 w3 ho3 hg3 ha3
              have hB3 : Below W4.heap.size W4 w3 := Below.grown hB2 hg3 hB2.size (fun k hk => (ho2.lt k hk).1)
              clear ha3 hg2
              refine hK.out _ _ (hS _ hB3) (fun _ => ?_)
              clear hK K
              refine norm_ (a' := ?_) ?_ ?_
              rotate_left
              · simp only [Act.put, List.setIfInBounds_toArray, List.set_cons_zero, List.set_cons_succ]
                rfl
              exact hcont (.slice (some ⟨W4.heap.size, 0, none⟩) 0 0, v1, .slice (some ⟨W4.heap.size + 1, 0, none⟩) 1 1, v2, v3) _ ⟨hB3, ho3⟩
          · refine value_ (v := .slice (some ⟨W4.heap.size, 0, none⟩) 1 1) (w1 := (W4.alloc (.cells #[.int .i64 s1, .int .i64 m.kind, .int .i64 m.lab, .int .i64 s2] 94))) (by rfl) rfl (by go_simp) ?_
            refine hK.out _ _ (hS _ (alloc_below W4 _)) (fun _ => ?_)
            clear hK K
            refine norm_ (a' := ?_) ?_ ?_
            rotate_left
            · simp only [Act.put, List.setIfInBounds_toArray, List.set_cons_zero, List.set_cons_succ]
              rfl
            refine one_ (i := 0) (N := some 61) #[true, true, true, true, true, false, true, true, false, true, true, true, true, false, false, false] rfl rfl (by kernel_rfl) (by decide) (fun K hK => ?_)
            refine value_ (v := .slice (some ⟨W4.heap.size + 1, 0, none⟩) 0 0) (w1 := ((W4.alloc (.cells #[.int .i64 s1, .int .i64 m.kind, .int .i64 m.lab, .int .i64 s2] 94)).alloc (.cells #[] 94))) (by rfl) rfl (by go_simp) ?_
            refine hK.out _ _ (hS _ ((alloc_below W4 _).alloc (by simp) _)) (fun _ => ?_)
            clear hK K
            refine norm_ (a' := ?_) ?_ ?_
            rotate_left
            · simp only [Act.put, List.setIfInBounds_toArray, List.set_cons_zero, List.set_cons_succ]
              rfl
            refine one_ (i := 5) (N := some 66) #[true, true, true, true, true, true, true, true, false, true, true, true, true, false, false, false] rfl rfl (by kernel_rfl) (by decide) (fun K hK => ?_)
            refine step_append_opt rfl (.tmp 61) (.tmp 65) 22 rfl W4.heap.size 94 i0 (.agg #[.int .i64 0, .int .i64 0, .int .i64 0, .int .i64 0]) 4 32 Tryd.underlying22 hi hz0 hz1 hz2 rfl (by decide) (.slice (some ⟨W4.heap.size + 1, 0, none⟩) 0 0) 0 [] rfl (own_mkE3 W4 _) none 0 0 ((L.take 0).flatMap mvCells) rfl HL1.out (HN0.out _ ((alloc_below W4 _).alloc (by simp) _)) (mv_one _) (by unfold maxLen; omega) (by omega) ((alloc_below W4 _).alloc (by simp) _).size ?_
            intro v1 w1 ho1 hg1 ha1
            have hB1 : Below W4.heap.size W4 w1 := Below.grown ((alloc_below W4 _).alloc (by simp) _) hg1 ((alloc_below W4 _).alloc (by simp) _).size (fun k hk => by simp [Value.ownBlock] at hk; omega)
            clear ha1
            refine hK.out _ _ (hS _ hB1) (fun _ => ?_)
            clear hK K
            refine norm_ (a' := ?_) ?_ ?_
            rotate_left
            · simp only [Act.put, List.setIfInBounds_toArray, List.set_cons_zero, List.set_cons_succ]
              rfl
            refine one_ (i := 8) (N := some 69) #[true, true, true, true, true, true, true, true, true, true, true, true, true, false, false, false] rfl rfl (by kernel_rfl) (by decide) (fun K hK => ?_)
            refine step_append_opt rfl (.tmp 66) (.tmp 68) 22 rfl W4.heap.size 94 i0 (.agg #[.int .i64 0, .int .i64 0, .int .i64 0, .int .i64 0]) 4 32 Tryd.underlying22 hi hz0 hz1 hz2 rfl (by decide) v1 (0 + 0) _ rfl ho1 (some ⟨W4.heap.size, 0, none⟩) 1 1 (mvCells ⟨s1, m.kind, m.lab, s2⟩) rfl rfl (news_blk (t := 94) _ ((hg1.block W4.heap.size (by simp; omega) (by simp [Value.ownBlock])).trans ((heap_alloc_old _ _ (by simp)).trans (heap_alloc_new W4 _)))) (fun u hu => mv_one [⟨s1, m.kind, m.lab, s2⟩] u (by simpa using hu)) (by unfold maxLen; omega) (by omega) hB1.size ?_
            intro v2 w2 ho2 hg2 ha2
            have hB2 : Below W4.heap.size W4 w2 := Below.grown hB1 hg2 hB1.size (fun k hk => (ho1.lt k hk).1)
            clear ha2 hg1
            refine hK.out _ _ (hS _ hB2) (fun _ => ?_)
            clear hK K
            refine norm_ (a' := ?_) ?_ ?_
            rotate_left
            · simp only [Act.put, List.setIfInBounds_toArray, List.set_cons_zero, List.set_cons_succ]
              rfl
            refine one_ (i := 13) (N := some 74) #[true, true, true, true, true, true, true, true, true, true, true, true, true, true, false, false] rfl rfl (by kernel_rfl) (by decide) (fun K hK => ?_)
            refine step_append_opt rfl (.tmp 69) (.tmp 73) 22 rfl W4.heap.size 94 i0 (.agg #[.int .i64 0, .int .i64 0, .int .i64 0, .int .i64 0]) 4 32 Tryd.underlying22 hi hz0 hz1 hz2 rfl (by decide) v2 (0 + 0 + 1) _ rfl ho2 none 0 0 ((L.drop 0).flatMap mvCells) rfl HL3.out (HN3.out _ hB2) (mv_one _) (by unfold maxLen; omega) (by omega) hB2.size ?_
            intro v3 w3 ho3 hg3 ha3
            have hB3 : Below W4.heap.size W4 w3 := Below.grown hB2 hg3 hB2.size (fun k hk => (ho2.lt k hk).1)
            clear ha3 hg2
            refine hK.out _ _ (hS _ hB3) (fun _ => ?_)
            clear hK K
            refine norm_ (a' := ?_) ?_ ?_
            rotate_left
            · simp only [Act.put, List.setIfInBounds_toArray, List.set_cons_zero, List.set_cons_succ]
              rfl
            exact hcont (.slice (some ⟨W4.heap.size + 1, 0, none⟩) 0 0, v1, .slice (some ⟨W4.heap.size, 0, none⟩) 1 1, v2, v3) _ ⟨hB3, ho3⟩
        · rintro ⟨x1, x2, x3, x4, v3⟩ w4 ⟨hB4, ho4⟩
          obtain ⟨va, vn, vc, rfl⟩ := own_slice ho4
          refine norm_ (a' := ?_) ?_ ?_
          rotate_left
          · simp only [putAll, Act.put, List.setIfInBounds_toArray, List.set_cons_zero, List.set_cons_succ]
            rfl
          have hs4 := (hS _ hB4).1
          have k4c := cell_blk hs4 4
          have k4f := frz hs4 4
          have HMS := Sd.mk (HM4.out.set (L' := L.take 0 ++ ⟨s1, m.kind, m.lab, s2⟩ :: L.drop 0) hB4 ho4 (by rw [List.length_append, List.length_cons, List.length_take, List.length_drop]; omega) (by rw [List.flatMap_append, List.flatMap_cons]; simp [List.append_assoc]))
          clear hs4 hS hB4 ho4 hHeld
          refine pure_ (i := 14) (N := some 75) (v := ?_) (a' := ?_) #[true, true, true, true, true, true, true, true, true, true, true, true, true, true, true, false] rfl rfl (by kernel_rfl) (fun _ _ _ h => h) (Or.inl ⟨by rfl, ?_⟩) ?_ ?_
          rotate_left
          · intro w'
            go_simp
            with_reducible rfl
          rotate_left
          · simp only [Act.put, List.setIfInBounds_toArray, List.set_cons_zero, List.set_cons_succ]
            rfl
          refine last_ (i := 15) (N := none) #[true, true, true, true, true, true, true, true, true, true, true, true, true, true, true, true] rfl rfl (by kernel_rfl) (by decide) (fun K hK => ?_)
          refine skip_ (w1 := ?_) (by rfl) rfl ?_ ?_
          rotate_left
          · go_simp
            rfl
          refine hK.out _ _ ?_
          clear hK K
          refine done_ (by kernel_rfl) ?_
          go_wp2
          go_roundw
          case rel => exact ⟨k + 1, _, _, by go_num, by omega, HMS, HI, ⟨fun h => by omega⟩⟩
          case measure => simp [intOf]; omega
      · obtain ⟨g, cap, hv⟩ := own_pos HM4.out.own h0
        subst hv
        have hcap : L.length ≤ cap := own_cap HM4.out.own
        have hjc : j ≤ cap := by omega
        have HNG : Sd (∀ W', Below W4.heap.size W4 W' → ∀ i u, ((L.take j).flatMap mvCells)[i]? = some u → ∃ ad, some (⟨g, 0, none⟩ : Addr) = some ad ∧ W'.cell? (ad.add i) = some u) := ⟨fun W' hB => by
          have h := news_mv HM4.out.own rfl hB [] (L.take j) (L.drop j) (by simp)
          simpa using h⟩
        have HN3 : Sd (∀ W', Below W4.heap.size W4 W' → ∀ i u, ((L.drop j).flatMap mvCells)[i]? = some u → ∃ ad, some (⟨g, j * 4, none⟩ : Addr) = some ad ∧ W'.cell? (ad.add i) = some u) := ⟨fun W' hB => by
          have h := news_mv HM4.out.own rfl hB (L.take j) (L.drop j) [] (by simp)
          rwa [List.length_take, Nat.min_eq_left hj] at h⟩
        by_cases hcq : cap = j
        · obtain rfl : j = L.length := by omega
          subst hcq
          have HL3 : Sd (((L.drop L.length).flatMap mvCells).length = 0 * 4) := ⟨by rw [List.drop_length]; rfl⟩
          have HN3 : Sd (∀ W', Below W4.heap.size W4 W' → ∀ i u, ((L.drop L.length).flatMap mvCells)[i]? = some u → ∃ ad, some (⟨g, 0, none⟩ : Addr) = some ad ∧ W'.cell? (ad.add i) = some u) := ⟨fun W' hB i u h => by rw [List.drop_length] at h; simp at h⟩
          refine pure_ (i := 1) (N := some 62) (v := ?_) (a' := ?_) #[false, true, false, false, false, false, false, false, false, false, false, false, false, false, false, false] rfl rfl (by kernel_rfl) (fun _ _ _ h => h) (Or.inl ⟨by rfl, ?_⟩) ?_ ?_
          rotate_left
          · intro w'
            go_simp
            with_reducible rfl
          rotate_left
          · simp only [Act.put, List.setIfInBounds_toArray, List.set_cons_zero, List.set_cons_succ]
            rfl
          refine take_ (i := 2) (N := some 63) (v := ?_) (a' := ?_) #[false, true, true, false, false, false, false, false, false, false, false, false, false, false, false, false] rfl rfl (by kernel_rfl) (fun _ _ _ h => h) (Or.inl ⟨by rfl, ?_⟩) hHeld ?_ ?_
          rotate_left
          · rintro w' ⟨s0, s1⟩
            have q4 := cell_blk s0 4
            have p0 := cell_blk s1 0
            have p1 := cell_blk s1 1
            have p2 := cell_blk s1 2
            have p3 := cell_blk s1 3
            go_simp
            with_reducible rfl
          rotate_left
          · simp only [Act.put, List.setIfInBounds_toArray, List.set_cons_zero, List.set_cons_succ]
            rfl
          refine pure_ (i := 3) (N := some 64) (v := ?_) (a' := ?_) #[false, true, true, true, false, false, false, false, false, false, false, false, false, false, false, false] rfl rfl (by kernel_rfl) (fun _ _ _ h => h) (Or.inl ⟨by rfl, ?_⟩) ?_ ?_
          rotate_left
          · intro w'
            go_simp
            with_reducible rfl
          rotate_left
          · simp only [Act.put, List.setIfInBounds_toArray, List.set_cons_zero, List.set_cons_succ]
            rfl
          refine pure_ (i := 4) (N := some 65) (v := ?_) (a' := ?_) #[false, true, true, true, true, false, false, false, false, false, false, false, false, false, false, false] rfl rfl (by kernel_rfl) (fun _ _ _ h => h) (Or.inl ⟨by rfl, ?_⟩) ?_ ?_
          rotate_left
          · intro w'
            go_simp
            with_reducible rfl
          rotate_left
          · simp only [Act.put, List.setIfInBounds_toArray, List.set_cons_zero, List.set_cons_succ]
            rfl
          refine take_ (i := 6) (N := some 67) (v := ?_) (a' := ?_) #[false, true, true, true, true, false, true, false, false, false, false, false, false, false, false, false] rfl rfl (by kernel_rfl) (fun _ _ _ h => h) (Or.inl ⟨by rfl, ?_⟩) hHeld ?_ ?_
          rotate_left
          · rintro w' ⟨s0, s1⟩
            have q4 := cell_blk s0 4
            have p0 := cell_blk s1 0
            have p1 := cell_blk s1 1
            have p2 := cell_blk s1 2
            have p3 := cell_blk s1 3
            go_simp
            with_reducible rfl
          rotate_left
          · simp only [Act.put, List.setIfInBounds_toArray, List.set_cons_zero, List.set_cons_succ]
            rfl
          refine pure_ (i := 9) (N := some 70) (v := ?_) (a' := ?_) #[false, true, true, true, true, false, true, false, false, true, false, false, false, false, false, false] rfl rfl (by kernel_rfl) (fun _ _ _ h => h) (Or.inl ⟨by rfl, ?_⟩) ?_ ?_
          rotate_left
          · intro w'
            go_simp
            with_reducible rfl
          rotate_left
          · simp only [Act.put, List.setIfInBounds_toArray, List.set_cons_zero, List.set_cons_succ]
            rfl
          refine take_ (i := 10) (N := some 71) (v := ?_) (a' := ?_) #[false, true, true, true, true, false, true, false, false, true, true, false, false, false, false, false] rfl rfl (by kernel_rfl) (fun _ _ _ h => h) (Or.inl ⟨by rfl, ?_⟩) hHeld ?_ ?_
          rotate_left
          · rintro w' ⟨s0, s1⟩
            have q4 := cell_blk s0 4
            have p0 := cell_blk s1 0
            have p1 := cell_blk s1 1
            have p2 := cell_blk s1 2
            have p3 := cell_blk s1 3
            go_simp
            with_reducible rfl
          rotate_left
          · simp only [Act.put, List.setIfInBounds_toArray, List.set_cons_zero, List.set_cons_succ]
            rfl
          refine pure_ (i := 11) (N := some 72) (v := ?_) (a' := ?_) #[false, true, true, true, true, false, true, false, false, true, true, true, false, false, false, false] rfl rfl (by kernel_rfl) (fun _ _ _ h => h) (Or.inl ⟨by rfl, ?_⟩) ?_ ?_
          rotate_left
          · intro w'
            go_simp
            with_reducible rfl
          rotate_left
          · simp only [Act.put, List.setIfInBounds_toArray, List.set_cons_zero, List.set_cons_succ]
            rfl
          refine pure_ (i := 12) (N := some 73) (v := ?_) (a' := ?_) #[false, true, true, true, true, false, true, false, false, true, true, true, true, false, false, false] rfl rfl (by kernel_rfl) (fun _ _ _ h => h) (Or.inl ⟨by rfl, ?_⟩) ?_ ?_
          rotate_left
          · intro w'
            go_simp
            with_reducible rfl
          rotate_left
          · simp only [Act.put, List.setIfInBounds_toArray, List.set_cons_zero, List.set_cons_succ]
            rfl
          refine join_ (σ := Value × Value × Value × Value × Value) 2 #[true, true, true, true, true, true, true, true, true, true, true, true, true, true, false, false] (fun s => [(61, s.1), (66, s.2.1), (68, s.2.2.1), (69, s.2.2.2.1), (74, s.2.2.2.2)]) (fun s w' => Below W4.heap.size W4 w' ∧ w'.ownsRow W4.heap.size 94 4 s.2.2.2.2 (0 + L.length + 1 + 0) ([] ++ (L.take L.length).flatMap mvCells ++ mvCells ⟨s1, m.kind, m.lab, s2⟩ ++ (L.drop L.length).flatMap mvCells)) ?_ ?_
          rotate_left
          · intro hcont
            refine two_ (i := 0) (j := 7) (Ni := some 61) (Nj := some 68) #[true, true, true, true, true, false, true, false, false, true, true, true, true, false, false, false] #[false, true, true, true, true, false, true, true, false, true, true, true, true, false, false, false] rfl rfl rfl rfl (by kernel_rfl) (by decide) (by decide) (fun K hK => ?_) (fun K hK => ?_)
            · refine value_ (v := .slice (some ⟨W4.heap.size, 0, none⟩) 0 0) (w1 := (W4.alloc (.cells #[] 94))) (by rfl) rfl (by go_simp) ?_
              refine hK.out _ _ (hS _ (alloc_below W4 _)) (fun _ => ?_)
              clear hK K
              refine norm_ (a' := ?_) ?_ ?_
              rotate_left
              · simp only [Act.put, List.setIfInBounds_toArray, List.set_cons_zero, List.set_cons_succ]
                rfl
              refine two_ (i := 5) (j := 7) (Ni := some 66) (Nj := some 68) #[true, true, true, true, true, true, true, false, false, true, true, true, true, false, false, false] #[true, true, true, true, true, false, true, true, false, true, true, true, true, false, false, false] rfl rfl rfl rfl (by kernel_rfl) (by decide) (by decide) (fun K hK => ?_) (fun K hK => ?_)
              · refine step_append_opt rfl (.tmp 61) (.tmp 65) 22 rfl W4.heap.size 94 i0 (.agg #[.int .i64 0, .int .i64 0, .int .i64 0, .int .i64 0]) 4 32 Tryd.underlying22 hi hz0 hz1 hz2 rfl (by decide) (.slice (some ⟨W4.heap.size, 0, none⟩) 0 0) 0 [] rfl (own_mkE W4) (some ⟨g, 0, none⟩) L.length L.length ((L.take L.length).flatMap mvCells) rfl HL1.out (HNG.out _ (alloc_below W4 _)) (mv_one _) (by unfold maxLen; omega) (by omega) (alloc_below W4 _).size ?_
                intro v1 w1 ho1 hg1 ha1
                have hB1 : Below W4.heap.size W4 w1 := Below.grown (alloc_below W4 _) hg1 (alloc_below W4 _).size (fun k hk => by simp [Value.ownBlock] at hk; omega)
                clear ha1
                refine hK.out _ _ (hS _ hB1) (fun _ => ?_)
                clear hK K
                refine norm_ (a' := ?_) ?_ ?_
                rotate_left
                · simp only [Act.put, List.setIfInBounds_toArray, List.set_cons_zero, List.set_cons_succ]
                  rfl
                refine one_ (i := 7) (N := some 68) #[true, true, true, true, true, true, true, true, false, true, true, true, true, false, false, false] rfl rfl (by kernel_rfl) (by decide) (fun K hK => ?_)
                refine value_ (v := .slice (some ⟨w1.heap.size, 0, none⟩) 1 1) (w1 := (w1.alloc (.cells #[.int .i64 s1, .int .i64 m.kind, .int .i64 m.lab, .int .i64 s2] 94))) (by rfl) rfl (by go_simp) ?_
                refine hK.out _ _ (hS _ (hB1.alloc hB1.size _)) (fun _ => ?_)
                clear hK K
                refine norm_ (a' := ?_) ?_ ?_
                rotate_left
                · simp only [Act.put, List.setIfInBounds_toArray, List.set_cons_zero, List.set_cons_succ]
                  rfl
                refine one_ (i := 8) (N := some 69) #[true, true, true, true, true, true, true, true, true, true, true, true, true, false, false, false] rfl rfl (by kernel_rfl) (by decide) (fun K hK => ?_)
                refine step_append_opt rfl (.tmp 66) (.tmp 68) 22 rfl W4.heap.size 94 i0 (.agg #[.int .i64 0, .int .i64 0, .int .i64 0, .int .i64 0]) 4 32 Tryd.underlying22 hi hz0 hz1 hz2 rfl (by decide) v1 (0 + L.length) _ rfl (ho1.alloc _) (some ⟨w1.heap.size, 0, none⟩) 1 1 (mvCells ⟨s1, m.kind, m.lab, s2⟩) rfl rfl (news_blk (t := 94) _ (heap_alloc_new w1 _)) (fun u hu => mv_one [⟨s1, m.kind, m.lab, s2⟩] u (by simpa using hu)) (by unfold maxLen; omega) (by omega) (hB1.alloc hB1.size _).size ?_
                intro v2 w2 ho2 hg2 ha2
                have hB2 : Below W4.heap.size W4 w2 := Below.grown (hB1.alloc hB1.size _) hg2 (hB1.alloc hB1.size _).size (fun k hk => (ho1.lt k hk).1)
                clear ha2 hg1
                refine hK.out _ _ (hS _ hB2) (fun _ => ?_)
                clear hK K
                refine norm_ (a' := ?_) ?_ ?_
                rotate_left
                · simp only [Act.put, List.setIfInBounds_toArray, List.set_cons_zero, List.set_cons_succ]
                  rfl
                refine one_ (i := 13) (N := some 74) #[true, true, true, true, true, true, true, true, true, true, true, true, true, true, false, false] rfl rfl (by kernel_rfl) (by decide) (fun K hK => ?_)
                refine step_append_opt rfl (.tmp 69) (.tmp 73) 22 rfl W4.heap.size 94 i0 (.agg #[.int .i64 0, .int .i64 0, .int .i64 0, .int .i64 0]) 4 32 Tryd.underlying22 hi hz0 hz1 hz2 rfl (by decide) v2 (0 + L.length + 1) _ rfl ho2 (some ⟨g, 0, none⟩) 0 0 ((L.drop L.length).flatMap mvCells) rfl HL3.out (HN3.out _ hB2) (mv_one _) (by unfold maxLen; omega) (by omega) hB2.size ?_
                intro v3 w3 ho3 hg3 ha3
                have hB3 : Below W4.heap.size W4 w3 := Below.grown hB2 hg3 hB2.size (fun k hk => (ho2.lt k hk).1)
                clear ha3 hg2
                refine hK.out _ _ (hS _ hB3) (fun _ => ?_)
                clear hK K
                refine norm_ (a' := ?_) ?_ ?_
                rotate_left
                · simp only [Act.put, List.setIfInBounds_toArray, List.set_cons_zero, List.set_cons_succ]
                  rfl
                exact hcont (.slice (some ⟨W4.heap.size, 0, none⟩) 0 0, v1, .slice (some ⟨w1.heap.size, 0, none⟩) 1 1, v2, v3) _ ⟨hB3, ho3⟩
              · refine value_ (v := .slice (some ⟨W4.heap.size + 1, 0, none⟩) 1 1) (w1 := ((W4.alloc (.cells #[] 94)).alloc (.cells #[.int .i64 s1, .int .i64 m.kind, .int .i64 m.lab, .int .i64 s2] 94))) (by rfl) rfl (by go_simp) ?_
                refine hK.out _ _ (hS _ ((alloc_below W4 _).alloc (by simp) _)) (fun _ => ?_)
                clear hK K
                refine norm_ (a' := ?_) ?_ ?_
                rotate_left
                · simp only [Act.put, List.setIfInBounds_toArray, List.set_cons_zero, List.set_cons_succ]
                  rfl
                refine one_ (i := 5) (N := some 66) #[true, true, true, true, true, true, true, true, false, true, true, true, true, false, false, false] rfl rfl (by kernel_rfl) (by decide) (fun K hK => ?_)
                refine step_append_opt rfl (.tmp 61) (.tmp 65) 22 rfl W4.heap.size 94 i0 (.agg #[.int .i64 0, .int .i64 0, .int .i64 0, .int .i64 0]) 4 32 Tryd.underlying22 hi hz0 hz1 hz2 rfl (by decide) (.slice (some ⟨W4.heap.size, 0, none⟩) 0 0) 0 [] rfl ((own_mkE W4).alloc _) (some ⟨g, 0, none⟩) L.length L.length ((L.take L.length).flatMap mvCells) rfl HL1.out (HNG.out _ ((alloc_below W4 _).alloc (by simp) _)) (mv_one _) (by unfold maxLen; omega) (by omega) ((alloc_below W4 _).alloc (by simp) _).size ?_
                intro v1 w1 ho1 hg1 ha1
                have hB1 : Below W4.heap.size W4 w1 := Below.grown ((alloc_below W4 _).alloc (by simp) _) hg1 ((alloc_below W4 _).alloc (by simp) _).size (fun k hk => by simp [Value.ownBlock] at hk; omega)
                clear ha1
                refine hK.out _ _ (hS _ hB1) (fun _ => ?_)
                clear hK K
                refine norm_ (a' := ?_) ?_ ?_
                rotate_left
                · simp only [Act.put, List.setIfInBounds_toArray, List.set_cons_zero, List.set_cons_succ]
                  rfl
                refine one_ (i := 8) (N := some 69) #[true, true, true, true, true, true, true, true, true, true, true, true, true, false, false, false] rfl rfl (by kernel_rfl) (by decide) (fun K hK => ?_)
                refine step_append_opt rfl (.tmp 66) (.tmp 68) 22 rfl W4.heap.size 94 i0 (.agg #[.int .i64 0, .int .i64 0, .int .i64 0, .int .i64 0]) 4 32 Tryd.underlying22 hi hz0 hz1 hz2 rfl (by decide) v1 (0 + L.length) _ rfl ho1 (some ⟨W4.heap.size + 1, 0, none⟩) 1 1 (mvCells ⟨s1, m.kind, m.lab, s2⟩) rfl rfl (news_blk (t := 94) _ ((hg1.block (W4.heap.size + 1) (by simp) (by simp [Value.ownBlock])).trans (alloc_at _ _ _ (by simp)))) (fun u hu => mv_one [⟨s1, m.kind, m.lab, s2⟩] u (by simpa using hu)) (by unfold maxLen; omega) (by omega) hB1.size ?_
                intro v2 w2 ho2 hg2 ha2
                have hB2 : Below W4.heap.size W4 w2 := Below.grown hB1 hg2 hB1.size (fun k hk => (ho1.lt k hk).1)
                clear ha2 hg1
                refine hK.out _ _ (hS _ hB2) (fun _ => ?_)
                clear hK K
                refine norm_ (a' := ?_) ?_ ?_
                rotate_left
                · simp only [Act.put, List.setIfInBounds_toArray, List.set_cons_zero, List.set_cons_succ]
                  rfl
                refine one_ (i := 13) (N := some 74) #[true, true, true, true, true, true, true, true, true, true, true, true, true, true, false, false] rfl rfl (by kernel_rfl) (by decide) (fun K hK => ?_)
                refine step_append_opt rfl (.tmp 69) (.tmp 73) 22 rfl W4.heap.size 94 i0 (.agg #[.int .i64 0, .int .i64 0, .int .i64 0, .int .i64 0]) 4 32 Tryd.underlying22 hi hz0 hz1 hz2 rfl (by decide) v2 (0 + L.length + 1) _ rfl ho2 (some ⟨g, 0, none⟩) 0 0 ((L.drop L.length).flatMap mvCells) rfl HL3.out (HN3.out _ hB2) (mv_one _) (by unfold maxLen; omega) (by omega) hB2.size ?_
                intro v3 w3 ho3 hg3 ha3
                have hB3 : Below W4.heap.size W4 w3 := Below.grown hB2 hg3 hB2.size (fun k hk => (ho2.lt k hk).1)
                clear ha3 hg2
                refine hK.out _ _ (hS _ hB3) (fun _ => ?_)
                clear hK K
                refine norm_ (a' := ?_) ?_ ?_
                rotate_left
                · simp only [Act.put, List.setIfInBounds_toArray, List.set_cons_zero, List.set_cons_succ]
                  rfl
                exact hcont (.slice (some ⟨W4.heap.size, 0, none⟩) 0 0, v1, .slice (some ⟨W4.heap.size + 1, 0, none⟩) 1 1, v2, v3) _ ⟨hB3, ho3⟩
            · refine value_ (v := .slice (some ⟨W4.heap.size, 0, none⟩) 1 1) (w1 := (W4.alloc (.cells #[.int .i64 s1, .int .i64 m.kind, .int .i64 m.lab, .int .i64 s2] 94))) (by rfl) rfl (by go_simp) ?_
              refine hK.out _ _ (hS _ (alloc_below W4 _)) (fun _ => ?_)
              clear hK K
              refine norm_ (a' := ?_) ?_ ?_
              rotate_left
              · simp only [Act.put, List.setIfInBounds_toArray, List.set_cons_zero, List.set_cons_succ]
                rfl
              refine one_ (i := 0) (N := some 61) #[true, true, true, true, true, false, true, true, false, true, true, true, true, false, false, false] rfl rfl (by kernel_rfl) (by decide) (fun K hK => ?_)
              refine value_ (v := .slice (some ⟨W4.heap.size + 1, 0, none⟩) 0 0) (w1 := ((W4.alloc (.cells #[.int .i64 s1, .int .i64 m.kind, .int .i64 m.lab, .int .i64 s2] 94)).alloc (.cells #[] 94))) (by rfl) rfl (by go_simp) ?_
              refine hK.out _ _ (hS _ ((alloc_below W4 _).alloc (by simp) _)) (fun _ => ?_)
              clear hK K
              refine norm_ (a' := ?_) ?_ ?_
              rotate_left
              · simp only [Act.put, List.setIfInBounds_toArray, List.set_cons_zero, List.set_cons_succ]
                rfl
              refine one_ (i := 5) (N := some 66) #[true, true, true, true, true, true, true, true, false, true, true, true, true, false, false, false] rfl rfl (by kernel_rfl) (by decide) (fun K hK => ?_)
              refine step_append_opt rfl (.tmp 61) (.tmp 65) 22 rfl W4.heap.size 94 i0 (.agg #[.int .i64 0, .int .i64 0, .int .i64 0, .int .i64 0]) 4 32 Tryd.underlying22 hi hz0 hz1 hz2 rfl (by decide) (.slice (some ⟨W4.heap.size + 1, 0, none⟩) 0 0) 0 [] rfl (own_mkE3 W4 _) (some ⟨g, 0, none⟩) L.length L.length ((L.take L.length).flatMap mvCells) rfl HL1.out (HNG.out _ ((alloc_below W4 _).alloc (by simp) _)) (mv_one _) (by unfold maxLen; omega) (by omega) ((alloc_below W4 _).alloc (by simp) _).size ?_
              intro v1 w1 ho1 hg1 ha1
              have hB1 : Below W4.heap.size W4 w1 := Below.grown ((alloc_below W4 _).alloc (by simp) _) hg1 ((alloc_below W4 _).alloc (by simp) _).size (fun k hk => by simp [Value.ownBlock] at hk; omega)
              clear ha1
              refine hK.out _ _ (hS _ hB1) (fun _ => ?_)
              clear hK K
              refine norm_ (a' := ?_) ?_ ?_
              rotate_left
              · simp only [Act.put, List.setIfInBounds_toArray, List.set_cons_zero, List.set_cons_succ]
                rfl
              refine one_ (i := 8) (N := some 69) #[true, true, true, true, true, true, true, true, true, true, true, true, true, false, false, false] rfl rfl (by kernel_rfl) (by decide) (fun K hK => ?_)
              refine step_append_opt rfl (.tmp 66) (.tmp 68) 22 rfl W4.heap.size 94 i0 (.agg #[.int .i64 0, .int .i64 0, .int .i64 0, .int .i64 0]) 4 32 Tryd.underlying22 hi hz0 hz1 hz2 rfl (by decide) v1 (0 + L.length) _ rfl ho1 (some ⟨W4.heap.size, 0, none⟩) 1 1 (mvCells ⟨s1, m.kind, m.lab, s2⟩) rfl rfl (news_blk (t := 94) _ ((hg1.block W4.heap.size (by simp; omega) (by simp [Value.ownBlock])).trans ((heap_alloc_old _ _ (by simp)).trans (heap_alloc_new W4 _)))) (fun u hu => mv_one [⟨s1, m.kind, m.lab, s2⟩] u (by simpa using hu)) (by unfold maxLen; omega) (by omega) hB1.size ?_
              intro v2 w2 ho2 hg2 ha2
              have hB2 : Below W4.heap.size W4 w2 := Below.grown hB1 hg2 hB1.size (fun k hk => (ho1.lt k hk).1)
              clear ha2 hg1
              refine hK.out _ _ (hS _ hB2) (fun _ => ?_)
              clear hK K
              refine norm_ (a' := ?_) ?_ ?_
              rotate_left
              · simp only [Act.put, List.setIfInBounds_toArray, List.set_cons_zero, List.set_cons_succ]
                rfl
              refine one_ (i := 13) (N := some 74) #[true, true, true, true, true, true, true, true, true, true, true, true, true, true, false, false] rfl rfl (by kernel_rfl) (by decide) (fun K hK => ?_)
              refine step_append_opt rfl (.tmp 69) (.tmp 73) 22 rfl W4.heap.size 94 i0 (.agg #[.int .i64 0, .int .i64 0, .int .i64 0, .int .i64 0]) 4 32 Tryd.underlying22 hi hz0 hz1 hz2 rfl (by decide) v2 (0 + L.length + 1) _ rfl ho2 (some ⟨g, 0, none⟩) 0 0 ((L.drop L.length).flatMap mvCells) rfl HL3.out (HN3.out _ hB2) (mv_one _) (by unfold maxLen; omega) (by omega) hB2.size ?_
              intro v3 w3 ho3 hg3 ha3
              have hB3 : Below W4.heap.size W4 w3 := Below.grown hB2 hg3 hB2.size (fun k hk => (ho2.lt k hk).1)
              clear ha3 hg2
              refine hK.out _ _ (hS _ hB3) (fun _ => ?_)
              clear hK K
              refine norm_ (a' := ?_) ?_ ?_
              rotate_left
              · simp only [Act.put, List.setIfInBounds_toArray, List.set_cons_zero, List.set_cons_succ]
                rfl
              exact hcont (.slice (some ⟨W4.heap.size + 1, 0, none⟩) 0 0, v1, .slice (some ⟨W4.heap.size, 0, none⟩) 1 1, v2, v3) _ ⟨hB3, ho3⟩
          · rintro ⟨x1, x2, x3, x4, v3⟩ w4 ⟨hB4, ho4⟩
            obtain ⟨va, vn, vc, rfl⟩ := own_slice ho4
            refine norm_ (a' := ?_) ?_ ?_
            rotate_left
            · simp only [putAll, Act.put, List.setIfInBounds_toArray, List.set_cons_zero, List.set_cons_succ]
              rfl
            have hs4 := (hS _ hB4).1
            have k4c := cell_blk hs4 4
            have k4f := frz hs4 4
            have HMS := Sd.mk (HM4.out.set (L' := L.take L.length ++ ⟨s1, m.kind, m.lab, s2⟩ :: L.drop L.length) hB4 ho4 (by rw [List.length_append, List.length_cons, List.length_take, List.length_drop]; omega) (by rw [List.flatMap_append, List.flatMap_cons]; simp [List.append_assoc]))
            clear hs4 hS hB4 ho4 hHeld
            refine pure_ (i := 14) (N := some 75) (v := ?_) (a' := ?_) #[true, true, true, true, true, true, true, true, true, true, true, true, true, true, true, false] rfl rfl (by kernel_rfl) (fun _ _ _ h => h) (Or.inl ⟨by rfl, ?_⟩) ?_ ?_
            rotate_left
            · intro w'
              go_simp
              with_reducible rfl
            rotate_left
            · simp only [Act.put, List.setIfInBounds_toArray, List.set_cons_zero, List.set_cons_succ]
              rfl
            refine last_ (i := 15) (N := none) #[true, true, true, true, true, true, true, true, true, true, true, true, true, true, true, true] rfl rfl (by kernel_rfl) (by decide) (fun K hK => ?_)
            refine skip_ (w1 := ?_) (by rfl) rfl ?_ ?_
            rotate_left
            · go_simp
              rfl
            refine hK.out _ _ ?_
            clear hK K
            refine done_ (by kernel_rfl) ?_
            go_wp2
            go_roundw
            case rel => exact ⟨k + 1, _, _, by go_num, by omega, HMS, HI, ⟨fun h => by omega⟩⟩
            case measure => simp [intOf]; omega
        ·
          refine pure_ (i := 1) (N := some 62) (v := ?_) (a' := ?_) #[false, true, false, false, false, false, false, false, false, false, false, false, false, false, false, false] rfl rfl (by kernel_rfl) (fun _ _ _ h => h) (Or.inl ⟨by rfl, ?_⟩) ?_ ?_
          rotate_left
          · intro w'
            go_simp
            with_reducible rfl
          rotate_left
          · simp only [Act.put, List.setIfInBounds_toArray, List.set_cons_zero, List.set_cons_succ]
            rfl
          refine take_ (i := 2) (N := some 63) (v := ?_) (a' := ?_) #[false, true, true, false, false, false, false, false, false, false, false, false, false, false, false, false] rfl rfl (by kernel_rfl) (fun _ _ _ h => h) (Or.inl ⟨by rfl, ?_⟩) hHeld ?_ ?_
          rotate_left
          · rintro w' ⟨s0, s1⟩
            have q4 := cell_blk s0 4
            have p0 := cell_blk s1 0
            have p1 := cell_blk s1 1
            have p2 := cell_blk s1 2
            have p3 := cell_blk s1 3
            go_simp
            with_reducible rfl
          rotate_left
          · simp only [Act.put, List.setIfInBounds_toArray, List.set_cons_zero, List.set_cons_succ]
            rfl
          refine pure_ (i := 3) (N := some 64) (v := ?_) (a' := ?_) #[false, true, true, true, false, false, false, false, false, false, false, false, false, false, false, false] rfl rfl (by kernel_rfl) (fun _ _ _ h => h) (Or.inl ⟨by rfl, ?_⟩) ?_ ?_
          rotate_left
          · intro w'
            go_simp
            with_reducible rfl
          rotate_left
          · simp only [Act.put, List.setIfInBounds_toArray, List.set_cons_zero, List.set_cons_succ]
            rfl
          refine pure_ (i := 4) (N := some 65) (v := ?_) (a' := ?_) #[false, true, true, true, true, false, false, false, false, false, false, false, false, false, false, false] rfl rfl (by kernel_rfl) (fun _ _ _ h => h) (Or.inl ⟨by rfl, ?_⟩) ?_ ?_
          rotate_left
          · intro w'
            go_simp
            with_reducible rfl
          rotate_left
          · simp only [Act.put, List.setIfInBounds_toArray, List.set_cons_zero, List.set_cons_succ]
            rfl
          refine take_ (i := 6) (N := some 67) (v := ?_) (a' := ?_) #[false, true, true, true, true, false, true, false, false, false, false, false, false, false, false, false] rfl rfl (by kernel_rfl) (fun _ _ _ h => h) (Or.inl ⟨by rfl, ?_⟩) hHeld ?_ ?_
          rotate_left
          · rintro w' ⟨s0, s1⟩
            have q4 := cell_blk s0 4
            have p0 := cell_blk s1 0
            have p1 := cell_blk s1 1
            have p2 := cell_blk s1 2
            have p3 := cell_blk s1 3
            go_simp
            with_reducible rfl
          rotate_left
          · simp only [Act.put, List.setIfInBounds_toArray, List.set_cons_zero, List.set_cons_succ]
            rfl
          refine pure_ (i := 9) (N := some 70) (v := ?_) (a' := ?_) #[false, true, true, true, true, false, true, false, false, true, false, false, false, false, false, false] rfl rfl (by kernel_rfl) (fun _ _ _ h => h) (Or.inl ⟨by rfl, ?_⟩) ?_ ?_
          rotate_left
          · intro w'
            go_simp
            with_reducible rfl
          rotate_left
          · simp only [Act.put, List.setIfInBounds_toArray, List.set_cons_zero, List.set_cons_succ]
            rfl
          refine take_ (i := 10) (N := some 71) (v := ?_) (a' := ?_) #[false, true, true, true, true, false, true, false, false, true, true, false, false, false, false, false] rfl rfl (by kernel_rfl) (fun _ _ _ h => h) (Or.inl ⟨by rfl, ?_⟩) hHeld ?_ ?_
          rotate_left
          · rintro w' ⟨s0, s1⟩
            have q4 := cell_blk s0 4
            have p0 := cell_blk s1 0
            have p1 := cell_blk s1 1
            have p2 := cell_blk s1 2
            have p3 := cell_blk s1 3
            go_simp
            with_reducible rfl
          rotate_left
          · simp only [Act.put, List.setIfInBounds_toArray, List.set_cons_zero, List.set_cons_succ]
            rfl
          refine pure_ (i := 11) (N := some 72) (v := ?_) (a' := ?_) #[false, true, true, true, true, false, true, false, false, true, true, true, false, false, false, false] rfl rfl (by kernel_rfl) (fun _ _ _ h => h) (Or.inl ⟨by rfl, ?_⟩) ?_ ?_
          rotate_left
          · intro w'
            go_simp
            with_reducible rfl
          rotate_left
          · simp only [Act.put, List.setIfInBounds_toArray, List.set_cons_zero, List.set_cons_succ]
            rfl
          refine pure_ (i := 12) (N := some 73) (v := ?_) (a' := ?_) #[false, true, true, true, true, false, true, false, false, true, true, true, true, false, false, false] rfl rfl (by kernel_rfl) (fun _ _ _ h => h) (Or.inl ⟨by rfl, ?_⟩) ?_ ?_
          rotate_left
          · intro w'
            go_simp
            with_reducible rfl
          rotate_left
          · simp only [Act.put, List.setIfInBounds_toArray, List.set_cons_zero, List.set_cons_succ]
            rfl
          refine join_ (σ := Value × Value × Value × Value × Value) 2 #[true, true, true, true, true, true, true, true, true, true, true, true, true, true, false, false] (fun s => [(61, s.1), (66, s.2.1), (68, s.2.2.1), (69, s.2.2.2.1), (74, s.2.2.2.2)]) (fun s w' => Below W4.heap.size W4 w' ∧ w'.ownsRow W4.heap.size 94 4 s.2.2.2.2 (0 + j + 1 + (L.length - j)) ([] ++ (L.take j).flatMap mvCells ++ mvCells ⟨s1, m.kind, m.lab, s2⟩ ++ (L.drop j).flatMap mvCells)) ?_ ?_
          rotate_left
          · intro hcont
            refine two_ (i := 0) (j := 7) (Ni := some 61) (Nj := some 68) #[true, true, true, true, true, false, true, false, false, true, true, true, true, false, false, false] #[false, true, true, true, true, false, true, true, false, true, true, true, true, false, false, false] rfl rfl rfl rfl (by kernel_rfl) (by decide) (by decide) (fun K hK => ?_) (fun K hK => ?_)
            · refine value_ (v := .slice (some ⟨W4.heap.size, 0, none⟩) 0 0) (w1 := (W4.alloc (.cells #[] 94))) (by rfl) rfl (by go_simp) ?_
              refine hK.out _ _ (hS _ (alloc_below W4 _)) (fun _ => ?_)
              clear hK K
              refine norm_ (a' := ?_) ?_ ?_
              rotate_left
              · simp only [Act.put, List.setIfInBounds_toArray, List.set_cons_zero, List.set_cons_succ]
                rfl
              refine two_ (i := 5) (j := 7) (Ni := some 66) (Nj := some 68) #[true, true, true, true, true, true, true, false, false, true, true, true, true, false, false, false] #[true, true, true, true, true, false, true, true, false, true, true, true, true, false, false, false] rfl rfl rfl rfl (by kernel_rfl) (by decide) (by decide) (fun K hK => ?_) (fun K hK => ?_)
              · refine step_append_opt rfl (.tmp 61) (.tmp 65) 22 rfl W4.heap.size 94 i0 (.agg #[.int .i64 0, .int .i64 0, .int .i64 0, .int .i64 0]) 4 32 Tryd.underlying22 hi hz0 hz1 hz2 rfl (by decide) (.slice (some ⟨W4.heap.size, 0, none⟩) 0 0) 0 [] rfl (own_mkE W4) (some ⟨g, 0, none⟩) j _ ((L.take j).flatMap mvCells) rfl HL1.out (HNG.out _ (alloc_below W4 _)) (mv_one _) (by unfold maxLen; omega) (by omega) (alloc_below W4 _).size ?_
                intro v1 w1 ho1 hg1 ha1
                have hB1 : Below W4.heap.size W4 w1 := Below.grown (alloc_below W4 _) hg1 (alloc_below W4 _).size (fun k hk => by simp [Value.ownBlock] at hk; omega)
                clear ha1
                refine hK.out _ _ (hS _ hB1) (fun _ => ?_)
                clear hK K
                refine norm_ (a' := ?_) ?_ ?_
                rotate_left
                · simp only [Act.put, List.setIfInBounds_toArray, List.set_cons_zero, List.set_cons_succ]
                  rfl
                refine one_ (i := 7) (N := some 68) #[true, true, true, true, true, true, true, true, false, true, true, true, true, false, false, false] rfl rfl (by kernel_rfl) (by decide) (fun K hK => ?_)
                refine value_ (v := .slice (some ⟨w1.heap.size, 0, none⟩) 1 1) (w1 := (w1.alloc (.cells #[.int .i64 s1, .int .i64 m.kind, .int .i64 m.lab, .int .i64 s2] 94))) (by rfl) rfl (by go_simp) ?_
                refine hK.out _ _ (hS _ (hB1.alloc hB1.size _)) (fun _ => ?_)
                clear hK K
                refine norm_ (a' := ?_) ?_ ?_
                rotate_left
                · simp only [Act.put, List.setIfInBounds_toArray, List.set_cons_zero, List.set_cons_succ]
                  rfl
                refine one_ (i := 8) (N := some 69) #[true, true, true, true, true, true, true, true, true, true, true, true, true, false, false, false] rfl rfl (by kernel_rfl) (by decide) (fun K hK => ?_)
                refine step_append_opt rfl (.tmp 66) (.tmp 68) 22 rfl W4.heap.size 94 i0 (.agg #[.int .i64 0, .int .i64 0, .int .i64 0, .int .i64 0]) 4 32 Tryd.underlying22 hi hz0 hz1 hz2 rfl (by decide) v1 (0 + j) _ rfl (ho1.alloc _) (some ⟨w1.heap.size, 0, none⟩) 1 1 (mvCells ⟨s1, m.kind, m.lab, s2⟩) rfl rfl (news_blk (t := 94) _ (heap_alloc_new w1 _)) (fun u hu => mv_one [⟨s1, m.kind, m.lab, s2⟩] u (by simpa using hu)) (by unfold maxLen; omega) (by omega) (hB1.alloc hB1.size _).size ?_
                intro v2 w2 ho2 hg2 ha2
                have hB2 : Below W4.heap.size W4 w2 := Below.grown (hB1.alloc hB1.size _) hg2 (hB1.alloc hB1.size _).size (fun k hk => (ho1.lt k hk).1)
                clear ha2 hg1
                refine hK.out _ _ (hS _ hB2) (fun _ => ?_)
                clear hK K
                refine norm_ (a' := ?_) ?_ ?_
                rotate_left
                · simp only [Act.put, List.setIfInBounds_toArray, List.set_cons_zero, List.set_cons_succ]
                  rfl
                refine one_ (i := 13) (N := some 74) #[true, true, true, true, true, true, true, true, true, true, true, true, true, true, false, false] rfl rfl (by kernel_rfl) (by decide) (fun K hK => ?_)
                refine step_append_opt rfl (.tmp 69) (.tmp 73) 22 rfl W4.heap.size 94 i0 (.agg #[.int .i64 0, .int .i64 0, .int .i64 0, .int .i64 0]) 4 32 Tryd.underlying22 hi hz0 hz1 hz2 rfl (by decide) v2 (0 + j + 1) _ rfl ho2 (some ⟨g, j * 4, none⟩) (L.length - j) _ ((L.drop j).flatMap mvCells) rfl HL3.out (HN3.out _ hB2) (mv_one _) (by unfold maxLen; omega) (by omega) hB2.size ?_
                intro v3 w3 ho3 hg3 ha3
                have hB3 : Below W4.heap.size W4 w3 := Below.grown hB2 hg3 hB2.size (fun k hk => (ho2.lt k hk).1)
                clear ha3 hg2
                refine hK.out _ _ (hS _ hB3) (fun _ => ?_)
                clear hK K
                refine norm_ (a' := ?_) ?_ ?_
                rotate_left
                · simp only [Act.put, List.setIfInBounds_toArray, List.set_cons_zero, List.set_cons_succ]
                  rfl
                exact hcont (.slice (some ⟨W4.heap.size, 0, none⟩) 0 0, v1, .slice (some ⟨w1.heap.size, 0, none⟩) 1 1, v2, v3) _ ⟨hB3, ho3⟩
              · refine value_ (v := .slice (some ⟨W4.heap.size + 1, 0, none⟩) 1 1) (w1 := ((W4.alloc (.cells #[] 94)).alloc (.cells #[.int .i64 s1, .int .i64 m.kind, .int .i64 m.lab, .int .i64 s2] 94))) (by rfl) rfl (by go_simp) ?_
                refine hK.out _ _ (hS _ ((alloc_below W4 _).alloc (by simp) _)) (fun _ => ?_)
                clear hK K
                refine norm_ (a' := ?_) ?_ ?_
                rotate_left
                · simp only [Act.put, List.setIfInBounds_toArray, List.set_cons_zero, List.set_cons_succ]
                  rfl
                refine one_ (i := 5) (N := some 66) #[true, true, true, true, true, true, true, true, false, true, true, true, true, false, false, false] rfl rfl (by kernel_rfl) (by decide) (fun K hK => ?_)
                refine step_append_opt rfl (.tmp 61) (.tmp 65) 22 rfl W4.heap.size 94 i0 (.agg #[.int .i64 0, .int .i64 0, .int .i64 0, .int .i64 0]) 4 32 Tryd.underlying22 hi hz0 hz1 hz2 rfl (by decide) (.slice (some ⟨W4.heap.size, 0, none⟩) 0 0) 0 [] rfl ((own_mkE W4).alloc _) (some ⟨g, 0, none⟩) j _ ((L.take j).flatMap mvCells) rfl HL1.out (HNG.out _ ((alloc_below W4 _).alloc (by simp) _)) (mv_one _) (by unfold maxLen; omega) (by omega) ((alloc_below W4 _).alloc (by simp) _).size ?_
                intro v1 w1 ho1 hg1 ha1
                have hB1 : Below W4.heap.size W4 w1 := Below.grown ((alloc_below W4 _).alloc (by simp) _) hg1 ((alloc_below W4 _).alloc (by simp) _).size (fun k hk => by simp [Value.ownBlock] at hk; omega)
                clear ha1
                refine hK.out _ _ (hS _ hB1) (fun _ => ?_)
                clear hK K
                refine norm_ (a' := ?_) ?_ ?_
                rotate_left
                · simp only [Act.put, List.setIfInBounds_toArray, List.set_cons_zero, List.set_cons_succ]
                  rfl
                refine one_ (i := 8) (N := some 69) #[true, true, true, true, true, true, true, true, true, true, true, true, true, false, false, false] rfl rfl (by kernel_rfl) (by decide) (fun K hK => ?_)
                refine step_append_opt rfl (.tmp 66) (.tmp 68) 22 rfl W4.heap.size 94 i0 (.agg #[.int .i64 0, .int .i64 0, .int .i64 0, .int .i64 0]) 4 32 Tryd.underlying22 hi hz0 hz1 hz2 rfl (by decide) v1 (0 + j) _ rfl ho1 (some ⟨W4.heap.size + 1, 0, none⟩) 1 1 (mvCells ⟨s1, m.kind, m.lab, s2⟩) rfl rfl (news_blk (t := 94) _ ((hg1.block (W4.heap.size + 1) (by simp) (by simp [Value.ownBlock])).trans (alloc_at _ _ _ (by simp)))) (fun u hu => mv_one [⟨s1, m.kind, m.lab, s2⟩] u (by simpa using hu)) (by unfold maxLen; omega) (by omega) hB1.size ?_
                intro v2 w2 ho2 hg2 ha2
                have hB2 : Below W4.heap.size W4 w2 := Below.grown hB1 hg2 hB1.size (fun k hk => (ho1.lt k hk).1)
                clear ha2 hg1
                refine hK.out _ _ (hS _ hB2) (fun _ => ?_)
                clear hK K
                refine norm_ (a' := ?_) ?_ ?_
                rotate_left
                · simp only [Act.put, List.setIfInBounds_toArray, List.set_cons_zero, List.set_cons_succ]
                  rfl
                refine one_ (i := 13) (N := some 74) #[true, true, true, true, true, true, true, true, true, true, true, true, true, true, false, false] rfl rfl (by kernel_rfl) (by decide) (fun K hK => ?_)
                refine step_append_opt rfl (.tmp 69) (.tmp 73) 22 rfl W4.heap.size 94 i0 (.agg #[.int .i64 0, .int .i64 0, .int .i64 0, .int .i64 0]) 4 32 Tryd.underlying22 hi hz0 hz1 hz2 rfl (by decide) v2 (0 + j + 1) _ rfl ho2 (some ⟨g, j * 4, none⟩) (L.length - j) _ ((L.drop j).flatMap mvCells) rfl HL3.out (HN3.out _ hB2) (mv_one _) (by unfold maxLen; omega) (by omega) hB2.size ?_
                intro v3 w3 ho3 hg3 ha3
                have hB3 : Below W4.heap.size W4 w3 := Below.grown hB2 hg3 hB2.size (fun k hk => (ho2.lt k hk).1)
                clear ha3 hg2
                refine hK.out _ _ (hS _ hB3) (fun _ => ?_)
                clear hK K
                refine norm_ (a' := ?_) ?_ ?_
                rotate_left
                · simp only [Act.put, List.setIfInBounds_toArray, List.set_cons_zero, List.set_cons_succ]
                  rfl
                exact hcont (.slice (some ⟨W4.heap.size, 0, none⟩) 0 0, v1, .slice (some ⟨W4.heap.size + 1, 0, none⟩) 1 1, v2, v3) _ ⟨hB3, ho3⟩
            · refine value_ (v := .slice (some ⟨W4.heap.size, 0, none⟩) 1 1) (w1 := (W4.alloc (.cells #[.int .i64 s1, .int .i64 m.kind, .int .i64 m.lab, .int .i64 s2] 94))) (by rfl) rfl (by go_simp) ?_
              refine hK.out _ _ (hS _ (alloc_below W4 _)) (fun _ => ?_)
              clear hK K
              refine norm_ (a' := ?_) ?_ ?_
              rotate_left
              · simp only [Act.put, List.setIfInBounds_toArray, List.set_cons_zero, List.set_cons_succ]
                rfl
              refine one_ (i := 0) (N := some 61) #[true, true, true, true, true, false, true, true, false, true, true, true, true, false, false, false] rfl rfl (by kernel_rfl) (by decide) (fun K hK => ?_)
              refine value_ (v := .slice (some ⟨W4.heap.size + 1, 0, none⟩) 0 0) (w1 := ((W4.alloc (.cells #[.int .i64 s1, .int .i64 m.kind, .int .i64 m.lab, .int .i64 s2] 94)).alloc (.cells #[] 94))) (by rfl) rfl (by go_simp) ?_
              refine hK.out _ _ (hS _ ((alloc_below W4 _).alloc (by simp) _)) (fun _ => ?_)
              clear hK K
              refine norm_ (a' := ?_) ?_ ?_
              rotate_left
              · simp only [Act.put, List.setIfInBounds_toArray, List.set_cons_zero, List.set_cons_succ]
                rfl
              refine one_ (i := 5) (N := some 66) #[true, true, true, true, true, true, true, true, false, true, true, true, true, false, false, false] rfl rfl (by kernel_rfl) (by decide) (fun K hK => ?_)
              refine step_append_opt rfl (.tmp 61) (.tmp 65) 22 rfl W4.heap.size 94 i0 (.agg #[.int .i64 0, .int .i64 0, .int .i64 0, .int .i64 0]) 4 32 Tryd.underlying22 hi hz0 hz1 hz2 rfl (by decide) (.slice (some ⟨W4.heap.size + 1, 0, none⟩) 0 0) 0 [] rfl (own_mkE3 W4 _) (some ⟨g, 0, none⟩) j _ ((L.take j).flatMap mvCells) rfl HL1.out (HNG.out _ ((alloc_below W4 _).alloc (by simp) _)) (mv_one _) (by unfold maxLen; omega) (by omega) ((alloc_below W4 _).alloc (by simp) _).size ?_
              intro v1 w1 ho1 hg1 ha1
              have hB1 : Below W4.heap.size W4 w1 := Below.grown ((alloc_below W4 _).alloc (by simp) _) hg1 ((alloc_below W4 _).alloc (by simp) _).size (fun k hk => by simp [Value.ownBlock] at hk; omega)
              clear ha1
              refine hK.out _ _ (hS _ hB1) (fun _ => ?_)
              clear hK K
              refine norm_ (a' := ?_) ?_ ?_
              rotate_left
              · simp only [Act.put, List.setIfInBounds_toArray, List.set_cons_zero, List.set_cons_succ]
                rfl
              refine one_ (i := 8) (N := some 69) #[true, true, true, true, true, true, true, true, true, true, true, true, true, false, false, false] rfl rfl (by kernel_rfl) (by decide) (fun K hK => ?_)
              refine step_append_opt rfl (.tmp 66) (.tmp 68) 22 rfl W4.heap.size 94 i0 (.agg #[.int .i64 0, .int .i64 0, .int .i64 0, .int .i64 0]) 4 32 Tryd.underlying22 hi hz0 hz1 hz2 rfl (by decide) v1 (0 + j) _ rfl ho1 (some ⟨W4.heap.size, 0, none⟩) 1 1 (mvCells ⟨s1, m.kind, m.lab, s2⟩) rfl rfl (news_blk (t := 94) _ ((hg1.block W4.heap.size (by simp; omega) (by simp [Value.ownBlock])).trans ((heap_alloc_old _ _ (by simp)).trans (heap_alloc_new W4 _)))) (fun u hu => mv_one [⟨s1, m.kind, m.lab, s2⟩] u (by simpa using hu)) (by unfold maxLen; omega) (by omega) hB1.size ?_
              intro v2 w2 ho2 hg2 ha2
              have hB2 : Below W4.heap.size W4 w2 := Below.grown hB1 hg2 hB1.size (fun k hk => (ho1.lt k hk).1)
              clear ha2 hg1
              refine hK.out _ _ (hS _ hB2) (fun _ => ?_)
              clear hK K
              refine norm_ (a' := ?_) ?_ ?_
              rotate_left
              · simp only [Act.put, List.setIfInBounds_toArray, List.set_cons_zero, List.set_cons_succ]
                rfl
              refine one_ (i := 13) (N := some 74) #[true, true, true, true, true, true, true, true, true, true, true, true, true, true, false, false] rfl rfl (by kernel_rfl) (by decide) (fun K hK => ?_)
              refine step_append_opt rfl (.tmp 69) (.tmp 73) 22 rfl W4.heap.size 94 i0 (.agg #[.int .i64 0, .int .i64 0, .int .i64 0, .int .i64 0]) 4 32 Tryd.underlying22 hi hz0 hz1 hz2 rfl (by decide) v2 (0 + j + 1) _ rfl ho2 (some ⟨g, j * 4, none⟩) (L.length - j) _ ((L.drop j).flatMap mvCells) rfl HL3.out (HN3.out _ hB2) (mv_one _) (by unfold maxLen; omega) (by omega) hB2.size ?_
              intro v3 w3 ho3 hg3 ha3
              have hB3 : Below W4.heap.size W4 w3 := Below.grown hB2 hg3 hB2.size (fun k hk => (ho2.lt k hk).1)
              clear ha3 hg2
              refine hK.out _ _ (hS _ hB3) (fun _ => ?_)
              clear hK K
              refine norm_ (a' := ?_) ?_ ?_
              rotate_left
              · simp only [Act.put, List.setIfInBounds_toArray, List.set_cons_zero, List.set_cons_succ]
                rfl
              exact hcont (.slice (some ⟨W4.heap.size + 1, 0, none⟩) 0 0, v1, .slice (some ⟨W4.heap.size, 0, none⟩) 1 1, v2, v3) _ ⟨hB3, ho3⟩
          · rintro ⟨x1, x2, x3, x4, v3⟩ w4 ⟨hB4, ho4⟩
            obtain ⟨va, vn, vc, rfl⟩ := own_slice ho4
            refine norm_ (a' := ?_) ?_ ?_
            rotate_left
            · simp only [putAll, Act.put, List.setIfInBounds_toArray, List.set_cons_zero, List.set_cons_succ]
              rfl
            have hs4 := (hS _ hB4).1
            have k4c := cell_blk hs4 4
            have k4f := frz hs4 4
            have HMS := Sd.mk (HM4.out.set (L' := L.take j ++ ⟨s1, m.kind, m.lab, s2⟩ :: L.drop j) hB4 ho4 (by rw [List.length_append, List.length_cons, List.length_take, List.length_drop]; omega) (by rw [List.flatMap_append, List.flatMap_cons]; simp [List.append_assoc]))
            clear hs4 hS hB4 ho4 hHeld
            refine pure_ (i := 14) (N := some 75) (v := ?_) (a' := ?_) #[true, true, true, true, true, true, true, true, true, true, true, true, true, true, true, false] rfl rfl (by kernel_rfl) (fun _ _ _ h => h) (Or.inl ⟨by rfl, ?_⟩) ?_ ?_
            rotate_left
            · intro w'
              go_simp
              with_reducible rfl
            rotate_left
            · simp only [Act.put, List.setIfInBounds_toArray, List.set_cons_zero, List.set_cons_succ]
              rfl
            refine last_ (i := 15) (N := none) #[true, true, true, true, true, true, true, true, true, true, true, true, true, true, true, true] rfl rfl (by kernel_rfl) (by decide) (fun K hK => ?_)
            refine skip_ (w1 := ?_) (by rfl) rfl ?_ ?_
            rotate_left
            · go_simp
              rfl
            refine hK.out _ _ ?_
            clear hK K
            refine done_ (by kernel_rfl) ?_
            go_wp2
            go_roundw
            case rel => exact ⟨k + 1, _, _, by go_num, by omega, HMS, HI, ⟨fun h => by omega⟩⟩
            case measure => simp [intOf]; omega
    · obtain rfl : k = x.mvs.length := by omega
      obtain ⟨A2, c2, hv2, hrd⟩ := own_rdM (xs := L) (n := L.length) rfl hM.out.own (flat_mv L).1 (flat_mv L).2
      have hvl := hM.out.own.lt
      subst hv2
      have HVL := Sd.mk hvl
      have HRD := Sd.mk hrd
      have HB1 := Sd.mk hM.out.b1
      have HTy : Sd (∀ ad, A2 = some ad → ∃ cs, W1.heap[ad.block]? = some (.cells cs 94 (0, 0))) := ⟨fun ad he => by
        subst he
        rcases hM.out.own.2 with ⟨h1, _⟩ | ⟨g, cap, cur, h1, _, h2, _⟩
        · cases h1
        · cases h1; exact ⟨_, h2⟩⟩
      have r0 := cell_blk hM.out.b2 0
      have r1 := cell_blk hM.out.b2 1
      have r2 := cell_blk hM.out.b2 2
      have r3 := cell_blk hM.out.b2 3
      have r4 := cell_blk hM.out.b2 4
      have q0 := cell_blk hM.out.b1 0
      have q1 := cell_blk hM.out.b1 1
      have q2 := cell_blk hM.out.b1 2
      have q3 := cell_blk hM.out.b1 3
      have q4 := cell_blk hM.out.b1 4
      have g0 := frz hM.out.b1 0
      have g1 := frz hM.out.b1 1
      have g2 := frz hM.out.b1 2
      have g3 := frz hM.out.b1 3
      have g4 := frz hM.out.b1 4
      clear hvl hrd
      go_wp2_with fail
      (try simp only [Exit.inBlock, Exit.then])
      have hMv : Moved x tl ⟨x.N, tl.getD x.start 0, x.inp, x.out, L⟩ := ⟨rfl, rfl, rfl, rfl, hI.out⟩
      have HW : ∀ (k : Nat), k ≠ w.heap.size + 1 → ∀ u1 u2 u3 u4 u5 : Value, (((((W1.setCell ⟨w.heap.size + 1, 0, none⟩ u1).setCell ⟨w.heap.size + 1, 1, none⟩ u2).setCell ⟨w.heap.size + 1, 2, none⟩ u3).setCell ⟨w.heap.size + 1, 3, none⟩ u4).setCell ⟨w.heap.size + 1, 4, none⟩ u5).heap[k]? = W1.heap[k]? := fun k h2 u1 u2 u3 u4 u5 => by
        rw [Below.heap_setCell _ _ _ _ h2, Below.heap_setCell _ _ _ _ h2, Below.heap_setCell _ _ _ _ h2, Below.heap_setCell _ _ _ _ h2, Below.heap_setCell _ _ _ _ h2]
      refine bodyPost_ret (results_cell_row (P := Tryd.prog) rfl _ _ (w.heap.size + 1) 24 #[.int .i64 x.N, .int .i64 (tl.getD x.start 0 : Nat), .int .i64 x.inp, .int .i64 x.out, .slice A2 L.length c2] (0, 0) _ rfl (blk_set (blk_set (blk_set (blk_set (blk_set HB1.out 0 _) 1 _) 2 _) 3 _) 4 _) Tryd.underlying24 rfl (by kernel_rfl)) rfl ?_
      refine ⟨⟨x.N, tl.getD x.start 0, x.inp, x.out, L⟩, A2, c2, rfl, hMv, HRD.out.of_block (fun ad2 ha => ?_), (fun ad2 ha => ?_), (((((hM.out.below.setCell (by simp) _).setCell (by simp) _).setCell (by simp) _).setCell (by simp) _).setCell (by simp) _)⟩
      · subst ha
        have := HVL.out ad2.block rfl
        exact HW _ (by omega) _ _ _ _ _
      · obtain ⟨cs, hcs⟩ := HTy.out ad2 ha
        subst ha
        have := HVL.out ad2.block rfl
        exact ⟨cs, (HW _ (by omega) _ _ _ _ _).trans hcs⟩
end Go.Proofs.YtcbhaeniahckhaaDoor
