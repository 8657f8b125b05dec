/- The order of moves and the shuffled numbers, walked. Conditions: those that each theorem names. -/
import Derived.Test.YtcbhaeniahckhaaDoorMt
set_option linter.unusedSimpArgs false
set_option linter.unusedVariables false
section
set_option linter.unusedSimpArgs false
namespace Go.Proofs.YtcbhaeniahckhaaDoor
open Go.RowKit Go.Shelf Go.Deep Go.Proofs.YtcbhaeniahckhaaDoorW.PrintLast
def cmpMv (a b : Mv) : Int := cmpZ [a.frm, a.kind, a.lab, a.tgt] [b.frm, b.kind, b.lab, b.tgt]
theorem cmpMv_calls (w : World) (A B : Option Addr) (c c' : Nat) (a b : Mv) (hr : RdZ w A [a.frm, a.kind, a.lab, a.tgt]) (hr' : RdZ w B [b.frm, b.kind, b.lab, b.tgt]) : Calls Tryd.prog 69 #[.slice A 4 c, .slice B 4 c'] w fun e w' => e = .returned (.int .i64 (cmpMv a b)) ∧ Below w.heap.size w w' :=
  compareZ_calls w A B c c' 4 _ _ rfl rfl (by decide) hr hr'
set_option maxHeartbeats 2000000 in
set_option maxRecDepth 100000 in
theorem less_calls (w : World) (a b : Mv) : Calls Tryd.prog 45 #[.agg #[.int .i64 a.frm, .int .i64 a.kind, .int .i64 a.lab, .int .i64 a.tgt], .agg #[.int .i64 b.frm, .int .i64 b.kind, .int .i64 b.lab, .int .i64 b.tgt]] w fun e w' => e = .returned (.bool (decide (cmpMv a b < 0))) ∧ Below w.heap.size w w' := by
  go_enter Tryd.func45, Tryd.ntmps45
  go_wp2_with (go_at_call 69; refine (cmpMv_calls _ _ _ _ _ a b (rdZ_blk [(a.frm : Int), a.kind, a.lab, a.tgt] ((heap_alloc_old _ _ (by simp)).trans (alloc_at _ _ _ (by simp)))) (rdZ_blk [(b.frm : Int), b.kind, b.lab, b.tgt] (alloc_at _ _ _ (by simp)))).mono ?_; rintro e w1 ⟨rfl, hB1⟩)
  go_ret
  exact ⟨rfl, (((((alloc_below _ _).alloc (by simp) _).alloc (by simp <;> omega) _).alloc (by simp <;> omega) _).trans (hB1.mono (by simp <;> omega)))⟩
end Go.Proofs.YtcbhaeniahckhaaDoor
end
section
set_option linter.unusedSimpArgs false
namespace Go.Proofs.YtcbhaeniahckhaaDoor
open Go.RowKit Go.Shelf Go.Deep Go.Proofs.YtcbhaeniahckhaaDoorW.PrintLast
section
variable {P : Program}
/-- append of a piece of a row, maybe of nothing, as one step of a region that draws -/
theorem step_append_any {ops : Array Oper} {o : Oper} {a : Act} {K : Act → World → Prop} {Q : Exit → Act → World → Prop} {E : Prop} {w : World} (hgd : o.guard = none) (s x : Operand) (t : TypeId)
    (ho : o.op = .call { callee := .builtin .append, args := #[s, x], argTypes := #[t, t] })
    (base : Nat) (e : TypeId) (i : TypeInfo) (z : Value) (size bytes : Nat) (ht : P.underlying t = some (.slice e)) (hi : P.info? e = some i) (hz : i.zero = some z)
    (hsize : i.size = size) (hby : i.bytes = bytes) (hzs : z.cells.size = size) (hsz : 0 < size)
    (v : Value) (n : Nat) (xs : List Value) (hs : a.eval s = v) (hown : w.ownsRow base e size v n xs)
    (ad : Addr) (m c : Nat) (news : List Value) (hx : a.eval x = .slice (some ad) m c) (hl : news.length = m * size) (hnews : ∀ j u, news[j]? = some u → w.cell? (ad.add j) = some u) (h1 : ∀ u ∈ news, u.oneCell' = true)
    (h63 : n + m ≤ maxLen) (hbytes : (n + m) * bytes ≤ 140737488355328) (hbase : base ≤ w.heap.size)
    (h : ∀ v' w', w'.ownsRow base e size v' (n + m) (xs ++ news) → w.grownBy w' v.ownBlock → (v'.ownBlock = v.ownBlock ∨ v'.ownBlock = some w.heap.size) → K (a.put o.dst v') w') :
    if Region.wanted o (yielded ops a.tmps) = true then Oper.wp P o a w K Q else E := by
  have hw : Region.wanted o (yielded ops a.tmps) = true := by simp [Region.wanted, hgd]
  rw [if_pos hw]
  obtain ⟨v', w', hr, h2, h3, h4, h5⟩ := run_append_own_at (P := P) w base t o.type e i z size bytes ht hi hz hsize hby hzs hsz v n xs hown ad m c news hl hnews h1 h63 hbytes hbase
  unfold Oper.wp execOp
  simp only [ho, resolve, invoke, builtin, Sem.run_bind, Sem.run_pure, Result.andThen_ok, List.map_toArray, List.map_cons, List.map_nil, hs, hx, hr]
  exact h _ _ h2 h3 h5
end
/-- octets as they lie -/
def RdB (w : World) (B : Option Addr) (m : Nat) : Prop := ∀ i, i < m → ∃ ad z, B = some ad ∧ w.cell? (ad.add i) = some (.int .u8 z) ∧ 0 ≤ z ∧ z < 256
theorem RdB.below {w w' : World} {B : Option Addr} {m : Nat} (h : RdB w B m) (hB : Below w.heap.size w w') : RdB w' B m := fun i hi => let ⟨ad, z, e1, e2, e3, e4⟩ := h i hi; ⟨ad, z, e1, cell_later hB e2, e3, e4⟩
/-- numbers taken out so far, and those that are left -/
structure ShI (n k : Nat) (L O : List Nat) : Prop where
  nd : (L ++ O).Nodup
  lt : ∀ a ∈ L ++ O, a < n
  ll : L.length + k = n
  lo : O.length = k
theorem ShI.start (n : Nat) : ShI n 0 (List.range n) [] := ⟨by simp [List.nodup_range], by simp, by simp, rfl⟩
theorem ShI.step {n k j : Nat} {L O : List Nat} (h : ShI n k L O) (hj : j < L.length) : ShI n (k + 1) (L.take j ++ L.drop (j + 1)) (O ++ [L.getD j 0]) := by
  have e : L = L.take j ++ L.getD j 0 :: L.drop (j + 1) := by
    conv => lhs; rw [← List.take_append_drop j L]
    rw [List.drop_eq_getElem_cons hj, List.getD_eq_getElem?_getD, List.getElem?_eq_getElem hj]; rfl
  have hp : List.Perm (L ++ O) ((L.take j ++ L.drop (j + 1)) ++ (O ++ [L.getD j 0])) := by
    generalize L.getD j 0 = a at *
    conv => lhs; rw [e]
    rw [List.append_assoc, List.append_assoc]
    refine List.Perm.append_left _ ?_
    rw [List.cons_append, ← List.append_assoc]
    exact (List.perm_append_comm (l₁ := [a]) (l₂ := L.drop (j + 1) ++ O))
  have h1 := h.ll
  have h2 := h.lo
  refine ⟨hp.nodup_iff.1 h.nd, fun a ha => h.lt a (hp.mem_iff.2 ha), ?_, by simp; omega⟩
  rw [List.length_append, List.length_take, List.length_drop]
  omega
def cellI (x : Nat) : Value := .int .i64 (x : Int)
theorem RdI.of_block {w w' : World} {g : Nat} {xs : List Nat} (h : RdI w (some ⟨g, 0, none⟩) xs) (hb : w'.heap[g]? = w.heap[g]?) : RdI w' (some ⟨g, 0, none⟩) xs := fun i hi => by
  obtain ⟨ad, e1, e2⟩ := h i hi
  cases e1
  refine ⟨_, rfl, (cell_same ?_).trans e2⟩
  rw [add_block]; exact hb
theorem RdI.cellAt {w : World} {g : Nat} {xs : List Nat} (h : RdI w (some ⟨g, 0, none⟩) xs) (i : Nat) (hi : i < xs.length) : w.cell? ⟨g, i, none⟩ = some (cellI (xs.getD i 0)) := by
  obtain ⟨ad, e1, e2⟩ := h i hi
  cases e1
  rwa [show (⟨g, 0, none⟩ : Addr).add i = ⟨g, i, none⟩ by unfold Addr.add; split <;> simp_all] at e2
theorem news_take {w : World} {g : Nat} {L : List Nat} (h : RdI w (some ⟨g, 0, none⟩) L) (q : Nat) : ∀ j u, ((L.take q).map cellI)[j]? = some u → w.cell? ((⟨g, 0, none⟩ : Addr).add j) = some u := by
  intro j u hj
  have hjl := (List.getElem?_eq_some_iff.1 hj).1
  rw [List.length_map, List.length_take] at hjl
  have hj1 : j < q := by omega
  have hj2 : j < L.length := by omega
  rw [show (⟨g, 0, none⟩ : Addr).add j = ⟨g, j, none⟩ by unfold Addr.add; split <;> simp_all, h.cellAt j hj2]
  rw [List.getElem?_map, List.getElem?_take_of_lt hj1, List.getElem?_eq_getElem hj2] at hj
  simp at hj
  rw [← hj, List.getD_eq_getElem?_getD, List.getElem?_eq_getElem hj2]
  rfl
theorem news_drop {w : World} {g : Nat} {L : List Nat} (h : RdI w (some ⟨g, 0, none⟩) L) (q : Nat) : ∀ j u, ((L.drop q).map cellI)[j]? = some u → w.cell? ((⟨g, q, none⟩ : Addr).add j) = some u := by
  intro j u hj
  have hjl := (List.getElem?_eq_some_iff.1 hj).1
  simp at hjl
  rw [show (⟨g, q, none⟩ : Addr).add j = ⟨g, q + j, none⟩ by unfold Addr.add; split <;> simp_all, h.cellAt (q + j) (by omega)]
  rw [List.getElem?_map, List.getElem?_drop, List.getElem?_eq_getElem (by omega)] at hj
  simp at hj
  rw [← hj, List.getD_eq_getElem?_getD, List.getElem?_eq_getElem (by omega)]
  rfl
theorem cellI_one (l : List Nat) : ∀ u ∈ l.map cellI, u.oneCell' = true := by
  intro u hu
  obtain ⟨x, _, rfl⟩ := List.mem_map.1 hu
  rfl
set_option maxHeartbeats 4000000 in
set_option maxRecDepth 100000 in
theorem shuf_calls (w : World) (n : Nat) (hn : n ≤ 10) (B : Option Addr) (m c : Nat) (hr : RdB w B m) :
    Calls Tryd.prog 17 #[.int .i64 n, .slice B m c] w fun e w' => ∃ v tl, e = .returned v ∧ OwnI w' w.heap.size v tl ∧ ShI n n [] tl ∧ Below w.heap.size w w' := by
  have HR := Sd.mk hr
  clear hr
  go_enter Tryd.func17, Tryd.ntmps17
  go_wp2
  go_loopw [5, 7] (fun v i wq => ∃ k : Nat, i = .int .i64 k ∧ k ≤ n ∧ Sd (OwnI wq w.heap.size v (List.range k)) ∧ Sd (Below w.heap.size w wq)) (fun _ i _ => n - (intOf i).toNat)
  case atStart => exact ⟨0, rfl, Nat.zero_le _, ⟨World.ownsRow_nil _ _ _ _⟩, ⟨Below.refl _ _⟩⟩
  case round =>
    obtain ⟨W1, hW1⟩ : ∃ W : World, W = wr := ⟨wr, rfl⟩
    subst hW1
    obtain ⟨k, rfl, hk, hO, hB⟩ := hrel
    by_cases hkn : k < n
    · go_wp2_with (at_builtin; refine app1 rfl _ _ 27 rfl 3 (.int .i64 0) 1 8 Tryd.underlying27 Tryd.info3 rfl (by decide) w.heap.size hB.out w.heap.size (Nat.le_refl _) hB.out.size _ (List.range k).length _ hO.out ?c1 ?c2 [.int .i64 (k : Int)] rfl rfl rfl ?c3 ?_)
      case c1 => simp; omega
      case c2 => simp; omega
      case c3 => intro u hu; simp at hu; subst hu; rfl
      intro v7 w7 ho7 hB7 hg7 ha7
      have HO7 : Sd (OwnI w7 w.heap.size v7 (List.range (k + 1))) := ⟨by unfold OwnI; simpa [List.range_succ] using ho7⟩
      have HB7 := Sd.mk hB7
      clear ho7 hB7 hg7 ha7
      go_wp2
      go_roundw
      case rel => exact ⟨k + 1, by go_num, by omega, HO7, HB7⟩
      case measure => simp [intOf]; omega
    · obtain rfl : k = n := by omega
      go_wp2_with fail
      go_loopw [5, 6, 8] (fun l o i wq => ∃ (L O : List Nat) (j : Nat), i = .int .i64 j ∧ j ≤ k ∧ Sd (OwnI wq w.heap.size l L) ∧ Sd (OwnI wq w.heap.size o O) ∧ Sd (∀ b, l.ownBlock = some b → o.ownBlock ≠ some b) ∧ Sd (ShI k j L O) ∧ Sd (Below w.heap.size w wq)) (fun _ _ i _ => k - (intOf i).toNat)
      case atStart => exact ⟨List.range k, [], 0, rfl, Nat.zero_le _, hO, ⟨World.ownsRow_nil _ _ _ _⟩, ⟨fun b _ h => by simp [Value.ownBlock] at h⟩, ⟨ShI.start k⟩, hB⟩
      case round =>
        obtain ⟨W2, hW2⟩ : ∃ W : World, W = wr := ⟨wr, rfl⟩
        subst hW2
        obtain ⟨L, O, j, rfl, hj, hL, hO2, hS, hI, hB2⟩ := hrel
        have hll := Sd.mk hI.out.ll
        have hlo := Sd.mk hI.out.lo
        have hl10 : L.length ≤ 10 := by have := hll.out; omega
        have ho10 : O.length ≤ 10 := by have := hlo.out; omega
        by_cases hjk : j < k
        · have hl0 : 0 < L.length := by have := hll.out; omega
          obtain ⟨g, cap, hv⟩ := own_pos hL.out hl0
          subst hv
          obtain ⟨A', c', he, hcap, hrd⟩ := hL.out.read
          cases he
          by_cases hjm : j < m
          · obtain ⟨ad, z, e1, e2, e3, e4⟩ := (HR.out.below hB2.out) j hjm
            subst e1
            obtain ⟨q, hq, hql⟩ : ∃ q : Nat, z % (L.length : Int) = (q : Int) ∧ q < L.length := ⟨(z % (L.length : Int)).toNat, by have := Int.emod_nonneg z (show (L.length : Int) ≠ 0 by omega); omega, by have := Int.emod_nonneg z (show (L.length : Int) ≠ 0 by omega); have := Int.emod_lt_of_pos z (show 0 < (L.length : Int) by omega); omega⟩
            have HQ := Sd.mk hq
            clear hq
            go_upto_region 12 with fail
            rw [HQ.out]
            clear e2 e3 e4
            obtain ⟨ad2, f1, f2⟩ := hrd q hql
            cases f1
            rw [show (⟨g, 0, none⟩ : Addr).add q = ⟨g, q, none⟩ by unfold Addr.add; split <;> simp_all] at f2
            obtain ⟨a, ha⟩ : ∃ a, a = L.getD q 0 := ⟨_, rfl⟩
            rw [← ha] at f2
            have HA := Sd.mk ha
            have HRD := Sd.mk hrd
            clear ha hrd
            go_wp2_with (at_builtin; refine app1 rfl _ _ 27 rfl 3 (.int .i64 0) 1 8 Tryd.underlying27 Tryd.info3 rfl (by decide) w.heap.size hB2.out w.heap.size (Nat.le_refl _) hB2.out.size _ O.length _ hO2.out ?c1 ?c2 [.int .i64 (a : Int)] rfl rfl rfl ?c3 ?_)
            case c1 => omega
            case c2 => omega
            case c3 => intro u hu; simp at hu; subst hu; rfl
            intro v7 w7 ho7 hB7 hg7 ha7
            have HO7 : Sd (OwnI w7 w.heap.size v7 (O ++ [a])) := ⟨by unfold OwnI; rw [List.length_append, List.length_singleton, List.map_append]; exact ho7⟩
            have hgb := (hL.out.lt g rfl).2
            have hgw := (hL.out.lt g rfl).1
            have hne : u6.ownBlock ≠ some g := hS.out g rfl
            have hgs := (hg7.block g hgb (fun e => hne e.symm))
            have HR7 : Sd (RdI w7 (some ⟨g, 0, none⟩) L) := ⟨HRD.out.of_block hgs⟩
            have h7s : g < w7.heap.size := Nat.lt_of_lt_of_le hgb hg7.size
            have h7b := hB7.size
            have HB7 := Sd.mk hB7
            have HI : Sd (ShI k (j + 1) (L.take q ++ L.drop (q + 1)) (O ++ [a])) := ⟨by rw [HA.out]; exact hI.out.step hql⟩
            obtain ⟨i0, hi, hz0, hz1, hz2⟩ := info_parts Tryd.info3
            have HM := Sd.mk (World.ownsRow_made (base := w7.heap.size) (e := 3) (size := 1) w7 #[] 0 (Nat.le_refl _) (Nat.zero_le _) rfl)
            have hqc : q ≤ cap := by omega
            have hqc1 : q + 1 ≤ cap := by omega
            have hi1 : (0 : Int) ≤ (q : Int) + 1 := by omega
            have hi2 : (q : Int) + 1 ≤ (L.length : Int) := by omega
            have hi3 : (q : Int) ≤ (q : Int) + 1 := by omega
            have hwr : IntKind.i64.wrap ((q : Int) + 1) = ((q + 1 : Nat) : Int) := by rw [IntKind.wrap_i64]; omega
            clear ho7 hg7 ha7 hgs hne hB7
            by_cases hcq : cap = q + 1
            · subst hcq
              go_wp2
              go_region_law (first | (refine step_append_any rfl (.tmp 43) (.tmp 46) 27 rfl w7.heap.size 3 i0 (.int .i64 0) 1 8 Tryd.underlying27 hi hz0 hz1 hz2 rfl (by decide) (.slice (some ⟨w7.heap.size, 0, none⟩) 0 0) 0 [] rfl HM.out ⟨g, 0, none⟩ q (q + 1) ((L.take q).map cellI) rfl (by simp; omega) (news_take (RdI.of_block HR7.out (heap_alloc_old _ _ h7s)) q) (cellI_one _) (by unfold maxLen; omega) (by omega) (by show w7.heap.size ≤ (w7.alloc _).heap.size; simp) ?_; intro v1 w1 ho1 hg1 ha1; have HO1 := Sd.mk ho1; have HG1 := Sd.mk hg1; have h1s : w7.heap.size + 1 ≤ w1.heap.size := Nat.le_trans (by show w7.heap.size + 1 ≤ (w7.alloc _).heap.size; simp) hg1.size; clear ho1 hg1 ha1) | (refine step_append_any rfl (.tmp 47) (.tmp 51) 27 rfl w7.heap.size 3 i0 (.int .i64 0) 1 8 Tryd.underlying27 hi hz0 hz1 hz2 rfl (by decide) v1 (0 + q) _ rfl HO1.out ⟨g, 0, none⟩ 0 _ ((L.drop (q + 1)).map cellI) rfl (by simp <;> omega) (fun j u hj => by rw [List.drop_of_length_le (by omega)] at hj; simp at hj) (cellI_one _) (by unfold maxLen; omega) (by omega) (by omega) ?_; intro v2 w2 ho2 hg2 ha2; have HO2 := Sd.mk ho2; have HG2 := Sd.mk hg2; clear ho2 hg2 ha2))
              all_goals
                have HOL : Sd (OwnI w2 w7.heap.size v2 (L.take q ++ L.drop (q + 1))) := ⟨by have h := HO2.out; rw [List.nil_append, ← List.map_append] at h; unfold OwnI; rw [List.length_append, List.length_take, List.length_drop, Nat.min_eq_left (Nat.le_of_lt hql), show q + (L.length - (q + 1)) = 0 + q + 0 by omega]; exact h⟩
                have hv1 : ∀ b, v1.ownBlock = some b → w7.heap.size ≤ b := fun b hb => (HO1.out.lt b hb).1
                have hb12 : Below w7.heap.size w7 w2 := Below.grown (Below.grown (below_drew ((Below.refl _ w7).alloc (Nat.le_refl _) (.cells #[] 3))) HG1.out (by show w7.heap.size ≤ (w7.alloc _).heap.size; simp) (fun b hb => by simp [Value.ownBlock] at hb; omega)) HG2.out (by omega) (fun b hb => hv1 b hb)
                have HB12 := Sd.mk hb12
                have HSn : Sd (∀ b, v2.ownBlock = some b → v7.ownBlock ≠ some b) := ⟨fun b hb h => by have h1 := (HOL.out.lt b hb).1; have h2 := (HO7.out.lt b h).2; omega⟩
                clear hb12 hv1
                go_wp2
                go_roundw
                case rel => exact ⟨_, _, j + 1, by go_num, by omega, ⟨HOL.out.mono (by omega)⟩, ⟨HO7.out.below HB12.out⟩, HSn, HI, ⟨below_then HB7.out h7b HB12.out⟩⟩
                case measure => simp [intOf]; omega
            · have hcq' : cap ≠ q + 1 := hcq
              go_wp2
              go_region_law (first | (refine step_append_any rfl (.tmp 43) (.tmp 46) 27 rfl w7.heap.size 3 i0 (.int .i64 0) 1 8 Tryd.underlying27 hi hz0 hz1 hz2 rfl (by decide) (.slice (some ⟨w7.heap.size, 0, none⟩) 0 0) 0 [] rfl HM.out ⟨g, 0, none⟩ q cap ((L.take q).map cellI) rfl (by simp; omega) (news_take (RdI.of_block HR7.out (heap_alloc_old _ _ h7s)) q) (cellI_one _) (by unfold maxLen; omega) (by omega) (by show w7.heap.size ≤ (w7.alloc _).heap.size; simp) ?_; intro v1 w1 ho1 hg1 ha1; have HO1 := Sd.mk ho1; have HG1 := Sd.mk hg1; have h1s : w7.heap.size + 1 ≤ w1.heap.size := Nat.le_trans (by show w7.heap.size + 1 ≤ (w7.alloc _).heap.size; simp) hg1.size; clear ho1 hg1 ha1) | (refine step_append_any rfl (.tmp 47) (.tmp 51) 27 rfl w7.heap.size 3 i0 (.int .i64 0) 1 8 Tryd.underlying27 hi hz0 hz1 hz2 rfl (by decide) v1 (0 + q) _ rfl HO1.out ⟨g, q + 1, none⟩ (L.length - (q + 1)) _ ((L.drop (q + 1)).map cellI) rfl (by simp <;> omega) (news_drop (RdI.of_block HR7.out ((HG1.out.block g (Nat.lt_of_lt_of_le h7s (by show w7.heap.size ≤ (w7.alloc _).heap.size; simp)) (by simp [Value.ownBlock]; omega)).trans (heap_alloc_old _ _ h7s))) (q + 1)) (cellI_one _) (by unfold maxLen; omega) (by omega) (by omega) ?_; intro v2 w2 ho2 hg2 ha2; have HO2 := Sd.mk ho2; have HG2 := Sd.mk hg2; clear ho2 hg2 ha2))
              all_goals
                have HOL : Sd (OwnI w2 w7.heap.size v2 (L.take q ++ L.drop (q + 1))) := ⟨by have h := HO2.out; rw [List.nil_append, ← List.map_append] at h; unfold OwnI; rw [List.length_append, List.length_take, List.length_drop, Nat.min_eq_left (Nat.le_of_lt hql), show q + (L.length - (q + 1)) = 0 + q + (L.length - (q + 1)) by omega]; exact h⟩
                have hv1 : ∀ b, v1.ownBlock = some b → w7.heap.size ≤ b := fun b hb => (HO1.out.lt b hb).1
                have hb12 : Below w7.heap.size w7 w2 := Below.grown (Below.grown (below_drew ((Below.refl _ w7).alloc (Nat.le_refl _) (.cells #[] 3))) HG1.out (by show w7.heap.size ≤ (w7.alloc _).heap.size; simp) (fun b hb => by simp [Value.ownBlock] at hb; omega)) HG2.out (by omega) (fun b hb => hv1 b hb)
                have HB12 := Sd.mk hb12
                have HSn : Sd (∀ b, v2.ownBlock = some b → v7.ownBlock ≠ some b) := ⟨fun b hb h => by have h1 := (HOL.out.lt b hb).1; have h2 := (HO7.out.lt b h).2; omega⟩
                clear hb12 hv1
                go_wp2
                go_roundw
                case rel => exact ⟨_, _, j + 1, by go_num, by omega, ⟨HOL.out.mono (by omega)⟩, ⟨HO7.out.below HB12.out⟩, HSn, HI, ⟨below_then HB7.out h7b HB12.out⟩⟩
                case measure => simp [intOf]; omega
          · obtain ⟨q, hq⟩ : ∃ q : Nat, q = 0 := ⟨0, rfl⟩
            have hql : q < L.length := by omega
            go_upto_region 12 with fail
            rw [show (Value.int .i64 0) = .int .i64 (q : Int) by rw [hq]; rfl]
            clear hq
            obtain ⟨ad2, f1, f2⟩ := hrd q hql
            cases f1
            rw [show (⟨g, 0, none⟩ : Addr).add q = ⟨g, q, none⟩ by unfold Addr.add; split <;> simp_all] at f2
            obtain ⟨a, ha⟩ : ∃ a, a = L.getD q 0 := ⟨_, rfl⟩
            rw [← ha] at f2
            have HA := Sd.mk ha
            have HRD := Sd.mk hrd
            clear ha hrd
            go_wp2_with (at_builtin; refine app1 rfl _ _ 27 rfl 3 (.int .i64 0) 1 8 Tryd.underlying27 Tryd.info3 rfl (by decide) w.heap.size hB2.out w.heap.size (Nat.le_refl _) hB2.out.size _ O.length _ hO2.out ?c1 ?c2 [.int .i64 (a : Int)] rfl rfl rfl ?c3 ?_)
            case c1 => omega
            case c2 => omega
            case c3 => intro u hu; simp at hu; subst hu; rfl
            intro v7 w7 ho7 hB7 hg7 ha7
            have HO7 : Sd (OwnI w7 w.heap.size v7 (O ++ [a])) := ⟨by unfold OwnI; rw [List.length_append, List.length_singleton, List.map_append]; exact ho7⟩
            have hgb := (hL.out.lt g rfl).2
            have hgw := (hL.out.lt g rfl).1
            have hne : u6.ownBlock ≠ some g := hS.out g rfl
            have hgs := (hg7.block g hgb (fun e => hne e.symm))
            have HR7 : Sd (RdI w7 (some ⟨g, 0, none⟩) L) := ⟨HRD.out.of_block hgs⟩
            have h7s : g < w7.heap.size := Nat.lt_of_lt_of_le hgb hg7.size
            have h7b := hB7.size
            have HB7 := Sd.mk hB7
            have HI : Sd (ShI k (j + 1) (L.take q ++ L.drop (q + 1)) (O ++ [a])) := ⟨by rw [HA.out]; exact hI.out.step hql⟩
            obtain ⟨i0, hi, hz0, hz1, hz2⟩ := info_parts Tryd.info3
            have HM := Sd.mk (World.ownsRow_made (base := w7.heap.size) (e := 3) (size := 1) w7 #[] 0 (Nat.le_refl _) (Nat.zero_le _) rfl)
            have hqc : q ≤ cap := by omega
            have hqc1 : q + 1 ≤ cap := by omega
            have hi1 : (0 : Int) ≤ (q : Int) + 1 := by omega
            have hi2 : (q : Int) + 1 ≤ (L.length : Int) := by omega
            have hi3 : (q : Int) ≤ (q : Int) + 1 := by omega
            have hwr : IntKind.i64.wrap ((q : Int) + 1) = ((q + 1 : Nat) : Int) := by rw [IntKind.wrap_i64]; omega
            clear ho7 hg7 ha7 hgs hne hB7
            by_cases hcq : cap = q + 1
            · subst hcq
              go_wp2
              go_region_law (first | (refine step_append_any rfl (.tmp 43) (.tmp 46) 27 rfl w7.heap.size 3 i0 (.int .i64 0) 1 8 Tryd.underlying27 hi hz0 hz1 hz2 rfl (by decide) (.slice (some ⟨w7.heap.size, 0, none⟩) 0 0) 0 [] rfl HM.out ⟨g, 0, none⟩ q (q + 1) ((L.take q).map cellI) rfl (by simp; omega) (news_take (RdI.of_block HR7.out (heap_alloc_old _ _ h7s)) q) (cellI_one _) (by unfold maxLen; omega) (by omega) (by show w7.heap.size ≤ (w7.alloc _).heap.size; simp) ?_; intro v1 w1 ho1 hg1 ha1; have HO1 := Sd.mk ho1; have HG1 := Sd.mk hg1; have h1s : w7.heap.size + 1 ≤ w1.heap.size := Nat.le_trans (by show w7.heap.size + 1 ≤ (w7.alloc _).heap.size; simp) hg1.size; clear ho1 hg1 ha1) | (refine step_append_any rfl (.tmp 47) (.tmp 51) 27 rfl w7.heap.size 3 i0 (.int .i64 0) 1 8 Tryd.underlying27 hi hz0 hz1 hz2 rfl (by decide) v1 (0 + q) _ rfl HO1.out ⟨g, 0, none⟩ 0 _ ((L.drop (q + 1)).map cellI) rfl (by simp <;> omega) (fun j u hj => by rw [List.drop_of_length_le (by omega)] at hj; simp at hj) (cellI_one _) (by unfold maxLen; omega) (by omega) (by omega) ?_; intro v2 w2 ho2 hg2 ha2; have HO2 := Sd.mk ho2; have HG2 := Sd.mk hg2; clear ho2 hg2 ha2))
              all_goals
                have HOL : Sd (OwnI w2 w7.heap.size v2 (L.take q ++ L.drop (q + 1))) := ⟨by have h := HO2.out; rw [List.nil_append, ← List.map_append] at h; unfold OwnI; rw [List.length_append, List.length_take, List.length_drop, Nat.min_eq_left (Nat.le_of_lt hql), show q + (L.length - (q + 1)) = 0 + q + 0 by omega]; exact h⟩
                have hv1 : ∀ b, v1.ownBlock = some b → w7.heap.size ≤ b := fun b hb => (HO1.out.lt b hb).1
                have hb12 : Below w7.heap.size w7 w2 := Below.grown (Below.grown (below_drew ((Below.refl _ w7).alloc (Nat.le_refl _) (.cells #[] 3))) HG1.out (by show w7.heap.size ≤ (w7.alloc _).heap.size; simp) (fun b hb => by simp [Value.ownBlock] at hb; omega)) HG2.out (by omega) (fun b hb => hv1 b hb)
                have HB12 := Sd.mk hb12
                have HSn : Sd (∀ b, v2.ownBlock = some b → v7.ownBlock ≠ some b) := ⟨fun b hb h => by have h1 := (HOL.out.lt b hb).1; have h2 := (HO7.out.lt b h).2; omega⟩
                clear hb12 hv1
                go_wp2
                go_roundw
                case rel => exact ⟨_, _, j + 1, by go_num, by omega, ⟨HOL.out.mono (by omega)⟩, ⟨HO7.out.below HB12.out⟩, HSn, HI, ⟨below_then HB7.out h7b HB12.out⟩⟩
                case measure => simp [intOf]; omega
            · have hcq' : cap ≠ q + 1 := hcq
              go_wp2
              go_region_law (first | (refine step_append_any rfl (.tmp 43) (.tmp 46) 27 rfl w7.heap.size 3 i0 (.int .i64 0) 1 8 Tryd.underlying27 hi hz0 hz1 hz2 rfl (by decide) (.slice (some ⟨w7.heap.size, 0, none⟩) 0 0) 0 [] rfl HM.out ⟨g, 0, none⟩ q cap ((L.take q).map cellI) rfl (by simp; omega) (news_take (RdI.of_block HR7.out (heap_alloc_old _ _ h7s)) q) (cellI_one _) (by unfold maxLen; omega) (by omega) (by show w7.heap.size ≤ (w7.alloc _).heap.size; simp) ?_; intro v1 w1 ho1 hg1 ha1; have HO1 := Sd.mk ho1; have HG1 := Sd.mk hg1; have h1s : w7.heap.size + 1 ≤ w1.heap.size := Nat.le_trans (by show w7.heap.size + 1 ≤ (w7.alloc _).heap.size; simp) hg1.size; clear ho1 hg1 ha1) | (refine step_append_any rfl (.tmp 47) (.tmp 51) 27 rfl w7.heap.size 3 i0 (.int .i64 0) 1 8 Tryd.underlying27 hi hz0 hz1 hz2 rfl (by decide) v1 (0 + q) _ rfl HO1.out ⟨g, q + 1, none⟩ (L.length - (q + 1)) _ ((L.drop (q + 1)).map cellI) rfl (by simp <;> omega) (news_drop (RdI.of_block HR7.out ((HG1.out.block g (Nat.lt_of_lt_of_le h7s (by show w7.heap.size ≤ (w7.alloc _).heap.size; simp)) (by simp [Value.ownBlock]; omega)).trans (heap_alloc_old _ _ h7s))) (q + 1)) (cellI_one _) (by unfold maxLen; omega) (by omega) (by omega) ?_; intro v2 w2 ho2 hg2 ha2; have HO2 := Sd.mk ho2; have HG2 := Sd.mk hg2; clear ho2 hg2 ha2))
              all_goals
                have HOL : Sd (OwnI w2 w7.heap.size v2 (L.take q ++ L.drop (q + 1))) := ⟨by have h := HO2.out; rw [List.nil_append, ← List.map_append] at h; unfold OwnI; rw [List.length_append, List.length_take, List.length_drop, Nat.min_eq_left (Nat.le_of_lt hql), show q + (L.length - (q + 1)) = 0 + q + (L.length - (q + 1)) by omega]; exact h⟩
                have hv1 : ∀ b, v1.ownBlock = some b → w7.heap.size ≤ b := fun b hb => (HO1.out.lt b hb).1
                have hb12 : Below w7.heap.size w7 w2 := Below.grown (Below.grown (below_drew ((Below.refl _ w7).alloc (Nat.le_refl _) (.cells #[] 3))) HG1.out (by show w7.heap.size ≤ (w7.alloc _).heap.size; simp) (fun b hb => by simp [Value.ownBlock] at hb; omega)) HG2.out (by omega) (fun b hb => hv1 b hb)
                have HB12 := Sd.mk hb12
                have HSn : Sd (∀ b, v2.ownBlock = some b → v7.ownBlock ≠ some b) := ⟨fun b hb h => by have h1 := (HOL.out.lt b hb).1; have h2 := (HO7.out.lt b h).2; omega⟩
                clear hb12 hv1
                go_wp2
                go_roundw
                case rel => exact ⟨_, _, j + 1, by go_num, by omega, ⟨HOL.out.mono (by omega)⟩, ⟨HO7.out.below HB12.out⟩, HSn, HI, ⟨below_then HB7.out h7b HB12.out⟩⟩
                case measure => simp [intOf]; omega
        · obtain rfl : j = k := by omega
          go_wp2_with fail
          go_ret
          have h0 : L = [] := List.eq_nil_of_length_eq_zero (by have := hll.out; omega)
          exact ⟨_, O, rfl, hO2.out, by rw [h0] at hI; exact hI.out, hB2.out⟩
end Go.Proofs.YtcbhaeniahckhaaDoor
end
