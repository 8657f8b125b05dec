/- SystemsRenumbered on two right systems, walked. Conditions: those that the theorem names. -/
import Derived.Test.YtcbhaeniahckhaaDoorNc
import Derived.Test.YtcbhaeniahckhaaDoorNd
import Derived.Test.YtcbhaeniahckhaaDoorNf
import Derived.Test.YtcbhaeniahckhaaDoorNb
set_option linter.unusedSimpArgs false
set_option linter.unusedVariables false
set_option linter.unusedSimpArgs false
set_option linter.unusedVariables false
namespace Go.Proofs.YtcbhaeniahckhaaDoor
open Go.RowKit Go.Shelf Go.Deep Go.Proofs.YtcbhaeniahckhaaDoorW.PrintLast
/-- what lies when SystemsRenumbered has its four systems -/
structure RAt (w wq : World) (x y q z : Rx) (A A' Aq Az : Option Addr) (c c' cq cz bq bz : Nat) : Prop where
  bx : wq.heap[w.heap.size]? = some (.cells #[.int .i64 x.N, .int .i64 x.start, .int .i64 x.inp, .int .i64 x.out, .slice A x.mvs.length c] 24 (0, 0))
  bY : wq.heap[w.heap.size + 1]? = some (.cells #[.int .i64 y.N, .int .i64 y.start, .int .i64 y.inp, .int .i64 y.out, .slice A' y.mvs.length c'] 24 (0, 0))
  bq : wq.heap[bq]? = some (.cells #[.int .i64 q.N, .int .i64 q.start, .int .i64 q.inp, .int .i64 q.out, .slice Aq q.mvs.length cq] 24 (0, 0))
  bz : wq.heap[bz]? = some (.cells #[.int .i64 z.N, .int .i64 z.start, .int .i64 z.inp, .int .i64 z.out, .slice Az z.mvs.length cz] 24 (0, 0))
  below : Below w.heap.size w wq
  rx : RdM wq A x.mvs
  ry : RdM wq A' y.mvs
  rq : RdM wq Aq q.mvs
  rz : RdM wq Az z.mvs
  tb : Tab wq
theorem RAt.later {w wq w' : World} {x y q z : Rx} {A A' Aq Az : Option Addr} {c c' cq cz bq bz : Nat} (h : RAt w wq x y q z A A' Aq Az c c' cq cz bq bz) (hB : Below wq.heap.size wq w') : RAt w w' x y q z A A' Aq Az c c' cq cz bq bz :=
  have k : ∀ {n : Nat} {o : Obj}, wq.heap[n]? = some o → w'.heap[n]? = some o := fun hn => (hB.block _ (Array.getElem?_eq_some_iff.1 hn).1).trans hn
  ⟨k h.bx, k h.bY, k h.bq, k h.bz, below_then h.below h.below.size hB, h.rx.below hB, h.ry.below hB, h.rq.below hB, h.rz.below hB, h.tb.below hB⟩
theorem RAt.drew {w wq : World} {x y q z : Rx} {A A' Aq Az : Option Addr} {c c' cq cz bq bz : Nat} (h : RAt w wq x y q z A A' Aq Az c c' cq cz bq bz) : RAt w wq.drew x y q z A A' Aq Az c c' cq cz bq bz := h.later (below_drew (Below.refl _ _))
/-- octets in a row of the call's own -/
def OwB (w : World) (base : Nat) (v : Value) (n : Nat) : Prop := ∃ xs : List Int, xs.length = n ∧ (∀ z ∈ xs, 0 ≤ z ∧ z < 256) ∧ w.ownsRow base 5 1 v n (xs.map (Value.int .u8))
theorem OwB.read {w : World} {base n : Nat} {v : Value} (h : OwB w base v n) : ∃ B c, v = .slice B n c ∧ RdB w B n := by
  obtain ⟨xs, h1, h2, h3⟩ := h
  rcases Nat.eq_zero_or_pos n with h0 | h0
  · obtain ⟨a, c, rfl⟩ := own_len h3
    exact ⟨a, c, rfl, fun i hi => by omega⟩
  · obtain ⟨g, c, rfl⟩ := own_pos h3 h0
    refine ⟨_, c, rfl, fun i hi => ⟨⟨g, 0, none⟩, xs.getD i 0, rfl, ?_, h2 _ (getD_mem' (by omega))⟩⟩
    have e : (⟨g, 0, none⟩ : Addr).add i = ⟨g, i, none⟩ := by unfold Addr.add; split <;> simp_all
    rw [e, h3.cellAt i (by omega), List.getElem?_map, List.getElem?_eq_getElem (by omega : i < xs.length), List.getD_eq_getElem?_getD, List.getElem?_eq_getElem (by omega : i < xs.length)]
    rfl
/-- what the first region of four systems leaves -/
structure Fin10 (W4 wx : World) (x y q : Rx) (Aq : Option Addr) (z : Rx) (Az : Option Addr) (bq bz : Nat) : Prop where
  below : Below W4.heap.size W4 wx
  hq : wx.heap[bq]? = some (.cells #[.int .i64 0, .int .i64 0, .int .i64 0, .int .i64 0, .slice none 0 0] 24 (0, 0))
  hz : wx.heap[bz]? = some (.cells #[.int .i64 0, .int .i64 0, .int .i64 0, .int .i64 0, .slice none 0 0] 24 (0, 0))
  ne : bq ≠ bz
  gq : W4.heap.size ≤ bq
  gz : W4.heap.size ≤ bz
  mq : ∃ tl, ShI x.N x.N [] tl ∧ Moved x tl q
  mz : ∃ tl, ShI y.N y.N [] tl ∧ Moved y tl z
  rq : RdM wx Aq q.mvs
  rz : RdM wx Az z.mvs
  tq : ∀ ad, Aq = some ad → ∃ cs, wx.heap[ad.block]? = some (.cells cs 94 (0, 0))
  tz : ∀ ad, Az = some ad → ∃ cs, wx.heap[ad.block]? = some (.cells cs 94 (0, 0))
/-- that region's facts as it goes -/
structure J10 (W4 wx : World) (x y : Rx) (oq oz : Option Nat) (ta tc : Option (Option Addr × List Nat)) (tb td : Option (Rx × Option Addr)) : Prop where
  below : Below W4.heap.size W4 wx
  q_ : ∀ b, oq = some b → W4.heap.size ≤ b ∧ wx.heap[b]? = some (.cells #[.int .i64 0, .int .i64 0, .int .i64 0, .int .i64 0, .slice none 0 0] 24 (0, 0))
  z_ : ∀ b, oz = some b → W4.heap.size ≤ b ∧ wx.heap[b]? = some (.cells #[.int .i64 0, .int .i64 0, .int .i64 0, .int .i64 0, .slice none 0 0] 24 (0, 0))
  ne : ∀ b b', oq = some b → oz = some b' → b ≠ b'
  a_ : ∀ B l, ta = some (B, l) → RdI wx B l
  c_ : ∀ B l, tc = some (B, l) → RdI wx B l
  b_ : ∀ r B, tb = some (r, B) → (∃ tl, ShI x.N x.N [] tl ∧ Moved x tl r) ∧ RdM wx B r.mvs ∧ ∀ ad, B = some ad → ∃ cs, wx.heap[ad.block]? = some (.cells cs 94 (0, 0))
  d_ : ∀ r B, td = some (r, B) → (∃ tl, ShI y.N y.N [] tl ∧ Moved y tl r) ∧ RdM wx B r.mvs ∧ ∀ ad, B = some ad → ∃ cs, wx.heap[ad.block]? = some (.cells cs 94 (0, 0))
namespace J10
variable {W4 wx w' : World} {x y : Rx} {oq oz : Option Nat} {ta tc : Option (Option Addr × List Nat)} {tb td : Option (Rx × Option Addr)}
theorem start (W4 : World) (x y : Rx) : J10 W4 W4 x y none none none none none none := ⟨Below.refl _ _, (fun _ h => by cases h), (fun _ h => by cases h), (fun _ _ h => by cases h), (fun _ _ h => by cases h), (fun _ _ h => by cases h), (fun _ _ h => by cases h), (fun _ _ h => by cases h)⟩
theorem later (h : J10 W4 wx x y oq oz ta tc tb td) (hB : Below wx.heap.size wx w') : J10 W4 w' x y oq oz ta tc tb td :=
  have k : ∀ {n : Nat} {o : Obj}, wx.heap[n]? = some o → w'.heap[n]? = some o := fun hn => (hB.block _ (Array.getElem?_eq_some_iff.1 hn).1).trans hn
  ⟨below_then h.below h.below.size hB, fun b e => ⟨(h.q_ b e).1, k (h.q_ b e).2⟩, fun b e => ⟨(h.z_ b e).1, k (h.z_ b e).2⟩, h.ne, fun B l e => (h.a_ B l e).below hB, fun B l e => (h.c_ B l e).below hB, fun r B e => ⟨(h.b_ r B e).1, (h.b_ r B e).2.1.below hB, fun ad ha => let ⟨cs, hc⟩ := (h.b_ r B e).2.2 ad ha; ⟨cs, k hc⟩⟩, fun r B e => ⟨(h.d_ r B e).1, (h.d_ r B e).2.1.below hB, fun ad ha => let ⟨cs, hc⟩ := (h.d_ r B e).2.2 ad ha; ⟨cs, k hc⟩⟩⟩
theorem q (h : J10 W4 wx x y none oz ta tc tb td) (X : Nat) (hX : X = wx.heap.size) : J10 W4 (wx.alloc (.cells #[.int .i64 0, .int .i64 0, .int .i64 0, .int .i64 0, .slice none 0 0] 24)) x y (some X) oz ta tc tb td := by
  have h1 := h.later (alloc_below wx (.cells #[.int .i64 0, .int .i64 0, .int .i64 0, .int .i64 0, .slice none 0 0] 24))
  refine ⟨h1.below, fun b e => ?_, h1.z_, fun b b' e e' => ?_, h1.a_, h1.c_, h1.b_, h1.d_⟩
  · cases e
    exact ⟨by rw [hX]; exact h.below.size, alloc_at _ _ _ hX⟩
  · cases e
    have := (Array.getElem?_eq_some_iff.1 (h.z_ b' e').2).1
    omega
theorem z (h : J10 W4 wx x y oq none ta tc tb td) (X : Nat) (hX : X = wx.heap.size) : J10 W4 (wx.alloc (.cells #[.int .i64 0, .int .i64 0, .int .i64 0, .int .i64 0, .slice none 0 0] 24)) x y oq (some X) ta tc tb td := by
  have h1 := h.later (alloc_below wx (.cells #[.int .i64 0, .int .i64 0, .int .i64 0, .int .i64 0, .slice none 0 0] 24))
  refine ⟨h1.below, h1.q_, fun b e => ?_, fun b b' e e' => ?_, h1.a_, h1.c_, h1.b_, h1.d_⟩
  · cases e
    exact ⟨by rw [hX]; exact h.below.size, alloc_at _ _ _ hX⟩
  · cases e'
    have := (Array.getElem?_eq_some_iff.1 (h.q_ b e).2).1
    omega
theorem a (h : J10 W4 wx x y oq oz none tc tb td) (B : Option Addr) (l : List Nat) (_ : ShI x.N x.N [] l) (hr : RdI wx B l) : J10 W4 wx x y oq oz (some (B, l)) tc tb td := ⟨h.below, h.q_, h.z_, h.ne, (fun B l e => by cases e; exact hr), h.c_, h.b_, h.d_⟩
theorem c (h : J10 W4 wx x y oq oz ta none tb td) (B : Option Addr) (l : List Nat) (_ : ShI y.N y.N [] l) (hr : RdI wx B l) : J10 W4 wx x y oq oz ta (some (B, l)) tb td := ⟨h.below, h.q_, h.z_, h.ne, h.a_, (fun B l e => by cases e; exact hr), h.b_, h.d_⟩
theorem ar (h : J10 W4 wx x y oq oz ta tc tb td) (B : Option Addr) (l : List Nat) (e : ta = some (B, l)) : RdI wx B l := h.a_ B l e
theorem cr (h : J10 W4 wx x y oq oz ta tc tb td) (B : Option Addr) (l : List Nat) (e : tc = some (B, l)) : RdI wx B l := h.c_ B l e
theorem b (h : J10 W4 wx x y oq oz ta tc none td) (r : Rx) (B : Option Addr) (l : List Nat) (hs : ShI x.N x.N [] l) (hm : Moved x l r) (hr : RdM wx B r.mvs) (ht : ∀ ad, B = some ad → ∃ cs, wx.heap[ad.block]? = some (.cells cs 94 (0, 0))) : J10 W4 wx x y oq oz ta tc (some (r, B)) td := ⟨h.below, h.q_, h.z_, h.ne, h.a_, h.c_, (fun r B e => by cases e; exact ⟨⟨l, hs, hm⟩, hr, ht⟩), h.d_⟩
theorem d (h : J10 W4 wx x y oq oz ta tc tb none) (r : Rx) (B : Option Addr) (l : List Nat) (hs : ShI y.N y.N [] l) (hm : Moved y l r) (hr : RdM wx B r.mvs) (ht : ∀ ad, B = some ad → ∃ cs, wx.heap[ad.block]? = some (.cells cs 94 (0, 0))) : J10 W4 wx x y oq oz ta tc tb (some (r, B)) := ⟨h.below, h.q_, h.z_, h.ne, h.a_, h.c_, h.b_, (fun r B e => by cases e; exact ⟨⟨l, hs, hm⟩, hr, ht⟩)⟩
theorem fin {bq bz : Nat} {q z : Rx} {Aq Az : Option Addr} (h : J10 W4 wx x y (some bq) (some bz) ta tc (some (q, Aq)) (some (z, Az))) : Fin10 W4 wx x y q Aq z Az bq bz :=
  ⟨h.below, (h.q_ _ rfl).2, (h.z_ _ rfl).2, h.ne _ _ rfl rfl, (h.q_ _ rfl).1, (h.z_ _ rfl).1, (h.b_ _ _ rfl).1, (h.d_ _ _ rfl).1, (h.b_ _ _ rfl).2.1, (h.d_ _ _ rfl).2.1, (h.b_ _ _ rfl).2.2, (h.d_ _ _ rfl).2.2⟩
end J10
theorem setN_ne (w : World) (b : Nat) (u0 u1 u2 u3 u4 : Value) (k : Nat) (h : k ≠ b) : (((((w.setCell ⟨b, 0, none⟩ u0).setCell ⟨b, 1, none⟩ u1).setCell ⟨b, 2, none⟩ u2).setCell ⟨b, 3, none⟩ u3).setCell ⟨b, 4, none⟩ u4).heap[k]? = w.heap[k]? := by
  rw [Below.heap_setCell _ _ _ _ h, Below.heap_setCell _ _ _ _ h, Below.heap_setCell _ _ _ _ h, Below.heap_setCell _ _ _ _ h, Below.heap_setCell _ _ _ _ h]
theorem setN_at (w : World) (b : Nat) (u0 u1 u2 u3 u4 : Value) (h : w.heap[b]? = some (.cells #[.int .i64 0, .int .i64 0, .int .i64 0, .int .i64 0, .slice none 0 0] 24 (0, 0))) : (((((w.setCell ⟨b, 0, none⟩ u0).setCell ⟨b, 1, none⟩ u1).setCell ⟨b, 2, none⟩ u2).setCell ⟨b, 3, none⟩ u3).setCell ⟨b, 4, none⟩ u4).heap[b]? = some (.cells #[u0, u1, u2, u3, u4] 24 (0, 0)) :=
  blk_set (blk_set (blk_set (blk_set (blk_set h 0 u0) 1 u1) 2 u2) 3 u3) 4 u4
theorem setN_below {B : Nat} {W w : World} (h : Below B W w) (b : Nat) (hb : B ≤ b) (u0 u1 u2 u3 u4 : Value) : Below B W (((((w.setCell ⟨b, 0, none⟩ u0).setCell ⟨b, 1, none⟩ u1).setCell ⟨b, 2, none⟩ u2).setCell ⟨b, 3, none⟩ u3).setCell ⟨b, 4, none⟩ u4) :=
  ((((h.setCell hb _).setCell hb _).setCell hb _).setCell hb _).setCell hb _
theorem typ_ne {w : World} {b k : Nat} {cs ds : Array Value} (h : w.heap[b]? = some (.cells cs 24 (0, 0))) (h' : w.heap[k]? = some (.cells ds 94 (0, 0))) : k ≠ b := fun e => by
  rw [e, h] at h'
  cases h'
theorem RdM.setN2 {w : World} {A : Option Addr} {xs : List Mv} (h : RdM w A xs) (ht : ∀ ad, A = some ad → ∃ cs, w.heap[ad.block]? = some (.cells cs 94 (0, 0))) {b b' : Nat} {cs cs' : Array Value} (hb : w.heap[b]? = some (.cells cs 24 (0, 0))) (hb' : w.heap[b']? = some (.cells cs' 24 (0, 0))) (u0 u1 u2 u3 u4 v0 v1 v2 v3 v4 : Value) :
    RdM ((((((((((w.setCell ⟨b, 0, none⟩ u0).setCell ⟨b, 1, none⟩ u1).setCell ⟨b, 2, none⟩ u2).setCell ⟨b, 3, none⟩ u3).setCell ⟨b, 4, none⟩ u4).setCell ⟨b', 0, none⟩ v0).setCell ⟨b', 1, none⟩ v1).setCell ⟨b', 2, none⟩ v2).setCell ⟨b', 3, none⟩ v3).setCell ⟨b', 4, none⟩ v4) A xs :=
  h.of_block fun ad ha => by
    obtain ⟨ds, hd⟩ := ht ad ha
    rw [setN_ne _ _ _ _ _ _ _ _ (typ_ne hb' hd), setN_ne _ _ _ _ _ _ _ _ (typ_ne hb hd)]
theorem rat_of {w W4 w4 : World} {x y q z : Rx} {A A' Aq Az : Option Addr} {c c' cq cz bq bz : Nat} (h : PAt w W4 x y A A' c c') (f : Fin10 W4 w4 x y q Aq z Az bq bz) : RAt w ((((((((((w4.setCell ⟨bq, 0, none⟩ (.int .i64 q.N)).setCell ⟨bq, 1, none⟩ (.int .i64 q.start)).setCell ⟨bq, 2, none⟩ (.int .i64 q.inp)).setCell ⟨bq, 3, none⟩ (.int .i64 q.out)).setCell ⟨bq, 4, none⟩ (.slice Aq q.mvs.length cq)).setCell ⟨bz, 0, none⟩ (.int .i64 z.N)).setCell ⟨bz, 1, none⟩ (.int .i64 z.start)).setCell ⟨bz, 2, none⟩ (.int .i64 z.inp)).setCell ⟨bz, 3, none⟩ (.int .i64 z.out)).setCell ⟨bz, 4, none⟩ (.slice Az z.mvs.length cz)) x y q z A A' Aq Az c c' cq cz bq bz := by
  have g1 := (Array.getElem?_eq_some_iff.1 h.bx).1
  have g2 := (Array.getElem?_eq_some_iff.1 h.bY).1
  have h1 := f.gq
  have h2 := f.gz
  have h0 := h.below.size
  have hB := setN_below (setN_below (below_then h.below h0 f.below) bq (by omega) (.int .i64 q.N) (.int .i64 q.start) (.int .i64 q.inp) (.int .i64 q.out) (.slice Aq q.mvs.length cq)) bz (by omega) (.int .i64 z.N) (.int .i64 z.start) (.int .i64 z.inp) (.int .i64 z.out) (.slice Az z.mvs.length cz)
  have hB4 := setN_below (setN_below f.below bq (by omega) (.int .i64 q.N) (.int .i64 q.start) (.int .i64 q.inp) (.int .i64 q.out) (.slice Aq q.mvs.length cq)) bz (by omega) (.int .i64 z.N) (.int .i64 z.start) (.int .i64 z.inp) (.int .i64 z.out) (.slice Az z.mvs.length cz)
  have k : ∀ {n : Nat} {o : Obj}, W4.heap[n]? = some o → n < W4.heap.size → _ := fun hn hl => (hB4.block _ hl).trans hn
  refine ⟨(hB4.block _ g1).trans h.bx, (hB4.block _ g2).trans h.bY, ?_, ?_, hB, h.rx.below hB4, h.ry.below hB4, ?_, ?_, h.tb.below hB4⟩
  · exact (setN_ne _ _ _ _ _ _ _ _ f.ne).trans (setN_at _ _ _ _ _ _ _ f.hq)
  · exact setN_at _ _ _ _ _ _ _ ((setN_ne _ _ _ _ _ _ _ _ f.ne.symm).trans f.hz)
  · exact f.rq.setN2 f.tq f.hq f.hz _ _ _ _ _ _ _ _ _ _
  · exact f.rz.setN2 f.tz f.hq f.hz _ _ _ _ _ _ _ _ _ _
theorem Tryd.info5 : (Tryd.prog.info? 5).map (fun i => (i.zero, i.size, i.bytes)) = some (some (.int .u8 0), 1, 1) := by kernel_rfl
/-- what is asked of a test's size -/
structure TOKT (T : List Nd) : Prop where
  pos : 0 < T.length
  le : T.length ≤ 400
  nl : ∀ i, i < T.length → (T.getD i ndD).nx.length ≤ 1000
theorem code_cases (n : Int) : (n != 0) = true ∨ n = 0 := by
  by_cases h : n = 0
  · exact .inr h
  · exact .inl (bne_iff_ne.2 h)
theorem OwB.nil (w : World) (base : Nat) : OwB w base (.slice none 0 0) 0 := ⟨[], rfl, fun z hz => by simp at hz, World.ownsRow_nil _ _ _ _⟩
set_option maxHeartbeats 16000000 in
set_option maxRecDepth 100000 in
theorem renum_good (w : World) (hT : Tab w) (x y : Rx) (hx : x.ok) (hy : y.ok) (hio : x.inp = y.inp ∧ x.out = y.out) (A A' : Option Addr) (c c' : Nat) (hr : RdM w A x.mvs) (hr' : RdM w A' y.mvs) (Bo : Option Addr) (mo co : Nat) (hmo : mo ≤ maxLen) (hbo : RdB w Bo mo) :
    Calls Tryd.prog 4 #[.agg #[.int .i64 x.N, .int .i64 x.start, .int .i64 x.inp, .int .i64 x.out, .slice A x.mvs.length c], .agg #[.int .i64 y.N, .int .i64 y.start, .int .i64 y.inp, .int .i64 y.out, .slice A' y.mvs.length c'], .slice Bo mo co] w fun e w' => e = .returned (.bool true) ∧ Below w.heap.size w w' := by
  unfold maxLen at hmo
  have HIO := Sd.mk hio
  have hN := hx.hN
  have hN' := hy.hN
  have hi4 := hx.hi
  have ho4 := hx.ho
  have HBO := Sd.mk hbo
  have P0 : Sd (PAt w ((w.alloc (.cells #[.int .i64 x.N, .int .i64 x.start, .int .i64 x.inp, .int .i64 x.out, .slice A x.mvs.length c] 24)).alloc (.cells #[.int .i64 y.N, .int .i64 y.start, .int .i64 y.inp, .int .i64 y.out, .slice A' y.mvs.length c'] 24)) x y A A' c c') := ⟨by
    have hB : Below w.heap.size w ((w.alloc (.cells #[.int .i64 x.N, .int .i64 x.start, .int .i64 x.inp, .int .i64 x.out, .slice A x.mvs.length c] 24)).alloc (.cells #[.int .i64 y.N, .int .i64 y.start, .int .i64 y.inp, .int .i64 y.out, .slice A' y.mvs.length c'] 24)) := (alloc_below _ _).alloc (by simp) _
    exact ⟨(heap_alloc_old _ _ (by simp)).trans (heap_alloc_new w _), alloc_at _ _ (w.heap.size + 1) (by simp), hB, hr.below hB, hr'.below hB, hT.below hB⟩⟩
  clear hr hr' hT hio hbo
  go_enter Tryd.func4, Tryd.ntmps4
  go_upto_region 3 with (first | (go_at_call 5; refine (awake_calls _ P0.out.tb).mono ?_; rintro e w1 ⟨rfl, hB1⟩; have P1 := Sd.mk (P0.out.later hB1); clear hB1) | fail)
  obtain ⟨x0, x1, x2, x3, x4, y0, y1, y2, y3, y4⟩ := (two_boxes (w := w) P1.out.bx P1.out.bY P1.out.below).2.2.2
  go_upto_region 5 with (first | (go_at_call 6; refine (two_good _ x y A A' c c' P1.out.rx P1.out.ry).mono ?_; rintro e w2 ⟨code, rfl, hB2⟩; have P2 := Sd.mk (P1.out.later hB2); clear hB2; rcases code_cases code with hc | rfl) | fail)
  · clear x0 x1 x2 x3 x4 y0 y1 y2 y3 y4
    go_wp2
    go_ret
    exact ⟨rfl, P2.out.below⟩
  clear x0 x1 x2 x3 x4 y0 y1 y2 y3 y4
  go_upto_block 0 with fail
  go_cut [7] (fun s7 wx => ∃ n : Nat, n ≤ 10 ∧ Sd (OwB wx w2.heap.size s7 n) ∧ Sd (Below w2.heap.size w2 wx))
  case first =>
    go_wp2_with fail
    go_loopw [7, 8] (fun v i wq => ∃ (n : Nat) (z : Int), i = .int .i64 z ∧ -1 ≤ z ∧ z < mo ∧ n ≤ 10 ∧ Sd (OwB wq w2.heap.size v n) ∧ Sd (Below w2.heap.size w2 wq)) (fun _ i _ => (intOf i + 1).toNat)
    case atStart => exact ⟨0, _, rfl, by omega, by omega, by omega, ⟨OwB.nil _ _⟩, ⟨Below.refl _ _⟩⟩
    case round =>
      obtain ⟨W1, hW1⟩ : ∃ W : World, W = wr := ⟨wr, rfl⟩
      subst hW1
      obtain ⟨n, z, rfl, hz1, hz2, hn, hO, hB⟩ := hrel
      obtain ⟨va, vc, hv, hrd⟩ := hO.out.read
      by_cases hgo : 0 ≤ z ∧ n < 10
      · obtain ⟨hz, hn10⟩ := hgo
        obtain ⟨k, rfl⟩ : ∃ k : Nat, z = k := ⟨z.toNat, by omega⟩
        obtain ⟨ad, zz, e1, e2, e3, e4⟩ := (HBO.out.below (below_then P2.out.below P2.out.below.size hB.out)) k (by omega)
        subst e1
        subst hv
        obtain ⟨xs, o1, o2, o3⟩ := hO.out
        have O1 := Sd.mk o1
        have O2 := Sd.mk o2
        have O3 := Sd.mk o3
        clear hrd o1 o2 o3
        go_wp2_with (at_builtin; refine app1 rfl _ _ 43 rfl 5 (.int .u8 0) 1 1 Tryd.underlying43 Tryd.info5 rfl (by decide) w2.heap.size hB.out w2.heap.size (Nat.le_refl _) hB.out.size _ n _ O3.out ?c1 ?c2 [.int .u8 zz] rfl rfl rfl ?c3 ?_)
        case c1 => omega
        case c2 => omega
        case c3 => intro u hu; simp at hu; subst hu; rfl
        intro v' w3 ho3 hB3 hg3 hat3
        have HO3 : Sd (OwB w3 w2.heap.size v' (n + 1)) := ⟨xs ++ [zz], by simp [O1.out], fun z hz => by rcases List.mem_append.1 hz with h | h; exact O2.out z h; rw [List.mem_singleton] at h; subst h; exact ⟨e3, e4⟩, by rw [List.map_append]; exact ho3⟩
        have HB3 := Sd.mk hB3
        clear ho3 hB3 hg3 hat3
        go_wp2_with fail
        go_roundw
        case rel => exact ⟨n + 1, (k : Int) - 1, by go_num, by omega, by omega, by omega, HO3, HB3⟩
        case measure => simp [intOf] <;> omega
      · by_cases hz : 0 ≤ z
        · have hn10 : n = 10 := by omega
          subst hn10
          subst hv
          go_wp2_with fail
          go_meet
          exact ⟨10, by omega, hO, hB⟩
        · have hz0 : z = -1 := by omega
          subst hz0
          subst hv
          go_wp2_with fail
          go_meet
          exact ⟨n, hn, hO, hB⟩
  case rest =>
  obtain ⟨W3, hW3⟩ : ∃ W : World, W = wc := ⟨wc, rfl⟩
  subst hW3
  obtain ⟨n, hn, hO, hB3⟩ := hcut
  obtain ⟨Bk, ck, rfl, hbk⟩ := hO.out.read
  have HBK := Sd.mk hbk
  have P3 := Sd.mk (P2.out.later hB3.out)
  clear hbk hO hB3
  go_upto_region 10 with fail
  go_cut [9, 10] (fun s9 s10 wx => ∃ (q z : Rx) (tl ul : List Nat) (Aq Az : Option Addr) (cq cz bq bz : Nat), s9 = .pointer (some ⟨bq, 0, none⟩) ∧ s10 = .pointer (some ⟨bz, 0, none⟩) ∧ Sd (Ren2 x y q z tl ul) ∧ Sd (RAt w wx x y q z A A' Aq Az c c' cq cz bq bz))
  case first =>
    have P4 : Sd (PAt w W3.drew x y A A' c c') := ⟨P3.out.drew⟩
    have HBO4 : Sd (RdB W3.drew Bo mo) := ⟨HBO.out.below P3.out.drew.below⟩
    have HBK4 : Sd (RdB W3.drew Bk n) := ⟨HBK.out⟩
    refine start_ (n := 16) (S := fun wx => wx.heap[w.heap.size]? = some (.cells #[.int .i64 x.N, .int .i64 x.start, .int .i64 x.inp, .int .i64 x.out, .slice A x.mvs.length c] 24 (0, 0)) ∧ wx.heap[w.heap.size + 1]? = some (.cells #[.int .i64 y.N, .int .i64 y.start, .int .i64 y.inp, .int .i64 y.out, .slice A' y.mvs.length c'] 24 (0, 0))) (ds := [14, 15]) #[false, false, false, false, false, false, false, false, false, false, false, false, false, false, false, false] (by kernel_rfl) rfl rfl ⟨P3.out.bx, P3.out.bY⟩ (fun hHeld => ?_)
    generalize W3.drew = W4 at P4 HBO4 HBK4 hHeld ⊢
    have hS : ∀ wx, Below W4.heap.size W4 wx → wx.heap[w.heap.size]? = some (.cells #[.int .i64 x.N, .int .i64 x.start, .int .i64 x.inp, .int .i64 x.out, .slice A x.mvs.length c] 24 (0, 0)) ∧ wx.heap[w.heap.size + 1]? = some (.cells #[.int .i64 y.N, .int .i64 y.start, .int .i64 y.inp, .int .i64 y.out, .slice A' y.mvs.length c'] 24 (0, 0)) := fun wx hB => ⟨(hB.block _ (Array.getElem?_eq_some_iff.1 P4.out.bx).1).trans P4.out.bx, (hB.block _ (Array.getElem?_eq_some_iff.1 P4.out.bY).1).trans P4.out.bY⟩
    refine take_ (i := 0) (N := some 52) (v := ?_) (a' := ?_) #[true, false, false, false, false, false, false, false, false, false, false, false, false, false, false, false] rfl rfl (by kernel_rfl) (fun _ _ _ h => h) (Or.inl ⟨by rfl, ?_⟩) hHeld ?_ ?_
    rotate_left
    · rintro w' ⟨s0, s1⟩
      have a0 := cell_blk s0 0
      have a1 := cell_blk s0 1
      have a2 := cell_blk s0 2
      have a3 := cell_blk s0 3
      have a4 := cell_blk s0 4
      have b0 := cell_blk s1 0
      have b1 := cell_blk s1 1
      have b2 := cell_blk s1 2
      have b3 := cell_blk s1 3
      have b4 := cell_blk s1 4
      go_simp
      with_reducible rfl
    rotate_left
    · simp only [Act.put, List.setIfInBounds_toArray, List.set_cons_zero, List.set_cons_succ]
      rfl
    refine pure_ (i := 1) (N := some 53) (v := ?_) (a' := ?_) #[true, true, false, false, false, false, false, false, false, false, false, false, false, false, false, false] rfl rfl (by kernel_rfl) (fun _ _ _ h => h) (Or.inl ⟨by rfl, ?_⟩) ?_ ?_
    rotate_left
    · intro w'
      go_simp
      with_reducible rfl
    rotate_left
    · simp only [Act.put, List.setIfInBounds_toArray, List.set_cons_zero, List.set_cons_succ]
      rfl
    refine take_ (i := 2) (N := some 54) (v := ?_) (a' := ?_) #[true, true, true, false, false, false, false, false, false, false, false, false, false, false, false, false] rfl rfl (by kernel_rfl) (fun _ _ _ h => h) (Or.inl ⟨by rfl, ?_⟩) hHeld ?_ ?_
    rotate_left
    · rintro w' ⟨s0, s1⟩
      have a0 := cell_blk s0 0
      have a1 := cell_blk s0 1
      have a2 := cell_blk s0 2
      have a3 := cell_blk s0 3
      have a4 := cell_blk s0 4
      have b0 := cell_blk s1 0
      have b1 := cell_blk s1 1
      have b2 := cell_blk s1 2
      have b3 := cell_blk s1 3
      have b4 := cell_blk s1 4
      go_simp
      with_reducible rfl
    rotate_left
    · simp only [Act.put, List.setIfInBounds_toArray, List.set_cons_zero, List.set_cons_succ]
      rfl
    refine pure_ (i := 3) (N := some 55) (v := ?_) (a' := ?_) #[true, true, true, true, false, false, false, false, false, false, false, false, false, false, false, false] rfl rfl (by kernel_rfl) (fun _ _ _ h => h) (Or.inl ⟨by rfl, ?_⟩) ?_ ?_
    rotate_left
    · intro w'
      go_simp
      with_reducible rfl
    rotate_left
    · simp only [Act.put, List.setIfInBounds_toArray, List.set_cons_zero, List.set_cons_succ]
      rfl
    refine take_ (i := 6) (N := some 58) (v := ?_) (a' := ?_) #[true, true, true, true, false, false, true, false, false, false, false, false, false, false, false, false] rfl rfl (by kernel_rfl) (fun _ _ _ h => h) (Or.inl ⟨by rfl, ?_⟩) hHeld ?_ ?_
    rotate_left
    · rintro w' ⟨s0, s1⟩
      have a0 := cell_blk s0 0
      have a1 := cell_blk s0 1
      have a2 := cell_blk s0 2
      have a3 := cell_blk s0 3
      have a4 := cell_blk s0 4
      have b0 := cell_blk s1 0
      have b1 := cell_blk s1 1
      have b2 := cell_blk s1 2
      have b3 := cell_blk s1 3
      have b4 := cell_blk s1 4
      go_simp
      with_reducible rfl
    rotate_left
    · simp only [Act.put, List.setIfInBounds_toArray, List.set_cons_zero, List.set_cons_succ]
      rfl
    refine pure_ (i := 7) (N := some 59) (v := ?_) (a' := ?_) #[true, true, true, true, false, false, true, true, false, false, false, false, false, false, false, false] rfl rfl (by kernel_rfl) (fun _ _ _ h => h) (Or.inl ⟨by rfl, ?_⟩) ?_ ?_
    rotate_left
    · intro w'
      go_simp
      with_reducible rfl
    rotate_left
    · simp only [Act.put, List.setIfInBounds_toArray, List.set_cons_zero, List.set_cons_succ]
      rfl
    refine take_ (i := 8) (N := some 60) (v := ?_) (a' := ?_) #[true, true, true, true, false, false, true, true, true, false, false, false, false, false, false, false] rfl rfl (by kernel_rfl) (fun _ _ _ h => h) (Or.inl ⟨by rfl, ?_⟩) hHeld ?_ ?_
    rotate_left
    · rintro w' ⟨s0, s1⟩
      have a0 := cell_blk s0 0
      have a1 := cell_blk s0 1
      have a2 := cell_blk s0 2
      have a3 := cell_blk s0 3
      have a4 := cell_blk s0 4
      have b0 := cell_blk s1 0
      have b1 := cell_blk s1 1
      have b2 := cell_blk s1 2
      have b3 := cell_blk s1 3
      have b4 := cell_blk s1 4
      go_simp
      with_reducible rfl
    rotate_left
    · simp only [Act.put, List.setIfInBounds_toArray, List.set_cons_zero, List.set_cons_succ]
      rfl
    refine pure_ (i := 9) (N := some 61) (v := ?_) (a' := ?_) #[true, true, true, true, false, false, true, true, true, true, false, false, false, false, false, false] rfl rfl (by kernel_rfl) (fun _ _ _ h => h) (Or.inl ⟨by rfl, ?_⟩) ?_ ?_
    rotate_left
    · intro w'
      go_simp
      with_reducible rfl
    rotate_left
    · simp only [Act.put, List.setIfInBounds_toArray, List.set_cons_zero, List.set_cons_succ]
      rfl
    refine join_ (σ := Value × Value × Rx × Option Addr × Nat × Rx × Option Addr × Nat × Nat × Nat) 2 #[true, true, true, true, true, true, true, true, true, true, true, true, true, true, false, false] (fun s => [(56, s.1), (57, (.agg #[.int .i64 s.2.2.1.N, .int .i64 s.2.2.1.start, .int .i64 s.2.2.1.inp, .int .i64 s.2.2.1.out, .slice s.2.2.2.1 s.2.2.1.mvs.length s.2.2.2.2.1])), (62, s.2.1), (63, (.agg #[.int .i64 s.2.2.2.2.2.1.N, .int .i64 s.2.2.2.2.2.1.start, .int .i64 s.2.2.2.2.2.1.inp, .int .i64 s.2.2.2.2.2.1.out, .slice s.2.2.2.2.2.2.1 s.2.2.2.2.2.1.mvs.length s.2.2.2.2.2.2.2.1])), (9, .pointer (some ⟨s.2.2.2.2.2.2.2.2.1, 0, none⟩)), (10, .pointer (some ⟨s.2.2.2.2.2.2.2.2.2, 0, none⟩))]) (fun s w' => Fin10 W4 w' x y s.2.2.1 s.2.2.2.1 s.2.2.2.2.2.1 s.2.2.2.2.2.2.1 s.2.2.2.2.2.2.2.2.1 s.2.2.2.2.2.2.2.2.2) ?_ ?_
    rotate_left
    · intro hcont
      simp only [putAll, Act.put, List.setIfInBounds_toArray, List.set_cons_zero, List.set_cons_succ] at hcont
      have hj0 := J10.start W4 x y
      refine three_ (i := 4) (j := 12) (k := 13) (Ni := some 56) (Nj := some 9) (Nk := some 10) #[true, true, true, true, true, false, true, true, true, true, false, false, false, false, false, false] #[true, true, true, true, false, false, true, true, true, true, false, false, true, false, false, false] #[true, true, true, true, false, false, true, true, true, true, false, false, false, true, false, false] rfl rfl rfl rfl rfl rfl (by kernel_rfl) (by decide) (by decide) (by decide) (fun K hK => ?_) (fun K hK => ?_) (fun K hK => ?_)
      · refine goes_ Tryd.func17 (by kernel_rfl) rfl #[.int .i64 x.N, .slice Bo mo co] (by rfl) rfl rfl (by simp [Act.eval]) ?_
        refine (shuf_calls _ x.N hN Bo mo co (HBO4.out.below hj0.below)).mono ?_
        rintro e u0 ⟨va, la, he, ho, hsa, hB⟩
        obtain ⟨Aa, ca, hv, _, hra⟩ := ho.read
        subst hv
        have hj1 := (hj0.later hB).a Aa la hsa hra
        clear ho hB
        refine ⟨_, he, hK.out _ _ (hS _ hj1.below) (fun _ => ?_)⟩
        clear he
        clear hK K
        refine norm_ (a' := ?_) ?_ ?_
        rotate_left
        · simp only [Act.put, List.setIfInBounds_toArray, List.set_cons_zero, List.set_cons_succ]
          rfl
        refine three_ (i := 5) (j := 12) (k := 13) (Ni := some 57) (Nj := some 9) (Nk := some 10) #[true, true, true, true, true, true, true, true, true, true, false, false, false, false, false, false] #[true, true, true, true, true, false, true, true, true, true, false, false, true, false, false, false] #[true, true, true, true, true, false, true, true, true, true, false, false, false, true, false, false] rfl rfl rfl rfl rfl rfl (by kernel_rfl) (by decide) (by decide) (by decide) (fun K hK => ?_) (fun K hK => ?_) (fun K hK => ?_)
        · refine goes_ Tryd.func16 (by kernel_rfl) rfl #[(.agg #[.int .i64 x.N, .int .i64 x.start, .int .i64 x.inp, .int .i64 x.out, .slice A x.mvs.length c]), .slice Aa la.length ca] (by rfl) rfl rfl (by simp [Act.eval]) ?_
          refine (moved_calls _ x hx A c (P4.out.rx.below hj1.below) la hsa Aa ca (hj1.ar _ _ rfl)).mono ?_
          rintro e u1 ⟨q, Aq, cq, he, hmq, hrq, htq, hB⟩
          unfold rxV at he
          have hj2 := (hj1.later hB).b q Aq la hsa hmq hrq (fun ad ha => htq ad ha)
          clear hB
          refine ⟨_, he, hK.out _ _ (hS _ hj2.below) (fun _ => ?_)⟩
          clear he
          clear hK K
          refine norm_ (a' := ?_) ?_ ?_
          rotate_left
          · simp only [Act.put, List.setIfInBounds_toArray, List.set_cons_zero, List.set_cons_succ]
            rfl
          refine three_ (i := 10) (j := 12) (k := 13) (Ni := some 62) (Nj := some 9) (Nk := some 10) #[true, true, true, true, true, true, true, true, true, true, true, false, false, false, false, false] #[true, true, true, true, true, true, true, true, true, true, false, false, true, false, false, false] #[true, true, true, true, true, true, true, true, true, true, false, false, false, true, false, false] rfl rfl rfl rfl rfl rfl (by kernel_rfl) (by decide) (by decide) (by decide) (fun K hK => ?_) (fun K hK => ?_) (fun K hK => ?_)
          · refine goes_ Tryd.func17 (by kernel_rfl) rfl #[.int .i64 y.N, .slice Bk n ck] (by rfl) rfl rfl (by simp [Act.eval]) ?_
            refine (shuf_calls _ y.N hN' Bk n ck (HBK4.out.below hj2.below)).mono ?_
            rintro e u2 ⟨vc, lc, he, ho, hsc, hB⟩
            obtain ⟨Ac, cc, hv, _, hrc⟩ := ho.read
            subst hv
            have hj3 := (hj2.later hB).c Ac lc hsc hrc
            clear ho hB
            refine ⟨_, he, hK.out _ _ (hS _ hj3.below) (fun _ => ?_)⟩
            clear he
            clear hK K
            refine norm_ (a' := ?_) ?_ ?_
            rotate_left
            · simp only [Act.put, List.setIfInBounds_toArray, List.set_cons_zero, List.set_cons_succ]
              rfl
            refine three_ (i := 11) (j := 12) (k := 13) (Ni := some 63) (Nj := some 9) (Nk := some 10) #[true, true, true, true, true, true, true, true, true, true, true, true, false, false, false, false] #[true, true, true, true, true, true, true, true, true, true, true, false, true, false, false, false] #[true, true, true, true, true, true, true, true, true, true, true, false, false, true, false, false] rfl rfl rfl rfl rfl rfl (by kernel_rfl) (by decide) (by decide) (by decide) (fun K hK => ?_) (fun K hK => ?_) (fun K hK => ?_)
            · refine goes_ Tryd.func16 (by kernel_rfl) rfl #[(.agg #[.int .i64 y.N, .int .i64 y.start, .int .i64 y.inp, .int .i64 y.out, .slice A' y.mvs.length c']), .slice Ac lc.length cc] (by rfl) rfl rfl (by simp [Act.eval]) ?_
              refine (moved_calls _ y hy A' c' (P4.out.ry.below hj3.below) lc hsc Ac cc (hj3.cr _ _ rfl)).mono ?_
              rintro e u3 ⟨z, Az, cz, he, hmz, hrz, htz, hB⟩
              unfold rxV at he
              have hj4 := (hj3.later hB).d z Az lc hsc hmz hrz (fun ad ha => htz ad ha)
              clear hB
              refine ⟨_, he, hK.out _ _ (hS _ hj4.below) (fun _ => ?_)⟩
              clear he
              clear hK K
              refine norm_ (a' := ?_) ?_ ?_
              rotate_left
              · simp only [Act.put, List.setIfInBounds_toArray, List.set_cons_zero, List.set_cons_succ]
                rfl
              refine two_ (i := 12) (j := 13) (Ni := some 9) (Nj := some 10) #[true, true, true, true, true, true, true, true, true, true, true, true, true, false, false, false] #[true, true, true, true, true, true, true, true, true, true, true, true, false, true, false, false] rfl rfl rfl rfl (by kernel_rfl) (by decide) (by decide) (fun K hK => ?_) (fun K hK => ?_)
              · refine value_ (v := .pointer (some ⟨u3.heap.size, 0, none⟩)) (w1 := (u3.alloc (.cells #[.int .i64 0, .int .i64 0, .int .i64 0, .int .i64 0, .slice none 0 0] 24))) (by rfl) rfl (by go_simp) ?_
                have hj5 := hj4.q (u3.heap.size) (by simp)
                refine hK.out _ _ (hS _ hj5.below) (fun _ => ?_)
                clear hK K
                refine norm_ (a' := ?_) ?_ ?_
                rotate_left
                · simp only [Act.put, List.setIfInBounds_toArray, List.set_cons_zero, List.set_cons_succ]
                  rfl
                refine one_ (i := 13) (N := some 10) #[true, true, true, true, true, true, true, true, true, true, true, true, true, true, false, false] rfl rfl (by kernel_rfl) (by decide) (fun K hK => ?_)
                · refine value_ (v := .pointer (some ⟨u3.heap.size + 1, 0, none⟩)) (w1 := ((u3.alloc (.cells #[.int .i64 0, .int .i64 0, .int .i64 0, .int .i64 0, .slice none 0 0] 24)).alloc (.cells #[.int .i64 0, .int .i64 0, .int .i64 0, .int .i64 0, .slice none 0 0] 24))) (by rfl) rfl (by go_simp) ?_
                  have hj6 := hj5.z (u3.heap.size + 1) (by simp)
                  refine hK.out _ _ (hS _ hj6.below) (fun _ => ?_)
                  clear hK K
                  refine norm_ (a' := ?_) ?_ ?_
                  rotate_left
                  · simp only [Act.put, List.setIfInBounds_toArray, List.set_cons_zero, List.set_cons_succ]
                    rfl
                  exact hcont ((.slice Aa la.length ca), (.slice Ac lc.length cc), q, Aq, cq, z, Az, cz, u3.heap.size, (u3.heap.size + 1)) _ hj6.fin
              · refine value_ (v := .pointer (some ⟨u3.heap.size, 0, none⟩)) (w1 := (u3.alloc (.cells #[.int .i64 0, .int .i64 0, .int .i64 0, .int .i64 0, .slice none 0 0] 24))) (by rfl) rfl (by go_simp) ?_
                have hj5 := hj4.z (u3.heap.size) (by simp)
                refine hK.out _ _ (hS _ hj5.below) (fun _ => ?_)
                clear hK K
                refine norm_ (a' := ?_) ?_ ?_
                rotate_left
                · simp only [Act.put, List.setIfInBounds_toArray, List.set_cons_zero, List.set_cons_succ]
                  rfl
                refine one_ (i := 12) (N := some 9) #[true, true, true, true, true, true, true, true, true, true, true, true, true, true, false, false] rfl rfl (by kernel_rfl) (by decide) (fun K hK => ?_)
                · refine value_ (v := .pointer (some ⟨u3.heap.size + 1, 0, none⟩)) (w1 := ((u3.alloc (.cells #[.int .i64 0, .int .i64 0, .int .i64 0, .int .i64 0, .slice none 0 0] 24)).alloc (.cells #[.int .i64 0, .int .i64 0, .int .i64 0, .int .i64 0, .slice none 0 0] 24))) (by rfl) rfl (by go_simp) ?_
                  have hj6 := hj5.q (u3.heap.size + 1) (by simp)
                  refine hK.out _ _ (hS _ hj6.below) (fun _ => ?_)
                  clear hK K
                  refine norm_ (a' := ?_) ?_ ?_
                  rotate_left
                  · simp only [Act.put, List.setIfInBounds_toArray, List.set_cons_zero, List.set_cons_succ]
                    rfl
                  exact hcont ((.slice Aa la.length ca), (.slice Ac lc.length cc), q, Aq, cq, z, Az, cz, (u3.heap.size + 1), u3.heap.size) _ hj6.fin
            · refine value_ (v := .pointer (some ⟨u2.heap.size, 0, none⟩)) (w1 := (u2.alloc (.cells #[.int .i64 0, .int .i64 0, .int .i64 0, .int .i64 0, .slice none 0 0] 24))) (by rfl) rfl (by go_simp) ?_
              have hj4 := hj3.q (u2.heap.size) (by simp)
              refine hK.out _ _ (hS _ hj4.below) (fun _ => ?_)
              clear hK K
              refine norm_ (a' := ?_) ?_ ?_
              rotate_left
              · simp only [Act.put, List.setIfInBounds_toArray, List.set_cons_zero, List.set_cons_succ]
                rfl
              refine two_ (i := 11) (j := 13) (Ni := some 63) (Nj := some 10) #[true, true, true, true, true, true, true, true, true, true, true, true, true, false, false, false] #[true, true, true, true, true, true, true, true, true, true, true, false, true, true, false, false] rfl rfl rfl rfl (by kernel_rfl) (by decide) (by decide) (fun K hK => ?_) (fun K hK => ?_)
              · refine goes_ Tryd.func16 (by kernel_rfl) rfl #[(.agg #[.int .i64 y.N, .int .i64 y.start, .int .i64 y.inp, .int .i64 y.out, .slice A' y.mvs.length c']), .slice Ac lc.length cc] (by rfl) rfl rfl (by simp [Act.eval]) ?_
                refine (moved_calls _ y hy A' c' (P4.out.ry.below hj4.below) lc hsc Ac cc (hj4.cr _ _ rfl)).mono ?_
                rintro e u4 ⟨z, Az, cz, he, hmz, hrz, htz, hB⟩
                unfold rxV at he
                have hj5 := (hj4.later hB).d z Az lc hsc hmz hrz (fun ad ha => htz ad ha)
                clear hB
                refine ⟨_, he, hK.out _ _ (hS _ hj5.below) (fun _ => ?_)⟩
                clear he
                clear hK K
                refine norm_ (a' := ?_) ?_ ?_
                rotate_left
                · simp only [Act.put, List.setIfInBounds_toArray, List.set_cons_zero, List.set_cons_succ]
                  rfl
                refine one_ (i := 13) (N := some 10) #[true, true, true, true, true, true, true, true, true, true, true, true, true, true, false, false] rfl rfl (by kernel_rfl) (by decide) (fun K hK => ?_)
                · refine value_ (v := .pointer (some ⟨u4.heap.size, 0, none⟩)) (w1 := (u4.alloc (.cells #[.int .i64 0, .int .i64 0, .int .i64 0, .int .i64 0, .slice none 0 0] 24))) (by rfl) rfl (by go_simp) ?_
                  have hj6 := hj5.z (u4.heap.size) (by simp)
                  refine hK.out _ _ (hS _ hj6.below) (fun _ => ?_)
                  clear hK K
                  refine norm_ (a' := ?_) ?_ ?_
                  rotate_left
                  · simp only [Act.put, List.setIfInBounds_toArray, List.set_cons_zero, List.set_cons_succ]
                    rfl
                  exact hcont ((.slice Aa la.length ca), (.slice Ac lc.length cc), q, Aq, cq, z, Az, cz, u2.heap.size, u4.heap.size) _ hj6.fin
              · refine value_ (v := .pointer (some ⟨u2.heap.size + 1, 0, none⟩)) (w1 := ((u2.alloc (.cells #[.int .i64 0, .int .i64 0, .int .i64 0, .int .i64 0, .slice none 0 0] 24)).alloc (.cells #[.int .i64 0, .int .i64 0, .int .i64 0, .int .i64 0, .slice none 0 0] 24))) (by rfl) rfl (by go_simp) ?_
                have hj5 := hj4.z (u2.heap.size + 1) (by simp)
                refine hK.out _ _ (hS _ hj5.below) (fun _ => ?_)
                clear hK K
                refine norm_ (a' := ?_) ?_ ?_
                rotate_left
                · simp only [Act.put, List.setIfInBounds_toArray, List.set_cons_zero, List.set_cons_succ]
                  rfl
                refine one_ (i := 11) (N := some 63) #[true, true, true, true, true, true, true, true, true, true, true, true, true, true, false, false] rfl rfl (by kernel_rfl) (by decide) (fun K hK => ?_)
                · refine goes_ Tryd.func16 (by kernel_rfl) rfl #[(.agg #[.int .i64 y.N, .int .i64 y.start, .int .i64 y.inp, .int .i64 y.out, .slice A' y.mvs.length c']), .slice Ac lc.length cc] (by rfl) rfl rfl (by simp [Act.eval]) ?_
                  refine (moved_calls _ y hy A' c' (P4.out.ry.below hj5.below) lc hsc Ac cc (hj5.cr _ _ rfl)).mono ?_
                  rintro e u5 ⟨z, Az, cz, he, hmz, hrz, htz, hB⟩
                  unfold rxV at he
                  have hj6 := (hj5.later hB).d z Az lc hsc hmz hrz (fun ad ha => htz ad ha)
                  clear hB
                  refine ⟨_, he, hK.out _ _ (hS _ hj6.below) (fun _ => ?_)⟩
                  clear he
                  clear hK K
                  refine norm_ (a' := ?_) ?_ ?_
                  rotate_left
                  · simp only [Act.put, List.setIfInBounds_toArray, List.set_cons_zero, List.set_cons_succ]
                    rfl
                  exact hcont ((.slice Aa la.length ca), (.slice Ac lc.length cc), q, Aq, cq, z, Az, cz, u2.heap.size, (u2.heap.size + 1)) _ hj6.fin
            · refine value_ (v := .pointer (some ⟨u2.heap.size, 0, none⟩)) (w1 := (u2.alloc (.cells #[.int .i64 0, .int .i64 0, .int .i64 0, .int .i64 0, .slice none 0 0] 24))) (by rfl) rfl (by go_simp) ?_
              have hj4 := hj3.z (u2.heap.size) (by simp)
              refine hK.out _ _ (hS _ hj4.below) (fun _ => ?_)
              clear hK K
              refine norm_ (a' := ?_) ?_ ?_
              rotate_left
              · simp only [Act.put, List.setIfInBounds_toArray, List.set_cons_zero, List.set_cons_succ]
                rfl
              refine two_ (i := 11) (j := 12) (Ni := some 63) (Nj := some 9) #[true, true, true, true, true, true, true, true, true, true, true, true, false, true, false, false] #[true, true, true, true, true, true, true, true, true, true, true, false, true, true, false, false] rfl rfl rfl rfl (by kernel_rfl) (by decide) (by decide) (fun K hK => ?_) (fun K hK => ?_)
              · refine goes_ Tryd.func16 (by kernel_rfl) rfl #[(.agg #[.int .i64 y.N, .int .i64 y.start, .int .i64 y.inp, .int .i64 y.out, .slice A' y.mvs.length c']), .slice Ac lc.length cc] (by rfl) rfl rfl (by simp [Act.eval]) ?_
                refine (moved_calls _ y hy A' c' (P4.out.ry.below hj4.below) lc hsc Ac cc (hj4.cr _ _ rfl)).mono ?_
                rintro e u4 ⟨z, Az, cz, he, hmz, hrz, htz, hB⟩
                unfold rxV at he
                have hj5 := (hj4.later hB).d z Az lc hsc hmz hrz (fun ad ha => htz ad ha)
                clear hB
                refine ⟨_, he, hK.out _ _ (hS _ hj5.below) (fun _ => ?_)⟩
                clear he
                clear hK K
                refine norm_ (a' := ?_) ?_ ?_
                rotate_left
                · simp only [Act.put, List.setIfInBounds_toArray, List.set_cons_zero, List.set_cons_succ]
                  rfl
                refine one_ (i := 12) (N := some 9) #[true, true, true, true, true, true, true, true, true, true, true, true, true, true, false, false] rfl rfl (by kernel_rfl) (by decide) (fun K hK => ?_)
                · refine value_ (v := .pointer (some ⟨u4.heap.size, 0, none⟩)) (w1 := (u4.alloc (.cells #[.int .i64 0, .int .i64 0, .int .i64 0, .int .i64 0, .slice none 0 0] 24))) (by rfl) rfl (by go_simp) ?_
                  have hj6 := hj5.q (u4.heap.size) (by simp)
                  refine hK.out _ _ (hS _ hj6.below) (fun _ => ?_)
                  clear hK K
                  refine norm_ (a' := ?_) ?_ ?_
                  rotate_left
                  · simp only [Act.put, List.setIfInBounds_toArray, List.set_cons_zero, List.set_cons_succ]
                    rfl
                  exact hcont ((.slice Aa la.length ca), (.slice Ac lc.length cc), q, Aq, cq, z, Az, cz, u4.heap.size, u2.heap.size) _ hj6.fin
              · refine value_ (v := .pointer (some ⟨u2.heap.size + 1, 0, none⟩)) (w1 := ((u2.alloc (.cells #[.int .i64 0, .int .i64 0, .int .i64 0, .int .i64 0, .slice none 0 0] 24)).alloc (.cells #[.int .i64 0, .int .i64 0, .int .i64 0, .int .i64 0, .slice none 0 0] 24))) (by rfl) rfl (by go_simp) ?_
                have hj5 := hj4.q (u2.heap.size + 1) (by simp)
                refine hK.out _ _ (hS _ hj5.below) (fun _ => ?_)
                clear hK K
                refine norm_ (a' := ?_) ?_ ?_
                rotate_left
                · simp only [Act.put, List.setIfInBounds_toArray, List.set_cons_zero, List.set_cons_succ]
                  rfl
                refine one_ (i := 11) (N := some 63) #[true, true, true, true, true, true, true, true, true, true, true, true, true, true, false, false] rfl rfl (by kernel_rfl) (by decide) (fun K hK => ?_)
                · refine goes_ Tryd.func16 (by kernel_rfl) rfl #[(.agg #[.int .i64 y.N, .int .i64 y.start, .int .i64 y.inp, .int .i64 y.out, .slice A' y.mvs.length c']), .slice Ac lc.length cc] (by rfl) rfl rfl (by simp [Act.eval]) ?_
                  refine (moved_calls _ y hy A' c' (P4.out.ry.below hj5.below) lc hsc Ac cc (hj5.cr _ _ rfl)).mono ?_
                  rintro e u5 ⟨z, Az, cz, he, hmz, hrz, htz, hB⟩
                  unfold rxV at he
                  have hj6 := (hj5.later hB).d z Az lc hsc hmz hrz (fun ad ha => htz ad ha)
                  clear hB
                  refine ⟨_, he, hK.out _ _ (hS _ hj6.below) (fun _ => ?_)⟩
                  clear he
                  clear hK K
                  refine norm_ (a' := ?_) ?_ ?_
                  rotate_left
                  · simp only [Act.put, List.setIfInBounds_toArray, List.set_cons_zero, List.set_cons_succ]
                    rfl
                  exact hcont ((.slice Aa la.length ca), (.slice Ac lc.length cc), q, Aq, cq, z, Az, cz, (u2.heap.size + 1), u2.heap.size) _ hj6.fin
          · refine value_ (v := .pointer (some ⟨u1.heap.size, 0, none⟩)) (w1 := (u1.alloc (.cells #[.int .i64 0, .int .i64 0, .int .i64 0, .int .i64 0, .slice none 0 0] 24))) (by rfl) rfl (by go_simp) ?_
            have hj3 := hj2.q (u1.heap.size) (by simp)
            refine hK.out _ _ (hS _ hj3.below) (fun _ => ?_)
            clear hK K
            refine norm_ (a' := ?_) ?_ ?_
            rotate_left
            · simp only [Act.put, List.setIfInBounds_toArray, List.set_cons_zero, List.set_cons_succ]
              rfl
            refine two_ (i := 10) (j := 13) (Ni := some 62) (Nj := some 10) #[true, true, true, true, true, true, true, true, true, true, true, false, true, false, false, false] #[true, true, true, true, true, true, true, true, true, true, false, false, true, true, false, false] rfl rfl rfl rfl (by kernel_rfl) (by decide) (by decide) (fun K hK => ?_) (fun K hK => ?_)
            · refine goes_ Tryd.func17 (by kernel_rfl) rfl #[.int .i64 y.N, .slice Bk n ck] (by rfl) rfl rfl (by simp [Act.eval]) ?_
              refine (shuf_calls _ y.N hN' Bk n ck (HBK4.out.below hj3.below)).mono ?_
              rintro e u3 ⟨vc, lc, he, ho, hsc, hB⟩
              obtain ⟨Ac, cc, hv, _, hrc⟩ := ho.read
              subst hv
              have hj4 := (hj3.later hB).c Ac lc hsc hrc
              clear ho hB
              refine ⟨_, he, hK.out _ _ (hS _ hj4.below) (fun _ => ?_)⟩
              clear he
              clear hK K
              refine norm_ (a' := ?_) ?_ ?_
              rotate_left
              · simp only [Act.put, List.setIfInBounds_toArray, List.set_cons_zero, List.set_cons_succ]
                rfl
              refine two_ (i := 11) (j := 13) (Ni := some 63) (Nj := some 10) #[true, true, true, true, true, true, true, true, true, true, true, true, true, false, false, false] #[true, true, true, true, true, true, true, true, true, true, true, false, true, true, false, false] rfl rfl rfl rfl (by kernel_rfl) (by decide) (by decide) (fun K hK => ?_) (fun K hK => ?_)
              · refine goes_ Tryd.func16 (by kernel_rfl) rfl #[(.agg #[.int .i64 y.N, .int .i64 y.start, .int .i64 y.inp, .int .i64 y.out, .slice A' y.mvs.length c']), .slice Ac lc.length cc] (by rfl) rfl rfl (by simp [Act.eval]) ?_
                refine (moved_calls _ y hy A' c' (P4.out.ry.below hj4.below) lc hsc Ac cc (hj4.cr _ _ rfl)).mono ?_
                rintro e u4 ⟨z, Az, cz, he, hmz, hrz, htz, hB⟩
                unfold rxV at he
                have hj5 := (hj4.later hB).d z Az lc hsc hmz hrz (fun ad ha => htz ad ha)
                clear hB
                refine ⟨_, he, hK.out _ _ (hS _ hj5.below) (fun _ => ?_)⟩
                clear he
                clear hK K
                refine norm_ (a' := ?_) ?_ ?_
                rotate_left
                · simp only [Act.put, List.setIfInBounds_toArray, List.set_cons_zero, List.set_cons_succ]
                  rfl
                refine one_ (i := 13) (N := some 10) #[true, true, true, true, true, true, true, true, true, true, true, true, true, true, false, false] rfl rfl (by kernel_rfl) (by decide) (fun K hK => ?_)
                · refine value_ (v := .pointer (some ⟨u4.heap.size, 0, none⟩)) (w1 := (u4.alloc (.cells #[.int .i64 0, .int .i64 0, .int .i64 0, .int .i64 0, .slice none 0 0] 24))) (by rfl) rfl (by go_simp) ?_
                  have hj6 := hj5.z (u4.heap.size) (by simp)
                  refine hK.out _ _ (hS _ hj6.below) (fun _ => ?_)
                  clear hK K
                  refine norm_ (a' := ?_) ?_ ?_
                  rotate_left
                  · simp only [Act.put, List.setIfInBounds_toArray, List.set_cons_zero, List.set_cons_succ]
                    rfl
                  exact hcont ((.slice Aa la.length ca), (.slice Ac lc.length cc), q, Aq, cq, z, Az, cz, u1.heap.size, u4.heap.size) _ hj6.fin
              · refine value_ (v := .pointer (some ⟨u3.heap.size, 0, none⟩)) (w1 := (u3.alloc (.cells #[.int .i64 0, .int .i64 0, .int .i64 0, .int .i64 0, .slice none 0 0] 24))) (by rfl) rfl (by go_simp) ?_
                have hj5 := hj4.z (u3.heap.size) (by simp)
                refine hK.out _ _ (hS _ hj5.below) (fun _ => ?_)
                clear hK K
                refine norm_ (a' := ?_) ?_ ?_
                rotate_left
                · simp only [Act.put, List.setIfInBounds_toArray, List.set_cons_zero, List.set_cons_succ]
                  rfl
                refine one_ (i := 11) (N := some 63) #[true, true, true, true, true, true, true, true, true, true, true, true, true, true, false, false] rfl rfl (by kernel_rfl) (by decide) (fun K hK => ?_)
                · refine goes_ Tryd.func16 (by kernel_rfl) rfl #[(.agg #[.int .i64 y.N, .int .i64 y.start, .int .i64 y.inp, .int .i64 y.out, .slice A' y.mvs.length c']), .slice Ac lc.length cc] (by rfl) rfl rfl (by simp [Act.eval]) ?_
                  refine (moved_calls _ y hy A' c' (P4.out.ry.below hj5.below) lc hsc Ac cc (hj5.cr _ _ rfl)).mono ?_
                  rintro e u5 ⟨z, Az, cz, he, hmz, hrz, htz, hB⟩
                  unfold rxV at he
                  have hj6 := (hj5.later hB).d z Az lc hsc hmz hrz (fun ad ha => htz ad ha)
                  clear hB
                  refine ⟨_, he, hK.out _ _ (hS _ hj6.below) (fun _ => ?_)⟩
                  clear he
                  clear hK K
                  refine norm_ (a' := ?_) ?_ ?_
                  rotate_left
                  · simp only [Act.put, List.setIfInBounds_toArray, List.set_cons_zero, List.set_cons_succ]
                    rfl
                  exact hcont ((.slice Aa la.length ca), (.slice Ac lc.length cc), q, Aq, cq, z, Az, cz, u1.heap.size, u3.heap.size) _ hj6.fin
            · refine value_ (v := .pointer (some ⟨u1.heap.size + 1, 0, none⟩)) (w1 := ((u1.alloc (.cells #[.int .i64 0, .int .i64 0, .int .i64 0, .int .i64 0, .slice none 0 0] 24)).alloc (.cells #[.int .i64 0, .int .i64 0, .int .i64 0, .int .i64 0, .slice none 0 0] 24))) (by rfl) rfl (by go_simp) ?_
              have hj4 := hj3.z (u1.heap.size + 1) (by simp)
              refine hK.out _ _ (hS _ hj4.below) (fun _ => ?_)
              clear hK K
              refine norm_ (a' := ?_) ?_ ?_
              rotate_left
              · simp only [Act.put, List.setIfInBounds_toArray, List.set_cons_zero, List.set_cons_succ]
                rfl
              refine one_ (i := 10) (N := some 62) #[true, true, true, true, true, true, true, true, true, true, true, false, true, true, false, false] rfl rfl (by kernel_rfl) (by decide) (fun K hK => ?_)
              · refine goes_ Tryd.func17 (by kernel_rfl) rfl #[.int .i64 y.N, .slice Bk n ck] (by rfl) rfl rfl (by simp [Act.eval]) ?_
                refine (shuf_calls _ y.N hN' Bk n ck (HBK4.out.below hj4.below)).mono ?_
                rintro e u4 ⟨vc, lc, he, ho, hsc, hB⟩
                obtain ⟨Ac, cc, hv, _, hrc⟩ := ho.read
                subst hv
                have hj5 := (hj4.later hB).c Ac lc hsc hrc
                clear ho hB
                refine ⟨_, he, hK.out _ _ (hS _ hj5.below) (fun _ => ?_)⟩
                clear he
                clear hK K
                refine norm_ (a' := ?_) ?_ ?_
                rotate_left
                · simp only [Act.put, List.setIfInBounds_toArray, List.set_cons_zero, List.set_cons_succ]
                  rfl
                refine one_ (i := 11) (N := some 63) #[true, true, true, true, true, true, true, true, true, true, true, true, true, true, false, false] rfl rfl (by kernel_rfl) (by decide) (fun K hK => ?_)
                · refine goes_ Tryd.func16 (by kernel_rfl) rfl #[(.agg #[.int .i64 y.N, .int .i64 y.start, .int .i64 y.inp, .int .i64 y.out, .slice A' y.mvs.length c']), .slice Ac lc.length cc] (by rfl) rfl rfl (by simp [Act.eval]) ?_
                  refine (moved_calls _ y hy A' c' (P4.out.ry.below hj5.below) lc hsc Ac cc (hj5.cr _ _ rfl)).mono ?_
                  rintro e u5 ⟨z, Az, cz, he, hmz, hrz, htz, hB⟩
                  unfold rxV at he
                  have hj6 := (hj5.later hB).d z Az lc hsc hmz hrz (fun ad ha => htz ad ha)
                  clear hB
                  refine ⟨_, he, hK.out _ _ (hS _ hj6.below) (fun _ => ?_)⟩
                  clear he
                  clear hK K
                  refine norm_ (a' := ?_) ?_ ?_
                  rotate_left
                  · simp only [Act.put, List.setIfInBounds_toArray, List.set_cons_zero, List.set_cons_succ]
                    rfl
                  exact hcont ((.slice Aa la.length ca), (.slice Ac lc.length cc), q, Aq, cq, z, Az, cz, u1.heap.size, (u1.heap.size + 1)) _ hj6.fin
          · refine value_ (v := .pointer (some ⟨u1.heap.size, 0, none⟩)) (w1 := (u1.alloc (.cells #[.int .i64 0, .int .i64 0, .int .i64 0, .int .i64 0, .slice none 0 0] 24))) (by rfl) rfl (by go_simp) ?_
            have hj3 := hj2.z (u1.heap.size) (by simp)
            refine hK.out _ _ (hS _ hj3.below) (fun _ => ?_)
            clear hK K
            refine norm_ (a' := ?_) ?_ ?_
            rotate_left
            · simp only [Act.put, List.setIfInBounds_toArray, List.set_cons_zero, List.set_cons_succ]
              rfl
            refine two_ (i := 10) (j := 12) (Ni := some 62) (Nj := some 9) #[true, true, true, true, true, true, true, true, true, true, true, false, false, true, false, false] #[true, true, true, true, true, true, true, true, true, true, false, false, true, true, false, false] rfl rfl rfl rfl (by kernel_rfl) (by decide) (by decide) (fun K hK => ?_) (fun K hK => ?_)
            · refine goes_ Tryd.func17 (by kernel_rfl) rfl #[.int .i64 y.N, .slice Bk n ck] (by rfl) rfl rfl (by simp [Act.eval]) ?_
              refine (shuf_calls _ y.N hN' Bk n ck (HBK4.out.below hj3.below)).mono ?_
              rintro e u3 ⟨vc, lc, he, ho, hsc, hB⟩
              obtain ⟨Ac, cc, hv, _, hrc⟩ := ho.read
              subst hv
              have hj4 := (hj3.later hB).c Ac lc hsc hrc
              clear ho hB
              refine ⟨_, he, hK.out _ _ (hS _ hj4.below) (fun _ => ?_)⟩
              clear he
              clear hK K
              refine norm_ (a' := ?_) ?_ ?_
              rotate_left
              · simp only [Act.put, List.setIfInBounds_toArray, List.set_cons_zero, List.set_cons_succ]
                rfl
              refine two_ (i := 11) (j := 12) (Ni := some 63) (Nj := some 9) #[true, true, true, true, true, true, true, true, true, true, true, true, false, true, false, false] #[true, true, true, true, true, true, true, true, true, true, true, false, true, true, false, false] rfl rfl rfl rfl (by kernel_rfl) (by decide) (by decide) (fun K hK => ?_) (fun K hK => ?_)
              · refine goes_ Tryd.func16 (by kernel_rfl) rfl #[(.agg #[.int .i64 y.N, .int .i64 y.start, .int .i64 y.inp, .int .i64 y.out, .slice A' y.mvs.length c']), .slice Ac lc.length cc] (by rfl) rfl rfl (by simp [Act.eval]) ?_
                refine (moved_calls _ y hy A' c' (P4.out.ry.below hj4.below) lc hsc Ac cc (hj4.cr _ _ rfl)).mono ?_
                rintro e u4 ⟨z, Az, cz, he, hmz, hrz, htz, hB⟩
                unfold rxV at he
                have hj5 := (hj4.later hB).d z Az lc hsc hmz hrz (fun ad ha => htz ad ha)
                clear hB
                refine ⟨_, he, hK.out _ _ (hS _ hj5.below) (fun _ => ?_)⟩
                clear he
                clear hK K
                refine norm_ (a' := ?_) ?_ ?_
                rotate_left
                · simp only [Act.put, List.setIfInBounds_toArray, List.set_cons_zero, List.set_cons_succ]
                  rfl
                refine one_ (i := 12) (N := some 9) #[true, true, true, true, true, true, true, true, true, true, true, true, true, true, false, false] rfl rfl (by kernel_rfl) (by decide) (fun K hK => ?_)
                · refine value_ (v := .pointer (some ⟨u4.heap.size, 0, none⟩)) (w1 := (u4.alloc (.cells #[.int .i64 0, .int .i64 0, .int .i64 0, .int .i64 0, .slice none 0 0] 24))) (by rfl) rfl (by go_simp) ?_
                  have hj6 := hj5.q (u4.heap.size) (by simp)
                  refine hK.out _ _ (hS _ hj6.below) (fun _ => ?_)
                  clear hK K
                  refine norm_ (a' := ?_) ?_ ?_
                  rotate_left
                  · simp only [Act.put, List.setIfInBounds_toArray, List.set_cons_zero, List.set_cons_succ]
                    rfl
                  exact hcont ((.slice Aa la.length ca), (.slice Ac lc.length cc), q, Aq, cq, z, Az, cz, u4.heap.size, u1.heap.size) _ hj6.fin
              · refine value_ (v := .pointer (some ⟨u3.heap.size, 0, none⟩)) (w1 := (u3.alloc (.cells #[.int .i64 0, .int .i64 0, .int .i64 0, .int .i64 0, .slice none 0 0] 24))) (by rfl) rfl (by go_simp) ?_
                have hj5 := hj4.q (u3.heap.size) (by simp)
                refine hK.out _ _ (hS _ hj5.below) (fun _ => ?_)
                clear hK K
                refine norm_ (a' := ?_) ?_ ?_
                rotate_left
                · simp only [Act.put, List.setIfInBounds_toArray, List.set_cons_zero, List.set_cons_succ]
                  rfl
                refine one_ (i := 11) (N := some 63) #[true, true, true, true, true, true, true, true, true, true, true, true, true, true, false, false] rfl rfl (by kernel_rfl) (by decide) (fun K hK => ?_)
                · refine goes_ Tryd.func16 (by kernel_rfl) rfl #[(.agg #[.int .i64 y.N, .int .i64 y.start, .int .i64 y.inp, .int .i64 y.out, .slice A' y.mvs.length c']), .slice Ac lc.length cc] (by rfl) rfl rfl (by simp [Act.eval]) ?_
                  refine (moved_calls _ y hy A' c' (P4.out.ry.below hj5.below) lc hsc Ac cc (hj5.cr _ _ rfl)).mono ?_
                  rintro e u5 ⟨z, Az, cz, he, hmz, hrz, htz, hB⟩
                  unfold rxV at he
                  have hj6 := (hj5.later hB).d z Az lc hsc hmz hrz (fun ad ha => htz ad ha)
                  clear hB
                  refine ⟨_, he, hK.out _ _ (hS _ hj6.below) (fun _ => ?_)⟩
                  clear he
                  clear hK K
                  refine norm_ (a' := ?_) ?_ ?_
                  rotate_left
                  · simp only [Act.put, List.setIfInBounds_toArray, List.set_cons_zero, List.set_cons_succ]
                    rfl
                  exact hcont ((.slice Aa la.length ca), (.slice Ac lc.length cc), q, Aq, cq, z, Az, cz, u3.heap.size, u1.heap.size) _ hj6.fin
            · refine value_ (v := .pointer (some ⟨u1.heap.size + 1, 0, none⟩)) (w1 := ((u1.alloc (.cells #[.int .i64 0, .int .i64 0, .int .i64 0, .int .i64 0, .slice none 0 0] 24)).alloc (.cells #[.int .i64 0, .int .i64 0, .int .i64 0, .int .i64 0, .slice none 0 0] 24))) (by rfl) rfl (by go_simp) ?_
              have hj4 := hj3.q (u1.heap.size + 1) (by simp)
              refine hK.out _ _ (hS _ hj4.below) (fun _ => ?_)
              clear hK K
              refine norm_ (a' := ?_) ?_ ?_
              rotate_left
              · simp only [Act.put, List.setIfInBounds_toArray, List.set_cons_zero, List.set_cons_succ]
                rfl
              refine one_ (i := 10) (N := some 62) #[true, true, true, true, true, true, true, true, true, true, true, false, true, true, false, false] rfl rfl (by kernel_rfl) (by decide) (fun K hK => ?_)
              · refine goes_ Tryd.func17 (by kernel_rfl) rfl #[.int .i64 y.N, .slice Bk n ck] (by rfl) rfl rfl (by simp [Act.eval]) ?_
                refine (shuf_calls _ y.N hN' Bk n ck (HBK4.out.below hj4.below)).mono ?_
                rintro e u4 ⟨vc, lc, he, ho, hsc, hB⟩
                obtain ⟨Ac, cc, hv, _, hrc⟩ := ho.read
                subst hv
                have hj5 := (hj4.later hB).c Ac lc hsc hrc
                clear ho hB
                refine ⟨_, he, hK.out _ _ (hS _ hj5.below) (fun _ => ?_)⟩
                clear he
                clear hK K
                refine norm_ (a' := ?_) ?_ ?_
                rotate_left
                · simp only [Act.put, List.setIfInBounds_toArray, List.set_cons_zero, List.set_cons_succ]
                  rfl
                refine one_ (i := 11) (N := some 63) #[true, true, true, true, true, true, true, true, true, true, true, true, true, true, false, false] rfl rfl (by kernel_rfl) (by decide) (fun K hK => ?_)
                · refine goes_ Tryd.func16 (by kernel_rfl) rfl #[(.agg #[.int .i64 y.N, .int .i64 y.start, .int .i64 y.inp, .int .i64 y.out, .slice A' y.mvs.length c']), .slice Ac lc.length cc] (by rfl) rfl rfl (by simp [Act.eval]) ?_
                  refine (moved_calls _ y hy A' c' (P4.out.ry.below hj5.below) lc hsc Ac cc (hj5.cr _ _ rfl)).mono ?_
                  rintro e u5 ⟨z, Az, cz, he, hmz, hrz, htz, hB⟩
                  unfold rxV at he
                  have hj6 := (hj5.later hB).d z Az lc hsc hmz hrz (fun ad ha => htz ad ha)
                  clear hB
                  refine ⟨_, he, hK.out _ _ (hS _ hj6.below) (fun _ => ?_)⟩
                  clear he
                  clear hK K
                  refine norm_ (a' := ?_) ?_ ?_
                  rotate_left
                  · simp only [Act.put, List.setIfInBounds_toArray, List.set_cons_zero, List.set_cons_succ]
                    rfl
                  exact hcont ((.slice Aa la.length ca), (.slice Ac lc.length cc), q, Aq, cq, z, Az, cz, (u1.heap.size + 1), u1.heap.size) _ hj6.fin
        · refine value_ (v := .pointer (some ⟨u0.heap.size, 0, none⟩)) (w1 := (u0.alloc (.cells #[.int .i64 0, .int .i64 0, .int .i64 0, .int .i64 0, .slice none 0 0] 24))) (by rfl) rfl (by go_simp) ?_
          have hj2 := hj1.q (u0.heap.size) (by simp)
          refine hK.out _ _ (hS _ hj2.below) (fun _ => ?_)
          clear hK K
          refine norm_ (a' := ?_) ?_ ?_
          rotate_left
          · simp only [Act.put, List.setIfInBounds_toArray, List.set_cons_zero, List.set_cons_succ]
            rfl
          refine two_ (i := 5) (j := 13) (Ni := some 57) (Nj := some 10) #[true, true, true, true, true, true, true, true, true, true, false, false, true, false, false, false] #[true, true, true, true, true, false, true, true, true, true, false, false, true, true, false, false] rfl rfl rfl rfl (by kernel_rfl) (by decide) (by decide) (fun K hK => ?_) (fun K hK => ?_)
          · refine goes_ Tryd.func16 (by kernel_rfl) rfl #[(.agg #[.int .i64 x.N, .int .i64 x.start, .int .i64 x.inp, .int .i64 x.out, .slice A x.mvs.length c]), .slice Aa la.length ca] (by rfl) rfl rfl (by simp [Act.eval]) ?_
            refine (moved_calls _ x hx A c (P4.out.rx.below hj2.below) la hsa Aa ca (hj2.ar _ _ rfl)).mono ?_
            rintro e u2 ⟨q, Aq, cq, he, hmq, hrq, htq, hB⟩
            unfold rxV at he
            have hj3 := (hj2.later hB).b q Aq la hsa hmq hrq (fun ad ha => htq ad ha)
            clear hB
            refine ⟨_, he, hK.out _ _ (hS _ hj3.below) (fun _ => ?_)⟩
            clear he
            clear hK K
            refine norm_ (a' := ?_) ?_ ?_
            rotate_left
            · simp only [Act.put, List.setIfInBounds_toArray, List.set_cons_zero, List.set_cons_succ]
              rfl
            refine two_ (i := 10) (j := 13) (Ni := some 62) (Nj := some 10) #[true, true, true, true, true, true, true, true, true, true, true, false, true, false, false, false] #[true, true, true, true, true, true, true, true, true, true, false, false, true, true, false, false] rfl rfl rfl rfl (by kernel_rfl) (by decide) (by decide) (fun K hK => ?_) (fun K hK => ?_)
            · refine goes_ Tryd.func17 (by kernel_rfl) rfl #[.int .i64 y.N, .slice Bk n ck] (by rfl) rfl rfl (by simp [Act.eval]) ?_
              refine (shuf_calls _ y.N hN' Bk n ck (HBK4.out.below hj3.below)).mono ?_
              rintro e u3 ⟨vc, lc, he, ho, hsc, hB⟩
              obtain ⟨Ac, cc, hv, _, hrc⟩ := ho.read
              subst hv
              have hj4 := (hj3.later hB).c Ac lc hsc hrc
              clear ho hB
              refine ⟨_, he, hK.out _ _ (hS _ hj4.below) (fun _ => ?_)⟩
              clear he
              clear hK K
              refine norm_ (a' := ?_) ?_ ?_
              rotate_left
              · simp only [Act.put, List.setIfInBounds_toArray, List.set_cons_zero, List.set_cons_succ]
                rfl
              refine two_ (i := 11) (j := 13) (Ni := some 63) (Nj := some 10) #[true, true, true, true, true, true, true, true, true, true, true, true, true, false, false, false] #[true, true, true, true, true, true, true, true, true, true, true, false, true, true, false, false] rfl rfl rfl rfl (by kernel_rfl) (by decide) (by decide) (fun K hK => ?_) (fun K hK => ?_)
              · refine goes_ Tryd.func16 (by kernel_rfl) rfl #[(.agg #[.int .i64 y.N, .int .i64 y.start, .int .i64 y.inp, .int .i64 y.out, .slice A' y.mvs.length c']), .slice Ac lc.length cc] (by rfl) rfl rfl (by simp [Act.eval]) ?_
                refine (moved_calls _ y hy A' c' (P4.out.ry.below hj4.below) lc hsc Ac cc (hj4.cr _ _ rfl)).mono ?_
                rintro e u4 ⟨z, Az, cz, he, hmz, hrz, htz, hB⟩
                unfold rxV at he
                have hj5 := (hj4.later hB).d z Az lc hsc hmz hrz (fun ad ha => htz ad ha)
                clear hB
                refine ⟨_, he, hK.out _ _ (hS _ hj5.below) (fun _ => ?_)⟩
                clear he
                clear hK K
                refine norm_ (a' := ?_) ?_ ?_
                rotate_left
                · simp only [Act.put, List.setIfInBounds_toArray, List.set_cons_zero, List.set_cons_succ]
                  rfl
                refine one_ (i := 13) (N := some 10) #[true, true, true, true, true, true, true, true, true, true, true, true, true, true, false, false] rfl rfl (by kernel_rfl) (by decide) (fun K hK => ?_)
                · refine value_ (v := .pointer (some ⟨u4.heap.size, 0, none⟩)) (w1 := (u4.alloc (.cells #[.int .i64 0, .int .i64 0, .int .i64 0, .int .i64 0, .slice none 0 0] 24))) (by rfl) rfl (by go_simp) ?_
                  have hj6 := hj5.z (u4.heap.size) (by simp)
                  refine hK.out _ _ (hS _ hj6.below) (fun _ => ?_)
                  clear hK K
                  refine norm_ (a' := ?_) ?_ ?_
                  rotate_left
                  · simp only [Act.put, List.setIfInBounds_toArray, List.set_cons_zero, List.set_cons_succ]
                    rfl
                  exact hcont ((.slice Aa la.length ca), (.slice Ac lc.length cc), q, Aq, cq, z, Az, cz, u0.heap.size, u4.heap.size) _ hj6.fin
              · refine value_ (v := .pointer (some ⟨u3.heap.size, 0, none⟩)) (w1 := (u3.alloc (.cells #[.int .i64 0, .int .i64 0, .int .i64 0, .int .i64 0, .slice none 0 0] 24))) (by rfl) rfl (by go_simp) ?_
                have hj5 := hj4.z (u3.heap.size) (by simp)
                refine hK.out _ _ (hS _ hj5.below) (fun _ => ?_)
                clear hK K
                refine norm_ (a' := ?_) ?_ ?_
                rotate_left
                · simp only [Act.put, List.setIfInBounds_toArray, List.set_cons_zero, List.set_cons_succ]
                  rfl
                refine one_ (i := 11) (N := some 63) #[true, true, true, true, true, true, true, true, true, true, true, true, true, true, false, false] rfl rfl (by kernel_rfl) (by decide) (fun K hK => ?_)
                · refine goes_ Tryd.func16 (by kernel_rfl) rfl #[(.agg #[.int .i64 y.N, .int .i64 y.start, .int .i64 y.inp, .int .i64 y.out, .slice A' y.mvs.length c']), .slice Ac lc.length cc] (by rfl) rfl rfl (by simp [Act.eval]) ?_
                  refine (moved_calls _ y hy A' c' (P4.out.ry.below hj5.below) lc hsc Ac cc (hj5.cr _ _ rfl)).mono ?_
                  rintro e u5 ⟨z, Az, cz, he, hmz, hrz, htz, hB⟩
                  unfold rxV at he
                  have hj6 := (hj5.later hB).d z Az lc hsc hmz hrz (fun ad ha => htz ad ha)
                  clear hB
                  refine ⟨_, he, hK.out _ _ (hS _ hj6.below) (fun _ => ?_)⟩
                  clear he
                  clear hK K
                  refine norm_ (a' := ?_) ?_ ?_
                  rotate_left
                  · simp only [Act.put, List.setIfInBounds_toArray, List.set_cons_zero, List.set_cons_succ]
                    rfl
                  exact hcont ((.slice Aa la.length ca), (.slice Ac lc.length cc), q, Aq, cq, z, Az, cz, u0.heap.size, u3.heap.size) _ hj6.fin
            · refine value_ (v := .pointer (some ⟨u2.heap.size, 0, none⟩)) (w1 := (u2.alloc (.cells #[.int .i64 0, .int .i64 0, .int .i64 0, .int .i64 0, .slice none 0 0] 24))) (by rfl) rfl (by go_simp) ?_
              have hj4 := hj3.z (u2.heap.size) (by simp)
              refine hK.out _ _ (hS _ hj4.below) (fun _ => ?_)
              clear hK K
              refine norm_ (a' := ?_) ?_ ?_
              rotate_left
              · simp only [Act.put, List.setIfInBounds_toArray, List.set_cons_zero, List.set_cons_succ]
                rfl
              refine one_ (i := 10) (N := some 62) #[true, true, true, true, true, true, true, true, true, true, true, false, true, true, false, false] rfl rfl (by kernel_rfl) (by decide) (fun K hK => ?_)
              · refine goes_ Tryd.func17 (by kernel_rfl) rfl #[.int .i64 y.N, .slice Bk n ck] (by rfl) rfl rfl (by simp [Act.eval]) ?_
                refine (shuf_calls _ y.N hN' Bk n ck (HBK4.out.below hj4.below)).mono ?_
                rintro e u4 ⟨vc, lc, he, ho, hsc, hB⟩
                obtain ⟨Ac, cc, hv, _, hrc⟩ := ho.read
                subst hv
                have hj5 := (hj4.later hB).c Ac lc hsc hrc
                clear ho hB
                refine ⟨_, he, hK.out _ _ (hS _ hj5.below) (fun _ => ?_)⟩
                clear he
                clear hK K
                refine norm_ (a' := ?_) ?_ ?_
                rotate_left
                · simp only [Act.put, List.setIfInBounds_toArray, List.set_cons_zero, List.set_cons_succ]
                  rfl
                refine one_ (i := 11) (N := some 63) #[true, true, true, true, true, true, true, true, true, true, true, true, true, true, false, false] rfl rfl (by kernel_rfl) (by decide) (fun K hK => ?_)
                · refine goes_ Tryd.func16 (by kernel_rfl) rfl #[(.agg #[.int .i64 y.N, .int .i64 y.start, .int .i64 y.inp, .int .i64 y.out, .slice A' y.mvs.length c']), .slice Ac lc.length cc] (by rfl) rfl rfl (by simp [Act.eval]) ?_
                  refine (moved_calls _ y hy A' c' (P4.out.ry.below hj5.below) lc hsc Ac cc (hj5.cr _ _ rfl)).mono ?_
                  rintro e u5 ⟨z, Az, cz, he, hmz, hrz, htz, hB⟩
                  unfold rxV at he
                  have hj6 := (hj5.later hB).d z Az lc hsc hmz hrz (fun ad ha => htz ad ha)
                  clear hB
                  refine ⟨_, he, hK.out _ _ (hS _ hj6.below) (fun _ => ?_)⟩
                  clear he
                  clear hK K
                  refine norm_ (a' := ?_) ?_ ?_
                  rotate_left
                  · simp only [Act.put, List.setIfInBounds_toArray, List.set_cons_zero, List.set_cons_succ]
                    rfl
                  exact hcont ((.slice Aa la.length ca), (.slice Ac lc.length cc), q, Aq, cq, z, Az, cz, u0.heap.size, u2.heap.size) _ hj6.fin
          · refine value_ (v := .pointer (some ⟨u0.heap.size + 1, 0, none⟩)) (w1 := ((u0.alloc (.cells #[.int .i64 0, .int .i64 0, .int .i64 0, .int .i64 0, .slice none 0 0] 24)).alloc (.cells #[.int .i64 0, .int .i64 0, .int .i64 0, .int .i64 0, .slice none 0 0] 24))) (by rfl) rfl (by go_simp) ?_
            have hj3 := hj2.z (u0.heap.size + 1) (by simp)
            refine hK.out _ _ (hS _ hj3.below) (fun _ => ?_)
            clear hK K
            refine norm_ (a' := ?_) ?_ ?_
            rotate_left
            · simp only [Act.put, List.setIfInBounds_toArray, List.set_cons_zero, List.set_cons_succ]
              rfl
            refine one_ (i := 5) (N := some 57) #[true, true, true, true, true, true, true, true, true, true, false, false, true, true, false, false] rfl rfl (by kernel_rfl) (by decide) (fun K hK => ?_)
            · refine goes_ Tryd.func16 (by kernel_rfl) rfl #[(.agg #[.int .i64 x.N, .int .i64 x.start, .int .i64 x.inp, .int .i64 x.out, .slice A x.mvs.length c]), .slice Aa la.length ca] (by rfl) rfl rfl (by simp [Act.eval]) ?_
              refine (moved_calls _ x hx A c (P4.out.rx.below hj3.below) la hsa Aa ca (hj3.ar _ _ rfl)).mono ?_
              rintro e u3 ⟨q, Aq, cq, he, hmq, hrq, htq, hB⟩
              unfold rxV at he
              have hj4 := (hj3.later hB).b q Aq la hsa hmq hrq (fun ad ha => htq ad ha)
              clear hB
              refine ⟨_, he, hK.out _ _ (hS _ hj4.below) (fun _ => ?_)⟩
              clear he
              clear hK K
              refine norm_ (a' := ?_) ?_ ?_
              rotate_left
              · simp only [Act.put, List.setIfInBounds_toArray, List.set_cons_zero, List.set_cons_succ]
                rfl
              refine one_ (i := 10) (N := some 62) #[true, true, true, true, true, true, true, true, true, true, true, false, true, true, false, false] rfl rfl (by kernel_rfl) (by decide) (fun K hK => ?_)
              · refine goes_ Tryd.func17 (by kernel_rfl) rfl #[.int .i64 y.N, .slice Bk n ck] (by rfl) rfl rfl (by simp [Act.eval]) ?_
                refine (shuf_calls _ y.N hN' Bk n ck (HBK4.out.below hj4.below)).mono ?_
                rintro e u4 ⟨vc, lc, he, ho, hsc, hB⟩
                obtain ⟨Ac, cc, hv, _, hrc⟩ := ho.read
                subst hv
                have hj5 := (hj4.later hB).c Ac lc hsc hrc
                clear ho hB
                refine ⟨_, he, hK.out _ _ (hS _ hj5.below) (fun _ => ?_)⟩
                clear he
                clear hK K
                refine norm_ (a' := ?_) ?_ ?_
                rotate_left
                · simp only [Act.put, List.setIfInBounds_toArray, List.set_cons_zero, List.set_cons_succ]
                  rfl
                refine one_ (i := 11) (N := some 63) #[true, true, true, true, true, true, true, true, true, true, true, true, true, true, false, false] rfl rfl (by kernel_rfl) (by decide) (fun K hK => ?_)
                · refine goes_ Tryd.func16 (by kernel_rfl) rfl #[(.agg #[.int .i64 y.N, .int .i64 y.start, .int .i64 y.inp, .int .i64 y.out, .slice A' y.mvs.length c']), .slice Ac lc.length cc] (by rfl) rfl rfl (by simp [Act.eval]) ?_
                  refine (moved_calls _ y hy A' c' (P4.out.ry.below hj5.below) lc hsc Ac cc (hj5.cr _ _ rfl)).mono ?_
                  rintro e u5 ⟨z, Az, cz, he, hmz, hrz, htz, hB⟩
                  unfold rxV at he
                  have hj6 := (hj5.later hB).d z Az lc hsc hmz hrz (fun ad ha => htz ad ha)
                  clear hB
                  refine ⟨_, he, hK.out _ _ (hS _ hj6.below) (fun _ => ?_)⟩
                  clear he
                  clear hK K
                  refine norm_ (a' := ?_) ?_ ?_
                  rotate_left
                  · simp only [Act.put, List.setIfInBounds_toArray, List.set_cons_zero, List.set_cons_succ]
                    rfl
                  exact hcont ((.slice Aa la.length ca), (.slice Ac lc.length cc), q, Aq, cq, z, Az, cz, u0.heap.size, (u0.heap.size + 1)) _ hj6.fin
        · refine value_ (v := .pointer (some ⟨u0.heap.size, 0, none⟩)) (w1 := (u0.alloc (.cells #[.int .i64 0, .int .i64 0, .int .i64 0, .int .i64 0, .slice none 0 0] 24))) (by rfl) rfl (by go_simp) ?_
          have hj2 := hj1.z (u0.heap.size) (by simp)
          refine hK.out _ _ (hS _ hj2.below) (fun _ => ?_)
          clear hK K
          refine norm_ (a' := ?_) ?_ ?_
          rotate_left
          · simp only [Act.put, List.setIfInBounds_toArray, List.set_cons_zero, List.set_cons_succ]
            rfl
          refine two_ (i := 5) (j := 12) (Ni := some 57) (Nj := some 9) #[true, true, true, true, true, true, true, true, true, true, false, false, false, true, false, false] #[true, true, true, true, true, false, true, true, true, true, false, false, true, true, false, false] rfl rfl rfl rfl (by kernel_rfl) (by decide) (by decide) (fun K hK => ?_) (fun K hK => ?_)
          · refine goes_ Tryd.func16 (by kernel_rfl) rfl #[(.agg #[.int .i64 x.N, .int .i64 x.start, .int .i64 x.inp, .int .i64 x.out, .slice A x.mvs.length c]), .slice Aa la.length ca] (by rfl) rfl rfl (by simp [Act.eval]) ?_
            refine (moved_calls _ x hx A c (P4.out.rx.below hj2.below) la hsa Aa ca (hj2.ar _ _ rfl)).mono ?_
            rintro e u2 ⟨q, Aq, cq, he, hmq, hrq, htq, hB⟩
            unfold rxV at he
            have hj3 := (hj2.later hB).b q Aq la hsa hmq hrq (fun ad ha => htq ad ha)
            clear hB
            refine ⟨_, he, hK.out _ _ (hS _ hj3.below) (fun _ => ?_)⟩
            clear he
            clear hK K
            refine norm_ (a' := ?_) ?_ ?_
            rotate_left
            · simp only [Act.put, List.setIfInBounds_toArray, List.set_cons_zero, List.set_cons_succ]
              rfl
            refine two_ (i := 10) (j := 12) (Ni := some 62) (Nj := some 9) #[true, true, true, true, true, true, true, true, true, true, true, false, false, true, false, false] #[true, true, true, true, true, true, true, true, true, true, false, false, true, true, false, false] rfl rfl rfl rfl (by kernel_rfl) (by decide) (by decide) (fun K hK => ?_) (fun K hK => ?_)
            · refine goes_ Tryd.func17 (by kernel_rfl) rfl #[.int .i64 y.N, .slice Bk n ck] (by rfl) rfl rfl (by simp [Act.eval]) ?_
              refine (shuf_calls _ y.N hN' Bk n ck (HBK4.out.below hj3.below)).mono ?_
              rintro e u3 ⟨vc, lc, he, ho, hsc, hB⟩
              obtain ⟨Ac, cc, hv, _, hrc⟩ := ho.read
              subst hv
              have hj4 := (hj3.later hB).c Ac lc hsc hrc
              clear ho hB
              refine ⟨_, he, hK.out _ _ (hS _ hj4.below) (fun _ => ?_)⟩
              clear he
              clear hK K
              refine norm_ (a' := ?_) ?_ ?_
              rotate_left
              · simp only [Act.put, List.setIfInBounds_toArray, List.set_cons_zero, List.set_cons_succ]
                rfl
              refine two_ (i := 11) (j := 12) (Ni := some 63) (Nj := some 9) #[true, true, true, true, true, true, true, true, true, true, true, true, false, true, false, false] #[true, true, true, true, true, true, true, true, true, true, true, false, true, true, false, false] rfl rfl rfl rfl (by kernel_rfl) (by decide) (by decide) (fun K hK => ?_) (fun K hK => ?_)
              · refine goes_ Tryd.func16 (by kernel_rfl) rfl #[(.agg #[.int .i64 y.N, .int .i64 y.start, .int .i64 y.inp, .int .i64 y.out, .slice A' y.mvs.length c']), .slice Ac lc.length cc] (by rfl) rfl rfl (by simp [Act.eval]) ?_
                refine (moved_calls _ y hy A' c' (P4.out.ry.below hj4.below) lc hsc Ac cc (hj4.cr _ _ rfl)).mono ?_
                rintro e u4 ⟨z, Az, cz, he, hmz, hrz, htz, hB⟩
                unfold rxV at he
                have hj5 := (hj4.later hB).d z Az lc hsc hmz hrz (fun ad ha => htz ad ha)
                clear hB
                refine ⟨_, he, hK.out _ _ (hS _ hj5.below) (fun _ => ?_)⟩
                clear he
                clear hK K
                refine norm_ (a' := ?_) ?_ ?_
                rotate_left
                · simp only [Act.put, List.setIfInBounds_toArray, List.set_cons_zero, List.set_cons_succ]
                  rfl
                refine one_ (i := 12) (N := some 9) #[true, true, true, true, true, true, true, true, true, true, true, true, true, true, false, false] rfl rfl (by kernel_rfl) (by decide) (fun K hK => ?_)
                · refine value_ (v := .pointer (some ⟨u4.heap.size, 0, none⟩)) (w1 := (u4.alloc (.cells #[.int .i64 0, .int .i64 0, .int .i64 0, .int .i64 0, .slice none 0 0] 24))) (by rfl) rfl (by go_simp) ?_
                  have hj6 := hj5.q (u4.heap.size) (by simp)
                  refine hK.out _ _ (hS _ hj6.below) (fun _ => ?_)
                  clear hK K
                  refine norm_ (a' := ?_) ?_ ?_
                  rotate_left
                  · simp only [Act.put, List.setIfInBounds_toArray, List.set_cons_zero, List.set_cons_succ]
                    rfl
                  exact hcont ((.slice Aa la.length ca), (.slice Ac lc.length cc), q, Aq, cq, z, Az, cz, u4.heap.size, u0.heap.size) _ hj6.fin
              · refine value_ (v := .pointer (some ⟨u3.heap.size, 0, none⟩)) (w1 := (u3.alloc (.cells #[.int .i64 0, .int .i64 0, .int .i64 0, .int .i64 0, .slice none 0 0] 24))) (by rfl) rfl (by go_simp) ?_
                have hj5 := hj4.q (u3.heap.size) (by simp)
                refine hK.out _ _ (hS _ hj5.below) (fun _ => ?_)
                clear hK K
                refine norm_ (a' := ?_) ?_ ?_
                rotate_left
                · simp only [Act.put, List.setIfInBounds_toArray, List.set_cons_zero, List.set_cons_succ]
                  rfl
                refine one_ (i := 11) (N := some 63) #[true, true, true, true, true, true, true, true, true, true, true, true, true, true, false, false] rfl rfl (by kernel_rfl) (by decide) (fun K hK => ?_)
                · refine goes_ Tryd.func16 (by kernel_rfl) rfl #[(.agg #[.int .i64 y.N, .int .i64 y.start, .int .i64 y.inp, .int .i64 y.out, .slice A' y.mvs.length c']), .slice Ac lc.length cc] (by rfl) rfl rfl (by simp [Act.eval]) ?_
                  refine (moved_calls _ y hy A' c' (P4.out.ry.below hj5.below) lc hsc Ac cc (hj5.cr _ _ rfl)).mono ?_
                  rintro e u5 ⟨z, Az, cz, he, hmz, hrz, htz, hB⟩
                  unfold rxV at he
                  have hj6 := (hj5.later hB).d z Az lc hsc hmz hrz (fun ad ha => htz ad ha)
                  clear hB
                  refine ⟨_, he, hK.out _ _ (hS _ hj6.below) (fun _ => ?_)⟩
                  clear he
                  clear hK K
                  refine norm_ (a' := ?_) ?_ ?_
                  rotate_left
                  · simp only [Act.put, List.setIfInBounds_toArray, List.set_cons_zero, List.set_cons_succ]
                    rfl
                  exact hcont ((.slice Aa la.length ca), (.slice Ac lc.length cc), q, Aq, cq, z, Az, cz, u3.heap.size, u0.heap.size) _ hj6.fin
            · refine value_ (v := .pointer (some ⟨u2.heap.size, 0, none⟩)) (w1 := (u2.alloc (.cells #[.int .i64 0, .int .i64 0, .int .i64 0, .int .i64 0, .slice none 0 0] 24))) (by rfl) rfl (by go_simp) ?_
              have hj4 := hj3.q (u2.heap.size) (by simp)
              refine hK.out _ _ (hS _ hj4.below) (fun _ => ?_)
              clear hK K
              refine norm_ (a' := ?_) ?_ ?_
              rotate_left
              · simp only [Act.put, List.setIfInBounds_toArray, List.set_cons_zero, List.set_cons_succ]
                rfl
              refine one_ (i := 10) (N := some 62) #[true, true, true, true, true, true, true, true, true, true, true, false, true, true, false, false] rfl rfl (by kernel_rfl) (by decide) (fun K hK => ?_)
              · refine goes_ Tryd.func17 (by kernel_rfl) rfl #[.int .i64 y.N, .slice Bk n ck] (by rfl) rfl rfl (by simp [Act.eval]) ?_
                refine (shuf_calls _ y.N hN' Bk n ck (HBK4.out.below hj4.below)).mono ?_
                rintro e u4 ⟨vc, lc, he, ho, hsc, hB⟩
                obtain ⟨Ac, cc, hv, _, hrc⟩ := ho.read
                subst hv
                have hj5 := (hj4.later hB).c Ac lc hsc hrc
                clear ho hB
                refine ⟨_, he, hK.out _ _ (hS _ hj5.below) (fun _ => ?_)⟩
                clear he
                clear hK K
                refine norm_ (a' := ?_) ?_ ?_
                rotate_left
                · simp only [Act.put, List.setIfInBounds_toArray, List.set_cons_zero, List.set_cons_succ]
                  rfl
                refine one_ (i := 11) (N := some 63) #[true, true, true, true, true, true, true, true, true, true, true, true, true, true, false, false] rfl rfl (by kernel_rfl) (by decide) (fun K hK => ?_)
                · refine goes_ Tryd.func16 (by kernel_rfl) rfl #[(.agg #[.int .i64 y.N, .int .i64 y.start, .int .i64 y.inp, .int .i64 y.out, .slice A' y.mvs.length c']), .slice Ac lc.length cc] (by rfl) rfl rfl (by simp [Act.eval]) ?_
                  refine (moved_calls _ y hy A' c' (P4.out.ry.below hj5.below) lc hsc Ac cc (hj5.cr _ _ rfl)).mono ?_
                  rintro e u5 ⟨z, Az, cz, he, hmz, hrz, htz, hB⟩
                  unfold rxV at he
                  have hj6 := (hj5.later hB).d z Az lc hsc hmz hrz (fun ad ha => htz ad ha)
                  clear hB
                  refine ⟨_, he, hK.out _ _ (hS _ hj6.below) (fun _ => ?_)⟩
                  clear he
                  clear hK K
                  refine norm_ (a' := ?_) ?_ ?_
                  rotate_left
                  · simp only [Act.put, List.setIfInBounds_toArray, List.set_cons_zero, List.set_cons_succ]
                    rfl
                  exact hcont ((.slice Aa la.length ca), (.slice Ac lc.length cc), q, Aq, cq, z, Az, cz, u2.heap.size, u0.heap.size) _ hj6.fin
          · refine value_ (v := .pointer (some ⟨u0.heap.size + 1, 0, none⟩)) (w1 := ((u0.alloc (.cells #[.int .i64 0, .int .i64 0, .int .i64 0, .int .i64 0, .slice none 0 0] 24)).alloc (.cells #[.int .i64 0, .int .i64 0, .int .i64 0, .int .i64 0, .slice none 0 0] 24))) (by rfl) rfl (by go_simp) ?_
            have hj3 := hj2.q (u0.heap.size + 1) (by simp)
            refine hK.out _ _ (hS _ hj3.below) (fun _ => ?_)
            clear hK K
            refine norm_ (a' := ?_) ?_ ?_
            rotate_left
            · simp only [Act.put, List.setIfInBounds_toArray, List.set_cons_zero, List.set_cons_succ]
              rfl
            refine one_ (i := 5) (N := some 57) #[true, true, true, true, true, true, true, true, true, true, false, false, true, true, false, false] rfl rfl (by kernel_rfl) (by decide) (fun K hK => ?_)
            · refine goes_ Tryd.func16 (by kernel_rfl) rfl #[(.agg #[.int .i64 x.N, .int .i64 x.start, .int .i64 x.inp, .int .i64 x.out, .slice A x.mvs.length c]), .slice Aa la.length ca] (by rfl) rfl rfl (by simp [Act.eval]) ?_
              refine (moved_calls _ x hx A c (P4.out.rx.below hj3.below) la hsa Aa ca (hj3.ar _ _ rfl)).mono ?_
              rintro e u3 ⟨q, Aq, cq, he, hmq, hrq, htq, hB⟩
              unfold rxV at he
              have hj4 := (hj3.later hB).b q Aq la hsa hmq hrq (fun ad ha => htq ad ha)
              clear hB
              refine ⟨_, he, hK.out _ _ (hS _ hj4.below) (fun _ => ?_)⟩
              clear he
              clear hK K
              refine norm_ (a' := ?_) ?_ ?_
              rotate_left
              · simp only [Act.put, List.setIfInBounds_toArray, List.set_cons_zero, List.set_cons_succ]
                rfl
              refine one_ (i := 10) (N := some 62) #[true, true, true, true, true, true, true, true, true, true, true, false, true, true, false, false] rfl rfl (by kernel_rfl) (by decide) (fun K hK => ?_)
              · refine goes_ Tryd.func17 (by kernel_rfl) rfl #[.int .i64 y.N, .slice Bk n ck] (by rfl) rfl rfl (by simp [Act.eval]) ?_
                refine (shuf_calls _ y.N hN' Bk n ck (HBK4.out.below hj4.below)).mono ?_
                rintro e u4 ⟨vc, lc, he, ho, hsc, hB⟩
                obtain ⟨Ac, cc, hv, _, hrc⟩ := ho.read
                subst hv
                have hj5 := (hj4.later hB).c Ac lc hsc hrc
                clear ho hB
                refine ⟨_, he, hK.out _ _ (hS _ hj5.below) (fun _ => ?_)⟩
                clear he
                clear hK K
                refine norm_ (a' := ?_) ?_ ?_
                rotate_left
                · simp only [Act.put, List.setIfInBounds_toArray, List.set_cons_zero, List.set_cons_succ]
                  rfl
                refine one_ (i := 11) (N := some 63) #[true, true, true, true, true, true, true, true, true, true, true, true, true, true, false, false] rfl rfl (by kernel_rfl) (by decide) (fun K hK => ?_)
                · refine goes_ Tryd.func16 (by kernel_rfl) rfl #[(.agg #[.int .i64 y.N, .int .i64 y.start, .int .i64 y.inp, .int .i64 y.out, .slice A' y.mvs.length c']), .slice Ac lc.length cc] (by rfl) rfl rfl (by simp [Act.eval]) ?_
                  refine (moved_calls _ y hy A' c' (P4.out.ry.below hj5.below) lc hsc Ac cc (hj5.cr _ _ rfl)).mono ?_
                  rintro e u5 ⟨z, Az, cz, he, hmz, hrz, htz, hB⟩
                  unfold rxV at he
                  have hj6 := (hj5.later hB).d z Az lc hsc hmz hrz (fun ad ha => htz ad ha)
                  clear hB
                  refine ⟨_, he, hK.out _ _ (hS _ hj6.below) (fun _ => ?_)⟩
                  clear he
                  clear hK K
                  refine norm_ (a' := ?_) ?_ ?_
                  rotate_left
                  · simp only [Act.put, List.setIfInBounds_toArray, List.set_cons_zero, List.set_cons_succ]
                    rfl
                  exact hcont ((.slice Aa la.length ca), (.slice Ac lc.length cc), q, Aq, cq, z, Az, cz, (u0.heap.size + 1), u0.heap.size) _ hj6.fin
      · refine value_ (v := .pointer (some ⟨W4.heap.size, 0, none⟩)) (w1 := (W4.alloc (.cells #[.int .i64 0, .int .i64 0, .int .i64 0, .int .i64 0, .slice none 0 0] 24))) (by rfl) rfl (by go_simp) ?_
        have hj1 := hj0.q (W4.heap.size) (by simp)
        refine hK.out _ _ (hS _ hj1.below) (fun _ => ?_)
        clear hK K
        refine norm_ (a' := ?_) ?_ ?_
        rotate_left
        · simp only [Act.put, List.setIfInBounds_toArray, List.set_cons_zero, List.set_cons_succ]
          rfl
        refine two_ (i := 4) (j := 13) (Ni := some 56) (Nj := some 10) #[true, true, true, true, true, false, true, true, true, true, false, false, true, false, false, false] #[true, true, true, true, false, false, true, true, true, true, false, false, true, true, false, false] rfl rfl rfl rfl (by kernel_rfl) (by decide) (by decide) (fun K hK => ?_) (fun K hK => ?_)
        · refine goes_ Tryd.func17 (by kernel_rfl) rfl #[.int .i64 x.N, .slice Bo mo co] (by rfl) rfl rfl (by simp [Act.eval]) ?_
          refine (shuf_calls _ x.N hN Bo mo co (HBO4.out.below hj1.below)).mono ?_
          rintro e u1 ⟨va, la, he, ho, hsa, hB⟩
          obtain ⟨Aa, ca, hv, _, hra⟩ := ho.read
          subst hv
          have hj2 := (hj1.later hB).a Aa la hsa hra
          clear ho hB
          refine ⟨_, he, hK.out _ _ (hS _ hj2.below) (fun _ => ?_)⟩
          clear he
          clear hK K
          refine norm_ (a' := ?_) ?_ ?_
          rotate_left
          · simp only [Act.put, List.setIfInBounds_toArray, List.set_cons_zero, List.set_cons_succ]
            rfl
          refine two_ (i := 5) (j := 13) (Ni := some 57) (Nj := some 10) #[true, true, true, true, true, true, true, true, true, true, false, false, true, false, false, false] #[true, true, true, true, true, false, true, true, true, true, false, false, true, true, false, false] rfl rfl rfl rfl (by kernel_rfl) (by decide) (by decide) (fun K hK => ?_) (fun K hK => ?_)
          · refine goes_ Tryd.func16 (by kernel_rfl) rfl #[(.agg #[.int .i64 x.N, .int .i64 x.start, .int .i64 x.inp, .int .i64 x.out, .slice A x.mvs.length c]), .slice Aa la.length ca] (by rfl) rfl rfl (by simp [Act.eval]) ?_
            refine (moved_calls _ x hx A c (P4.out.rx.below hj2.below) la hsa Aa ca (hj2.ar _ _ rfl)).mono ?_
            rintro e u2 ⟨q, Aq, cq, he, hmq, hrq, htq, hB⟩
            unfold rxV at he
            have hj3 := (hj2.later hB).b q Aq la hsa hmq hrq (fun ad ha => htq ad ha)
            clear hB
            refine ⟨_, he, hK.out _ _ (hS _ hj3.below) (fun _ => ?_)⟩
            clear he
            clear hK K
            refine norm_ (a' := ?_) ?_ ?_
            rotate_left
            · simp only [Act.put, List.setIfInBounds_toArray, List.set_cons_zero, List.set_cons_succ]
              rfl
            refine two_ (i := 10) (j := 13) (Ni := some 62) (Nj := some 10) #[true, true, true, true, true, true, true, true, true, true, true, false, true, false, false, false] #[true, true, true, true, true, true, true, true, true, true, false, false, true, true, false, false] rfl rfl rfl rfl (by kernel_rfl) (by decide) (by decide) (fun K hK => ?_) (fun K hK => ?_)
            · refine goes_ Tryd.func17 (by kernel_rfl) rfl #[.int .i64 y.N, .slice Bk n ck] (by rfl) rfl rfl (by simp [Act.eval]) ?_
              refine (shuf_calls _ y.N hN' Bk n ck (HBK4.out.below hj3.below)).mono ?_
              rintro e u3 ⟨vc, lc, he, ho, hsc, hB⟩
              obtain ⟨Ac, cc, hv, _, hrc⟩ := ho.read
              subst hv
              have hj4 := (hj3.later hB).c Ac lc hsc hrc
              clear ho hB
              refine ⟨_, he, hK.out _ _ (hS _ hj4.below) (fun _ => ?_)⟩
              clear he
              clear hK K
              refine norm_ (a' := ?_) ?_ ?_
              rotate_left
              · simp only [Act.put, List.setIfInBounds_toArray, List.set_cons_zero, List.set_cons_succ]
                rfl
              refine two_ (i := 11) (j := 13) (Ni := some 63) (Nj := some 10) #[true, true, true, true, true, true, true, true, true, true, true, true, true, false, false, false] #[true, true, true, true, true, true, true, true, true, true, true, false, true, true, false, false] rfl rfl rfl rfl (by kernel_rfl) (by decide) (by decide) (fun K hK => ?_) (fun K hK => ?_)
              · refine goes_ Tryd.func16 (by kernel_rfl) rfl #[(.agg #[.int .i64 y.N, .int .i64 y.start, .int .i64 y.inp, .int .i64 y.out, .slice A' y.mvs.length c']), .slice Ac lc.length cc] (by rfl) rfl rfl (by simp [Act.eval]) ?_
                refine (moved_calls _ y hy A' c' (P4.out.ry.below hj4.below) lc hsc Ac cc (hj4.cr _ _ rfl)).mono ?_
                rintro e u4 ⟨z, Az, cz, he, hmz, hrz, htz, hB⟩
                unfold rxV at he
                have hj5 := (hj4.later hB).d z Az lc hsc hmz hrz (fun ad ha => htz ad ha)
                clear hB
                refine ⟨_, he, hK.out _ _ (hS _ hj5.below) (fun _ => ?_)⟩
                clear he
                clear hK K
                refine norm_ (a' := ?_) ?_ ?_
                rotate_left
                · simp only [Act.put, List.setIfInBounds_toArray, List.set_cons_zero, List.set_cons_succ]
                  rfl
                refine one_ (i := 13) (N := some 10) #[true, true, true, true, true, true, true, true, true, true, true, true, true, true, false, false] rfl rfl (by kernel_rfl) (by decide) (fun K hK => ?_)
                · refine value_ (v := .pointer (some ⟨u4.heap.size, 0, none⟩)) (w1 := (u4.alloc (.cells #[.int .i64 0, .int .i64 0, .int .i64 0, .int .i64 0, .slice none 0 0] 24))) (by rfl) rfl (by go_simp) ?_
                  have hj6 := hj5.z (u4.heap.size) (by simp)
                  refine hK.out _ _ (hS _ hj6.below) (fun _ => ?_)
                  clear hK K
                  refine norm_ (a' := ?_) ?_ ?_
                  rotate_left
                  · simp only [Act.put, List.setIfInBounds_toArray, List.set_cons_zero, List.set_cons_succ]
                    rfl
                  exact hcont ((.slice Aa la.length ca), (.slice Ac lc.length cc), q, Aq, cq, z, Az, cz, W4.heap.size, u4.heap.size) _ hj6.fin
              · refine value_ (v := .pointer (some ⟨u3.heap.size, 0, none⟩)) (w1 := (u3.alloc (.cells #[.int .i64 0, .int .i64 0, .int .i64 0, .int .i64 0, .slice none 0 0] 24))) (by rfl) rfl (by go_simp) ?_
                have hj5 := hj4.z (u3.heap.size) (by simp)
                refine hK.out _ _ (hS _ hj5.below) (fun _ => ?_)
                clear hK K
                refine norm_ (a' := ?_) ?_ ?_
                rotate_left
                · simp only [Act.put, List.setIfInBounds_toArray, List.set_cons_zero, List.set_cons_succ]
                  rfl
                refine one_ (i := 11) (N := some 63) #[true, true, true, true, true, true, true, true, true, true, true, true, true, true, false, false] rfl rfl (by kernel_rfl) (by decide) (fun K hK => ?_)
                · refine goes_ Tryd.func16 (by kernel_rfl) rfl #[(.agg #[.int .i64 y.N, .int .i64 y.start, .int .i64 y.inp, .int .i64 y.out, .slice A' y.mvs.length c']), .slice Ac lc.length cc] (by rfl) rfl rfl (by simp [Act.eval]) ?_
                  refine (moved_calls _ y hy A' c' (P4.out.ry.below hj5.below) lc hsc Ac cc (hj5.cr _ _ rfl)).mono ?_
                  rintro e u5 ⟨z, Az, cz, he, hmz, hrz, htz, hB⟩
                  unfold rxV at he
                  have hj6 := (hj5.later hB).d z Az lc hsc hmz hrz (fun ad ha => htz ad ha)
                  clear hB
                  refine ⟨_, he, hK.out _ _ (hS _ hj6.below) (fun _ => ?_)⟩
                  clear he
                  clear hK K
                  refine norm_ (a' := ?_) ?_ ?_
                  rotate_left
                  · simp only [Act.put, List.setIfInBounds_toArray, List.set_cons_zero, List.set_cons_succ]
                    rfl
                  exact hcont ((.slice Aa la.length ca), (.slice Ac lc.length cc), q, Aq, cq, z, Az, cz, W4.heap.size, u3.heap.size) _ hj6.fin
            · refine value_ (v := .pointer (some ⟨u2.heap.size, 0, none⟩)) (w1 := (u2.alloc (.cells #[.int .i64 0, .int .i64 0, .int .i64 0, .int .i64 0, .slice none 0 0] 24))) (by rfl) rfl (by go_simp) ?_
              have hj4 := hj3.z (u2.heap.size) (by simp)
              refine hK.out _ _ (hS _ hj4.below) (fun _ => ?_)
              clear hK K
              refine norm_ (a' := ?_) ?_ ?_
              rotate_left
              · simp only [Act.put, List.setIfInBounds_toArray, List.set_cons_zero, List.set_cons_succ]
                rfl
              refine one_ (i := 10) (N := some 62) #[true, true, true, true, true, true, true, true, true, true, true, false, true, true, false, false] rfl rfl (by kernel_rfl) (by decide) (fun K hK => ?_)
              · refine goes_ Tryd.func17 (by kernel_rfl) rfl #[.int .i64 y.N, .slice Bk n ck] (by rfl) rfl rfl (by simp [Act.eval]) ?_
                refine (shuf_calls _ y.N hN' Bk n ck (HBK4.out.below hj4.below)).mono ?_
                rintro e u4 ⟨vc, lc, he, ho, hsc, hB⟩
                obtain ⟨Ac, cc, hv, _, hrc⟩ := ho.read
                subst hv
                have hj5 := (hj4.later hB).c Ac lc hsc hrc
                clear ho hB
                refine ⟨_, he, hK.out _ _ (hS _ hj5.below) (fun _ => ?_)⟩
                clear he
                clear hK K
                refine norm_ (a' := ?_) ?_ ?_
                rotate_left
                · simp only [Act.put, List.setIfInBounds_toArray, List.set_cons_zero, List.set_cons_succ]
                  rfl
                refine one_ (i := 11) (N := some 63) #[true, true, true, true, true, true, true, true, true, true, true, true, true, true, false, false] rfl rfl (by kernel_rfl) (by decide) (fun K hK => ?_)
                · refine goes_ Tryd.func16 (by kernel_rfl) rfl #[(.agg #[.int .i64 y.N, .int .i64 y.start, .int .i64 y.inp, .int .i64 y.out, .slice A' y.mvs.length c']), .slice Ac lc.length cc] (by rfl) rfl rfl (by simp [Act.eval]) ?_
                  refine (moved_calls _ y hy A' c' (P4.out.ry.below hj5.below) lc hsc Ac cc (hj5.cr _ _ rfl)).mono ?_
                  rintro e u5 ⟨z, Az, cz, he, hmz, hrz, htz, hB⟩
                  unfold rxV at he
                  have hj6 := (hj5.later hB).d z Az lc hsc hmz hrz (fun ad ha => htz ad ha)
                  clear hB
                  refine ⟨_, he, hK.out _ _ (hS _ hj6.below) (fun _ => ?_)⟩
                  clear he
                  clear hK K
                  refine norm_ (a' := ?_) ?_ ?_
                  rotate_left
                  · simp only [Act.put, List.setIfInBounds_toArray, List.set_cons_zero, List.set_cons_succ]
                    rfl
                  exact hcont ((.slice Aa la.length ca), (.slice Ac lc.length cc), q, Aq, cq, z, Az, cz, W4.heap.size, u2.heap.size) _ hj6.fin
          · refine value_ (v := .pointer (some ⟨u1.heap.size, 0, none⟩)) (w1 := (u1.alloc (.cells #[.int .i64 0, .int .i64 0, .int .i64 0, .int .i64 0, .slice none 0 0] 24))) (by rfl) rfl (by go_simp) ?_
            have hj3 := hj2.z (u1.heap.size) (by simp)
            refine hK.out _ _ (hS _ hj3.below) (fun _ => ?_)
            clear hK K
            refine norm_ (a' := ?_) ?_ ?_
            rotate_left
            · simp only [Act.put, List.setIfInBounds_toArray, List.set_cons_zero, List.set_cons_succ]
              rfl
            refine one_ (i := 5) (N := some 57) #[true, true, true, true, true, true, true, true, true, true, false, false, true, true, false, false] rfl rfl (by kernel_rfl) (by decide) (fun K hK => ?_)
            · refine goes_ Tryd.func16 (by kernel_rfl) rfl #[(.agg #[.int .i64 x.N, .int .i64 x.start, .int .i64 x.inp, .int .i64 x.out, .slice A x.mvs.length c]), .slice Aa la.length ca] (by rfl) rfl rfl (by simp [Act.eval]) ?_
              refine (moved_calls _ x hx A c (P4.out.rx.below hj3.below) la hsa Aa ca (hj3.ar _ _ rfl)).mono ?_
              rintro e u3 ⟨q, Aq, cq, he, hmq, hrq, htq, hB⟩
              unfold rxV at he
              have hj4 := (hj3.later hB).b q Aq la hsa hmq hrq (fun ad ha => htq ad ha)
              clear hB
              refine ⟨_, he, hK.out _ _ (hS _ hj4.below) (fun _ => ?_)⟩
              clear he
              clear hK K
              refine norm_ (a' := ?_) ?_ ?_
              rotate_left
              · simp only [Act.put, List.setIfInBounds_toArray, List.set_cons_zero, List.set_cons_succ]
                rfl
              refine one_ (i := 10) (N := some 62) #[true, true, true, true, true, true, true, true, true, true, true, false, true, true, false, false] rfl rfl (by kernel_rfl) (by decide) (fun K hK => ?_)
              · refine goes_ Tryd.func17 (by kernel_rfl) rfl #[.int .i64 y.N, .slice Bk n ck] (by rfl) rfl rfl (by simp [Act.eval]) ?_
                refine (shuf_calls _ y.N hN' Bk n ck (HBK4.out.below hj4.below)).mono ?_
                rintro e u4 ⟨vc, lc, he, ho, hsc, hB⟩
                obtain ⟨Ac, cc, hv, _, hrc⟩ := ho.read
                subst hv
                have hj5 := (hj4.later hB).c Ac lc hsc hrc
                clear ho hB
                refine ⟨_, he, hK.out _ _ (hS _ hj5.below) (fun _ => ?_)⟩
                clear he
                clear hK K
                refine norm_ (a' := ?_) ?_ ?_
                rotate_left
                · simp only [Act.put, List.setIfInBounds_toArray, List.set_cons_zero, List.set_cons_succ]
                  rfl
                refine one_ (i := 11) (N := some 63) #[true, true, true, true, true, true, true, true, true, true, true, true, true, true, false, false] rfl rfl (by kernel_rfl) (by decide) (fun K hK => ?_)
                · refine goes_ Tryd.func16 (by kernel_rfl) rfl #[(.agg #[.int .i64 y.N, .int .i64 y.start, .int .i64 y.inp, .int .i64 y.out, .slice A' y.mvs.length c']), .slice Ac lc.length cc] (by rfl) rfl rfl (by simp [Act.eval]) ?_
                  refine (moved_calls _ y hy A' c' (P4.out.ry.below hj5.below) lc hsc Ac cc (hj5.cr _ _ rfl)).mono ?_
                  rintro e u5 ⟨z, Az, cz, he, hmz, hrz, htz, hB⟩
                  unfold rxV at he
                  have hj6 := (hj5.later hB).d z Az lc hsc hmz hrz (fun ad ha => htz ad ha)
                  clear hB
                  refine ⟨_, he, hK.out _ _ (hS _ hj6.below) (fun _ => ?_)⟩
                  clear he
                  clear hK K
                  refine norm_ (a' := ?_) ?_ ?_
                  rotate_left
                  · simp only [Act.put, List.setIfInBounds_toArray, List.set_cons_zero, List.set_cons_succ]
                    rfl
                  exact hcont ((.slice Aa la.length ca), (.slice Ac lc.length cc), q, Aq, cq, z, Az, cz, W4.heap.size, u1.heap.size) _ hj6.fin
        · refine value_ (v := .pointer (some ⟨W4.heap.size + 1, 0, none⟩)) (w1 := ((W4.alloc (.cells #[.int .i64 0, .int .i64 0, .int .i64 0, .int .i64 0, .slice none 0 0] 24)).alloc (.cells #[.int .i64 0, .int .i64 0, .int .i64 0, .int .i64 0, .slice none 0 0] 24))) (by rfl) rfl (by go_simp) ?_
          have hj2 := hj1.z (W4.heap.size + 1) (by simp)
          refine hK.out _ _ (hS _ hj2.below) (fun _ => ?_)
          clear hK K
          refine norm_ (a' := ?_) ?_ ?_
          rotate_left
          · simp only [Act.put, List.setIfInBounds_toArray, List.set_cons_zero, List.set_cons_succ]
            rfl
          refine one_ (i := 4) (N := some 56) #[true, true, true, true, true, false, true, true, true, true, false, false, true, true, false, false] rfl rfl (by kernel_rfl) (by decide) (fun K hK => ?_)
          · refine goes_ Tryd.func17 (by kernel_rfl) rfl #[.int .i64 x.N, .slice Bo mo co] (by rfl) rfl rfl (by simp [Act.eval]) ?_
            refine (shuf_calls _ x.N hN Bo mo co (HBO4.out.below hj2.below)).mono ?_
            rintro e u2 ⟨va, la, he, ho, hsa, hB⟩
            obtain ⟨Aa, ca, hv, _, hra⟩ := ho.read
            subst hv
            have hj3 := (hj2.later hB).a Aa la hsa hra
            clear ho hB
            refine ⟨_, he, hK.out _ _ (hS _ hj3.below) (fun _ => ?_)⟩
            clear he
            clear hK K
            refine norm_ (a' := ?_) ?_ ?_
            rotate_left
            · simp only [Act.put, List.setIfInBounds_toArray, List.set_cons_zero, List.set_cons_succ]
              rfl
            refine one_ (i := 5) (N := some 57) #[true, true, true, true, true, true, true, true, true, true, false, false, true, true, false, false] rfl rfl (by kernel_rfl) (by decide) (fun K hK => ?_)
            · refine goes_ Tryd.func16 (by kernel_rfl) rfl #[(.agg #[.int .i64 x.N, .int .i64 x.start, .int .i64 x.inp, .int .i64 x.out, .slice A x.mvs.length c]), .slice Aa la.length ca] (by rfl) rfl rfl (by simp [Act.eval]) ?_
              refine (moved_calls _ x hx A c (P4.out.rx.below hj3.below) la hsa Aa ca (hj3.ar _ _ rfl)).mono ?_
              rintro e u3 ⟨q, Aq, cq, he, hmq, hrq, htq, hB⟩
              unfold rxV at he
              have hj4 := (hj3.later hB).b q Aq la hsa hmq hrq (fun ad ha => htq ad ha)
              clear hB
              refine ⟨_, he, hK.out _ _ (hS _ hj4.below) (fun _ => ?_)⟩
              clear he
              clear hK K
              refine norm_ (a' := ?_) ?_ ?_
              rotate_left
              · simp only [Act.put, List.setIfInBounds_toArray, List.set_cons_zero, List.set_cons_succ]
                rfl
              refine one_ (i := 10) (N := some 62) #[true, true, true, true, true, true, true, true, true, true, true, false, true, true, false, false] rfl rfl (by kernel_rfl) (by decide) (fun K hK => ?_)
              · refine goes_ Tryd.func17 (by kernel_rfl) rfl #[.int .i64 y.N, .slice Bk n ck] (by rfl) rfl rfl (by simp [Act.eval]) ?_
                refine (shuf_calls _ y.N hN' Bk n ck (HBK4.out.below hj4.below)).mono ?_
                rintro e u4 ⟨vc, lc, he, ho, hsc, hB⟩
                obtain ⟨Ac, cc, hv, _, hrc⟩ := ho.read
                subst hv
                have hj5 := (hj4.later hB).c Ac lc hsc hrc
                clear ho hB
                refine ⟨_, he, hK.out _ _ (hS _ hj5.below) (fun _ => ?_)⟩
                clear he
                clear hK K
                refine norm_ (a' := ?_) ?_ ?_
                rotate_left
                · simp only [Act.put, List.setIfInBounds_toArray, List.set_cons_zero, List.set_cons_succ]
                  rfl
                refine one_ (i := 11) (N := some 63) #[true, true, true, true, true, true, true, true, true, true, true, true, true, true, false, false] rfl rfl (by kernel_rfl) (by decide) (fun K hK => ?_)
                · refine goes_ Tryd.func16 (by kernel_rfl) rfl #[(.agg #[.int .i64 y.N, .int .i64 y.start, .int .i64 y.inp, .int .i64 y.out, .slice A' y.mvs.length c']), .slice Ac lc.length cc] (by rfl) rfl rfl (by simp [Act.eval]) ?_
                  refine (moved_calls _ y hy A' c' (P4.out.ry.below hj5.below) lc hsc Ac cc (hj5.cr _ _ rfl)).mono ?_
                  rintro e u5 ⟨z, Az, cz, he, hmz, hrz, htz, hB⟩
                  unfold rxV at he
                  have hj6 := (hj5.later hB).d z Az lc hsc hmz hrz (fun ad ha => htz ad ha)
                  clear hB
                  refine ⟨_, he, hK.out _ _ (hS _ hj6.below) (fun _ => ?_)⟩
                  clear he
                  clear hK K
                  refine norm_ (a' := ?_) ?_ ?_
                  rotate_left
                  · simp only [Act.put, List.setIfInBounds_toArray, List.set_cons_zero, List.set_cons_succ]
                    rfl
                  exact hcont ((.slice Aa la.length ca), (.slice Ac lc.length cc), q, Aq, cq, z, Az, cz, W4.heap.size, (W4.heap.size + 1)) _ hj6.fin
      · refine value_ (v := .pointer (some ⟨W4.heap.size, 0, none⟩)) (w1 := (W4.alloc (.cells #[.int .i64 0, .int .i64 0, .int .i64 0, .int .i64 0, .slice none 0 0] 24))) (by rfl) rfl (by go_simp) ?_
        have hj1 := hj0.z (W4.heap.size) (by simp)
        refine hK.out _ _ (hS _ hj1.below) (fun _ => ?_)
        clear hK K
        refine norm_ (a' := ?_) ?_ ?_
        rotate_left
        · simp only [Act.put, List.setIfInBounds_toArray, List.set_cons_zero, List.set_cons_succ]
          rfl
        refine two_ (i := 4) (j := 12) (Ni := some 56) (Nj := some 9) #[true, true, true, true, true, false, true, true, true, true, false, false, false, true, false, false] #[true, true, true, true, false, false, true, true, true, true, false, false, true, true, false, false] rfl rfl rfl rfl (by kernel_rfl) (by decide) (by decide) (fun K hK => ?_) (fun K hK => ?_)
        · refine goes_ Tryd.func17 (by kernel_rfl) rfl #[.int .i64 x.N, .slice Bo mo co] (by rfl) rfl rfl (by simp [Act.eval]) ?_
          refine (shuf_calls _ x.N hN Bo mo co (HBO4.out.below hj1.below)).mono ?_
          rintro e u1 ⟨va, la, he, ho, hsa, hB⟩
          obtain ⟨Aa, ca, hv, _, hra⟩ := ho.read
          subst hv
          have hj2 := (hj1.later hB).a Aa la hsa hra
          clear ho hB
          refine ⟨_, he, hK.out _ _ (hS _ hj2.below) (fun _ => ?_)⟩
          clear he
          clear hK K
          refine norm_ (a' := ?_) ?_ ?_
          rotate_left
          · simp only [Act.put, List.setIfInBounds_toArray, List.set_cons_zero, List.set_cons_succ]
            rfl
          refine two_ (i := 5) (j := 12) (Ni := some 57) (Nj := some 9) #[true, true, true, true, true, true, true, true, true, true, false, false, false, true, false, false] #[true, true, true, true, true, false, true, true, true, true, false, false, true, true, false, false] rfl rfl rfl rfl (by kernel_rfl) (by decide) (by decide) (fun K hK => ?_) (fun K hK => ?_)
          · refine goes_ Tryd.func16 (by kernel_rfl) rfl #[(.agg #[.int .i64 x.N, .int .i64 x.start, .int .i64 x.inp, .int .i64 x.out, .slice A x.mvs.length c]), .slice Aa la.length ca] (by rfl) rfl rfl (by simp [Act.eval]) ?_
            refine (moved_calls _ x hx A c (P4.out.rx.below hj2.below) la hsa Aa ca (hj2.ar _ _ rfl)).mono ?_
            rintro e u2 ⟨q, Aq, cq, he, hmq, hrq, htq, hB⟩
            unfold rxV at he
            have hj3 := (hj2.later hB).b q Aq la hsa hmq hrq (fun ad ha => htq ad ha)
            clear hB
            refine ⟨_, he, hK.out _ _ (hS _ hj3.below) (fun _ => ?_)⟩
            clear he
            clear hK K
            refine norm_ (a' := ?_) ?_ ?_
            rotate_left
            · simp only [Act.put, List.setIfInBounds_toArray, List.set_cons_zero, List.set_cons_succ]
              rfl
            refine two_ (i := 10) (j := 12) (Ni := some 62) (Nj := some 9) #[true, true, true, true, true, true, true, true, true, true, true, false, false, true, false, false] #[true, true, true, true, true, true, true, true, true, true, false, false, true, true, false, false] rfl rfl rfl rfl (by kernel_rfl) (by decide) (by decide) (fun K hK => ?_) (fun K hK => ?_)
            · refine goes_ Tryd.func17 (by kernel_rfl) rfl #[.int .i64 y.N, .slice Bk n ck] (by rfl) rfl rfl (by simp [Act.eval]) ?_
              refine (shuf_calls _ y.N hN' Bk n ck (HBK4.out.below hj3.below)).mono ?_
              rintro e u3 ⟨vc, lc, he, ho, hsc, hB⟩
              obtain ⟨Ac, cc, hv, _, hrc⟩ := ho.read
              subst hv
              have hj4 := (hj3.later hB).c Ac lc hsc hrc
              clear ho hB
              refine ⟨_, he, hK.out _ _ (hS _ hj4.below) (fun _ => ?_)⟩
              clear he
              clear hK K
              refine norm_ (a' := ?_) ?_ ?_
              rotate_left
              · simp only [Act.put, List.setIfInBounds_toArray, List.set_cons_zero, List.set_cons_succ]
                rfl
              refine two_ (i := 11) (j := 12) (Ni := some 63) (Nj := some 9) #[true, true, true, true, true, true, true, true, true, true, true, true, false, true, false, false] #[true, true, true, true, true, true, true, true, true, true, true, false, true, true, false, false] rfl rfl rfl rfl (by kernel_rfl) (by decide) (by decide) (fun K hK => ?_) (fun K hK => ?_)
              · refine goes_ Tryd.func16 (by kernel_rfl) rfl #[(.agg #[.int .i64 y.N, .int .i64 y.start, .int .i64 y.inp, .int .i64 y.out, .slice A' y.mvs.length c']), .slice Ac lc.length cc] (by rfl) rfl rfl (by simp [Act.eval]) ?_
                refine (moved_calls _ y hy A' c' (P4.out.ry.below hj4.below) lc hsc Ac cc (hj4.cr _ _ rfl)).mono ?_
                rintro e u4 ⟨z, Az, cz, he, hmz, hrz, htz, hB⟩
                unfold rxV at he
                have hj5 := (hj4.later hB).d z Az lc hsc hmz hrz (fun ad ha => htz ad ha)
                clear hB
                refine ⟨_, he, hK.out _ _ (hS _ hj5.below) (fun _ => ?_)⟩
                clear he
                clear hK K
                refine norm_ (a' := ?_) ?_ ?_
                rotate_left
                · simp only [Act.put, List.setIfInBounds_toArray, List.set_cons_zero, List.set_cons_succ]
                  rfl
                refine one_ (i := 12) (N := some 9) #[true, true, true, true, true, true, true, true, true, true, true, true, true, true, false, false] rfl rfl (by kernel_rfl) (by decide) (fun K hK => ?_)
                · refine value_ (v := .pointer (some ⟨u4.heap.size, 0, none⟩)) (w1 := (u4.alloc (.cells #[.int .i64 0, .int .i64 0, .int .i64 0, .int .i64 0, .slice none 0 0] 24))) (by rfl) rfl (by go_simp) ?_
                  have hj6 := hj5.q (u4.heap.size) (by simp)
                  refine hK.out _ _ (hS _ hj6.below) (fun _ => ?_)
                  clear hK K
                  refine norm_ (a' := ?_) ?_ ?_
                  rotate_left
                  · simp only [Act.put, List.setIfInBounds_toArray, List.set_cons_zero, List.set_cons_succ]
                    rfl
                  exact hcont ((.slice Aa la.length ca), (.slice Ac lc.length cc), q, Aq, cq, z, Az, cz, u4.heap.size, W4.heap.size) _ hj6.fin
              · refine value_ (v := .pointer (some ⟨u3.heap.size, 0, none⟩)) (w1 := (u3.alloc (.cells #[.int .i64 0, .int .i64 0, .int .i64 0, .int .i64 0, .slice none 0 0] 24))) (by rfl) rfl (by go_simp) ?_
                have hj5 := hj4.q (u3.heap.size) (by simp)
                refine hK.out _ _ (hS _ hj5.below) (fun _ => ?_)
                clear hK K
                refine norm_ (a' := ?_) ?_ ?_
                rotate_left
                · simp only [Act.put, List.setIfInBounds_toArray, List.set_cons_zero, List.set_cons_succ]
                  rfl
                refine one_ (i := 11) (N := some 63) #[true, true, true, true, true, true, true, true, true, true, true, true, true, true, false, false] rfl rfl (by kernel_rfl) (by decide) (fun K hK => ?_)
                · refine goes_ Tryd.func16 (by kernel_rfl) rfl #[(.agg #[.int .i64 y.N, .int .i64 y.start, .int .i64 y.inp, .int .i64 y.out, .slice A' y.mvs.length c']), .slice Ac lc.length cc] (by rfl) rfl rfl (by simp [Act.eval]) ?_
                  refine (moved_calls _ y hy A' c' (P4.out.ry.below hj5.below) lc hsc Ac cc (hj5.cr _ _ rfl)).mono ?_
                  rintro e u5 ⟨z, Az, cz, he, hmz, hrz, htz, hB⟩
                  unfold rxV at he
                  have hj6 := (hj5.later hB).d z Az lc hsc hmz hrz (fun ad ha => htz ad ha)
                  clear hB
                  refine ⟨_, he, hK.out _ _ (hS _ hj6.below) (fun _ => ?_)⟩
                  clear he
                  clear hK K
                  refine norm_ (a' := ?_) ?_ ?_
                  rotate_left
                  · simp only [Act.put, List.setIfInBounds_toArray, List.set_cons_zero, List.set_cons_succ]
                    rfl
                  exact hcont ((.slice Aa la.length ca), (.slice Ac lc.length cc), q, Aq, cq, z, Az, cz, u3.heap.size, W4.heap.size) _ hj6.fin
            · refine value_ (v := .pointer (some ⟨u2.heap.size, 0, none⟩)) (w1 := (u2.alloc (.cells #[.int .i64 0, .int .i64 0, .int .i64 0, .int .i64 0, .slice none 0 0] 24))) (by rfl) rfl (by go_simp) ?_
              have hj4 := hj3.q (u2.heap.size) (by simp)
              refine hK.out _ _ (hS _ hj4.below) (fun _ => ?_)
              clear hK K
              refine norm_ (a' := ?_) ?_ ?_
              rotate_left
              · simp only [Act.put, List.setIfInBounds_toArray, List.set_cons_zero, List.set_cons_succ]
                rfl
              refine one_ (i := 10) (N := some 62) #[true, true, true, true, true, true, true, true, true, true, true, false, true, true, false, false] rfl rfl (by kernel_rfl) (by decide) (fun K hK => ?_)
              · refine goes_ Tryd.func17 (by kernel_rfl) rfl #[.int .i64 y.N, .slice Bk n ck] (by rfl) rfl rfl (by simp [Act.eval]) ?_
                refine (shuf_calls _ y.N hN' Bk n ck (HBK4.out.below hj4.below)).mono ?_
                rintro e u4 ⟨vc, lc, he, ho, hsc, hB⟩
                obtain ⟨Ac, cc, hv, _, hrc⟩ := ho.read
                subst hv
                have hj5 := (hj4.later hB).c Ac lc hsc hrc
                clear ho hB
                refine ⟨_, he, hK.out _ _ (hS _ hj5.below) (fun _ => ?_)⟩
                clear he
                clear hK K
                refine norm_ (a' := ?_) ?_ ?_
                rotate_left
                · simp only [Act.put, List.setIfInBounds_toArray, List.set_cons_zero, List.set_cons_succ]
                  rfl
                refine one_ (i := 11) (N := some 63) #[true, true, true, true, true, true, true, true, true, true, true, true, true, true, false, false] rfl rfl (by kernel_rfl) (by decide) (fun K hK => ?_)
                · refine goes_ Tryd.func16 (by kernel_rfl) rfl #[(.agg #[.int .i64 y.N, .int .i64 y.start, .int .i64 y.inp, .int .i64 y.out, .slice A' y.mvs.length c']), .slice Ac lc.length cc] (by rfl) rfl rfl (by simp [Act.eval]) ?_
                  refine (moved_calls _ y hy A' c' (P4.out.ry.below hj5.below) lc hsc Ac cc (hj5.cr _ _ rfl)).mono ?_
                  rintro e u5 ⟨z, Az, cz, he, hmz, hrz, htz, hB⟩
                  unfold rxV at he
                  have hj6 := (hj5.later hB).d z Az lc hsc hmz hrz (fun ad ha => htz ad ha)
                  clear hB
                  refine ⟨_, he, hK.out _ _ (hS _ hj6.below) (fun _ => ?_)⟩
                  clear he
                  clear hK K
                  refine norm_ (a' := ?_) ?_ ?_
                  rotate_left
                  · simp only [Act.put, List.setIfInBounds_toArray, List.set_cons_zero, List.set_cons_succ]
                    rfl
                  exact hcont ((.slice Aa la.length ca), (.slice Ac lc.length cc), q, Aq, cq, z, Az, cz, u2.heap.size, W4.heap.size) _ hj6.fin
          · refine value_ (v := .pointer (some ⟨u1.heap.size, 0, none⟩)) (w1 := (u1.alloc (.cells #[.int .i64 0, .int .i64 0, .int .i64 0, .int .i64 0, .slice none 0 0] 24))) (by rfl) rfl (by go_simp) ?_
            have hj3 := hj2.q (u1.heap.size) (by simp)
            refine hK.out _ _ (hS _ hj3.below) (fun _ => ?_)
            clear hK K
            refine norm_ (a' := ?_) ?_ ?_
            rotate_left
            · simp only [Act.put, List.setIfInBounds_toArray, List.set_cons_zero, List.set_cons_succ]
              rfl
            refine one_ (i := 5) (N := some 57) #[true, true, true, true, true, true, true, true, true, true, false, false, true, true, false, false] rfl rfl (by kernel_rfl) (by decide) (fun K hK => ?_)
            · refine goes_ Tryd.func16 (by kernel_rfl) rfl #[(.agg #[.int .i64 x.N, .int .i64 x.start, .int .i64 x.inp, .int .i64 x.out, .slice A x.mvs.length c]), .slice Aa la.length ca] (by rfl) rfl rfl (by simp [Act.eval]) ?_
              refine (moved_calls _ x hx A c (P4.out.rx.below hj3.below) la hsa Aa ca (hj3.ar _ _ rfl)).mono ?_
              rintro e u3 ⟨q, Aq, cq, he, hmq, hrq, htq, hB⟩
              unfold rxV at he
              have hj4 := (hj3.later hB).b q Aq la hsa hmq hrq (fun ad ha => htq ad ha)
              clear hB
              refine ⟨_, he, hK.out _ _ (hS _ hj4.below) (fun _ => ?_)⟩
              clear he
              clear hK K
              refine norm_ (a' := ?_) ?_ ?_
              rotate_left
              · simp only [Act.put, List.setIfInBounds_toArray, List.set_cons_zero, List.set_cons_succ]
                rfl
              refine one_ (i := 10) (N := some 62) #[true, true, true, true, true, true, true, true, true, true, true, false, true, true, false, false] rfl rfl (by kernel_rfl) (by decide) (fun K hK => ?_)
              · refine goes_ Tryd.func17 (by kernel_rfl) rfl #[.int .i64 y.N, .slice Bk n ck] (by rfl) rfl rfl (by simp [Act.eval]) ?_
                refine (shuf_calls _ y.N hN' Bk n ck (HBK4.out.below hj4.below)).mono ?_
                rintro e u4 ⟨vc, lc, he, ho, hsc, hB⟩
                obtain ⟨Ac, cc, hv, _, hrc⟩ := ho.read
                subst hv
                have hj5 := (hj4.later hB).c Ac lc hsc hrc
                clear ho hB
                refine ⟨_, he, hK.out _ _ (hS _ hj5.below) (fun _ => ?_)⟩
                clear he
                clear hK K
                refine norm_ (a' := ?_) ?_ ?_
                rotate_left
                · simp only [Act.put, List.setIfInBounds_toArray, List.set_cons_zero, List.set_cons_succ]
                  rfl
                refine one_ (i := 11) (N := some 63) #[true, true, true, true, true, true, true, true, true, true, true, true, true, true, false, false] rfl rfl (by kernel_rfl) (by decide) (fun K hK => ?_)
                · refine goes_ Tryd.func16 (by kernel_rfl) rfl #[(.agg #[.int .i64 y.N, .int .i64 y.start, .int .i64 y.inp, .int .i64 y.out, .slice A' y.mvs.length c']), .slice Ac lc.length cc] (by rfl) rfl rfl (by simp [Act.eval]) ?_
                  refine (moved_calls _ y hy A' c' (P4.out.ry.below hj5.below) lc hsc Ac cc (hj5.cr _ _ rfl)).mono ?_
                  rintro e u5 ⟨z, Az, cz, he, hmz, hrz, htz, hB⟩
                  unfold rxV at he
                  have hj6 := (hj5.later hB).d z Az lc hsc hmz hrz (fun ad ha => htz ad ha)
                  clear hB
                  refine ⟨_, he, hK.out _ _ (hS _ hj6.below) (fun _ => ?_)⟩
                  clear he
                  clear hK K
                  refine norm_ (a' := ?_) ?_ ?_
                  rotate_left
                  · simp only [Act.put, List.setIfInBounds_toArray, List.set_cons_zero, List.set_cons_succ]
                    rfl
                  exact hcont ((.slice Aa la.length ca), (.slice Ac lc.length cc), q, Aq, cq, z, Az, cz, u1.heap.size, W4.heap.size) _ hj6.fin
        · refine value_ (v := .pointer (some ⟨W4.heap.size + 1, 0, none⟩)) (w1 := ((W4.alloc (.cells #[.int .i64 0, .int .i64 0, .int .i64 0, .int .i64 0, .slice none 0 0] 24)).alloc (.cells #[.int .i64 0, .int .i64 0, .int .i64 0, .int .i64 0, .slice none 0 0] 24))) (by rfl) rfl (by go_simp) ?_
          have hj2 := hj1.q (W4.heap.size + 1) (by simp)
          refine hK.out _ _ (hS _ hj2.below) (fun _ => ?_)
          clear hK K
          refine norm_ (a' := ?_) ?_ ?_
          rotate_left
          · simp only [Act.put, List.setIfInBounds_toArray, List.set_cons_zero, List.set_cons_succ]
            rfl
          refine one_ (i := 4) (N := some 56) #[true, true, true, true, true, false, true, true, true, true, false, false, true, true, false, false] rfl rfl (by kernel_rfl) (by decide) (fun K hK => ?_)
          · refine goes_ Tryd.func17 (by kernel_rfl) rfl #[.int .i64 x.N, .slice Bo mo co] (by rfl) rfl rfl (by simp [Act.eval]) ?_
            refine (shuf_calls _ x.N hN Bo mo co (HBO4.out.below hj2.below)).mono ?_
            rintro e u2 ⟨va, la, he, ho, hsa, hB⟩
            obtain ⟨Aa, ca, hv, _, hra⟩ := ho.read
            subst hv
            have hj3 := (hj2.later hB).a Aa la hsa hra
            clear ho hB
            refine ⟨_, he, hK.out _ _ (hS _ hj3.below) (fun _ => ?_)⟩
            clear he
            clear hK K
            refine norm_ (a' := ?_) ?_ ?_
            rotate_left
            · simp only [Act.put, List.setIfInBounds_toArray, List.set_cons_zero, List.set_cons_succ]
              rfl
            refine one_ (i := 5) (N := some 57) #[true, true, true, true, true, true, true, true, true, true, false, false, true, true, false, false] rfl rfl (by kernel_rfl) (by decide) (fun K hK => ?_)
            · refine goes_ Tryd.func16 (by kernel_rfl) rfl #[(.agg #[.int .i64 x.N, .int .i64 x.start, .int .i64 x.inp, .int .i64 x.out, .slice A x.mvs.length c]), .slice Aa la.length ca] (by rfl) rfl rfl (by simp [Act.eval]) ?_
              refine (moved_calls _ x hx A c (P4.out.rx.below hj3.below) la hsa Aa ca (hj3.ar _ _ rfl)).mono ?_
              rintro e u3 ⟨q, Aq, cq, he, hmq, hrq, htq, hB⟩
              unfold rxV at he
              have hj4 := (hj3.later hB).b q Aq la hsa hmq hrq (fun ad ha => htq ad ha)
              clear hB
              refine ⟨_, he, hK.out _ _ (hS _ hj4.below) (fun _ => ?_)⟩
              clear he
              clear hK K
              refine norm_ (a' := ?_) ?_ ?_
              rotate_left
              · simp only [Act.put, List.setIfInBounds_toArray, List.set_cons_zero, List.set_cons_succ]
                rfl
              refine one_ (i := 10) (N := some 62) #[true, true, true, true, true, true, true, true, true, true, true, false, true, true, false, false] rfl rfl (by kernel_rfl) (by decide) (fun K hK => ?_)
              · refine goes_ Tryd.func17 (by kernel_rfl) rfl #[.int .i64 y.N, .slice Bk n ck] (by rfl) rfl rfl (by simp [Act.eval]) ?_
                refine (shuf_calls _ y.N hN' Bk n ck (HBK4.out.below hj4.below)).mono ?_
                rintro e u4 ⟨vc, lc, he, ho, hsc, hB⟩
                obtain ⟨Ac, cc, hv, _, hrc⟩ := ho.read
                subst hv
                have hj5 := (hj4.later hB).c Ac lc hsc hrc
                clear ho hB
                refine ⟨_, he, hK.out _ _ (hS _ hj5.below) (fun _ => ?_)⟩
                clear he
                clear hK K
                refine norm_ (a' := ?_) ?_ ?_
                rotate_left
                · simp only [Act.put, List.setIfInBounds_toArray, List.set_cons_zero, List.set_cons_succ]
                  rfl
                refine one_ (i := 11) (N := some 63) #[true, true, true, true, true, true, true, true, true, true, true, true, true, true, false, false] rfl rfl (by kernel_rfl) (by decide) (fun K hK => ?_)
                · refine goes_ Tryd.func16 (by kernel_rfl) rfl #[(.agg #[.int .i64 y.N, .int .i64 y.start, .int .i64 y.inp, .int .i64 y.out, .slice A' y.mvs.length c']), .slice Ac lc.length cc] (by rfl) rfl rfl (by simp [Act.eval]) ?_
                  refine (moved_calls _ y hy A' c' (P4.out.ry.below hj5.below) lc hsc Ac cc (hj5.cr _ _ rfl)).mono ?_
                  rintro e u5 ⟨z, Az, cz, he, hmz, hrz, htz, hB⟩
                  unfold rxV at he
                  have hj6 := (hj5.later hB).d z Az lc hsc hmz hrz (fun ad ha => htz ad ha)
                  clear hB
                  refine ⟨_, he, hK.out _ _ (hS _ hj6.below) (fun _ => ?_)⟩
                  clear he
                  clear hK K
                  refine norm_ (a' := ?_) ?_ ?_
                  rotate_left
                  · simp only [Act.put, List.setIfInBounds_toArray, List.set_cons_zero, List.set_cons_succ]
                    rfl
                  exact hcont ((.slice Aa la.length ca), (.slice Ac lc.length cc), q, Aq, cq, z, Az, cz, (W4.heap.size + 1), W4.heap.size) _ hj6.fin
    · rintro ⟨va, vc, q, Aq, cq, z, Az, cz, bq, bz⟩ w4 hF
      simp only at hF
      refine norm_ (a' := ?_) ?_ ?_
      rotate_left
      · simp only [putAll, Act.put, List.setIfInBounds_toArray, List.set_cons_zero, List.set_cons_succ]
        rfl
      have HF := Sd.mk hF
      have c0 := cell_blk hF.hq 0
      have c1 := cell_blk hF.hq 1
      have c2 := cell_blk hF.hq 2
      have c3 := cell_blk hF.hq 3
      have c4 := cell_blk hF.hq 4
      have d0 := cell_blk hF.hz 0
      have d1 := cell_blk hF.hz 1
      have d2 := cell_blk hF.hz 2
      have d3 := cell_blk hF.hz 3
      have d4 := cell_blk hF.hz 4
      have f0 := frz hF.hq 0
      have f1 := frz hF.hq 1
      have f2 := frz hF.hq 2
      have f3 := frz hF.hq 3
      have f4 := frz hF.hq 4
      have g0 := frz hF.hz 0
      have g1 := frz hF.hz 1
      have g2 := frz hF.hz 2
      have g3 := frz hF.hz 3
      have g4 := frz hF.hz 4
      have hne := hF.ne
      have hne' := hF.ne.symm
      clear hF hS hHeld
      refine last_ (i := 14) (N := none) #[true, true, true, true, true, true, true, true, true, true, true, true, true, true, true, false] rfl rfl (by kernel_rfl) (by decide) (fun K hK => ?_)
      refine skip_ (w1 := ?_) (by rfl) rfl ?_ ?_
      rotate_left
      · go_simp
        rfl
      refine hK.out _ _ ?_
      clear hK K
      refine last_ (i := 15) (N := none) #[true, true, true, true, true, true, true, true, true, true, true, true, true, true, true, true] rfl rfl (by kernel_rfl) (by decide) (fun K hK => ?_)
      refine skip_ (w1 := ?_) (by rfl) rfl ?_ ?_
      rotate_left
      · go_simp
        rfl
      refine hK.out _ _ ?_
      clear hK K
      refine done_ (by kernel_rfl) ?_
      go_wp2_with fail
      go_meet
      obtain ⟨tl, hs1, hm1⟩ := HF.out.mq
      obtain ⟨ul, hs2, hm2⟩ := HF.out.mz
      exact ⟨q, z, tl, ul, Aq, Az, cq, cz, bq, bz, rfl, rfl, ⟨⟨⟨hx, hs1, hm1⟩, ⟨hy, hs2, hm2⟩, HIO.out⟩⟩, ⟨rat_of P4.out HF.out⟩⟩
  case rest =>
  obtain ⟨W4, hW4⟩ : ∃ W : World, W = wc := ⟨wc, rfl⟩
  subst hW4
  obtain ⟨q, z, tl, ul, Aq, Az, cq, cz, bq, bz, rfl, rfl, HN2, P4⟩ := hcut
  clear HBK P3
  obtain ⟨x0, x1, x2, x3, x4, q0, q1, q2, q3, q4⟩ := (two_boxes (w := w) P4.out.bx P4.out.bq P4.out.below).2.2.2
  have hq := HN2.out.a.ok'
  have hz := HN2.out.b.ok'
  obtain ⟨rc, hrc⟩ : ∃ rc, rc = recCode (sysOf x) := ⟨_, rfl⟩
  have RX := Sd.mk (fun w' (hT : Tab w') (A : Option Addr) (c : Nat) (hr : RdM w' A x.mvs) => recept_calls w' hT x hx A c hr)
  have RQ := Sd.mk (fun w' (hT : Tab w') (A : Option Addr) (c : Nat) (hr : RdM w' A q.mvs) => recept_calls w' hT q hq A c hr)
  unfold RecPost at RX RQ
  rw [HN2.out.a.code] at RQ
  rw [← hrc] at RX RQ
  clear hrc
  go_upto_region 15 with (first | (go_at_call_of 8 (Value.agg #[Value.int IntKind.i64 x.N, Value.int IntKind.i64 x.start, Value.int IntKind.i64 x.inp, Value.int IntKind.i64 x.out, Value.slice A x.mvs.length c]); refine (own_calls _ x hx A c P4.out.rx).mono ?_; rintro e wa ⟨Aa, ca, rfl, ra, hBa⟩; have PA := Sd.mk (P4.out.later hBa); have RA := Sd.mk ra; clear hBa ra) | (go_at_call_of 18 (rxV x Aa ca); refine (RX.out _ PA.out.tb Aa ca RA.out).mono ?_; rintro e wb ⟨ea, en, rfl, hBb⟩; have PB := Sd.mk (PA.out.later hBb); obtain ⟨-, -, -, -, -, s0, s1, s2, s3, s4⟩ := (two_boxes (w := w) PB.out.bx PB.out.bq PB.out.below).2.2.2; clear hBb) | (go_at_call_of 8 (Value.agg #[Value.int IntKind.i64 q.N, Value.int IntKind.i64 q.start, Value.int IntKind.i64 q.inp, Value.int IntKind.i64 q.out, Value.slice Aq q.mvs.length cq]); refine (own_calls _ q hq Aq cq PB.out.rq).mono ?_; rintro e wd ⟨Ad, cd, rfl, rd, hBd⟩; have PD := Sd.mk (PB.out.later hBd); have RD := Sd.mk rd; clear hBd rd) | (go_at_call_of 18 (rxV q Ad cd); refine (RQ.out _ PD.out.tb Ad cd RD.out).mono ?_; rintro e we ⟨eb, em, rfl, hBe⟩; have PE := Sd.mk (PD.out.later hBe); clear hBe) | fail)
  clear x0 x1 x2 x3 x4 q0 q1 q2 q3 q4 s0 s1 s2 s3 s4 RX RQ RA RD
  have HIO2 : Sd (q.inp = z.inp ∧ q.out = z.out) := ⟨by rw [HN2.out.a.mv.inp, HN2.out.b.mv.inp, HN2.out.a.mv.out, HN2.out.b.mv.out]; exact HIO.out⟩
  have HSK := Sd.mk HN2.out.seek
  rcases hs : (seekS x y).1 with _ | tr
  · have HS := Sd.mk hs
    have HS2 : Sd ((seekS q z).1 = none) := ⟨HSK.out.1.trans hs⟩
    clear hs
    have K0 := Sd.mk (two_boxes (w := w) PE.out.drew.bx PE.out.drew.bY PE.out.drew.below)
    go_region_held3 (fun wx => wx.heap[w.heap.size]? = some (.cells #[.int .i64 x.N, .int .i64 x.start, .int .i64 x.inp, .int .i64 x.out, .slice A x.mvs.length c] 24 (0, 0)) ∧ wx.heap[w.heap.size + 1]? = some (.cells #[.int .i64 y.N, .int .i64 y.start, .int .i64 y.inp, .int .i64 y.out, .slice A' y.mvs.length c'] 24 (0, 0)) ∧ Below w.heap.size w wx ∧ wx.cell? ⟨w.heap.size, 0, none⟩ = some (.int .i64 x.N) ∧ wx.cell? ⟨w.heap.size, 1, none⟩ = some (.int .i64 x.start) ∧ wx.cell? ⟨w.heap.size, 2, none⟩ = some (.int .i64 x.inp) ∧ wx.cell? ⟨w.heap.size, 3, none⟩ = some (.int .i64 x.out) ∧ wx.cell? ⟨w.heap.size, 4, none⟩ = some (.slice A x.mvs.length c) ∧ wx.cell? ⟨w.heap.size + 1, 0, none⟩ = some (.int .i64 y.N) ∧ wx.cell? ⟨w.heap.size + 1, 1, none⟩ = some (.int .i64 y.start) ∧ wx.cell? ⟨w.heap.size + 1, 2, none⟩ = some (.int .i64 y.inp) ∧ wx.cell? ⟨w.heap.size + 1, 3, none⟩ = some (.int .i64 y.out) ∧ wx.cell? ⟨w.heap.size + 1, 4, none⟩ = some (.slice A' y.mvs.length c'))
      (first | exact K0.out | (go_split_ands; exact two_kept (by assumption) (by assumption) (by assumption) (by assumption)) | fail)
      (first | (go_at_call_of 8 (Value.agg #[Value.int IntKind.i64 x.N, Value.int IntKind.i64 x.start, Value.int IntKind.i64 x.inp, Value.int IntKind.i64 x.out, Value.slice A x.mvs.length c]); refine (own_calls we.drew x hx A c PE.out.drew.rx).mono ?_; rintro e wa1 ⟨Aa1, ca1, rfl, ra1, hBa1⟩) | (go_at_call_of 8 (Value.agg #[Value.int IntKind.i64 y.N, Value.int IntKind.i64 y.start, Value.int IntKind.i64 y.inp, Value.int IntKind.i64 y.out, Value.slice A' y.mvs.length c']); refine (own_calls wa1 y hy A' c' (PE.out.drew.ry.below hBa1)).mono ?_; rintro e wb1 ⟨Ab1, cb1, rfl, rb1, hBb1⟩) | (go_at_call 7; refine (conf_none wb1 ((PE.out.drew.tb.below hBa1).below hBb1) x y hx hy HIO.out Aa1 Ab1 ca1 cb1 (ra1.below hBb1) rb1 HS.out).mono ?_; rintro e wc1 ⟨rfl, hBc⟩) | fail)
    have PF := Sd.mk (((PE.out.drew.later hBa1).later hBb1).later hBc)
    clear hBa1 hBb1 hBc ra1 rb1 K0
    go_wp2_with fail
    have K0 := Sd.mk (two_boxes (w := w) PF.out.drew.bq PF.out.drew.bz PF.out.drew.below)
    go_region_held3 (fun wx => wx.heap[bq]? = some (.cells #[.int .i64 q.N, .int .i64 q.start, .int .i64 q.inp, .int .i64 q.out, .slice Aq q.mvs.length cq] 24 (0, 0)) ∧ wx.heap[bz]? = some (.cells #[.int .i64 z.N, .int .i64 z.start, .int .i64 z.inp, .int .i64 z.out, .slice Az z.mvs.length cz] 24 (0, 0)) ∧ Below w.heap.size w wx ∧ wx.cell? ⟨bq, 0, none⟩ = some (.int .i64 q.N) ∧ wx.cell? ⟨bq, 1, none⟩ = some (.int .i64 q.start) ∧ wx.cell? ⟨bq, 2, none⟩ = some (.int .i64 q.inp) ∧ wx.cell? ⟨bq, 3, none⟩ = some (.int .i64 q.out) ∧ wx.cell? ⟨bq, 4, none⟩ = some (.slice Aq q.mvs.length cq) ∧ wx.cell? ⟨bz, 0, none⟩ = some (.int .i64 z.N) ∧ wx.cell? ⟨bz, 1, none⟩ = some (.int .i64 z.start) ∧ wx.cell? ⟨bz, 2, none⟩ = some (.int .i64 z.inp) ∧ wx.cell? ⟨bz, 3, none⟩ = some (.int .i64 z.out) ∧ wx.cell? ⟨bz, 4, none⟩ = some (.slice Az z.mvs.length cz))
      (first | exact K0.out | (go_split_ands; exact two_kept (by assumption) (by assumption) (by assumption) (by assumption)) | fail)
      (first | (go_at_call_of 8 (Value.agg #[Value.int IntKind.i64 q.N, Value.int IntKind.i64 q.start, Value.int IntKind.i64 q.inp, Value.int IntKind.i64 q.out, Value.slice Aq q.mvs.length cq]); refine (own_calls wc1.drew q hq Aq cq PF.out.drew.rq).mono ?_; rintro e wa2 ⟨Aa2, ca2, rfl, ra2, hBa2⟩) | (go_at_call_of 8 (Value.agg #[Value.int IntKind.i64 z.N, Value.int IntKind.i64 z.start, Value.int IntKind.i64 z.inp, Value.int IntKind.i64 z.out, Value.slice Az z.mvs.length cz]); refine (own_calls wa2 z hz Az cz (PF.out.drew.rz.below hBa2)).mono ?_; rintro e wb2 ⟨Ab2, cb2, rfl, rb2, hBb2⟩) | (go_at_call 7; refine (conf_none wb2 ((PF.out.drew.tb.below hBa2).below hBb2) q z hq hz HIO2.out Aa2 Ab2 ca2 cb2 (ra2.below hBb2) rb2 HS2.out).mono ?_; rintro e wc2 ⟨rfl, hBc⟩) | fail)
    have PG := Sd.mk (((PF.out.drew.later hBa2).later hBb2).later hBc)
    clear hBa2 hBb2 hBc ra2 rb2 K0
    have SN := Sd.mk (fun W => same_calls W none none 0 0 [] [] (by simp) (by simp) (fun i hi => by simp at hi) (fun i hi => by simp at hi))
    go_upto_region 19 with (first | (go_at_call 19; refine (SN.out _).mono ?_; rintro e wf ⟨rfl, hBf⟩; have PH := Sd.mk (PG.out.later hBf); clear hBf) | fail)
    by_cases hl : (seekS x y).2.1.length ≤ 300
    · have RN1 := Sd.mk (fun w' (hT : Tab w') (A A' : Option Addr) (c c' : Nat) (hr : RdM w' A x.mvs) (hr' : RdM w' A' y.mvs) => (rel_none w' hT x y hx hy HIO.out A A' c c' hr hr' HS.out hl).mono (R' := fun e w'' => ∃ g cg, e = .returned (.tuple #[.slice (some ⟨g, 0, none⟩) (seekS x y).2.1.length cg, .int .i64 0]) ∧ Below w'.heap.size w' w'') fun e w'' ⟨g, cg, h1, _, h3⟩ => ⟨g, cg, h1, h3⟩)
      have RN2 := Sd.mk (fun w' (hT : Tab w') (A A' : Option Addr) (c c' : Nat) (hr : RdM w' A q.mvs) (hr' : RdM w' A' z.mvs) => (rel_none w' hT q z hq hz HIO2.out A A' c c' hr hr' HS2.out (by rw [HSK.out.2]; exact hl)).mono (R' := fun e w'' => ∃ g cg, e = .returned (.tuple #[.slice (some ⟨g, 0, none⟩) (seekS x y).2.1.length cg, .int .i64 0]) ∧ Below w'.heap.size w' w'') fun e w'' ⟨g, cg, h1, _, h3⟩ => ⟨g, cg, by rw [← HSK.out.2]; exact h1, h3⟩)
      clear hl
      generalize (seekS x y).2.1.length = n0 at RN1 RN2
      have K0 := Sd.mk (two_boxes (w := w) PH.out.drew.bx PH.out.drew.bY PH.out.drew.below)
      go_region_held3 (fun wx => wx.heap[w.heap.size]? = some (.cells #[.int .i64 x.N, .int .i64 x.start, .int .i64 x.inp, .int .i64 x.out, .slice A x.mvs.length c] 24 (0, 0)) ∧ wx.heap[w.heap.size + 1]? = some (.cells #[.int .i64 y.N, .int .i64 y.start, .int .i64 y.inp, .int .i64 y.out, .slice A' y.mvs.length c'] 24 (0, 0)) ∧ Below w.heap.size w wx ∧ wx.cell? ⟨w.heap.size, 0, none⟩ = some (.int .i64 x.N) ∧ wx.cell? ⟨w.heap.size, 1, none⟩ = some (.int .i64 x.start) ∧ wx.cell? ⟨w.heap.size, 2, none⟩ = some (.int .i64 x.inp) ∧ wx.cell? ⟨w.heap.size, 3, none⟩ = some (.int .i64 x.out) ∧ wx.cell? ⟨w.heap.size, 4, none⟩ = some (.slice A x.mvs.length c) ∧ wx.cell? ⟨w.heap.size + 1, 0, none⟩ = some (.int .i64 y.N) ∧ wx.cell? ⟨w.heap.size + 1, 1, none⟩ = some (.int .i64 y.start) ∧ wx.cell? ⟨w.heap.size + 1, 2, none⟩ = some (.int .i64 y.inp) ∧ wx.cell? ⟨w.heap.size + 1, 3, none⟩ = some (.int .i64 y.out) ∧ wx.cell? ⟨w.heap.size + 1, 4, none⟩ = some (.slice A' y.mvs.length c'))
        (first | exact K0.out | (go_split_ands; exact two_kept (by assumption) (by assumption) (by assumption) (by assumption)) | fail)
        (first | (go_at_call_of 8 (Value.agg #[Value.int IntKind.i64 x.N, Value.int IntKind.i64 x.start, Value.int IntKind.i64 x.inp, Value.int IntKind.i64 x.out, Value.slice A x.mvs.length c]); refine (own_calls wf.drew x hx A c PH.out.drew.rx).mono ?_; rintro e wa3 ⟨Aa3, ca3, rfl, ra3, hBa3⟩) | (go_at_call_of 8 (Value.agg #[Value.int IntKind.i64 y.N, Value.int IntKind.i64 y.start, Value.int IntKind.i64 y.inp, Value.int IntKind.i64 y.out, Value.slice A' y.mvs.length c']); refine (own_calls wa3 y hy A' c' (PH.out.drew.ry.below hBa3)).mono ?_; rintro e wb3 ⟨Ab3, cb3, rfl, rb3, hBb3⟩) | (go_at_call 9; refine (RN1.out wb3 ((PH.out.drew.tb.below hBa3).below hBb3) Aa3 Ab3 ca3 cb3 (ra3.below hBb3) rb3).mono ?_; rintro e wc3 ⟨g1, cg1, rfl, hBc⟩) | fail)
      have PI := Sd.mk (((PH.out.drew.later hBa3).later hBb3).later hBc)
      clear hBa3 hBb3 hBc ra3 rb3 K0
      go_wp2_with fail
      have K0 := Sd.mk (two_boxes (w := w) PI.out.drew.bq PI.out.drew.bz PI.out.drew.below)
      go_region_held3 (fun wx => wx.heap[bq]? = some (.cells #[.int .i64 q.N, .int .i64 q.start, .int .i64 q.inp, .int .i64 q.out, .slice Aq q.mvs.length cq] 24 (0, 0)) ∧ wx.heap[bz]? = some (.cells #[.int .i64 z.N, .int .i64 z.start, .int .i64 z.inp, .int .i64 z.out, .slice Az z.mvs.length cz] 24 (0, 0)) ∧ Below w.heap.size w wx ∧ wx.cell? ⟨bq, 0, none⟩ = some (.int .i64 q.N) ∧ wx.cell? ⟨bq, 1, none⟩ = some (.int .i64 q.start) ∧ wx.cell? ⟨bq, 2, none⟩ = some (.int .i64 q.inp) ∧ wx.cell? ⟨bq, 3, none⟩ = some (.int .i64 q.out) ∧ wx.cell? ⟨bq, 4, none⟩ = some (.slice Aq q.mvs.length cq) ∧ wx.cell? ⟨bz, 0, none⟩ = some (.int .i64 z.N) ∧ wx.cell? ⟨bz, 1, none⟩ = some (.int .i64 z.start) ∧ wx.cell? ⟨bz, 2, none⟩ = some (.int .i64 z.inp) ∧ wx.cell? ⟨bz, 3, none⟩ = some (.int .i64 z.out) ∧ wx.cell? ⟨bz, 4, none⟩ = some (.slice Az z.mvs.length cz))
        (first | exact K0.out | (go_split_ands; exact two_kept (by assumption) (by assumption) (by assumption) (by assumption)) | fail)
        (first | (go_at_call_of 8 (Value.agg #[Value.int IntKind.i64 q.N, Value.int IntKind.i64 q.start, Value.int IntKind.i64 q.inp, Value.int IntKind.i64 q.out, Value.slice Aq q.mvs.length cq]); refine (own_calls wc3.drew q hq Aq cq PI.out.drew.rq).mono ?_; rintro e wa4 ⟨Aa4, ca4, rfl, ra4, hBa4⟩) | (go_at_call_of 8 (Value.agg #[Value.int IntKind.i64 z.N, Value.int IntKind.i64 z.start, Value.int IntKind.i64 z.inp, Value.int IntKind.i64 z.out, Value.slice Az z.mvs.length cz]); refine (own_calls wa4 z hz Az cz (PI.out.drew.rz.below hBa4)).mono ?_; rintro e wb4 ⟨Ab4, cb4, rfl, rb4, hBb4⟩) | (go_at_call 9; refine (RN2.out wb4 ((PI.out.drew.tb.below hBa4).below hBb4) Aa4 Ab4 ca4 cb4 (ra4.below hBb4) rb4).mono ?_; rintro e wc4 ⟨g2, cg2, rfl, hBc⟩) | fail)
      have PJ := Sd.mk (((PI.out.drew.later hBa4).later hBb4).later hBc)
      clear hBa4 hBb4 hBc ra4 rb4 K0
      go_wp2_with fail
      go_ret
      exact ⟨rfl, PJ.out.below⟩
    · have RN1 := Sd.mk (fun w' (hT : Tab w') (A A' : Option Addr) (c c' : Nat) (hr : RdM w' A x.mvs) (hr' : RdM w' A' y.mvs) => rel_full w' hT x y hx hy HIO.out A A' c c' hr hr' HS.out (by omega))
      have RN2 := Sd.mk (fun w' (hT : Tab w') (A A' : Option Addr) (c c' : Nat) (hr : RdM w' A q.mvs) (hr' : RdM w' A' z.mvs) => rel_full w' hT q z hq hz HIO2.out A A' c c' hr hr' HS2.out (by rw [HSK.out.2]; omega))
      clear hl
      have K0 := Sd.mk (two_boxes (w := w) PH.out.drew.bx PH.out.drew.bY PH.out.drew.below)
      go_region_held3 (fun wx => wx.heap[w.heap.size]? = some (.cells #[.int .i64 x.N, .int .i64 x.start, .int .i64 x.inp, .int .i64 x.out, .slice A x.mvs.length c] 24 (0, 0)) ∧ wx.heap[w.heap.size + 1]? = some (.cells #[.int .i64 y.N, .int .i64 y.start, .int .i64 y.inp, .int .i64 y.out, .slice A' y.mvs.length c'] 24 (0, 0)) ∧ Below w.heap.size w wx ∧ wx.cell? ⟨w.heap.size, 0, none⟩ = some (.int .i64 x.N) ∧ wx.cell? ⟨w.heap.size, 1, none⟩ = some (.int .i64 x.start) ∧ wx.cell? ⟨w.heap.size, 2, none⟩ = some (.int .i64 x.inp) ∧ wx.cell? ⟨w.heap.size, 3, none⟩ = some (.int .i64 x.out) ∧ wx.cell? ⟨w.heap.size, 4, none⟩ = some (.slice A x.mvs.length c) ∧ wx.cell? ⟨w.heap.size + 1, 0, none⟩ = some (.int .i64 y.N) ∧ wx.cell? ⟨w.heap.size + 1, 1, none⟩ = some (.int .i64 y.start) ∧ wx.cell? ⟨w.heap.size + 1, 2, none⟩ = some (.int .i64 y.inp) ∧ wx.cell? ⟨w.heap.size + 1, 3, none⟩ = some (.int .i64 y.out) ∧ wx.cell? ⟨w.heap.size + 1, 4, none⟩ = some (.slice A' y.mvs.length c'))
        (first | exact K0.out | (go_split_ands; exact two_kept (by assumption) (by assumption) (by assumption) (by assumption)) | fail)
        (first | (go_at_call_of 8 (Value.agg #[Value.int IntKind.i64 x.N, Value.int IntKind.i64 x.start, Value.int IntKind.i64 x.inp, Value.int IntKind.i64 x.out, Value.slice A x.mvs.length c]); refine (own_calls wf.drew x hx A c PH.out.drew.rx).mono ?_; rintro e wa5 ⟨Aa5, ca5, rfl, ra5, hBa5⟩) | (go_at_call_of 8 (Value.agg #[Value.int IntKind.i64 y.N, Value.int IntKind.i64 y.start, Value.int IntKind.i64 y.inp, Value.int IntKind.i64 y.out, Value.slice A' y.mvs.length c']); refine (own_calls wa5 y hy A' c' (PH.out.drew.ry.below hBa5)).mono ?_; rintro e wb5 ⟨Ab5, cb5, rfl, rb5, hBb5⟩) | (go_at_call 9; refine (RN1.out wb5 ((PH.out.drew.tb.below hBa5).below hBb5) Aa5 Ab5 ca5 cb5 (ra5.below hBb5) rb5).mono ?_; rintro e wc5 ⟨rfl, hBc⟩) | fail)
      have PI := Sd.mk (((PH.out.drew.later hBa5).later hBb5).later hBc)
      clear hBa5 hBb5 hBc ra5 rb5 K0
      go_wp2_with fail
      have K0 := Sd.mk (two_boxes (w := w) PI.out.drew.bq PI.out.drew.bz PI.out.drew.below)
      go_region_held3 (fun wx => wx.heap[bq]? = some (.cells #[.int .i64 q.N, .int .i64 q.start, .int .i64 q.inp, .int .i64 q.out, .slice Aq q.mvs.length cq] 24 (0, 0)) ∧ wx.heap[bz]? = some (.cells #[.int .i64 z.N, .int .i64 z.start, .int .i64 z.inp, .int .i64 z.out, .slice Az z.mvs.length cz] 24 (0, 0)) ∧ Below w.heap.size w wx ∧ wx.cell? ⟨bq, 0, none⟩ = some (.int .i64 q.N) ∧ wx.cell? ⟨bq, 1, none⟩ = some (.int .i64 q.start) ∧ wx.cell? ⟨bq, 2, none⟩ = some (.int .i64 q.inp) ∧ wx.cell? ⟨bq, 3, none⟩ = some (.int .i64 q.out) ∧ wx.cell? ⟨bq, 4, none⟩ = some (.slice Aq q.mvs.length cq) ∧ wx.cell? ⟨bz, 0, none⟩ = some (.int .i64 z.N) ∧ wx.cell? ⟨bz, 1, none⟩ = some (.int .i64 z.start) ∧ wx.cell? ⟨bz, 2, none⟩ = some (.int .i64 z.inp) ∧ wx.cell? ⟨bz, 3, none⟩ = some (.int .i64 z.out) ∧ wx.cell? ⟨bz, 4, none⟩ = some (.slice Az z.mvs.length cz))
        (first | exact K0.out | (go_split_ands; exact two_kept (by assumption) (by assumption) (by assumption) (by assumption)) | fail)
        (first | (go_at_call_of 8 (Value.agg #[Value.int IntKind.i64 q.N, Value.int IntKind.i64 q.start, Value.int IntKind.i64 q.inp, Value.int IntKind.i64 q.out, Value.slice Aq q.mvs.length cq]); refine (own_calls wc5.drew q hq Aq cq PI.out.drew.rq).mono ?_; rintro e wa6 ⟨Aa6, ca6, rfl, ra6, hBa6⟩) | (go_at_call_of 8 (Value.agg #[Value.int IntKind.i64 z.N, Value.int IntKind.i64 z.start, Value.int IntKind.i64 z.inp, Value.int IntKind.i64 z.out, Value.slice Az z.mvs.length cz]); refine (own_calls wa6 z hz Az cz (PI.out.drew.rz.below hBa6)).mono ?_; rintro e wb6 ⟨Ab6, cb6, rfl, rb6, hBb6⟩) | (go_at_call 9; refine (RN2.out wb6 ((PI.out.drew.tb.below hBa6).below hBb6) Aa6 Ab6 ca6 cb6 (ra6.below hBb6) rb6).mono ?_; rintro e wc6 ⟨rfl, hBc⟩) | fail)
      have PJ := Sd.mk (((PI.out.drew.later hBa6).later hBb6).later hBc)
      clear hBa6 hBb6 hBc ra6 rb6 K0
      go_wp2_with fail
      go_ret
      exact ⟨rfl, PJ.out.below⟩
  · obtain ⟨p, e0, hsp⟩ := someP_of x y hx hy tr hs
    have hsp2 := someP_ren HN2.out hsp
    obtain ⟨m, hm⟩ : ∃ m, m = p.length := ⟨_, rfl⟩
    have hm2 : m ≤ 1048577 := by rw [hm]; exact hsp.short
    have HM := Sd.mk hm
    have CN1 := Sd.mk (fun w' (hT : Tab w') (A A' : Option Addr) (c c' : Nat) (hr : RdM w' A x.mvs) (hr' : RdM w' A' y.mvs) => conf_some2 w' hT x y hx hy HIO.out A A' c c' hr hr' p e0 hsp m hm)
    have CN2 := Sd.mk (fun w' (hT : Tab w') (A A' : Option Addr) (c c' : Nat) (hr : RdM w' A q.mvs) (hr' : RdM w' A' z.mvs) => conf_some2 w' hT q z hq hz HIO2.out A A' c c' hr hr' p e0 hsp2 m hm)
    have RN1 := Sd.mk (fun w' (hT : Tab w') (A A' : Option Addr) (c c' : Nat) (hr : RdM w' A x.mvs) (hr' : RdM w' A' y.mvs) => rel_some w' hT x y hx hy HIO.out A A' c c' hr hr' p e0 hsp)
    have RN2 := Sd.mk (fun w' (hT : Tab w') (A A' : Option Addr) (c c' : Nat) (hr : RdM w' A q.mvs) (hr' : RdM w' A' z.mvs) => rel_some w' hT q z hq hz HIO2.out A A' c c' hr hr' p e0 hsp2)
    have SN := Sd.mk (fun W (A B : Option Addr) (c c' : Nat) (hr : RdI W A (p ++ [e0])) (hr' : RdI W B (p ++ [e0])) => same_true W A B c c' (m + 1) (p ++ [e0]) (by rw [hm]; simp) (by rw [List.length_append, List.length_singleton]; omega) hr hr')
    have OI := Sd.mk (fun W (A : Option Addr) (c : Nat) (hr : RdI W A p) => own_n W A c m p hm (by omega) hr)
    have HSP := Sd.mk hsp
    have HSP2 := Sd.mk hsp2
    clear hs hsp hsp2 hm
    have K0 := Sd.mk (two_boxes (w := w) PE.out.drew.bx PE.out.drew.bY PE.out.drew.below)
    go_region_held3 (fun wx => wx.heap[w.heap.size]? = some (.cells #[.int .i64 x.N, .int .i64 x.start, .int .i64 x.inp, .int .i64 x.out, .slice A x.mvs.length c] 24 (0, 0)) ∧ wx.heap[w.heap.size + 1]? = some (.cells #[.int .i64 y.N, .int .i64 y.start, .int .i64 y.inp, .int .i64 y.out, .slice A' y.mvs.length c'] 24 (0, 0)) ∧ Below w.heap.size w wx ∧ wx.cell? ⟨w.heap.size, 0, none⟩ = some (.int .i64 x.N) ∧ wx.cell? ⟨w.heap.size, 1, none⟩ = some (.int .i64 x.start) ∧ wx.cell? ⟨w.heap.size, 2, none⟩ = some (.int .i64 x.inp) ∧ wx.cell? ⟨w.heap.size, 3, none⟩ = some (.int .i64 x.out) ∧ wx.cell? ⟨w.heap.size, 4, none⟩ = some (.slice A x.mvs.length c) ∧ wx.cell? ⟨w.heap.size + 1, 0, none⟩ = some (.int .i64 y.N) ∧ wx.cell? ⟨w.heap.size + 1, 1, none⟩ = some (.int .i64 y.start) ∧ wx.cell? ⟨w.heap.size + 1, 2, none⟩ = some (.int .i64 y.inp) ∧ wx.cell? ⟨w.heap.size + 1, 3, none⟩ = some (.int .i64 y.out) ∧ wx.cell? ⟨w.heap.size + 1, 4, none⟩ = some (.slice A' y.mvs.length c'))
      (first | exact K0.out | (go_split_ands; exact two_kept (by assumption) (by assumption) (by assumption) (by assumption)) | fail)
      (first | (go_at_call_of 8 (Value.agg #[Value.int IntKind.i64 x.N, Value.int IntKind.i64 x.start, Value.int IntKind.i64 x.inp, Value.int IntKind.i64 x.out, Value.slice A x.mvs.length c]); refine (own_calls we.drew x hx A c PE.out.drew.rx).mono ?_; rintro e wa7 ⟨Aa7, ca7, rfl, ra7, hBa7⟩) | (go_at_call_of 8 (Value.agg #[Value.int IntKind.i64 y.N, Value.int IntKind.i64 y.start, Value.int IntKind.i64 y.inp, Value.int IntKind.i64 y.out, Value.slice A' y.mvs.length c']); refine (own_calls wa7 y hy A' c' (PE.out.drew.ry.below hBa7)).mono ?_; rintro e wb7 ⟨Ab7, cb7, rfl, rb7, hBb7⟩) | (go_at_call 7; refine (CN1.out wb7 ((PE.out.drew.tb.below hBa7).below hBb7) Aa7 Ab7 ca7 cb7 (ra7.below hBb7) rb7).mono ?_; rintro e wc7 ⟨at1, ctat1, rfl, hctat1, hrat1, hBc⟩) | fail)
    have PF := Sd.mk (((PE.out.drew.later hBa7).later hBb7).later hBc)
    have HR1 := Sd.mk hrat1
    clear hrat1
    clear hBa7 hBb7 hBc ra7 rb7 K0
    go_wp2_with fail
    have K0 := Sd.mk (two_boxes (w := w) PF.out.drew.bq PF.out.drew.bz PF.out.drew.below)
    go_region_held3 (fun wx => wx.heap[bq]? = some (.cells #[.int .i64 q.N, .int .i64 q.start, .int .i64 q.inp, .int .i64 q.out, .slice Aq q.mvs.length cq] 24 (0, 0)) ∧ wx.heap[bz]? = some (.cells #[.int .i64 z.N, .int .i64 z.start, .int .i64 z.inp, .int .i64 z.out, .slice Az z.mvs.length cz] 24 (0, 0)) ∧ Below w.heap.size w wx ∧ wx.cell? ⟨bq, 0, none⟩ = some (.int .i64 q.N) ∧ wx.cell? ⟨bq, 1, none⟩ = some (.int .i64 q.start) ∧ wx.cell? ⟨bq, 2, none⟩ = some (.int .i64 q.inp) ∧ wx.cell? ⟨bq, 3, none⟩ = some (.int .i64 q.out) ∧ wx.cell? ⟨bq, 4, none⟩ = some (.slice Aq q.mvs.length cq) ∧ wx.cell? ⟨bz, 0, none⟩ = some (.int .i64 z.N) ∧ wx.cell? ⟨bz, 1, none⟩ = some (.int .i64 z.start) ∧ wx.cell? ⟨bz, 2, none⟩ = some (.int .i64 z.inp) ∧ wx.cell? ⟨bz, 3, none⟩ = some (.int .i64 z.out) ∧ wx.cell? ⟨bz, 4, none⟩ = some (.slice Az z.mvs.length cz))
      (first | exact K0.out | (go_split_ands; exact two_kept (by assumption) (by assumption) (by assumption) (by assumption)) | fail)
      (first | (go_at_call_of 8 (Value.agg #[Value.int IntKind.i64 q.N, Value.int IntKind.i64 q.start, Value.int IntKind.i64 q.inp, Value.int IntKind.i64 q.out, Value.slice Aq q.mvs.length cq]); refine (own_calls wc7.drew q hq Aq cq PF.out.drew.rq).mono ?_; rintro e wa8 ⟨Aa8, ca8, rfl, ra8, hBa8⟩) | (go_at_call_of 8 (Value.agg #[Value.int IntKind.i64 z.N, Value.int IntKind.i64 z.start, Value.int IntKind.i64 z.inp, Value.int IntKind.i64 z.out, Value.slice Az z.mvs.length cz]); refine (own_calls wa8 z hz Az cz (PF.out.drew.rz.below hBa8)).mono ?_; rintro e wb8 ⟨Ab8, cb8, rfl, rb8, hBb8⟩) | (go_at_call 7; refine (CN2.out wb8 ((PF.out.drew.tb.below hBa8).below hBb8) Aa8 Ab8 ca8 cb8 (ra8.below hBb8) rb8).mono ?_; rintro e wc8 ⟨at2, ctat2, rfl, hctat2, hrat2, hBc⟩) | fail)
    have PG := Sd.mk (((PF.out.drew.later hBa8).later hBb8).later hBc)
    have HR1b := Sd.mk (((HR1.out.below (below_drew (Below.refl _ _))).below hBa8).below hBb8 |>.below hBc)
    have HR2 := Sd.mk hrat2
    clear hrat2
    clear hBa8 hBb8 hBc ra8 rb8 K0
    go_upto_region 19 with (first | (go_at_call 19; refine (SN.out _ _ _ _ _ HR1b.out HR2.out).mono ?_; rintro e wf ⟨rfl, hBf⟩; have PH := Sd.mk (PG.out.later hBf); have HR3 := Sd.mk (HR1b.out.below hBf); clear hBf) | fail)
    have K0 := Sd.mk (two_boxes (w := w) PH.out.drew.bx PH.out.drew.bY PH.out.drew.below)
    go_region_held3 (fun wx => wx.heap[w.heap.size]? = some (.cells #[.int .i64 x.N, .int .i64 x.start, .int .i64 x.inp, .int .i64 x.out, .slice A x.mvs.length c] 24 (0, 0)) ∧ wx.heap[w.heap.size + 1]? = some (.cells #[.int .i64 y.N, .int .i64 y.start, .int .i64 y.inp, .int .i64 y.out, .slice A' y.mvs.length c'] 24 (0, 0)) ∧ Below w.heap.size w wx ∧ wx.cell? ⟨w.heap.size, 0, none⟩ = some (.int .i64 x.N) ∧ wx.cell? ⟨w.heap.size, 1, none⟩ = some (.int .i64 x.start) ∧ wx.cell? ⟨w.heap.size, 2, none⟩ = some (.int .i64 x.inp) ∧ wx.cell? ⟨w.heap.size, 3, none⟩ = some (.int .i64 x.out) ∧ wx.cell? ⟨w.heap.size, 4, none⟩ = some (.slice A x.mvs.length c) ∧ wx.cell? ⟨w.heap.size + 1, 0, none⟩ = some (.int .i64 y.N) ∧ wx.cell? ⟨w.heap.size + 1, 1, none⟩ = some (.int .i64 y.start) ∧ wx.cell? ⟨w.heap.size + 1, 2, none⟩ = some (.int .i64 y.inp) ∧ wx.cell? ⟨w.heap.size + 1, 3, none⟩ = some (.int .i64 y.out) ∧ wx.cell? ⟨w.heap.size + 1, 4, none⟩ = some (.slice A' y.mvs.length c'))
      (first | exact K0.out | (go_split_ands; exact two_kept (by assumption) (by assumption) (by assumption) (by assumption)) | fail)
      (first | (go_at_call_of 8 (Value.agg #[Value.int IntKind.i64 x.N, Value.int IntKind.i64 x.start, Value.int IntKind.i64 x.inp, Value.int IntKind.i64 x.out, Value.slice A x.mvs.length c]); refine (own_calls wf.drew x hx A c PH.out.drew.rx).mono ?_; rintro e wa9 ⟨Aa9, ca9, rfl, ra9, hBa9⟩) | (go_at_call_of 8 (Value.agg #[Value.int IntKind.i64 y.N, Value.int IntKind.i64 y.start, Value.int IntKind.i64 y.inp, Value.int IntKind.i64 y.out, Value.slice A' y.mvs.length c']); refine (own_calls wa9 y hy A' c' (PH.out.drew.ry.below hBa9)).mono ?_; rintro e wb9 ⟨Ab9, cb9, rfl, rb9, hBb9⟩) | (go_at_call 9; refine (RN1.out wb9 ((PH.out.drew.tb.below hBa9).below hBb9) Aa9 Ab9 ca9 cb9 (ra9.below hBb9) rb9).mono ?_; rintro e wc9 ⟨rfl, hBc⟩) | fail)
    have PI := Sd.mk (((PH.out.drew.later hBa9).later hBb9).later hBc)
    have HR4 := Sd.mk ((((HR3.out.below (below_drew (Below.refl _ _))).below hBa9).below hBb9).below hBc)
    clear hBa9 hBb9 hBc ra9 rb9 K0
    go_wp2_with fail
    have K0 := Sd.mk (two_boxes (w := w) PI.out.drew.bq PI.out.drew.bz PI.out.drew.below)
    go_region_held3 (fun wx => wx.heap[bq]? = some (.cells #[.int .i64 q.N, .int .i64 q.start, .int .i64 q.inp, .int .i64 q.out, .slice Aq q.mvs.length cq] 24 (0, 0)) ∧ wx.heap[bz]? = some (.cells #[.int .i64 z.N, .int .i64 z.start, .int .i64 z.inp, .int .i64 z.out, .slice Az z.mvs.length cz] 24 (0, 0)) ∧ Below w.heap.size w wx ∧ wx.cell? ⟨bq, 0, none⟩ = some (.int .i64 q.N) ∧ wx.cell? ⟨bq, 1, none⟩ = some (.int .i64 q.start) ∧ wx.cell? ⟨bq, 2, none⟩ = some (.int .i64 q.inp) ∧ wx.cell? ⟨bq, 3, none⟩ = some (.int .i64 q.out) ∧ wx.cell? ⟨bq, 4, none⟩ = some (.slice Aq q.mvs.length cq) ∧ wx.cell? ⟨bz, 0, none⟩ = some (.int .i64 z.N) ∧ wx.cell? ⟨bz, 1, none⟩ = some (.int .i64 z.start) ∧ wx.cell? ⟨bz, 2, none⟩ = some (.int .i64 z.inp) ∧ wx.cell? ⟨bz, 3, none⟩ = some (.int .i64 z.out) ∧ wx.cell? ⟨bz, 4, none⟩ = some (.slice Az z.mvs.length cz))
      (first | exact K0.out | (go_split_ands; exact two_kept (by assumption) (by assumption) (by assumption) (by assumption)) | fail)
      (first | (go_at_call_of 8 (Value.agg #[Value.int IntKind.i64 q.N, Value.int IntKind.i64 q.start, Value.int IntKind.i64 q.inp, Value.int IntKind.i64 q.out, Value.slice Aq q.mvs.length cq]); refine (own_calls wc9.drew q hq Aq cq PI.out.drew.rq).mono ?_; rintro e wa10 ⟨Aa10, ca10, rfl, ra10, hBa10⟩) | (go_at_call_of 8 (Value.agg #[Value.int IntKind.i64 z.N, Value.int IntKind.i64 z.start, Value.int IntKind.i64 z.inp, Value.int IntKind.i64 z.out, Value.slice Az z.mvs.length cz]); refine (own_calls wa10 z hz Az cz (PI.out.drew.rz.below hBa10)).mono ?_; rintro e wb10 ⟨Ab10, cb10, rfl, rb10, hBb10⟩) | (go_at_call 9; refine (RN2.out wb10 ((PI.out.drew.tb.below hBa10).below hBb10) Aa10 Ab10 ca10 cb10 (ra10.below hBb10) rb10).mono ?_; rintro e wc10 ⟨rfl, hBc⟩) | fail)
    have PJ := Sd.mk (((PI.out.drew.later hBa10).later hBb10).later hBc)
    have HR5 := Sd.mk ((((HR4.out.below (below_drew (Below.refl _ _))).below hBa10).below hBb10).below hBc)
    clear hBa10 hBb10 hBc ra10 rb10 K0
    clear CN1 CN2 RN1 RN2
    have hz0 : (((m : Int) + 1) == 0) = false := by rw [beq_eq_false_iff_ne]; omega
    have hmc : m ≤ ctat1 := by omega
    have hmc1 : (0 : Int) ≤ (m : Int) := by omega
    have hmc2 : (m : Int) ≤ (ctat1 : Int) := by omega
    have hmw2 : IntKind.i64.wrap (m : Int) = (m : Int) := IntWalk.i64_in _ (by omega)
    have hmw3 : ((m : Int)).toNat = m := by omega
    have hmw : IntKind.i64.wrap ((m : Int) + 1 - 1) = (m : Int) := by rw [show (m : Int) + 1 - 1 = (m : Int) by omega]; exact IntWalk.i64_in _ (by omega)
    go_upto_region 25 with fail
    have hev : ∀ a ∈ p, a ≤ y.inp + y.out := fun a ha => by have h1 := HSP.out.ev a ha; have h2 := HIO.out; omega
    have hevz : ∀ a ∈ p, a ≤ z.inp + z.out := fun a ha => by rw [HN2.out.b.mv.inp, HN2.out.b.mv.out]; exact hev a ha
    by_cases h40 : 40 < m
    · have TB1 := Sd.mk (fun w' (hT : Tab w') (A B : Option Addr) (c c' : Nat) (hrx : RdM w' A y.mvs) (hr : RdI w' B p) => test_big w' hT y hy A B c c' m p HM.out (by have := HM.out; omega) hev HSP.out.ne hrx hr (by have := HM.out; omega))
      have TB2 := Sd.mk (fun w' (hT : Tab w') (A B : Option Addr) (c c' : Nat) (hrx : RdM w' A z.mvs) (hr : RdI w' B p) => test_big w' hT z hz A B c c' m p HM.out (by have := HM.out; omega) hevz HSP2.out.ne hrx hr (by have := HM.out; omega))
      clear hev hevz h40
      have K0 := Sd.mk (two_boxes (w := w) PJ.out.drew.bx PJ.out.drew.bY PJ.out.drew.below)
      go_region_held3 (fun wx => wx.heap[w.heap.size]? = some (.cells #[.int .i64 x.N, .int .i64 x.start, .int .i64 x.inp, .int .i64 x.out, .slice A x.mvs.length c] 24 (0, 0)) ∧ wx.heap[w.heap.size + 1]? = some (.cells #[.int .i64 y.N, .int .i64 y.start, .int .i64 y.inp, .int .i64 y.out, .slice A' y.mvs.length c'] 24 (0, 0)) ∧ Below w.heap.size w wx ∧ wx.cell? ⟨w.heap.size, 0, none⟩ = some (.int .i64 x.N) ∧ wx.cell? ⟨w.heap.size, 1, none⟩ = some (.int .i64 x.start) ∧ wx.cell? ⟨w.heap.size, 2, none⟩ = some (.int .i64 x.inp) ∧ wx.cell? ⟨w.heap.size, 3, none⟩ = some (.int .i64 x.out) ∧ wx.cell? ⟨w.heap.size, 4, none⟩ = some (.slice A x.mvs.length c) ∧ wx.cell? ⟨w.heap.size + 1, 0, none⟩ = some (.int .i64 y.N) ∧ wx.cell? ⟨w.heap.size + 1, 1, none⟩ = some (.int .i64 y.start) ∧ wx.cell? ⟨w.heap.size + 1, 2, none⟩ = some (.int .i64 y.inp) ∧ wx.cell? ⟨w.heap.size + 1, 3, none⟩ = some (.int .i64 y.out) ∧ wx.cell? ⟨w.heap.size + 1, 4, none⟩ = some (.slice A' y.mvs.length c'))
        (first | exact K0.out | (go_split_ands; exact two_kept (by assumption) (by assumption) (by assumption) (by assumption)) | fail)
        (first | (go_at_call_of 8 (Value.agg #[Value.int IntKind.i64 y.N, Value.int IntKind.i64 y.start, Value.int IntKind.i64 y.inp, Value.int IntKind.i64 y.out, Value.slice A' y.mvs.length c']); refine (own_calls wc10.drew y hy A' c' PJ.out.drew.ry).mono ?_; rintro e wa11 ⟨Aa11, ca11, rfl, ra11, hBa11⟩) | (go_at_call 21; refine (OI.out wa11 (some at1) ctat1 ((HR5.out.below (below_drew (Below.refl _ _))).below hBa11).left).mono ?_; rintro e wb11 ⟨Bb11, cb11, rfl, rb11, hBb11⟩) | (go_at_call 20; refine (TB1.out wb11 ((PJ.out.drew.tb.below hBa11).below hBb11) Aa11 Bb11 ca11 cb11 (ra11.below hBb11) rb11).mono ?_; rintro e wc11 ⟨rfl, hBc⟩) | fail)
      have PK := Sd.mk (((PJ.out.drew.later hBa11).later hBb11).later hBc)
      have HR6 := Sd.mk ((((HR5.out.below (below_drew (Below.refl _ _))).below hBa11).below hBb11).below hBc)
      clear hBa11 hBb11 hBc ra11 rb11 K0
      go_wp2_with fail
      have K0 := Sd.mk (two_boxes (w := w) PK.out.drew.bq PK.out.drew.bz PK.out.drew.below)
      go_region_held3 (fun wx => wx.heap[bq]? = some (.cells #[.int .i64 q.N, .int .i64 q.start, .int .i64 q.inp, .int .i64 q.out, .slice Aq q.mvs.length cq] 24 (0, 0)) ∧ wx.heap[bz]? = some (.cells #[.int .i64 z.N, .int .i64 z.start, .int .i64 z.inp, .int .i64 z.out, .slice Az z.mvs.length cz] 24 (0, 0)) ∧ Below w.heap.size w wx ∧ wx.cell? ⟨bq, 0, none⟩ = some (.int .i64 q.N) ∧ wx.cell? ⟨bq, 1, none⟩ = some (.int .i64 q.start) ∧ wx.cell? ⟨bq, 2, none⟩ = some (.int .i64 q.inp) ∧ wx.cell? ⟨bq, 3, none⟩ = some (.int .i64 q.out) ∧ wx.cell? ⟨bq, 4, none⟩ = some (.slice Aq q.mvs.length cq) ∧ wx.cell? ⟨bz, 0, none⟩ = some (.int .i64 z.N) ∧ wx.cell? ⟨bz, 1, none⟩ = some (.int .i64 z.start) ∧ wx.cell? ⟨bz, 2, none⟩ = some (.int .i64 z.inp) ∧ wx.cell? ⟨bz, 3, none⟩ = some (.int .i64 z.out) ∧ wx.cell? ⟨bz, 4, none⟩ = some (.slice Az z.mvs.length cz))
        (first | exact K0.out | (go_split_ands; exact two_kept (by assumption) (by assumption) (by assumption) (by assumption)) | fail)
        (first | (go_at_call_of 8 (Value.agg #[Value.int IntKind.i64 z.N, Value.int IntKind.i64 z.start, Value.int IntKind.i64 z.inp, Value.int IntKind.i64 z.out, Value.slice Az z.mvs.length cz]); refine (own_calls wc11.drew z hz Az cz PK.out.drew.rz).mono ?_; rintro e wa12 ⟨Aa12, ca12, rfl, ra12, hBa12⟩) | (go_at_call 21; refine (OI.out wa12 (some at1) ctat1 ((HR6.out.below (below_drew (Below.refl _ _))).below hBa12).left).mono ?_; rintro e wb12 ⟨Bb12, cb12, rfl, rb12, hBb12⟩) | (go_at_call 20; refine (TB2.out wb12 ((PK.out.drew.tb.below hBa12).below hBb12) Aa12 Bb12 ca12 cb12 (ra12.below hBb12) rb12).mono ?_; rintro e wc12 ⟨rfl, hBc⟩) | fail)
      have PL := Sd.mk (((PK.out.drew.later hBa12).later hBb12).later hBc)
      have HR7 := Sd.mk ((((HR6.out.below (below_drew (Below.refl _ _))).below hBa12).below hBb12).below hBc)
      clear hBa12 hBb12 hBc ra12 rb12 K0
      go_wp2_with (first | (go_at_call 22; refine (sameTest_nil _).mono ?_; rintro e wg ⟨rfl, hBg⟩; have PM := Sd.mk (PL.out.later hBg); clear hBg) | fail)
      go_ret
      exact ⟨rfl, PM.out.below⟩
    · have h40p : p.length ≤ 40 := by have := HM.out; omega
      have hTK := tok_of y hy p h40p
      have hTZ : testS (sysOf z) p = testS (sysOf y) p := HN2.out.b.test hev
      have hPf := perform_run x y hx hy HIO.out HSP.out
      have hPf2 := perform_run q z hq hz HIO2.out HSP2.out
      rw [hTZ] at hPf2
      have hokx : ∀ i, i < (testS (sysOf y) p).length → NdOK (sysOf x) (testS (sysOf y) p) i := fun i hi => (hTK.ok i hi).other HIO.out.1.symm HIO.out.2.symm
      have hokq : ∀ i, i < (testS (sysOf y) p).length → NdOK (sysOf q) (testS (sysOf y) p) i := fun i hi => (hokx i hi).other HN2.out.a.mv.inp.symm HN2.out.a.mv.out.symm
      obtain ⟨T, hT⟩ : ∃ T, T = testS (sysOf y) p := ⟨_, rfl⟩
      have HTK : Sd (TOKT T) := ⟨by rw [hT]; exact ⟨hTK.pos, hTK.le, hTK.nl⟩⟩
      rw [← hT] at hTZ hPf hPf2 hokx hokq
      have TB1 := Sd.mk (fun w' (hT2 : Tab w') (A B : Option Addr) (c c' : Nat) (hrx : RdM w' A y.mvs) (hr : RdI w' B p) => test_small w' hT2 y hy A B c c' m p HM.out (by omega) hev HSP.out.ne hrx hr (by omega) T hT.symm HTK.out.pos)
      have TB2 := Sd.mk (fun w' (hT2 : Tab w') (A B : Option Addr) (c c' : Nat) (hrx : RdM w' A z.mvs) (hr : RdI w' B p) => test_small w' hT2 z hz A B c c' m p HM.out (by omega) hevz HSP2.out.ne hrx hr (by omega) T hTZ HTK.out.pos)
      have hck : (ckS q.inp q.out T).2 = (ckS x.inp x.out T).2 := by rw [HN2.out.a.mv.inp, HN2.out.a.mv.out]
      obtain ⟨code, hcode⟩ : ∃ code, code = (ckS x.inp x.out T).2 := ⟨_, rfl⟩
      rw [← hcode] at hck
      have HCK := Sd.mk hck
      have HCD := Sd.mk hcode
      have HPF := Sd.mk hPf
      have HPF2 := Sd.mk hPf2
      have HOX := Sd.mk hokx
      have HOQ := Sd.mk hokq
      clear hev hevz h40 hTK hTZ hPf hPf2 hokx hokq hT hck hcode h40p
      have K0 := Sd.mk (two_boxes (w := w) PJ.out.drew.bx PJ.out.drew.bY PJ.out.drew.below)
      go_region_held3 (fun wx => wx.heap[w.heap.size]? = some (.cells #[.int .i64 x.N, .int .i64 x.start, .int .i64 x.inp, .int .i64 x.out, .slice A x.mvs.length c] 24 (0, 0)) ∧ wx.heap[w.heap.size + 1]? = some (.cells #[.int .i64 y.N, .int .i64 y.start, .int .i64 y.inp, .int .i64 y.out, .slice A' y.mvs.length c'] 24 (0, 0)) ∧ Below w.heap.size w wx ∧ wx.cell? ⟨w.heap.size, 0, none⟩ = some (.int .i64 x.N) ∧ wx.cell? ⟨w.heap.size, 1, none⟩ = some (.int .i64 x.start) ∧ wx.cell? ⟨w.heap.size, 2, none⟩ = some (.int .i64 x.inp) ∧ wx.cell? ⟨w.heap.size, 3, none⟩ = some (.int .i64 x.out) ∧ wx.cell? ⟨w.heap.size, 4, none⟩ = some (.slice A x.mvs.length c) ∧ wx.cell? ⟨w.heap.size + 1, 0, none⟩ = some (.int .i64 y.N) ∧ wx.cell? ⟨w.heap.size + 1, 1, none⟩ = some (.int .i64 y.start) ∧ wx.cell? ⟨w.heap.size + 1, 2, none⟩ = some (.int .i64 y.inp) ∧ wx.cell? ⟨w.heap.size + 1, 3, none⟩ = some (.int .i64 y.out) ∧ wx.cell? ⟨w.heap.size + 1, 4, none⟩ = some (.slice A' y.mvs.length c'))
        (first | exact K0.out | (go_split_ands; exact two_kept (by assumption) (by assumption) (by assumption) (by assumption)) | fail)
        (first | (go_at_call_of 8 (Value.agg #[Value.int IntKind.i64 y.N, Value.int IntKind.i64 y.start, Value.int IntKind.i64 y.inp, Value.int IntKind.i64 y.out, Value.slice A' y.mvs.length c']); refine (own_calls wc10.drew y hy A' c' PJ.out.drew.ry).mono ?_; rintro e wa13 ⟨Aa13, ca13, rfl, ra13, hBa13⟩) | (go_at_call 21; refine (OI.out wa13 (some at1) ctat1 ((HR5.out.below (below_drew (Below.refl _ _))).below hBa13).left).mono ?_; rintro e wb13 ⟨Bb13, cb13, rfl, rb13, hBb13⟩) | (go_at_call 20; refine (TB1.out wb13 ((PJ.out.drew.tb.below hBa13).below hBb13) Aa13 Bb13 ca13 cb13 (ra13.below hBb13) rb13).mono ?_; rintro e wc13 ⟨g1, cg1, rfl, hN1, hBc⟩) | fail)
      have PK := Sd.mk (((PJ.out.drew.later hBa13).later hBb13).later hBc)
      have HR6 := Sd.mk ((((HR5.out.below (below_drew (Below.refl _ _))).below hBa13).below hBb13).below hBc)
      have HNd1 := Sd.mk hN1
      clear hN1
      clear hBa13 hBb13 hBc ra13 rb13 K0
      go_wp2_with fail
      have K0 := Sd.mk (two_boxes (w := w) PK.out.drew.bq PK.out.drew.bz PK.out.drew.below)
      go_region_held3 (fun wx => wx.heap[bq]? = some (.cells #[.int .i64 q.N, .int .i64 q.start, .int .i64 q.inp, .int .i64 q.out, .slice Aq q.mvs.length cq] 24 (0, 0)) ∧ wx.heap[bz]? = some (.cells #[.int .i64 z.N, .int .i64 z.start, .int .i64 z.inp, .int .i64 z.out, .slice Az z.mvs.length cz] 24 (0, 0)) ∧ Below w.heap.size w wx ∧ wx.cell? ⟨bq, 0, none⟩ = some (.int .i64 q.N) ∧ wx.cell? ⟨bq, 1, none⟩ = some (.int .i64 q.start) ∧ wx.cell? ⟨bq, 2, none⟩ = some (.int .i64 q.inp) ∧ wx.cell? ⟨bq, 3, none⟩ = some (.int .i64 q.out) ∧ wx.cell? ⟨bq, 4, none⟩ = some (.slice Aq q.mvs.length cq) ∧ wx.cell? ⟨bz, 0, none⟩ = some (.int .i64 z.N) ∧ wx.cell? ⟨bz, 1, none⟩ = some (.int .i64 z.start) ∧ wx.cell? ⟨bz, 2, none⟩ = some (.int .i64 z.inp) ∧ wx.cell? ⟨bz, 3, none⟩ = some (.int .i64 z.out) ∧ wx.cell? ⟨bz, 4, none⟩ = some (.slice Az z.mvs.length cz))
        (first | exact K0.out | (go_split_ands; exact two_kept (by assumption) (by assumption) (by assumption) (by assumption)) | fail)
        (first | (go_at_call_of 8 (Value.agg #[Value.int IntKind.i64 z.N, Value.int IntKind.i64 z.start, Value.int IntKind.i64 z.inp, Value.int IntKind.i64 z.out, Value.slice Az z.mvs.length cz]); refine (own_calls wc13.drew z hz Az cz PK.out.drew.rz).mono ?_; rintro e wa14 ⟨Aa14, ca14, rfl, ra14, hBa14⟩) | (go_at_call 21; refine (OI.out wa14 (some at1) ctat1 ((HR6.out.below (below_drew (Below.refl _ _))).below hBa14).left).mono ?_; rintro e wb14 ⟨Bb14, cb14, rfl, rb14, hBb14⟩) | (go_at_call 20; refine (TB2.out wb14 ((PK.out.drew.tb.below hBa14).below hBb14) Aa14 Bb14 ca14 cb14 (ra14.below hBb14) rb14).mono ?_; rintro e wc14 ⟨g2, cg2, rfl, hN2, hBc⟩) | fail)
      have PL := Sd.mk (((PK.out.drew.later hBa14).later hBb14).later hBc)
      have HR7 := Sd.mk ((((HR6.out.below (below_drew (Below.refl _ _))).below hBa14).below hBb14).below hBc)
      have HNd1b := Sd.mk ((((HNd1.out.below (below_drew (Below.refl _ _))).below hBa14).below hBb14).below hBc)
      have HNd2 := Sd.mk hN2
      clear hN2
      clear hBa14 hBb14 hBc ra14 rb14 K0
      clear TB1 TB2
      go_upto_region 31 with (first | (go_at_call 22; refine (sameTest_calls _ g1 g2 cg1 cg2 T (by have := HTK.out.le; omega) HNd1b.out HNd2.out HTK.out.nl).mono ?_; rintro e wg ⟨rfl, hBg⟩; have PM := Sd.mk (PL.out.later hBg); have HR8 := Sd.mk (HR7.out.below hBg); have HNd3 := Sd.mk (HNd1b.out.below hBg); clear hBg) | fail)
      by_cases hc0 : code = 0
      · have PB1 := Sd.mk (fun w' (hT2 : Tab w') (A : Option Addr) (c g ct : Nat) (hr : RdM w' A x.mvs) (hN : NodesAt w' g T) => perform_good w' hT2 x hx A c g ct hr T HOX.out HTK.out.pos HTK.out.le hN HTK.out.nl (HCD.out.symm.trans hc0) p e0 m HM.out HPF.out)
        have PB2 := Sd.mk (fun w' (hT2 : Tab w') (A : Option Addr) (c g ct : Nat) (hr : RdM w' A q.mvs) (hN : NodesAt w' g T) => perform_good w' hT2 q hq A c g ct hr T HOQ.out HTK.out.pos HTK.out.le hN HTK.out.nl (HCK.out.trans hc0) p e0 m HM.out HPF2.out)
        clear hc0
        have K0 := Sd.mk (two_boxes (w := w) PM.out.drew.bx PM.out.drew.bY PM.out.drew.below)
        go_region_held3 (fun wx => wx.heap[w.heap.size]? = some (.cells #[.int .i64 x.N, .int .i64 x.start, .int .i64 x.inp, .int .i64 x.out, .slice A x.mvs.length c] 24 (0, 0)) ∧ wx.heap[w.heap.size + 1]? = some (.cells #[.int .i64 y.N, .int .i64 y.start, .int .i64 y.inp, .int .i64 y.out, .slice A' y.mvs.length c'] 24 (0, 0)) ∧ Below w.heap.size w wx ∧ wx.cell? ⟨w.heap.size, 0, none⟩ = some (.int .i64 x.N) ∧ wx.cell? ⟨w.heap.size, 1, none⟩ = some (.int .i64 x.start) ∧ wx.cell? ⟨w.heap.size, 2, none⟩ = some (.int .i64 x.inp) ∧ wx.cell? ⟨w.heap.size, 3, none⟩ = some (.int .i64 x.out) ∧ wx.cell? ⟨w.heap.size, 4, none⟩ = some (.slice A x.mvs.length c) ∧ wx.cell? ⟨w.heap.size + 1, 0, none⟩ = some (.int .i64 y.N) ∧ wx.cell? ⟨w.heap.size + 1, 1, none⟩ = some (.int .i64 y.start) ∧ wx.cell? ⟨w.heap.size + 1, 2, none⟩ = some (.int .i64 y.inp) ∧ wx.cell? ⟨w.heap.size + 1, 3, none⟩ = some (.int .i64 y.out) ∧ wx.cell? ⟨w.heap.size + 1, 4, none⟩ = some (.slice A' y.mvs.length c'))
          (first | exact K0.out | (go_split_ands; exact two_kept (by assumption) (by assumption) (by assumption) (by assumption)) | fail)
          (first | (go_at_call 24; refine (ownTest_n wg.drew g1 cg1 T HTK.out.pos (by have := HTK.out.le; omega) (HNd3.out.below (below_drew (Below.refl _ _))) HTK.out.nl).mono ?_; rintro e wa15 ⟨ga15, ca15, rfl, na15, hBa15⟩) | (go_at_call_of 8 (Value.agg #[Value.int IntKind.i64 x.N, Value.int IntKind.i64 x.start, Value.int IntKind.i64 x.inp, Value.int IntKind.i64 x.out, Value.slice A x.mvs.length c]); refine (own_calls wa15 x hx A c (PM.out.drew.rx.below hBa15)).mono ?_; rintro e wb15 ⟨Ab15, cb15, rfl, rb15, hBb15⟩) | (go_at_call 23; refine (PB1.out wb15 ((PM.out.drew.tb.below hBa15).below hBb15) Ab15 cb15 ga15 ca15 rb15 (na15.below hBb15)).mono ?_; rintro e wc15 ⟨B3, c3, rfl, hr3, hBc⟩) | fail)
        have PN := Sd.mk (((PM.out.drew.later hBa15).later hBb15).later hBc)
        have HNd4 := Sd.mk ((((HNd3.out.below (below_drew (Below.refl _ _))).below hBa15).below hBb15).below hBc)
        have HR9 := Sd.mk ((((HR8.out.below (below_drew (Below.refl _ _))).below hBa15).below hBb15).below hBc)
        have HRc := Sd.mk hr3
        clear hr3
        clear hBa15 hBb15 hBc na15 rb15 K0
        go_wp2_with fail
        have K0 := Sd.mk (two_boxes (w := w) PN.out.drew.bq PN.out.drew.bz PN.out.drew.below)
        go_region_held3 (fun wx => wx.heap[bq]? = some (.cells #[.int .i64 q.N, .int .i64 q.start, .int .i64 q.inp, .int .i64 q.out, .slice Aq q.mvs.length cq] 24 (0, 0)) ∧ wx.heap[bz]? = some (.cells #[.int .i64 z.N, .int .i64 z.start, .int .i64 z.inp, .int .i64 z.out, .slice Az z.mvs.length cz] 24 (0, 0)) ∧ Below w.heap.size w wx ∧ wx.cell? ⟨bq, 0, none⟩ = some (.int .i64 q.N) ∧ wx.cell? ⟨bq, 1, none⟩ = some (.int .i64 q.start) ∧ wx.cell? ⟨bq, 2, none⟩ = some (.int .i64 q.inp) ∧ wx.cell? ⟨bq, 3, none⟩ = some (.int .i64 q.out) ∧ wx.cell? ⟨bq, 4, none⟩ = some (.slice Aq q.mvs.length cq) ∧ wx.cell? ⟨bz, 0, none⟩ = some (.int .i64 z.N) ∧ wx.cell? ⟨bz, 1, none⟩ = some (.int .i64 z.start) ∧ wx.cell? ⟨bz, 2, none⟩ = some (.int .i64 z.inp) ∧ wx.cell? ⟨bz, 3, none⟩ = some (.int .i64 z.out) ∧ wx.cell? ⟨bz, 4, none⟩ = some (.slice Az z.mvs.length cz))
          (first | exact K0.out | (go_split_ands; exact two_kept (by assumption) (by assumption) (by assumption) (by assumption)) | fail)
          (first | (go_at_call 24; refine (ownTest_n wc15.drew g1 cg1 T HTK.out.pos (by have := HTK.out.le; omega) (HNd4.out.below (below_drew (Below.refl _ _))) HTK.out.nl).mono ?_; rintro e wa16 ⟨ga16, ca16, rfl, na16, hBa16⟩) | (go_at_call_of 8 (Value.agg #[Value.int IntKind.i64 q.N, Value.int IntKind.i64 q.start, Value.int IntKind.i64 q.inp, Value.int IntKind.i64 q.out, Value.slice Aq q.mvs.length cq]); refine (own_calls wa16 q hq Aq cq (PN.out.drew.rq.below hBa16)).mono ?_; rintro e wb16 ⟨Ab16, cb16, rfl, rb16, hBb16⟩) | (go_at_call 23; refine (PB2.out wb16 ((PN.out.drew.tb.below hBa16).below hBb16) Ab16 cb16 ga16 ca16 rb16 (na16.below hBb16)).mono ?_; rintro e wc16 ⟨B4, c4, rfl, hr4, hBc⟩) | fail)
        have PO := Sd.mk (((PN.out.drew.later hBa16).later hBb16).later hBc)
        have HR10 := Sd.mk ((((HR9.out.below (below_drew (Below.refl _ _))).below hBa16).below hBb16).below hBc)
        have HRc2 := Sd.mk ((((HRc.out.below (below_drew (Below.refl _ _))).below hBa16).below hBb16).below hBc)
        have HRd := Sd.mk hr4
        clear hr4
        clear hBa16 hBb16 hBc na16 rb16 K0
        go_wp2_with (first | (go_at_call 19; refine (SN.out _ _ _ _ _ (HRc2.out.below hBs) (HR10.out.below hBs)).mono ?_; rintro e wt ⟨rfl, hBt⟩; have PQ := Sd.mk (PO.out.later (below_then hBs hBs.size hBt)); clear hBt) | (go_at_call 19; refine (SN.out _ _ _ _ _ HRc2.out HRd.out).mono ?_; rintro e ws ⟨rfl, hBs⟩) | fail)
        go_ret
        exact ⟨rfl, PQ.out.below⟩
      · have hcb : (code != 0) = true := bne_iff_ne.2 hc0
        have PB1 := Sd.mk (fun w' (hT2 : Tab w') (A : Option Addr) (c g ct : Nat) (hr : RdM w' A x.mvs) (hN : NodesAt w' g T) => perform_bad w' hT2 x hx A c g ct hr T HOX.out HTK.out.pos HTK.out.le hN HTK.out.nl code HCD.out.symm hc0)
        have PB2 := Sd.mk (fun w' (hT2 : Tab w') (A : Option Addr) (c g ct : Nat) (hr : RdM w' A q.mvs) (hN : NodesAt w' g T) => perform_bad w' hT2 q hq A c g ct hr T HOQ.out HTK.out.pos HTK.out.le hN HTK.out.nl code HCK.out hc0)
        clear hc0
        have K0 := Sd.mk (two_boxes (w := w) PM.out.drew.bx PM.out.drew.bY PM.out.drew.below)
        go_region_held3 (fun wx => wx.heap[w.heap.size]? = some (.cells #[.int .i64 x.N, .int .i64 x.start, .int .i64 x.inp, .int .i64 x.out, .slice A x.mvs.length c] 24 (0, 0)) ∧ wx.heap[w.heap.size + 1]? = some (.cells #[.int .i64 y.N, .int .i64 y.start, .int .i64 y.inp, .int .i64 y.out, .slice A' y.mvs.length c'] 24 (0, 0)) ∧ Below w.heap.size w wx ∧ wx.cell? ⟨w.heap.size, 0, none⟩ = some (.int .i64 x.N) ∧ wx.cell? ⟨w.heap.size, 1, none⟩ = some (.int .i64 x.start) ∧ wx.cell? ⟨w.heap.size, 2, none⟩ = some (.int .i64 x.inp) ∧ wx.cell? ⟨w.heap.size, 3, none⟩ = some (.int .i64 x.out) ∧ wx.cell? ⟨w.heap.size, 4, none⟩ = some (.slice A x.mvs.length c) ∧ wx.cell? ⟨w.heap.size + 1, 0, none⟩ = some (.int .i64 y.N) ∧ wx.cell? ⟨w.heap.size + 1, 1, none⟩ = some (.int .i64 y.start) ∧ wx.cell? ⟨w.heap.size + 1, 2, none⟩ = some (.int .i64 y.inp) ∧ wx.cell? ⟨w.heap.size + 1, 3, none⟩ = some (.int .i64 y.out) ∧ wx.cell? ⟨w.heap.size + 1, 4, none⟩ = some (.slice A' y.mvs.length c'))
          (first | exact K0.out | (go_split_ands; exact two_kept (by assumption) (by assumption) (by assumption) (by assumption)) | fail)
          (first | (go_at_call 24; refine (ownTest_n wg.drew g1 cg1 T HTK.out.pos (by have := HTK.out.le; omega) (HNd3.out.below (below_drew (Below.refl _ _))) HTK.out.nl).mono ?_; rintro e wa17 ⟨ga17, ca17, rfl, na17, hBa17⟩) | (go_at_call_of 8 (Value.agg #[Value.int IntKind.i64 x.N, Value.int IntKind.i64 x.start, Value.int IntKind.i64 x.inp, Value.int IntKind.i64 x.out, Value.slice A x.mvs.length c]); refine (own_calls wa17 x hx A c (PM.out.drew.rx.below hBa17)).mono ?_; rintro e wb17 ⟨Ab17, cb17, rfl, rb17, hBb17⟩) | (go_at_call 23; refine (PB1.out wb17 ((PM.out.drew.tb.below hBa17).below hBb17) Ab17 cb17 ga17 ca17 rb17 (na17.below hBb17)).mono ?_; rintro e wc17 ⟨rfl, hBc⟩) | fail)
        have PN := Sd.mk (((PM.out.drew.later hBa17).later hBb17).later hBc)
        have HNd4 := Sd.mk ((((HNd3.out.below (below_drew (Below.refl _ _))).below hBa17).below hBb17).below hBc)
        clear hBa17 hBb17 hBc na17 rb17 K0
        go_wp2_with fail
        have K0 := Sd.mk (two_boxes (w := w) PN.out.drew.bq PN.out.drew.bz PN.out.drew.below)
        go_region_held3 (fun wx => wx.heap[bq]? = some (.cells #[.int .i64 q.N, .int .i64 q.start, .int .i64 q.inp, .int .i64 q.out, .slice Aq q.mvs.length cq] 24 (0, 0)) ∧ wx.heap[bz]? = some (.cells #[.int .i64 z.N, .int .i64 z.start, .int .i64 z.inp, .int .i64 z.out, .slice Az z.mvs.length cz] 24 (0, 0)) ∧ Below w.heap.size w wx ∧ wx.cell? ⟨bq, 0, none⟩ = some (.int .i64 q.N) ∧ wx.cell? ⟨bq, 1, none⟩ = some (.int .i64 q.start) ∧ wx.cell? ⟨bq, 2, none⟩ = some (.int .i64 q.inp) ∧ wx.cell? ⟨bq, 3, none⟩ = some (.int .i64 q.out) ∧ wx.cell? ⟨bq, 4, none⟩ = some (.slice Aq q.mvs.length cq) ∧ wx.cell? ⟨bz, 0, none⟩ = some (.int .i64 z.N) ∧ wx.cell? ⟨bz, 1, none⟩ = some (.int .i64 z.start) ∧ wx.cell? ⟨bz, 2, none⟩ = some (.int .i64 z.inp) ∧ wx.cell? ⟨bz, 3, none⟩ = some (.int .i64 z.out) ∧ wx.cell? ⟨bz, 4, none⟩ = some (.slice Az z.mvs.length cz))
          (first | exact K0.out | (go_split_ands; exact two_kept (by assumption) (by assumption) (by assumption) (by assumption)) | fail)
          (first | (go_at_call 24; refine (ownTest_n wc17.drew g1 cg1 T HTK.out.pos (by have := HTK.out.le; omega) (HNd4.out.below (below_drew (Below.refl _ _))) HTK.out.nl).mono ?_; rintro e wa18 ⟨ga18, ca18, rfl, na18, hBa18⟩) | (go_at_call_of 8 (Value.agg #[Value.int IntKind.i64 q.N, Value.int IntKind.i64 q.start, Value.int IntKind.i64 q.inp, Value.int IntKind.i64 q.out, Value.slice Aq q.mvs.length cq]); refine (own_calls wa18 q hq Aq cq (PN.out.drew.rq.below hBa18)).mono ?_; rintro e wb18 ⟨Ab18, cb18, rfl, rb18, hBb18⟩) | (go_at_call 23; refine (PB2.out wb18 ((PN.out.drew.tb.below hBa18).below hBb18) Ab18 cb18 ga18 ca18 rb18 (na18.below hBb18)).mono ?_; rintro e wc18 ⟨rfl, hBc⟩) | fail)
        have PO := Sd.mk (((PN.out.drew.later hBa18).later hBb18).later hBc)
        clear hBa18 hBb18 hBc na18 rb18 K0
        have SN0 := Sd.mk (fun W => same_calls W none none 0 0 [] [] (by simp) (by simp) (fun i hi => by simp at hi) (fun i hi => by simp at hi))
        go_wp2_with (first | (go_at_call 19; refine (SN0.out _).mono ?_; rintro e wt ⟨rfl, hBt⟩; have PQ := Sd.mk (PO.out.later hBt); clear hBt) | fail)
        go_ret
        exact ⟨rfl, PQ.out.below⟩
end Go.Proofs.YtcbhaeniahckhaaDoor
