/- A test's performance, walked. Conditions: those that each theorem names. -/
import Derived.Test.YtcbhaeniahckhaaDoorMk
set_option linter.unusedSimpArgs false
set_option linter.unusedVariables false
section
set_option linter.unusedSimpArgs false
namespace Go.Proofs.YtcbhaeniahckhaaDoor
open Go.RowKit Go.Shelf Go.Deep Go.Proofs.YtcbhaeniahckhaaDoorW.PrintLast
attribute [local go_sem] run_store_func
theorem PerfAt.row {w w' : World} {bs bt bn bw gs g ct : Nat} {X : SysP} {T : List Nd} (h : PerfAt w bs bt bn bw gs g ct X T) (hg : w.grownBy w' (some bw)) {node n c' : Nat} {A' : Option Addr} (hn : node < T.length) (hc : w.cell? ⟨g, node * 3 + 2, none⟩ = some (.slice A' n c')) : RdI w' A' (T.getD node ndD).nx := by
  obtain ⟨w0, h1, h2, h3, h4, h5⟩ := h.base
  obtain ⟨A, c, _, _, e3, e4⟩ := h5 node hn
  have e5 := h2.cell e3
  rw [hc] at e5
  cases e5
  exact e4.keptC (h2.grown h1 hg)
theorem ds_kept {w3 W W2 : World} {bd bw : Nat} {u : Value} {A : Option Addr} {tr : List Nat} (h0 : W.cell? ⟨bd, 0, none⟩ = some u) (hne : bd ≠ bw) (h1 : RdO W bw A tr) (h2 : w3.grownBy W (some bw)) (k : W.grownBy W2 (some bw)) : W2.cell? ⟨bd, 0, none⟩ = some u ∧ RdO W2 bw A tr ∧ w3.grownBy W2 (some bw) := ⟨cell_grown k h0 hne, h1.grown k, h2.trans k⟩
theorem belowA {w w5 : World} {o : Obj} (h : Below w.heap.size w w5) : Below w.heap.size w (w5.alloc o) := h.alloc h.size o
theorem belowA' {w w5 : World} {o : Obj} (h : Below w.drew.heap.size w.drew w5) : Below w.heap.size w (w5.alloc o) := belowA (Below.trans (below_drew (Below.refl _ _)) h)
theorem belowB {w w5 : World} {o : Obj} (h : Below (w.alloc o).drew.heap.size (w.alloc o).drew w5) : Below w.heap.size w w5 := (below_drew ((Below.refl w.heap.size w).alloc (Nat.le_refl _) o)).trans (h.mono (by show w.heap.size ≤ (w.alloc o).heap.size; simp))
theorem own_snoc {w : World} {B gb cap : Nat} {tr : List Nat} {z : Int} {e : Nat} (hz : z = (e : Int)) (h : w.ownsRow B 3 1 (.slice (some ⟨gb, 0, none⟩) (tr.length + 1) cap) (tr.length + 1) ((tr.map fun (x : Nat) => Value.int .i64 (x : Int)) ++ [.int .i64 z])) : RdI w (some ⟨gb, 0, none⟩) (tr ++ [e]) ∧ B ≤ gb := by
  subst hz
  have h1 : OwnI w B (.slice (some ⟨gb, 0, none⟩) (tr.length + 1) cap) (tr ++ [e]) := by
    unfold OwnI
    rw [List.length_append, List.length_singleton, List.map_append]
    exact h
  obtain ⟨A, c, e1, _, e2⟩ := h1.read
  simp only [Value.slice.injEq] at e1
  obtain ⟨rfl, _, _⟩ := e1
  exact ⟨e2, (h1.lt gb rfl).1⟩
set_option maxHeartbeats 8000000 in
set_option maxRecDepth 100000 in
theorem down_calls (bs bt bn bw gs g ct bv bt2 bx bd : Nat) (X : SysP) (T : List Nd) (hok : ∀ i, i < T.length → NdOK X T i) (hT6 : T.length ≤ 1000000) (hso : X.out ≤ 4 ∧ X.inp ≤ 4) (hbw : ∀ l e, l < 2 ^ X.N → afterS X l e < 2 ^ X.N) : ∀ (f : Nat) (w : World) (node : Nat) (A : Option Addr) (n c : Nat) (tr : List Nat) (v : Int × List Nat), n = tr.length → node < T.length → T.length - node < f → tr.length ≤ node → (∀ e ∈ tr, e ≤ X.inp + X.out) → RdO w bw A tr → alongS X tr < 2 ^ X.N → v.2.length ≤ T.length → WorstAt w bw v → DownAt w bs bt bn bw gs g ct bv bt2 bx bd X T →
    Calls Tryd.prog 82 #[.int .i64 node, .slice A n c, .pointer (some ⟨bv, 0, none⟩), .pointer (some ⟨bt2, 0, none⟩), .pointer (some ⟨bx, 0, none⟩), .pointer (some ⟨bd, 0, none⟩)] w fun e w' => e = .returned (.tuple #[]) ∧ WorstAt w' bw (downS X T f node tr v) ∧ w.grownBy w' (some bw) := by
  intro f
  induction f with
  | zero => intro w node A n c tr v _ _ h; omega
  | succ f ih =>
    intro w node A n c tr v hnn hn hf htr hev hr hl hvl hv hD
    subst hnn
    have IH := Sd.mk ih
    have HEV := Sd.mk hev
    have HR := Sd.mk hr
    have HV := Sd.mk hv
    have HD := Sd.mk hD
    have HOK := Sd.mk hok
    have v0 := hD.v0
    rw [downS_eq]
    obtain ⟨d, hd⟩ : ∃ d, d = T.getD node ndD := ⟨_, rfl⟩
    have hstep := downK_succ X T f node tr v
    have hchild := (hok node hn).2.2
    have hevs : ∀ {i : Nat}, i < d.nx.length → evNd X d i ≤ X.inp + X.out := fun {i} hi => by subst hd; exact evNd_le (hok node hn) hi
    have hinp := (hok node hn).1
    have hlens := downS_len X T hok
    rw [← hd] at hstep hchild hinp
    rw [← hd]
    have HST := Sd.mk hstep
    have HCH := Sd.mk hchild
    have HES := Sd.mk @hevs
    have HIN := Sd.mk hinp
    have HLS := Sd.mk hlens
    have HDd := Sd.mk hd
    clear ih hev hr hv hD hok hd hstep hchild hevs hinp hlens
    go_enter Tryd.func82, Tryd.ntmps82
    go_wp2_with (go_at_call 64; refine (visit_calls HD.out.perf HOK.out hT6 node hn A c tr (by omega) HEV.out HR.out hl v hvl HV.out hso.1).mono ?_; rintro e w1 ⟨u, rfl, hu, hV1, hg1⟩; have HU := Sd.mk hu; have HV1 := Sd.mk hV1; have HD1 := Sd.mk (HD.out.grown hg1); have HG1 := Sd.mk hg1; clear hu hV1 hg1; have q1 := HD1.out.q0; obtain ⟨A', c', m0, m1, m2, m3⟩ := HD1.out.perf.nodes node hn; have hnl := (HOK.out node hn).2.1; rw [← HDd.out] at m0 m1 m2 m3 hnl; have M3 := Sd.mk m3; clear m3)
    have hal := alloc_below w1 (Obj.cells #[.int .i64 d.inp, .int .i64 d.ver, .slice A' d.nx.length c'] 109)
    have hnb := heap_alloc_new w1 (Obj.cells #[.int .i64 d.inp, .int .i64 d.ver, .slice A' d.nx.length c'] 109)
    have hbws : w1.heap.size ≠ bw := fun e => by obtain ⟨_, _, h, _⟩ := HV1.out; have := (Array.getElem?_eq_some_iff.1 h).1; omega
    have hg2 := HG1.out.trans (grown_of bw hal)
    have HAL := Sd.mk hal
    have HV2 := Sd.mk (HV1.out.below hal)
    have HD2 := Sd.mk (HD1.out.grown (grown_of bw hal))
    have HR2 := Sd.mk (HR.out.grown hg2)
    have HG2 := Sd.mk hg2
    have M2 := Sd.mk m2
    clear hal hg2
    have c0 := cell_blk hnb 0
    have K0 := Sd.mk c0
    clear hnb c0 m0 m1 m2 q1
    generalize w1.alloc (Obj.cells #[.int .i64 d.inp, .int .i64 d.ver, .slice A' d.nx.length c'] 109) = w2 at *
    go_loopw [10, 11, 12, 24] (fun _ _ _ i wq => ∃ k : Nat, i = .int .i64 k ∧ k ≤ d.nx.length ∧ Sd (w2.grownBy wq (some bw)) ∧ Sd (WorstAt wq bw (downK X T f node tr v k)) ∧ (downK X T f node tr v k).2.length ≤ T.length) (fun _ _ _ i _ => d.nx.length - (intOf i).toNat)
    case atStart => exact ⟨0, rfl, Nat.zero_le _, ⟨grown_of bw (Below.refl _ _)⟩, HV2, visitS_len X T node tr v _ (by omega) hvl⟩
    case round =>
      obtain ⟨W1, hW1⟩ : ∃ W : World, W = wr := ⟨wr, rfl⟩
      subst hW1
      obtain ⟨k, rfl, hk, hGq, hVq, hlq⟩ := hrel
      have hg1q := Sd.mk ((grown_of bw HAL.out).trans hGq.out)
      have hDq := HD2.out.grown hGq.out
      have hRq := Sd.mk (HR2.out.grown hGq.out)
      have kq := cell_grown hGq.out K0.out hbws
      by_cases hlt : k < d.nx.length
      · have hlf : leafS d = false := Bool.and_eq_false_iff.2 (.inr (decide_eq_false (by omega)))
        obtain ⟨bl, hblw, hue, hblc⟩ := HU.out (by rw [← HDd.out]; exact hlf)
        subst hue
        have lq := cell_grown hg1q.out hblc hblw
        obtain ⟨ad, had, hrd⟩ := (HD1.out.perf.row hg1q.out hn M2.out) k (by rw [← HDd.out]; exact hlt)
        rw [← HDd.out] at hrd
        subst had
        have sq := hDq.perf.s0
        have xq := hDq.x0
        have dq := hDq.d0
        have hst := HST.out k
        have hch := HCH.out k hlt
        have hes := HES.out hlt
        have hcase : ((d.inp == -1) = true ∧ Sd ((X.inp : Int) + k = ((evNd X d k : Nat) : Int))) ∨ ((d.inp == -1) = false ∧ Sd (d.inp = ((evNd X d k : Nat) : Int))) := by
          by_cases hq : d.inp = -1
          · exact .inl ⟨by rw [hq]; rfl, ⟨by unfold evNd; rw [if_pos hq]; simp⟩⟩
          · exact .inr ⟨by rw [beq_eq_false_iff_ne]; exact hq, ⟨by unfold evNd; rw [if_neg hq, Int.toNat_of_nonneg (HIN.out.resolve_left hq).1]⟩⟩
        have HDq := Sd.mk hDq
        have HSt := Sd.mk hst
        have WX := hso.2
        clear hblc hDq hlf hst
        generalize d.nx.getD k 0 = ch at *
        generalize evNd X d k = ev at *
        generalize downK X T f node tr v k = vk at *
        rcases hcase with ⟨he, Hev⟩ | ⟨he, Hev⟩
        all_goals
          by_cases hz : afterS X (alongS X tr) ev = 0
          · have hd : (afterS X (alongS X tr) ev != 0) = false := by rw [hz]; rfl
            have hnext : Sd (downK X T f node tr v (k + 1) = vk) := ⟨by rw [HSt.out, if_neg (by rw [hd]; decide)]⟩
            clear hz
            go_wp2_with (go_at_call 67; refine (goes_int _ HDq.out.perf.tab bs bl gs X HDq.out.perf.sys _ ev _ Hev.out hl hes sq lq).mono ?_; rintro e w3 ⟨rfl, hB3⟩)
            go_roundw
            case rel => exact ⟨k + 1, by go_num, by omega, ⟨hGq.out.trans (grown_of bw hB3)⟩, by rw [hnext.out]; exact ⟨hVq.out.below hB3⟩, by rw [hnext.out]; exact hlq⟩
            case measure => simp [intOf]; omega
          · have hd : (afterS X (alongS X tr) ev != 0) = true := bne_iff_ne.2 hz
            have hnext : Sd (downK X T f node tr v (k + 1) = downS X T f ch (tr ++ [ev]) vk) := ⟨by rw [HSt.out, if_pos hd]⟩
            clear hz
            go_wp2_with (first | (go_at_call 67; refine (goes_int _ HDq.out.perf.tab bs bl gs X HDq.out.perf.sys _ ev _ Hev.out hl hes sq lq).mono ?_; rintro e w3 ⟨rfl, hB3⟩; have HB3 := Sd.mk hB3; clear hB3) | fail)
            have K3 := Sd.mk (ds_kept (w3 := w3) (W2 := w3) (cell_later HB3.out dq) HDq.out.d1 (hRq.out.grown (grown_of bw HB3.out)) (grown_of bw (Below.refl _ _)) (grown_of bw (Below.refl _ _)))
            have K1 := Sd.mk (ds_kept (w3 := w3) (W2 := w3.drew) (cell_later HB3.out dq) HDq.out.d1 (hRq.out.grown (grown_of bw HB3.out)) (grown_of bw (Below.refl _ _)) (grown_of bw (below_drew (Below.refl _ _))))
            have HV3 := Sd.mk (hVq.out.below HB3.out)
            have HD3 := Sd.mk (HDq.out.grown (grown_of bw HB3.out))
            have hbw3 : Sd (bw < w3.heap.size) := ⟨by obtain ⟨_, _, h, _⟩ := HV3.out; exact (Array.getElem?_eq_some_iff.1 h).1⟩
            have hE8 : Sd (∀ e ∈ tr ++ [ev], e ≤ X.inp + X.out) := ⟨fun e he => by rcases List.mem_append.1 he with h | h; exact HEV.out e h; rw [List.mem_singleton] at h; omega⟩
            have hA8 : Sd (alongS X (tr ++ [ev]) < 2 ^ X.N) := ⟨by unfold alongS at hl ⊢; rw [List.foldl_append]; exact hbw _ _ hl⟩
            have hL8 : Sd ((tr ++ [ev]).length ≤ ch ∧ T.length - ch < f ∧ tr.length + 1 = (tr ++ [ev]).length) := ⟨by rw [List.length_append, List.length_singleton]; omega⟩
            go_region_held3 (fun wx => wx.cell? ⟨bd, 0, none⟩ = some (.func (.func 82) #[] #[.pointer (some ⟨bv, 0, none⟩), .pointer (some ⟨bt2, 0, none⟩), .pointer (some ⟨bx, 0, none⟩), .pointer (some ⟨bd, 0, none⟩)]) ∧ RdO wx bw A tr ∧ w3.grownBy wx (some bw))
              (first | exact K1.out | (go_split_ands; exact ds_kept (by assumption) HDq.out.d1 (by assumption) (by assumption) (grown_of _ (by assumption))) | (go_split_ands; exact ds_kept (by assumption) HDq.out.d1 (by assumption) (by assumption) (grown_of _ (alloc_below _ _))) | (go_split_ands; exact ds_kept (by assumption) HDq.out.d1 (by assumption) (by assumption) (grown_of _ (below_drew (alloc_below _ _)))) | exact ds_kept (ds_kept K3.out.1 HDq.out.d1 K3.out.2.1 K3.out.2.2 (grown_of bw hB7)).1 HDq.out.d1 (ds_kept K3.out.1 HDq.out.d1 K3.out.2.1 K3.out.2.2 (grown_of bw hB7)).2.1 (ds_kept K3.out.1 HDq.out.d1 K3.out.2.1 K3.out.2.2 (grown_of bw hB7)).2.2 hg8 | exact ds_kept K3.out.1 HDq.out.d1 K3.out.2.1 K3.out.2.2 (grown_of bw hB7))
              (first | (go_at_call 60; refine (clone_calls _ A c tr (by omega) (show RdO _ bw A tr by go_split_ands; assumption).1).mono ?_; rintro e' w5 ⟨v5, rfl, ho5, hB5⟩; obtain ⟨b5, c5, rfl⟩ := own_len ho5) | (go_at_call 82; refine (IH.out _ ch (some ⟨gb, 0, none⟩) (tr.length + 1) cap (tr ++ [ev]) vk hL8.out.2.2 hch.2 hL8.out.2.1 hL8.out.1 hE8.out ⟨(own_snoc Hev.out ho7).1, fun ad he => by cases he; exact Nat.lt_of_lt_of_le hbw3.out (own_snoc Hev.out ho7).2⟩ hA8.out hlq (HV3.out.below hB7) (HD3.out.grown (grown_of bw hB7))).mono ?_; rintro e' w8 ⟨rfl, hV8, hg8⟩) | (refine app1_step (w := w3) rfl (.tmp 43) (.tmp 45) 27 rfl 3 _ 1 8 Tryd.underlying27 Tryd.info3 rfl (by decide) w3.heap.size (by first | exact belowA hB5 | exact belowB hB5 | exact belowA' hB5) w3.heap.size (Nat.le_refl _) (by first | exact (belowA hB5).size | exact (belowB hB5).size | exact (belowA' hB5).size) _ tr.length (tr.map fun (x : Nat) => Value.int .i64 (x : Int)) (by first | exact (ho5.mono (Nat.le_refl _)).below (alloc_below _ _) | exact ho5.mono (by show w3.heap.size ≤ (w3.alloc _).heap.size; simp)) (by omega) (by omega) _ [.int .i64 ((X.inp : Int) + k)] rfl rfl (by first | exact heap_alloc_new _ _ | exact (hB5.block _ (by show _ < (w3.alloc _).heap.size; simp)).trans (alloc_drew_at _ _ _ rfl)) rfl (fun u hu => by simp only [List.mem_cons, List.not_mem_nil, or_false] at hu; subst hu; rfl) ?_; intro gb cap w7 ho7 hB7 hg7 hat7 hlt7) | (refine app1_step (w := w3) rfl (.tmp 43) (.tmp 45) 27 rfl 3 _ 1 8 Tryd.underlying27 Tryd.info3 rfl (by decide) w3.heap.size (by first | exact belowA hB5 | exact belowB hB5 | exact belowA' hB5) w3.heap.size (Nat.le_refl _) (by first | exact (belowA hB5).size | exact (belowB hB5).size | exact (belowA' hB5).size) _ tr.length (tr.map fun (x : Nat) => Value.int .i64 (x : Int)) (by first | exact (ho5.mono (Nat.le_refl _)).below (alloc_below _ _) | exact ho5.mono (by show w3.heap.size ≤ (w3.alloc _).heap.size; simp)) (by omega) (by omega) _ [.int .i64 d.inp] rfl rfl (by first | exact heap_alloc_new _ _ | exact (hB5.block _ (by show _ < (w3.alloc _).heap.size; simp)).trans (alloc_drew_at _ _ _ rfl)) rfl (fun u hu => by simp only [List.mem_cons, List.not_mem_nil, or_false] at hu; subst hu; rfl) ?_; intro gb cap w7 ho7 hB7 hg7 hat7 hlt7) | fail)
            all_goals
              have HG8 := Sd.mk (((hGq.out.trans (grown_of bw HB3.out)).trans (grown_of bw hB7)).trans hg8)
              have HV8 := Sd.mk hV8
              have hl8 := HLS.out f ch (tr ++ [ev]) vk hch.2 hL8.out.1 hlq
              clear hB7 hg7 ho7 hV8 hg8 ho5 hB5 K1 K3
              go_wp2
              go_roundw
              case rel => exact ⟨k + 1, by go_num, by omega, HG8, by rw [hnext.out]; exact HV8, by rw [hnext.out]; exact hl8⟩
              case measure => simp [intOf]; omega
      · obtain rfl : k = d.nx.length := by omega
        go_wp2
        go_end0
        exact ⟨rfl, hVq.out, HG2.out.trans hGq.out⟩
end Go.Proofs.YtcbhaeniahckhaaDoor
end
section
set_option linter.unusedSimpArgs false
namespace Go.Proofs.YtcbhaeniahckhaaDoor
open Go.RowKit Go.Shelf Go.Deep Go.Proofs.YtcbhaeniahckhaaDoorW.PrintLast
attribute [local go_sem] run_store_func
theorem four_alloc (w : World) (o0 o1 o2 o3 : Obj) : ((((w.alloc o0).alloc o1).alloc o2).alloc o3).heap[w.heap.size]? = some o0 ∧ ((((w.alloc o0).alloc o1).alloc o2).alloc o3).heap[w.heap.size + 1]? = some o1 ∧ ((((w.alloc o0).alloc o1).alloc o2).alloc o3).heap[w.heap.size + 1 + 1]? = some o2 ∧ ((((w.alloc o0).alloc o1).alloc o2).alloc o3).heap[w.heap.size + 1 + 1 + 1]? = some o3 ∧ Below w.heap.size w ((((w.alloc o0).alloc o1).alloc o2).alloc o3) := by
  refine ⟨?_, ?_, ?_, alloc_at _ _ _ (by simp), (((alloc_below w o0).alloc (by simp) o1).alloc (by simp <;> omega) o2).alloc (by simp <;> omega) o3⟩
  · rw [heap_alloc_old _ _ (by simp <;> omega), heap_alloc_old _ _ (by simp <;> omega), heap_alloc_old _ _ (by simp)]; exact heap_alloc_new _ _
  · rw [heap_alloc_old _ _ (by simp <;> omega), heap_alloc_old _ _ (by simp)]; exact alloc_at _ _ _ (by simp)
  · rw [heap_alloc_old _ _ (by simp)]; exact alloc_at _ _ _ (by simp)
set_option maxHeartbeats 8000000 in
set_option maxRecDepth 100000 in
theorem each_calls (w : World) (bs bt bn bw gs g ct : Nat) (X : SysP) (T : List Nd) (hok : ∀ i, i < T.length → NdOK X T i) (hT6 : T.length ≤ 1000000) (hT0 : 0 < T.length) (hso : X.out ≤ 4 ∧ X.inp ≤ 4) (hbw : ∀ l e, l < 2 ^ X.N → afterS X l e < 2 ^ X.N) (hf : firstS X < 2 ^ X.N) (hP : PerfAt w bs bt bn bw gs g ct X T) (a0 a1 : Int) (am : Value) (hv : WorstAt w bw (-1, [])) :
    Calls Tryd.prog 63 #[.agg #[.int .i64 a0, .int .i64 a1, .int .i64 X.inp, .int .i64 X.out, am], .slice (some ⟨g, 0, none⟩) T.length ct, .func (.func 64) #[] #[.pointer (some ⟨bs, 0, none⟩), .pointer (some ⟨bt, 0, none⟩), .pointer (some ⟨bn, 0, none⟩)]] w fun e w' => e = .returned (.tuple #[]) ∧ WorstAt w' bw (performS X T) ∧ w.grownBy w' (some bw) := by
  have HP := Sd.mk hP
  have HV := Sd.mk hv
  have HOK := Sd.mk hok
  clear hP hv hok
  go_enter Tryd.func63, Tryd.ntmps63
  have hbl : bw < w.heap.size := by obtain ⟨_, _, h, _⟩ := HV.out; exact (Array.getElem?_eq_some_iff.1 h).1
  have four := four_alloc w (.cells #[.int .i64 a0, .int .i64 a1, .int .i64 X.inp, .int .i64 X.out, am] 24) (.cells #[.slice (some ⟨g, 0, none⟩) T.length ct] 50) (.cells #[.func (.func 64) #[] #[.pointer (some ⟨bs, 0, none⟩), .pointer (some ⟨bt, 0, none⟩), .pointer (some ⟨bn, 0, none⟩)]] 122) (.cells #[.func (.func 82) #[] #[.pointer (some ⟨w.heap.size + 1 + 1, 0, none⟩), .pointer (some ⟨w.heap.size + 1, 0, none⟩), .pointer (some ⟨w.heap.size, 0, none⟩), .pointer (some ⟨w.heap.size + 1 + 1 + 1, 0, none⟩)]] 140)
  have F := Sd.mk four
  clear four
  go_wp2_with (go_at_call 82; refine (down_calls bs bt bn bw gs g ct (w.heap.size + 1 + 1) (w.heap.size + 1) w.heap.size (w.heap.size + 1 + 1 + 1) X T HOK.out hT6 hso hbw (T.length + 1) _ 0 none 0 0 [] (-1, []) rfl hT0 (by omega) (by simp) (by simp) ⟨fun i hi => by simp at hi, fun ad he => by cases he⟩ hf (by simp) (HV.out.below F.out.2.2.2.2) ⟨HP.out.grown (grown_of bw F.out.2.2.2.2), cell_blk F.out.2.2.1 0, cell_blk F.out.2.1 0, cell_blk F.out.1 2, cell_blk F.out.2.2.2.1 0, by omega, by omega, by omega, by omega⟩).mono ?_; rintro e w2 ⟨rfl, hv2, hg2⟩)
  go_end0
  exact ⟨rfl, hv2, (grown_of bw F.out.2.2.2.2).trans hg2⟩
theorem five_alloc (w : World) (o0 o1 o2 o3 o4 : Obj) : (((((w.alloc o0).alloc o1).alloc o2).alloc o3).alloc o4).heap[w.heap.size]? = some o0 ∧ (((((w.alloc o0).alloc o1).alloc o2).alloc o3).alloc o4).heap[w.heap.size + 1]? = some o1 ∧ (((((w.alloc o0).alloc o1).alloc o2).alloc o3).alloc o4).heap[w.heap.size + 1 + 1]? = some o2 ∧ (((((w.alloc o0).alloc o1).alloc o2).alloc o3).alloc o4).heap[w.heap.size + 1 + 1 + 1]? = some o3 ∧
    (((((w.alloc o0).alloc o1).alloc o2).alloc o3).alloc o4).heap[w.heap.size + 1 + 1 + 1 + 1]? = some o4 ∧ Below w.heap.size w (((((w.alloc o0).alloc o1).alloc o2).alloc o3).alloc o4) := by
  obtain ⟨h0, h1, h2, h3, h4⟩ := four_alloc w o0 o1 o2 o3
  refine ⟨?_, ?_, ?_, ?_, alloc_at _ _ _ (by simp), h4.alloc (by simp <;> omega) o4⟩
  · rw [heap_alloc_old _ _ (by simp <;> omega)]; exact h0
  · rw [heap_alloc_old _ _ (by simp <;> omega)]; exact h1
  · rw [heap_alloc_old _ _ (by simp <;> omega)]; exact h2
  · rw [heap_alloc_old _ _ (by simp <;> omega)]; exact h3
/-- what perform's last region reads -/
def PfHeld (wx : World) (n gs g L ct : Nat) (c0 c1 c2 c3 c4 : Value) : Prop := wx.cell? ⟨n + 1, 0, none⟩ = some (.pointer (some ⟨gs, 0, none⟩)) ∧ wx.cell? ⟨n, 0, none⟩ = some (.slice (some ⟨g, 0, none⟩) L ct) ∧ wx.cell? ⟨gs, 0, none⟩ = some c0 ∧ wx.cell? ⟨gs, 1, none⟩ = some c1 ∧ wx.cell? ⟨gs, 2, none⟩ = some c2 ∧ wx.cell? ⟨gs, 3, none⟩ = some c3 ∧ wx.cell? ⟨gs, 4, none⟩ = some c4
theorem PfHeld.grown {w w' : World} {n gs g L ct bw : Nat} {c0 c1 c2 c3 c4 : Value} (h : PfHeld w n gs g L ct c0 c1 c2 c3 c4) (hg : w.grownBy w' (some bw)) (h1 : n + 1 ≠ bw) (h2 : n ≠ bw) (h3 : gs ≠ bw) : PfHeld w' n gs g L ct c0 c1 c2 c3 c4 := by
  obtain ⟨k0, k1, k2, k3, k4, k5, k6⟩ := h
  exact ⟨cell_grown hg k0 h1, cell_grown hg k1 h2, cell_grown hg k2 h3, cell_grown hg k3 h3, cell_grown hg k4 h3, cell_grown hg k5 h3, cell_grown hg k6 h3⟩
theorem SysAt.along_lt {w : World} {g : Nat} {S : SysP} {mv Ab cb As cs Ar cr} (h : SysAt w g S mv Ab cb As cs Ar cr) : firstS S < 2 ^ S.N ∧ ∀ l e, l < 2 ^ S.N → afterS S l e < 2 ^ S.N := ⟨firstS_lt S h.hs h.silb, fun _ _ hl => afterS_lt S h.byb h.silb hl⟩
set_option maxHeartbeats 8000000 in
set_option maxRecDepth 100000 in
theorem perform_tr (w : World) (gs g ct : Nat) (X : SysP) (T : List Nd) (hok : ∀ i, i < T.length → NdOK X T i) (hT6 : T.length ≤ 1000000) (hT0 : 0 < T.length) (hX : Sys w gs X) (hTb : Tab w) (hN : NodesAt w g T) :
    Calls Tryd.prog 41 #[.slice (some ⟨g, 0, none⟩) T.length ct, .pointer (some ⟨gs, 0, none⟩)] w fun e w' => ∃ B c, e = .returned (.agg #[.slice B (performS X T).2.length c, .int .i64 (performS X T).1]) ∧ RdI w' B (performS X T).2 ∧ Below w.heap.size w w' := by
  have HX := Sd.mk hX
  have HT := Sd.mk hTb
  have HN := Sd.mk hN
  have HOK := Sd.mk hok
  clear hX hTb hN hok
  obtain ⟨mv, Ab, cb, As, cs, Ar, cr, hX1⟩ := HX.out
  have hi := hX1.hi
  have ho := hX1.ho
  have hal := Sd.mk hX1.along_lt
  have hgl : gs < w.heap.size := (Array.getElem?_eq_some_iff.1 hX1.blk).1
  have five := five_alloc w (.cells #[.slice (some ⟨g, 0, none⟩) T.length ct] 50) (.cells #[.pointer (some ⟨gs, 0, none⟩)] 67) (.cells #[.slice none 0 0, .int .i64 0] 88) (.cells #[.slice none 0 0, .int .i64 (-1)] 88) (.cells #[.func (.func 61) #[] #[.pointer (some ⟨w.heap.size + 1 + 1 + 1, 0, none⟩)]] 118)
  have F := Sd.mk five
  have HB := Sd.mk hX1.blk
  clear five
  go_enter Tryd.func41, Tryd.ntmps41
  go_wp2_with fail
  generalize (((((w.alloc (Obj.cells #[Value.slice (some { block := g, off := 0 }) T.length ct] 50)).alloc (Obj.cells #[Value.pointer (some { block := gs, off := 0 })] 67)).alloc (Obj.cells #[Value.slice none 0 0, Value.int IntKind.i64 0] 88)).alloc (Obj.cells #[Value.slice none 0 0, Value.int IntKind.i64 (-1)] 88)).alloc (Obj.cells #[Value.func (Fn.func 61) #[] #[Value.pointer (some { block := w.heap.size + 1 + 1 + 1, off := 0 })]] 118)) = w5 at *
  have hP5 : Sd (PerfAt w5 (w.heap.size + 1) w.heap.size (w.heap.size + 1 + 1 + 1 + 1) (w.heap.size + 1 + 1 + 1) gs g ct X T) := ⟨⟨⟨w, by omega, (KeptC.refl w).below F.out.2.2.2.2.2, HX.out, HT.out, HN.out⟩, cell_blk F.out.2.1 0, cell_blk F.out.1 0, cell_blk F.out.2.2.2.2.1 0, by omega, by omega, by omega⟩⟩
  have hW5 : Sd (WorstAt w5 (w.heap.size + 1 + 1 + 1) (-1, [])) := ⟨⟨none, 0, F.out.2.2.2.1, fun i hi => by simp at hi, fun ad he => by cases he⟩⟩
  have hgb := cell_blk ((F.out.2.2.2.2.2.block gs hgl).trans HB.out)
  have K0 : Sd (PfHeld w5 w.heap.size gs g T.length ct (.int .i64 X.N) (.int .i64 X.start) (.int .i64 X.inp) (.int .i64 X.out) mv) := ⟨⟨cell_blk F.out.2.1 0, cell_blk F.out.1 0, hgb 0, hgb 1, hgb 2, hgb 3, hgb 4⟩⟩
  clear hgb
  have K1 : Sd (PfHeld w5.drew w.heap.size gs g T.length ct (.int .i64 X.N) (.int .i64 X.start) (.int .i64 X.inp) (.int .i64 X.out) mv) := ⟨K0.out⟩
  go_region_held3 (fun wx => wx.cell? ⟨w.heap.size + 1, 0, none⟩ = some (.pointer (some ⟨gs, 0, none⟩)) ∧ wx.cell? ⟨w.heap.size, 0, none⟩ = some (.slice (some ⟨g, 0, none⟩) T.length ct) ∧ wx.cell? ⟨gs, 0, none⟩ = some (.int .i64 X.N) ∧ wx.cell? ⟨gs, 1, none⟩ = some (.int .i64 X.start) ∧ wx.cell? ⟨gs, 2, none⟩ = some (.int .i64 X.inp) ∧ wx.cell? ⟨gs, 3, none⟩ = some (.int .i64 X.out) ∧ wx.cell? ⟨gs, 4, none⟩ = some mv)
    (first | exact K0.out | exact (PfHeld.grown K0.out hg6 (by omega) (by omega) (by omega)) | exact (PfHeld.grown K1.out hg6 (by omega) (by omega) (by omega)) | fail)
    (first | (go_at_call 63; refine (each_calls _ (w.heap.size + 1) w.heap.size (w.heap.size + 1 + 1 + 1 + 1) (w.heap.size + 1 + 1 + 1) gs g ct X T HOK.out hT6 hT0 ⟨ho, hi⟩ hal.out.2 hal.out.1 (hP5.out.grown (grown_of _ (below_drew (Below.refl _ _)))) X.N X.start mv (hW5.out.below (below_drew (Below.refl _ _)))).mono ?_; rintro e w6 ⟨rfl, hv6, hg6⟩) | fail)
  have hB6 : Sd (Below w.heap.size w w6) := ⟨⟨hg6.os.trans F.out.2.2.2.2.2.os, hg6.tape.trans F.out.2.2.2.2.2.tape, hg6.output.trans F.out.2.2.2.2.2.output, Nat.le_trans F.out.2.2.2.2.2.size hg6.size, fun k hk => (hg6.block k (Nat.lt_of_lt_of_le hk F.out.2.2.2.2.2.size) (fun e => by have := Option.some.inj e; omega)).trans (F.out.2.2.2.2.2.block k hk)⟩⟩
  have hres := (hg6.block (w.heap.size + 1 + 1) (Array.getElem?_eq_some_iff.1 F.out.2.2.1).1 (fun e => by have := Option.some.inj e; omega)).trans F.out.2.2.1
  obtain ⟨B, c, hw, hO⟩ := hv6
  have HO := Sd.mk hO
  clear hO
  have d0 := cell_blk hw 0
  have d1 := cell_blk hw 1
  have r0 := cell_blk hres 0
  have r1 := cell_blk hres 1
  have g0 := frz hres 0
  have g1 := frz hres 1
  have HRs := Sd.mk hres
  clear hg6 hw hres
  go_wp2
  (try simp only [Exit.inBlock, Exit.then])
  refine bodyPost_ret (results_cell_row (P := Tryd.prog) rfl _ _ (w.heap.size + 1 + 1) 88 #[_, _] (0, 0) _ rfl (blk_set (blk_set HRs.out 0 _) 1 _) Tryd.underlying88 rfl (by kernel_rfl)) rfl ?_
  refine ⟨_, _, rfl, fun i hi => ?_, (hB6.out.setCell (by simp <;> omega) _).setCell (by simp <;> omega) _⟩
  obtain ⟨ad, e1, e2⟩ := HO.out.1 i hi
  have hlt := HO.out.2 ad e1
  have hne : (ad.add i).block ≠ w.heap.size + 1 + 1 := by rw [add_block]; omega
  refine ⟨ad, e1, ?_⟩
  unfold World.cell? at e2 ⊢
  rw [Below.heap_setCell _ _ _ _ hne, Below.heap_setCell _ _ _ _ hne]
  exact e2
theorem perform_calls (w : World) (gs g ct : Nat) (X : SysP) (T : List Nd) (hok : ∀ i, i < T.length → NdOK X T i) (hT6 : T.length ≤ 1000000) (hT0 : 0 < T.length) (hX : Sys w gs X) (hTb : Tab w) (hN : NodesAt w g T) :
    Calls Tryd.prog 41 #[.slice (some ⟨g, 0, none⟩) T.length ct, .pointer (some ⟨gs, 0, none⟩)] w fun e w' => ∃ B n c, e = .returned (.agg #[.slice B n c, .int .i64 (performS X T).1]) ∧ Below w.heap.size w w' :=
  (perform_tr w gs g ct X T hok hT6 hT0 hX hTb hN).mono fun _ _ ⟨B, c, h1, _, h3⟩ => ⟨B, _, c, h1, h3⟩
end Go.Proofs.YtcbhaeniahckhaaDoor
end
