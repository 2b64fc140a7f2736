/- FilterApart: the walk through the law, to its end. -/
import Derived.Test.YtlfeckimhaegbaaDoorFil28
namespace Go.Proofs.YtlfeckimhaegbaaDoor
open Go Eng
set_option maxRecDepth 20000

theorem Turn4.k {w0 w : World} {fb gb : Nat} {X : List (Nat × Obj)} {x : Fl} {i : Nat} (h : Turn4 w0 fb gb X x i w) : Keep [] w0 w := by
  obtain ⟨sf, sg, Vf, Sf, Vg, Sg, env, _⟩ := h
  exact env.k
theorem Turn4.get {w0 w : World} {fb gb : Nat} {X : List (Nat × Obj)} {x : Fl} {i : Nat} (h : Turn4 w0 fb gb X x i w) {b : Nat} {o : Obj} (hm : (b, o) ∈ X) : w.heap[b]? = some o := by
  obtain ⟨sf, sg, Vf, Sf, Vg, Sg, env, _⟩ := h
  exact env.get hm
theorem Turn4.box {w0 w w' : World} {fb gb : Nat} {X : List (Nat × Obj)} {x : Fl} {i : Nat} (h : Turn4 w0 fb gb X x i w) (k : Keep [] w w') {b : Nat} {o : Obj} (hb : w.heap.size ≤ b) (g : w'.heap[b]? = some o) : Turn4 w0 fb gb ((b, o) :: X) x i w' := by
  obtain ⟨sf, sg, Vf, Sf, Vg, Sg, env, r⟩ := h
  exact ⟨sf, sg, Vf, Sf, Vg, Sg, env.box k hb g, r⟩
theorem Turn4.drop {w0 w : World} {fb gb : Nat} {X : List (Nat × Obj)} {q : Nat × Obj} {x : Fl} {i : Nat} (h : Turn4 w0 fb gb (q :: X) x i w) : Turn4 w0 fb gb X x i w := by
  obtain ⟨sf, sg, Vf, Sf, Vg, Sg, env, r⟩ := h
  exact ⟨sf, sg, Vf, Sf, Vg, Sg, env.drop, r⟩
theorem Turn4.keep0 {w0 w w' : World} {fb gb : Nat} {X : List (Nat × Obj)} {x : Fl} {i : Nat} (h : Turn4 w0 fb gb X x i w) (k : Keep [] w w') : Turn4 w0 fb gb X x i w' := by
  obtain ⟨sf, sg, Vf, Sf, Vg, Sg, env, r⟩ := h
  exact ⟨sf, sg, Vf, Sf, Vg, Sg, env.keep0 k, r⟩

/-- is it one of x's own flows -/
theorem own4 (x : Fl) (b7 b13 b15 : Nat) (op : Int) (h : Hd) (t : Int) (rv : Value) (w : World) (J : List Value → World → Prop)
    (g7 : w.heap[b7]? = some (.cells (flC x).toArray 37)) (g13 : w.heap[b13]? = some (.cells (flC (revF x)).toArray 37)) (g15 : w.heap[b15]? = some (.cells (sxC ⟨op, h, t, rv⟩).toArray 41))
    (hJ : J [.bool (ownB x h.flow)] w) :
    m4_2 J (.pointer (some ⟨b15, 0, none⟩)) (.pointer (some ⟨b7, 0, none⟩)) (.pointer (some ⟨b13, 0, none⟩)) w := by
  simp only [sxC, hdC, flC, List.cons_append, List.nil_append] at g15
  unfold m4_2
  simp only [pFld_eq, Nat.zero_add, Nat.add_zero, Nat.reduceAdd, List.drop_succ_cons, List.drop_zero, List.take_succ_cons, List.take_zero, List.length_cons, List.length_nil, Nat.reduceLeDiff, ite_true, ldN_eq g15]
  refine ldN_all g7 rfl ?_
  refine eq37 (a := h.flow) (b := x) ?_
  refine condF_of (fun h2 => ?_) (fun h2 => ?_)
  · have : ownB x h.flow = true := by unfold ownB; rw [h2]; rfl
    rw [← this]; exact hJ
  · refine ldN_all g13 rfl ?_
    refine eq37 (a := h.flow) (b := revF x) ?_
    have : ownB x h.flow = decide (h.flow = revF x) := by unfold ownB; rw [h2]; rfl
    rw [← this]; exact hJ

theorem loop4 {w0 : World} (hT : TextOk w0) (S : List Nat) (fb gb b7 b13 : Nat) (X : List (Nat × Obj)) (x : Fl) (i : Nat) (u : Value) (ss : List Sc) (w : World) (R : Value → World → Prop) (again : List Value → World → Prop)
    (hp0 : 0 ≤ x.proto) (hp1 : x.proto < 256) (hu : StepsAt w0 u ss S) (hi : i ≤ ss.length) (hi2 : ss.length ≤ 200) (ht : Turn4 w0 fb gb X x i w)
    (m7 : (b7, .cells (flC x).toArray 37) ∈ X) (m13 : (b13, .cells (flC (revF x)).toArray 37) ∈ X)
    (hA : i < ss.length → ∀ w', Turn4 w0 fb gb X x (i + 1) w' → again [.int .i64 (i + 1 : Nat)] w')
    (hR : ∀ w', Keep [] w0 w' → R (.bool true) w') :
    m4_8 R again [.int .i64 i] u (.pointer (some ⟨b7, 0, none⟩)) (.pointer (some ⟨b13, 0, none⟩)) (.pointer (some ⟨fb, 0, none⟩)) (.pointer (some ⟨gb, 0, none⟩)) w := by
  unfold m4_8
  simp only [(hu.keep0 ht.k).len, List.getD_cons_zero, pBin_int, binI]
  refine condF_of (fun h => ?_) (fun h => ?_)
  · have hi' : i < ss.length := by simpa using h
    have kw := ht.k
    refine hu.elK kw hi' fun rv eb off hb el ru hok n0 => ?_
    rw [el.ldN0 16 (by simp [sxC_len]), List.take_of_length_le (by simp [sxC_len])]
    generalize hst : ss[i] = st at *
    refine eBox_of fun b15 w1 hb15 k1 g1 => ?_
    obtain ⟨ra, rc, hrv⟩ : ∃ a c, rv = .slice a st.rules.length c := by
      obtain ⟨xs, hl, hsl, _⟩ := ru
      obtain ⟨a, c, e⟩ := hsl.slice
      exact ⟨a, c, by rw [e, hl]⟩
    refine eStAll_of (vs := sxC ⟨st.op, st.h, st.now, rv⟩) (by kernel_rfl) g1 (by simp [sxC, hdC, flC, Value.cells]) (by subst hrv; simp [sxC, hdC, flC, Value.oneCell']) fun w2 k2 g2 => ?_
    have k2 : Keep [] w w2 := k1.trans k2 (fun k hk hm => by simp only [List.mem_singleton] at hm; omega)
    have ht2 := ht.box k2 (by omega) g2
    refine joinP_of (fun vs w' => vs = [.bool (ownB x st.h.flow)] ∧ w' = w2) ?_ ?_
    · exact own4 x b7 b13 b15 st.op st.h st.now rv w2 _ (ht2.get (List.mem_cons_of_mem _ m7)) (ht2.get (List.mem_cons_of_mem _ m13)) g2 ⟨rfl, rfl⟩
    rintro _ w3 ⟨rfl, rfl⟩
    refine joinP_of (fun vs w' => ∃ a b : Int, vs = [.int .i64 a, .int .i64 b] ∧ (ownB x st.h.flow = true → a = b) ∧ Turn4 w0 fb gb ((b15, .cells (sxC ⟨st.op, st.h, st.now, rv⟩).toArray 41) :: X) x (i + 1) w') ?_ ?_
    · exact step4 hT S fb gb b15 b7 _ x i st.op st.h st.now rv st.rules w3 _ hp0 hp1 (by omega) ht2 n0 hok ru List.mem_cons_self (List.mem_cons_of_mem _ m7) fun a b w' hab ht' => ⟨a, b, rfl, hab, ht'⟩
    rintro _ w4 ⟨a, b, rfl, hab, ht4⟩
    unfold m4_7
    refine joinP_of (fun vs w' => vs = [.bool false] ∧ w' = w4) ?_ ?_
    · simp only [condF_bool, pBin_int, binI, List.getD_cons_zero, List.getD_cons_succ]
      refine ⟨fun ho => ?_, fun _ => by simp⟩
      rw [hab ho]
      simp
    rintro _ w5 ⟨rfl, rfl⟩
    simp only [List.getD_cons_zero]
    refine condF_of (fun h => by cases h) (fun _ => ?_)
    rw [pBin_int]
    simp only [binI]
    rw [wrap_succ hi' (by omega)]
    exact hA hi' w5 ht4.drop
  · refine call_of (k6 hT w ht.k) fun v3 w3 ⟨e3, k3⟩ => ?_
    subst e3
    exact hR w3 (ht.k.trans k3 (by simp))

theorem k4 (rs : List Ru) (life : Int) (ss : List Sc) (x : Fl) (v u : Value) (S : List Nat) (w : World) (hT : TextOk w) (hv : RulesAt w v rs S) (hu : StepsAt w u ss S) (l0 : 0 ≤ life) (l1 : life < 65536)
    (hp0 : 0 ≤ x.proto) (hp1 : x.proto < 256) :
    Calls Tryd.prog 4 #[v, .int .u16 life, u, flV x] w fun e w' => ∃ z, e = .returned z ∧ Ans (.bool true) w z w' := by
  refine c4 _ _ _ _ _ _ ?_
  unfold m4
  refine eBox_of fun b7 w1 hb7 k1 g1 => ?_
  have g1 : w1.heap[b7]? = some (.cells (flC x).toArray 37) := g1
  refine call_of (k5 rs ss v u S w1 (hv.keep0 k1) (hu.keep0 k1)) fun v2 w2 ⟨e2, k2⟩ => ?_
  subst e2
  have kk2 := k1.trans k2 (by simp)
  unfold m4_12
  refine condF_of (fun hh => ?_) (fun hh => ?_)
  · refine call_of (k6 hT w2 kk2) fun v3 w3 ⟨e3, k3⟩ => ?_
    exact ⟨e3, kk2.trans k3 (by simp)⟩
  have hlen : ss.length ≤ 200 := by
    unfold heavyB at hh
    simp only [Bool.or_eq_false_iff, decide_eq_false_iff_not] at hh
    omega
  have g2 := k2.get g1 (by simp)
  refine call_of (k8 rs v S w2 (hv.keep0 kk2)) fun v3 w3 ⟨S3, r3, k3, hS3⟩ => ?_
  have g3 := k3.get g2 (by simp)
  have kk3 := kk2.trans k3 (by simp)
  simp only [pBin_int, binI, pConv_int]
  rw [wrap_in_u64 (x := life) (by omega) (by omega), wrap_in_u64 (by omega) (by omega)]
  refine call_of (k7 rs v3 S3 1024 (life + 1) w3 r3 (by omega) (by omega) (by omega) (by omega)) fun v4 w4 ⟨fb, e4, V4, S4, r4, k4, hV4, hS4⟩ => ?_
  subst e4
  have hs4 : StOk (newS rs 1024 (life + 1)) := new_ok (by omega) (by omega) (by omega) (by omega)
  have g4 := k4.get g3 (by simp)
  have kk4 := kk3.trans k4 (by simp)
  have hnew4 : ∀ k ∈ V4, w3.heap.size ≤ k := fun k hk => by rcases hV4 k hk with h | h; cases h; exact h
  unfold m4_11
  simp only [pExt_eq, pBin_int, binI, List.getElem?_toArray, List.getElem?_cons_succ, List.getElem?_cons_zero, pConv_int]
  refine call_of (k8 rs v S w4 (hv.keep0 kk4)) fun v5 w5 ⟨S5, r5, k5, hS5⟩ => ?_
  have g5 := k5.get g4 (by simp)
  have kk5 := kk4.trans k5 (by simp)
  rw [wrap_in_u64 (x := life) (by omega) (by omega), wrap_in_u64 (by omega) (by omega)]
  refine call_of (k7 rs v5 S5 1024 (life + 1) w5 r5 (by omega) (by omega) (by omega) (by omega)) fun v6 w6 ⟨gb, e6, V6, S6, r6, k6', hV6, hS6⟩ => ?_
  subst e6
  have g6 := k6'.get g5 (by simp)
  have kk6 := kk5.trans k6' (by simp)
  have hnew6 : ∀ k ∈ V6, w5.heap.size ≤ k := fun k hk => by rcases hV6 k hk with h | h; cases h; exact h
  have hlt4 := r4.lt
  have hw3 := kk3.size
  have hw4 := kk4.size
  have hw5 := kk5.size
  have hk5 := k5.size
  have lb7 := lt_of_get g3
  have hk4 := k4.size
  have hk3 := k3.size
  unfold m4_10
  simp only [pExt_eq, List.getElem?_toArray, List.getElem?_cons_succ, List.getElem?_cons_zero]
  refine joinP_of (fun vs w' => vs = [.bool false] ∧ w' = w6) ?_ ?_
  · unfold m4_1
    simp only [condF_bool, pBin_int, binI, pNil_ptr]
    exact ⟨fun h => by simp at h, fun _ => ⟨fun h => by simp at h, fun _ => ⟨fun h => by simp at h, fun _ => by simp⟩⟩⟩
  rintro _ w7 ⟨rfl, rfl⟩
  simp only [List.getD_cons_zero]
  refine condF_of (fun h => by cases h) (fun _ => ?_)
  refine ldN_all g6 rfl ?_
  refine call_of (k11 x w7) fun v8 w8 ⟨e8, k8⟩ => ?_
  subst e8
  unfold m4_9
  refine eBox_of fun b13 w9 hb13 k9 g9 => ?_
  refine eStAll_of (vs := flC (revF x)) (sz37 _) g9 (by simp [flC, Value.cells]) (fl_one _) fun w10 k10 g10 => ?_
  have k10 : Keep [] w7 w10 := (k8.trans k9 (by simp)).trans k10 (fun k hk hm => by simp only [List.mem_singleton] at hm; have := k8.size; omega)
  have env0 : Env2 w w7 fb gb [(b7, .cells (flC x).toArray 37)] (newS rs 1024 (life + 1)) (newS rs 1024 (life + 1)) V4 S4 V6 S6 := by
    refine ⟨kk6, (r4.keep0 k5).keep0 k6', r6, fun y hy hm => ?_, fun y hy hm => ?_, fun y hy hm => ?_, fun y hy => ?_, fun y hy => ?_, fun q hq => ?_⟩
    · have := hnew6 y hm; have := hlt4 y (by simp [hy]); omega
    · have := hnew6 y hm; have := hlt4 y (by simp [hy]); omega
    · have h2 := hlt4 y (by simp [hm])
      rcases hS6 y hy with h1 | h1
      · cases h1
      · omega
    · have := hnew4 y hy; omega
    · have := hnew6 y hy; omega
    · simp only [List.mem_singleton] at hq
      subst hq
      exact ⟨g6, fun hc => by have := hnew4 _ hc; simp at this; omega, fun hc => by have := hnew6 _ hc; simp at this; omega⟩
  have env := env0.box k10 (b := b13) (by have := k8.size; omega) g10
  have ht0 : Turn4 w fb gb [(b13, .cells (flC (revF x)).toArray 37), (b7, .cells (flC x).toArray 37)] x 0 w10 := ⟨_, _, _, _, _, _, env, hs4, hs4, apart_new _ _ _ _, by simp [newS], by simp [newS], rfl, rfl⟩
  refine loopP_of (fun vs w' => ∃ i : Nat, vs = [.int .i64 i] ∧ i ≤ ss.length ∧ Turn4 w fb gb [(b13, .cells (flC (revF x)).toArray 37), (b7, .cells (flC x).toArray 37)] x i w') (mu0 ss.length)
    ⟨0, rfl, by omega, ht0⟩ ?_
  rintro vs w11 ⟨i, rfl, hi, ht⟩
  refine loop4 hT S fb gb b7 b13 _ x i u ss w11 _ _ hp0 hp1 hu hi hlen ht (by simp) (by simp) (fun hi' w' h => ⟨⟨i + 1, rfl, hi', h⟩, ?_⟩) fun w' h => ⟨rfl, h⟩
  rw [mu0_eq, mu0_eq]; omega
end Go.Proofs.YtlfeckimhaegbaaDoor
