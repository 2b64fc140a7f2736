/- FilterAnswers: the walk through the law. -/
import Derived.Test.YtlfeckimhaegbaaDoorFil15
namespace Go.Proofs.YtlfeckimhaegbaaDoor
open Go Eng
set_option maxRecDepth 20000

/-- the law's own things in memory: the filter, the time (bn), what it remembers (bl), boxes that stay (X) -/
structure Env (w0 w : World) (fb bn bl : Nat) (X : List (Nat × Obj)) (s : St) (nw : Int) (L : List (Fl × Int)) (lv : Value) (Bl V S' : List Nat) : Prop where
  k : Keep [] w0 w
  f : FRep w fb V S' s
  gn : w.heap[bn]? = some (.cells #[.int .u64 nw] 32)
  gl : w.heap[bl]? = some (.cells #[lv] 33)
  o : OwnS w lv 44 10 L.length (L.flatMap liC) Bl
  x : ∀ p ∈ X, w.heap[p.1]? = some p.2 ∧ p.1 ≠ bn ∧ p.1 ≠ bl ∧ p.1 ∉ V ∧ p.1 ∉ Bl
  hV : ∀ k ∈ V, w0.heap.size ≤ k ∧ k ≠ bn ∧ k ≠ bl ∧ k ∉ Bl
  hS : ∀ k ∈ S', k ≠ bn ∧ k ≠ bl ∧ k ∉ Bl
  hB : ∀ k ∈ Bl, w0.heap.size ≤ k ∧ k ≠ bn ∧ k ≠ bl
  hn : w0.heap.size ≤ bn ∧ bn ≠ bl
  hl : w0.heap.size ≤ bl

section
variable {w0 w w' : World} {fb bn bl : Nat} {X : List (Nat × Obj)} {s s' : St} {nw : Int} {L : List (Fl × Int)} {lv : Value} {Bl V S' : List Nat}
theorem Env.post (h : Env w0 w fb bn bl X s nw L lv Bl V S') (p : Post w V S' fb s' w') : ∃ V' S'', Env w0 w' fb bn bl X s' nw L lv Bl V' S'' := by
  obtain ⟨V', S2, r, k, hV', hS'⟩ := p
  have ln := lt_of_get h.gn
  have ll := lt_of_get h.gl
  have lB := h.o.lt
  have hw := h.k.size
  refine ⟨V', S2, h.k.trans k (fun x hx hm => by have := (h.hV x hm).1; omega), r, k.get h.gn (fun hc => (h.hV _ hc).2.1 rfl), k.get h.gl (fun hc => (h.hV _ hc).2.2.1 rfl),
    h.o.keep k (fun b hb hc => (h.hV b hc).2.2.2 hb), fun q hq => ?_, fun x hx => ?_, fun x hx => ?_, h.hB, h.hn, h.hl⟩
  · obtain ⟨h1, h2, h3, h4, h5⟩ := h.x q hq
    refine ⟨k.get h1 h4, h2, h3, fun hc => ?_, h5⟩
    rcases hV' _ hc with h6 | h6
    · exact h4 h6
    · have := lt_of_get h1; omega
  · rcases hV' x hx with h1 | h1
    · exact h.hV x h1
    · exact ⟨by omega, by omega, by omega, fun hc => by have := lB x hc; omega⟩
  · rcases hS' x hx with h1 | h1
    · exact h.hS x h1
    · exact ⟨by omega, by omega, fun hc => by have := lB x hc; omega⟩
theorem Env.keep0 (h : Env w0 w fb bn bl X s nw L lv Bl V S') (k : Keep [] w w') : Env w0 w' fb bn bl X s nw L lv Bl V S' :=
  ⟨h.k.trans k (by simp), h.f.keep0 k, k.get h.gn (by simp), k.get h.gl (by simp), h.o.keep k (by simp), fun q hq => by obtain ⟨h1, h2⟩ := h.x q hq; exact ⟨k.get h1 (by simp), h2⟩, h.hV, h.hS, h.hB, h.hn, h.hl⟩
/-- a box that was made behind all the others -/
theorem Env.box (h : Env w0 w fb bn bl X s nw L lv Bl V S') (k : Keep [] w w') {b : Nat} {o : Obj} (hb : w.heap.size ≤ b) (g : w'.heap[b]? = some o) : Env w0 w' fb bn bl ((b, o) :: X) s nw L lv Bl V S' := by
  have ln := lt_of_get h.gn
  have ll := lt_of_get h.gl
  have lB := h.o.lt
  have lV := h.f.lt
  have h' := h.keep0 k
  refine ⟨h'.k, h'.f, h'.gn, h'.gl, h'.o, fun q hq => ?_, h.hV, h.hS, h.hB, h.hn, h.hl⟩
  rcases List.mem_cons.1 hq with rfl | hq
  · exact ⟨g, fun e => by simp at e; omega, fun e => by simp at e; omega, fun hc => by have := lV b (by simp at hc; simp [hc]); omega, fun hc => by have := lB b hc; omega⟩
  · exact h'.x q hq
theorem Env.drop {q : Nat × Obj} (h : Env w0 w fb bn bl (q :: X) s nw L lv Bl V S') : Env w0 w fb bn bl X s nw L lv Bl V S' :=
  ⟨h.k, h.f, h.gn, h.gl, h.o, fun q hq => h.x q (List.mem_cons_of_mem _ hq), h.hV, h.hS, h.hB, h.hn, h.hl⟩
theorem Env.get (h : Env w0 w fb bn bl X s nw L lv Bl V S') {b : Nat} {o : Obj} (hm : (b, o) ∈ X) : w.heap[b]? = some o := (h.x _ hm).1
theorem Env.setNow (h : Env w0 w fb bn bl X s nw L lv Bl V S') (nw' : Int) {K : World → Prop} (hk : ∀ w', Env w0 w' fb bn bl X s nw' L lv Bl V S' → K w') : eSt1 (.pointer (some ⟨bn, 0, none⟩)) (.int .u64 nw') w K := by
  refine eSt1_of h.gn (by simp) rfl (by simp) fun w' k g => hk w' ?_
  refine ⟨h.k.trans k (fun x hx hm => by have := h.hn.1; simp at hm; omega), h.f.keep k (fun x hx hm => by simp at hm; exact (h.hV x hx).2.1 hm) (fun x hx hm => by simp at hm; exact (h.hS x hx).1 hm),
    by rw [g]; rfl, k.get h.gl (by simp; exact fun e => h.hn.2 e.symm), h.o.keep k (fun b hb hm => by simp at hm; exact (h.hB b hb).2.1 hm), fun q hq => ?_, h.hV, h.hS, h.hB, h.hn, h.hl⟩
  obtain ⟨h1, h2, h3⟩ := h.x q hq
  exact ⟨k.get h1 (by simpa using h2), h2, h3⟩
theorem Env.push (h : Env w0 w fb bn bl X s nw L lv Bl V S') (y : Fl) (u : Int) (hn : L.length < 1000) {K : World → Prop} (hk : ∀ w' lv' Bl', Env w0 w' fb bn bl X s nw (L ++ [(y, u)]) lv' Bl' V S' → K w') :
    ef Tryd.prog (Instr.buildSlice 33 1 ([(0, .agg (liC (y, u)).toArray)]).toArray) w fun t159 w31 => ef Tryd.prog (Builtin.append_ #[33, 33] 33 #[lv, t159]) w31 fun t160 w32 => eSt1 (.pointer (some ⟨bl, 0, none⟩)) t160 w32 fun w33 => K w33 := by
  refine build1_of (n := 10) t33.hst t33.hsz t33.zr rfl (by decide) (by decide) fun b9 w7 hb9 k7 g7 => ?_
  have hlt := h.f.lt
  have e7 := h.keep0 k7
  have ln := lt_of_get e7.gn
  have ll := lt_of_get e7.gl
  have hw := e7.k.size
  refine t33.append e7.o (m := 1) (ys := liC (y, u)) ⟨rfl, .inr ⟨b9, 0, 1, _, _, _, rfl, g7, by simp [Value.cells, liC, flC], by simp [Value.cells, liC, flC]⟩⟩ (by simp [liC, flC, Value.oneCell']) (by omega) fun v8 w8 B' ho8 k8 hB' _ => ?_
  have hlt7 := e7.f.lt
  have nB : ∀ x ∈ B', w0.heap.size ≤ x ∧ x ≠ bn ∧ x ≠ bl := fun x hx => by
    rcases hB' x hx with h1 | h1
    · exact h.hB x h1
    · exact ⟨by omega, by omega, by omega⟩
  have gl8 := k8.get e7.gl (fun hc => (h.hB _ hc).2.2 rfl)
  refine eSt1_of gl8 (by simp) ?_ (by simp) fun w9 k9 g9 => hk w9 v8 B' ?_
  · obtain ⟨a, c, e⟩ := ho8.rd.slice
    rw [e]; rfl
  have ho9 := ho8.keep k9 (fun b hb hm => by simp at hm; exact (nB b hb).2.2 hm)
  refine ⟨(e7.k.trans k8 (fun x hx hm => by have := (h.hB x hm).1; omega)).trans k9 (fun x hx hm => by have := h.hl; simp at hm; omega),
    (e7.f.keep k8 (fun x hx hm => (h.hV x hx).2.2.2 hm) (fun x hx hm => (h.hS x hx).2.2 hm)).keep k9 (fun x hx hm => by simp at hm; exact (h.hV x hx).2.2.1 hm) (fun x hx hm => by simp at hm; exact (h.hS x hx).2.1 hm),
    k9.get (k8.get e7.gn (fun hc => (h.hB _ hc).2.1 rfl)) (by simp; exact h.hn.2), by rw [g9]; rfl, ?_, fun q hq => ?_, fun x hx => ?_, fun x hx => ?_, nB, h.hn, h.hl⟩
  · simpa using ho9
  · obtain ⟨h1, h2, h3, h4, h5⟩ := e7.x q hq
    refine ⟨k9.get (k8.get h1 h5) (by simpa using h3), h2, h3, h4, fun hc => ?_⟩
    rcases hB' _ hc with h6 | h6
    · exact h5 h6
    · have := lt_of_get h1; omega
  · obtain ⟨h1, h3, h4, h5⟩ := h.hV x hx
    refine ⟨h1, h3, h4, fun hc => ?_⟩
    rcases hB' x hc with h6 | h6
    · exact h5 h6
    · have := hlt7 x (by simp [hx]); omega
  · obtain ⟨h1, h2, h3⟩ := h.hS x hx
    refine ⟨h1, h2, fun hc => ?_⟩
    rcases hB' x hc with h6 | h6
    · exact h3 h6
    · have := hlt7 x (by simp [hx]); omega
end

/-- what holds at each turn -/
def Turn (w0 : World) (S : List Nat) (fb bn bl : Nat) (X : List (Nat × Obj)) (life n : Int) (i : Nat) (setV : Value) (w : World) : Prop :=
  ∃ s L lv Bl V S', Env w0 w fb bn bl X s s.now L lv Bl V S' ∧ StOk s ∧ Rel s L life ∧ s.most = n ∧ RulesAt w0 setV s.rules S ∧ L.length ≤ i

theorem Rel.small {s : St} {L : List (Fl × Int)} {life : Int} (h : Rel s L life) (hs : StOk s) : ∀ p ∈ L, 0 ≤ p.2 ∧ p.2 < 4611686018427387904 := fun p hp => by
  have := h.le p hp
  have := hs.n1
  omega

theorem in_state (s : St) (h : Hd) (t : Int) : (inS s h t).2.most = s.most ∧ (inS s h t).2.rules = s.rules ∧ (t < 4611686018427387904 → (inS s h t).2.now = maxI s.now t) := by
  have ha : ∀ x, (againS (atS s t) x).most = s.most ∧ (againS (atS s t) x).rules = s.rules ∧ (againS (atS s t) x).now = maxI s.now t := by
    intro x; unfold againS; split <;> exact ⟨rfl, rfl, rfl⟩
  unfold inS
  split
  · exact ⟨rfl, rfl, fun h => by omega⟩
  · split
    · exact ⟨rfl, rfl, fun _ => rfl⟩
    · split
      · exact ⟨(ha _).1, (ha _).2.1, fun _ => (ha _).2.2⟩
      · exact ⟨rfl, rfl, fun _ => rfl⟩
theorem out_state (s : St) (h : Hd) (t : Int) : (outS s h t).2.most = s.most ∧ (outS s h t).2.rules = s.rules ∧ (t < 4611686018427387904 → (outS s h t).2.now = maxI s.now t) := by
  have ha : ∀ x, (againS (atS s t) x).most = s.most ∧ (againS (atS s t) x).rules = s.rules ∧ (againS (atS s t) x).now = maxI s.now t := by
    intro x; unfold againS; split <;> exact ⟨rfl, rfl, rfl⟩
  unfold outS
  split
  · exact ⟨rfl, rfl, fun h => by omega⟩
  · split
    · exact ⟨(ha _).1, (ha _).2.1, fun _ => (ha _).2.2⟩
    · split <;> exact ⟨rfl, rfl, fun _ => rfl⟩

/-- behind one call of the filter's -/
def Done (w0 : World) (fb bn bl : Nat) (X : List (Nat × Obj)) (life n : Int) (i : Nat) (rules : List Ru) (w : World) : Prop :=
  ∃ s L lv Bl V S', Env w0 w fb bn bl X s s.now L lv Bl V S' ∧ StOk s ∧ Rel s L life ∧ s.most = n ∧ s.rules = rules ∧ L.length ≤ i

/-- Out -/
theorem turn_out (w0 : World) (fb bn bl b6 b16 : Nat) (X : List (Nat × Obj)) (life n : Int) (i : Nat) (h : Hd) (t : Int) (s : St) (L : List (Fl × Int)) (lv : Value) (Bl V S' : List Nat) (w : World) (R : Value → World → Prop) (J : List Value → World → Prop)
    (l0 : 0 ≤ life) (l1 : life < 65536) (hi2 : i < 300) (env : Env w0 w fb bn bl X s (maxI s.now t) L lv Bl V S') (hs : StOk s) (rel : Rel s L life) (hmost : s.most = n) (hL : L.length ≤ i) (h0 : 0 ≤ t) (h1 : t < 4611686018427387904)
    (m6 : (b6, .cells #[.int .u16 life] 23) ∈ X) (op : Int) (rv : Value) (m16 : (b16, .cells (sxC ⟨op, h, t, rv⟩).toArray 41) ∈ X)
    (hJ : ∀ w', Done w0 fb bn bl X life n (i + 1) s.rules w' → J [] w') :
    m3_4 R J (flV (revF h.flow)) (.pointer (some ⟨bl, 0, none⟩)) (.pointer (some ⟨b6, 0, none⟩)) (.pointer (some ⟨bn, 0, none⟩)) (.pointer (some ⟨b16, 0, none⟩)) (.pointer (some ⟨fb, 0, none⟩)) (.int .i64 n) w := by
  unfold m3_4
  refine eBox_of fun b18 w1 hb18 k1 g1 => ?_
  refine eStAll_of (vs := flC (revF h.flow)) (sz37 _) g1 (by simp [flC, Value.cells]) (fl_one _) fun w2 k2 g2 => ?_
  have k2 : Keep [] w w2 := k1.trans k2 (fun k hk hm => by simp only [List.mem_singleton] at hm; omega)
  have env := env.box k2 (by omega) g2
  refine ldN_all g2 rfl ?_
  refine callV_of fn10 (k10 L (revF h.flow) life (maxI s.now t) lv bl b6 bn w2 env.gl (env.get (by simp [m6])) env.gn env.o.rd (by omega) l0 l1 (rel.small hs)) fun v3 w3 ⟨e3, k3⟩ => ?_
  subst e3
  have env := env.keep0 k3
  unfold m3_3
  have g16 : w3.heap[b16]? = some (.cells (sxC ⟨op, h, t, rv⟩).toArray 41) := env.get (by simp [m16])
  simp only [sxC, hdC, flC, List.cons_append, List.nil_append] at g16
  simp only [pFld_eq, List.getElem?_toArray, List.getElem?_cons_succ, List.getElem?_cons_zero, Nat.zero_add, Nat.reduceAdd, List.drop_succ_cons, List.drop_zero, List.take_succ_cons, List.take_zero, List.length_cons, List.length_nil, Nat.reduceLeDiff, ite_true, ldN_eq g16, ld1_eq g16]
  refine call_of (k12 s h t fb V S' w3 hs h0 env.f) fun v4 w4 ⟨e4, p4⟩ => ?_
  subst e4
  have hso : StOk (outS s h t).2 := out_ok hs h0
  obtain ⟨V4, S4, env⟩ := env.post p4
  have hst := out_state s h t
  have hnow := hst.2.2 h1
  have hrel := rel_out (h := h) (t := t) rel hs h0 h1
  refine joinP_of (fun vs w' => vs = [.bool false] ∧ Keep [] w4 w') ?_ ?_
  · unfold m3_1
    rcases hrel with ⟨e, r⟩ | ⟨e, hw, hlen, r⟩
    · rw [e]
      simp only [condF_bool, pBin_int, binI]
      exact ⟨fun h => by simp at h, fun _ => ⟨trivial, Keep.refl _ _⟩⟩
    · rw [e, hw]
      simp only [condF_bool, pBin_int, binI]
      refine ⟨fun _ => ⟨fun h => by simp at h, fun _ => ⟨fun h => by simp at h, fun _ => ?_⟩⟩, fun h => by simp at h⟩
      refine call_of (k13 _ fb V4 S4 w4 hso env.f) fun v5 w5 ⟨a, cap, e5, k5⟩ => ?_
      subst e5
      simp only [pBin_int, binI, pLenT_sl]
      refine ⟨?_, k5⟩
      rw [hlen, hmost]
      simp
  · rintro _ w5 ⟨rfl, k5⟩
    have env := env.keep0 k5
    unfold m3_2
    simp only [List.getD_cons_zero]
    refine condF_of (fun h => by cases h) (fun _ => ?_)
    rcases hrel with ⟨e, r⟩ | ⟨e, hw, hlen, r⟩
    · rw [e]
      simp only [condF_bool, pBin_int, binI, List.getElem?_toArray, List.getElem?_cons_zero, ld1_eq env.gl, ld1_eq env.gn]
      refine ⟨fun _ => ?_, fun h => by simp at h⟩
      refine ldN_all (env.get (List.mem_cons_self)) rfl ?_
      refine @pBuild_of _ _ _ (liC (revF h.flow, maxI s.now t)).toArray _ ?_ ?_
      · kernel_rfl
      refine env.push (revF h.flow) (maxI s.now t) (by omega) fun w6 lv6 Bl6 env => ?_
      have env2 : Env w0 w6 fb bn bl X (outS s h t).2 (outS s h t).2.now (L ++ [(revF h.flow, maxI s.now t)]) lv6 Bl6 V4 S4 := by rw [hnow]; exact env.drop
      exact hJ w6 ⟨_, _, _, _, _, _, env2, hso, r, by rw [hst.1, hmost], hst.2.1, by simp; omega⟩
    · rw [e]
      simp only [condF_bool, pBin_int, binI]
      have env2 : Env w0 w5 fb bn bl X (outS s h t).2 (outS s h t).2.now L lv Bl V4 S4 := by rw [hnow]; exact env.drop
      exact ⟨fun h => by simp at h, fun _ => hJ w5 ⟨_, _, _, _, _, _, env2, hso, r, by rw [hst.1, hmost], hst.2.1, by omega⟩⟩

/-- In -/
theorem turn_in {w0 : World} (hT : TextOk w0) (S : List Nat) (fb bn bl b6 b16 : Nat) (X : List (Nat × Obj)) (life n : Int) (i : Nat) (h : Hd) (t : Int) (s : St) (L : List (Fl × Int)) (lv setV : Value) (Bl V S' : List Nat) (w : World) (R : Value → World → Prop) (J : List Value → World → Prop)
    (l0 : 0 ≤ life) (l1 : life < 65536) (hi2 : i < 300) (env : Env w0 w fb bn bl X s (maxI s.now t) L lv Bl V S') (hs : StOk s) (rel : Rel s L life) (hmost : s.most = n) (hL : L.length ≤ i) (h0 : 0 ≤ t) (h1 : t < 4611686018427387904) (hh : HdOk h)
    (hset : RulesAt w0 setV s.rules S) (m6 : (b6, .cells #[.int .u16 life] 23) ∈ X) (op : Int) (rv : Value) (m16 : (b16, .cells (sxC ⟨op, h, t, rv⟩).toArray 41) ∈ X)
    (hJ : ∀ w', Done w0 fb bn bl X life n (i + 1) s.rules w' → J [] w') :
    pFld 1 (.pointer (some ⟨b16, 0, none⟩)) fun t118 => ldN 13 t118 w fun t119 => callF Tryd.prog 14 #[setV, t119] w fun t120 w_26 =>
      m3_9 R J t120 (.pointer (some ⟨b16, 0, none⟩)) (.pointer (some ⟨bl, 0, none⟩)) (.pointer (some ⟨b6, 0, none⟩)) (.pointer (some ⟨bn, 0, none⟩)) (.pointer (some ⟨fb, 0, none⟩)) w_26 := by
  have g16 : w.heap[b16]? = some (.cells (sxC ⟨op, h, t, rv⟩).toArray 41) := env.get m16
  simp only [sxC, hdC, flC, List.cons_append, List.nil_append] at g16
  simp only [pFld_eq, Nat.zero_add, Nat.reduceAdd, List.drop_succ_cons, List.drop_zero, List.take_succ_cons, List.take_zero, List.length_cons, List.length_nil, Nat.reduceLeDiff, ite_true, ldN_eq g16]
  refine call_of (k14 s.rules h setV S w (hset.keep0 env.k)) fun v1 w1 ⟨r, e1, hm, k1⟩ => ?_
  subst e1
  have env := env.keep0 k1
  have g16 := k1.get g16 (by simp)
  unfold m3_9
  simp only [pFld_eq, pBin_int, binI, Nat.zero_add, Nat.add_zero, Nat.reduceAdd, List.drop_succ_cons, List.drop_zero, List.take_succ_cons, List.take_zero, List.length_cons, List.length_nil, Nat.reduceLeDiff, ite_true, ldN_eq g16]
  have hm' : decide (r ≥ 0) = matchB s.rules h := hm
  rw [hm']
  refine callV_of fn10 (k10 L h.flow life (maxI s.now t) lv bl b6 bn w1 env.gl (env.get m6) env.gn env.o.rd (by omega) l0 l1 (rel.small hs)) fun v3 w3 ⟨e3, k3⟩ => ?_
  subst e3
  have env := env.keep0 k3
  have g16 := k3.get g16 (by simp)
  unfold m3_8
  simp only [pFld_eq, List.getElem?_toArray, List.getElem?_cons_succ, List.getElem?_cons_zero, Nat.zero_add, Nat.reduceAdd, List.drop_succ_cons, List.drop_zero, List.take_succ_cons, List.take_zero, List.length_cons, List.length_nil, Nat.reduceLeDiff, ite_true, ldN_eq g16, ld1_eq g16]
  refine call_of (k15 hT s h t fb V S' w3 env.k (fun k hk => (env.hV k hk).1) hs hh h0 env.f) fun v4 w4 ⟨e4, p4⟩ => ?_
  subst e4
  have hso : StOk (inS s h t).2 := in_ok hs h0
  obtain ⟨V4, S4, env⟩ := env.post p4
  have hst := in_state s h t
  have hnow := hst.2.2 h1
  obtain ⟨e, r2⟩ := rel_in (h := h) (t := t) rel hs h0 h1
  rw [e]
  generalize hmay : freshB L h.flow life (maxI s.now t) = may at *
  generalize hmb : matchB s.rules h = mb at *
  unfold m3_7
  refine joinP_of (fun vs w' => vs = [.bool false] ∧ w' = w4) ?_ ?_
  · unfold m3_5
    cases mb <;> cases may <;> simp [condF, pBin, binI, pBoolEq]
  · rintro _ w5 ⟨rfl, rfl⟩
    simp only [List.getD_cons_zero]
    refine condF_of (fun h => by cases h) (fun _ => ?_)
    refine joinP_of (fun vs w' => vs = [.bool (!mb && may)] ∧ w' = w5) ?_ ?_
    · rw [pNot_bool]
      cases mb <;> simp [condF]
    · rintro _ w6 ⟨rfl, rfl⟩
      unfold m3_6
      simp only [List.getD_cons_zero]
      refine condF_of (fun hc => ?_) (fun hc => ?_)
      · rw [hc] at r2
        have g16 : w6.heap[b16]? = some (.cells (sxC ⟨op, h, t, rv⟩).toArray 41) := env.get m16
        simp only [sxC, hdC, flC, List.cons_append, List.nil_append] at g16
        simp only [pFld_eq, List.getElem?_toArray, List.getElem?_cons_zero, Nat.zero_add, Nat.add_zero, Nat.reduceAdd, List.drop_succ_cons, List.drop_zero, List.take_succ_cons, List.take_zero, List.length_cons, List.length_nil, Nat.reduceLeDiff, ite_true, ldN_eq g16, ld1_eq env.gl, ld1_eq env.gn]
        refine @pBuild_of _ _ _ (liC (h.flow, maxI s.now t)).toArray _ ?_ ?_
        · kernel_rfl
        refine env.push h.flow (maxI s.now t) (by omega) fun w7 lv7 Bl7 env => ?_
        have env2 : Env w0 w7 fb bn bl X (inS s h t).2 (inS s h t).2.now (L ++ [(h.flow, maxI s.now t)]) lv7 Bl7 V4 S4 := by rw [hnow]; exact env
        exact hJ w7 ⟨_, _, _, _, _, _, env2, hso, r2, by rw [hst.1, hmost], hst.2.1, by simp; omega⟩
      · rw [hc] at r2
        have env2 : Env w0 w6 fb bn bl X (inS s h t).2 (inS s h t).2.now L lv Bl V4 S4 := by rw [hnow]; exact env
        exact hJ w6 ⟨_, _, _, _, _, _, env2, hso, r2, by rw [hst.1, hmost], hst.2.1, by omega⟩
end Go.Proofs.YtlfeckimhaegbaaDoor
