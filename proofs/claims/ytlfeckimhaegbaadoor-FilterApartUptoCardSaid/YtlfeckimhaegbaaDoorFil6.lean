/- FilterAnswers, FilterApart: which rule lets in, by the program (rules.Match), given what ip.Text answers. -/
import Derived.Test.YtlfeckimhaegbaaDoorFil5
namespace Go.Proofs.YtlfeckimhaegbaaDoor
open Go Eng
set_option maxRecDepth 20000

/-- ip.Text tells some text; none, where an address may not be; in all worlds behind w0 -/
def TextOk (w0 : World) : Prop := ∀ (a : Ad) (w : World), wfU a → Keep [] w0 w → Calls Tryd.prog 42 #[adV a] w fun e w' => ∃ v, e = .returned v ∧ ∃ s : ByteArray, v = .string s ∧ (s.toList == []) = !mayA a ∧ Keep [] w w'

theorem k33 {w0 : World} (hT : TextOk w0) (a : Ad) (ha : wfU a) (w : World) (h0 : Keep [] w0 w) : Calls Tryd.prog 33 #[adV a] w fun e w' => ∃ v, e = .returned v ∧ Ans (.bool (mayA a)) w v w' := by
  refine c33 _ _ _ ?_
  unfold m33
  refine eBox_of fun b w1 _ k1 g1 => ?_
  refine ldN_all g1 rfl ?_
  refine call_of (hT a w1 ha (h0.trans k1 (by simp))) fun v w2 ⟨s, e2, hs, k2⟩ => ?_
  subst e2
  rw [pBin_str]
  have h0 : (({ data := #[] } : ByteArray).toList) = [] := by unfold ByteArray.toList ByteArray.toList.loop; rfl
  simp only [binS, h0, hs]
  exact ⟨by simp, k1.trans k2 (fun _ _ h => h)⟩

theorem cmp_le (a c : Ad) : decide (cmpA a c ≤ 0) = !lessA c a := by
  have asym : lessA a c = true → lessA c a = false := by
    unfold lessA
    obtain ⟨v, h, l⟩ := a
    obtain ⟨v', h', l'⟩ := c
    cases v <;> cases v' <;> simp <;> omega
  unfold cmpA
  cases h1 : lessA a c
  · cases h2 : lessA c a <;> simp
  · simp [asym h1]

theorem k36 {w0 : World} (hT : TextOk w0) (s : Sp) (h1 : wfU s.lo) (h2 : wfU s.hi) (w : World) (h0 : Keep [] w0 w) : Calls Tryd.prog 36 #[spV s] w fun e w' => ∃ v, e = .returned v ∧ Ans (.bool (maySp s)) w v w' := by
  refine c36 _ _ _ ?_
  unfold m36
  refine eBox_of fun b w1 _ k1 g1 => ?_
  simp only [spV, spC, adC, Value.cells, List.cons_append, List.nil_append] at g1
  refine joinP_of (fun vs w' => vs = [.bool (maySp s)] ∧ Keep [] w w') ?_ ?_
  · unfold m36_2
    simp only [pFld_eq, Nat.zero_add, Nat.add_zero, Nat.reduceAdd, List.drop_zero, List.take_succ_cons, List.take_zero, List.length_cons, List.length_nil, Nat.reduceLeDiff, ite_true, ldN_eq g1]
    refine call_of (k33 hT s.lo h1 _ (h0.trans k1 (by simp))) fun v w2 ⟨hv, k2⟩ => ?_
    subst hv
    have g2 := k2.get g1 (by simp)
    have k2 := k1.trans k2 (fun _ _ h => h)
    simp only [condF_bool, Nat.zero_add, Nat.reduceAdd, List.drop_succ_cons, List.drop_zero, List.take_succ_cons, List.take_zero, List.length_cons, List.length_nil, Nat.reduceLeDiff, ite_true, ldN_eq g2]
    refine ⟨fun h => ?_, fun h => by simp [maySp, h, k2]⟩
    refine call_of (k33 hT s.hi h2 _ (h0.trans k2 (by simp))) fun v w3 ⟨hv, k3⟩ => ?_
    subst hv
    have g3 := k3.get g2 (by simp)
    have k3 := k2.trans k3 (fun _ _ h => h)
    unfold m36_1
    simp only [pFld_eq, condF_bool, pBoolEq_bool, List.getElem?_toArray, List.getElem?_cons_succ, List.getElem?_cons_zero, Nat.zero_add, Nat.add_zero, Nat.reduceAdd, List.drop_succ_cons, List.drop_zero, List.take_succ_cons, List.take_zero, List.length_cons, List.length_nil, Nat.reduceLeDiff, ite_true, ldN_eq g3, ld1_eq g3]
    refine ⟨fun h2 => ⟨fun h3 => ?_, fun h3 => by simp_all [maySp]⟩, fun h2 => by simp [maySp, h2, k3]⟩
    refine call_of (k37 s.lo s.hi _) fun v w4 ⟨hv, k4⟩ => ?_
    subst hv
    have k4 := k3.trans k4 (fun _ _ h => h)
    simp only [pBin_int, binI, cmp_le]
    exact ⟨by simp_all [maySp], k4⟩
  · rintro vs w' ⟨rfl, hk⟩
    exact ⟨rfl, hk⟩

/-- what the inner function of rules.Match asks of a span -/
def spQ (a : Ad) (s : Sp) : Bool := maySp s && (s.lo.v6 == a.v6) && !lessA a s.lo && !lessA s.hi a
theorem k35 {w0 : World} (hT : TextOk w0) (s : Sp) (a : Ad) (h1 : wfU s.lo) (h2 : wfU s.hi) (ba : Nat) (w : World) (h0 : Keep [] w0 w) (ga : w.heap[ba]? = some (.cells (adC a).toArray 35)) :
    Calls Tryd.prog 35 #[spV s, .pointer (some ⟨ba, 0, none⟩)] w fun e w' => ∃ v, e = .returned v ∧ Ans (.bool (spQ a s)) w v w' := by
  refine c35 _ _ _ _ ?_
  unfold m35
  refine eBox_of fun b w1 _ k1 g1 => ?_
  have ga := k1.get ga (by simp)
  simp only [spV, spC, adC, Value.cells, List.cons_append, List.nil_append] at g1
  simp only [adC] at ga
  refine joinP_of (fun vs w' => vs = [.bool (spQ a s)] ∧ Keep [] w w') ?_ ?_
  · simp only [Nat.zero_add, Nat.reduceAdd, List.drop_zero, List.take_succ_cons, List.take_zero, List.length_cons, List.length_nil, Nat.reduceLeDiff, ite_true, ldN_eq g1]
    refine call_of (k36 hT s h1 h2 _ (h0.trans k1 (by simp))) fun v w2 ⟨hv, k2⟩ => ?_
    subst hv
    have g2 := k2.get g1 (by simp)
    have ga := k2.get ga (by simp)
    have k2 := k1.trans k2 (fun _ _ h => h)
    unfold m35_2
    refine condF_of (fun h3 => ?_) (fun h3 => ⟨by simp [spQ, h3], k2⟩)
    simp only [pFld_eq, condF_bool, pBoolEq_bool, List.getElem?_toArray, List.getElem?_cons_zero, Nat.zero_add, Nat.add_zero, Nat.reduceAdd, List.drop_zero, List.take_succ_cons, List.take_zero, List.length_cons, List.length_nil, Nat.reduceLeDiff, ite_true, ldN_eq g2, ld1_eq g2, ld1_eq ga, ldN_eq ga]
    refine ⟨fun h4 => ?_, fun h4 => ⟨by rw [spQ, h3, h4]; rfl, k2⟩⟩
    refine call_of (k37 s.lo a _) fun v w3 ⟨hv, k3⟩ => ?_
    subst hv
    have g3 := k3.get g2 (by simp)
    have ga := k3.get ga (by simp)
    have k3 := k2.trans k3 (fun _ _ h => h)
    unfold m35_1
    simp only [pFld_eq, condF_bool, pBin_int, binI, Nat.zero_add, Nat.reduceAdd, List.drop_succ_cons, List.drop_zero, List.take_succ_cons, List.take_zero, List.length_cons, List.length_nil, Nat.reduceLeDiff, ite_true, cmp_le, ldN_eq g3, ldN_eq ga]
    refine ⟨fun h5 => ?_, fun h5 => ⟨by rw [spQ, h3, h4, h5]; rfl, k3⟩⟩
    refine call_of (k37 a s.hi _) fun v w4 ⟨hv, k4⟩ => ?_
    subst hv
    simp only [pBin_int, binI, cmp_le]
    exact ⟨by rw [spQ, h3, h4, h5]; rfl, k3.trans k4 (fun _ _ h => h)⟩
  · rintro vs w' ⟨rfl, hk⟩
    exact ⟨rfl, hk⟩

theorem k43 (l : List Sp) (p : Sp → Bool) (v fv : Value) (w : World) (hv : SlOf w v 6 spC l) (hn : l.length < 1048576)
    (hp : ∀ x ∈ l, ∀ w', Keep [] w w' → ∀ K : Value → World → Prop, (∀ w'', Keep [] w' w'' → K (.bool (p x)) w'') → callV Tryd.prog fv #[spV x] w' K) :
    Calls Tryd.prog 43 #[v, fv] w fun e w' => ∃ u, e = .returned u ∧ AnsIx (l.any p) w u w' := by
  refine c43 _ _ _ _ ?_
  unfold m43
  obtain ⟨aa, cap, hvv⟩ := hv.slice
  have lv : ∀ K, pLenT 2 v K = K (.int .i64 l.length) := fun K => by rw [hvv, pLenT_sl]
  simp only [lv, m43_1]
  exact index_of spC_len hv (by omega) hp fun w' r k hr => ⟨r, rfl, hr, k⟩
theorem k34 (l : List Sp) (p : Sp → Bool) (v fv : Value) (w : World) (hv : SlOf w v 6 spC l) (hn : l.length < 1048576)
    (hp : ∀ x ∈ l, ∀ w', Keep [] w w' → ∀ K : Value → World → Prop, (∀ w'', Keep [] w' w'' → K (.bool (p x)) w'') → callV Tryd.prog fv #[spV x] w' K) :
    Calls Tryd.prog 34 #[v, fv] w fun e w' => ∃ u, e = .returned u ∧ Ans (.bool (l.any p)) w u w' := by
  refine c34 _ _ _ _ ?_
  unfold m34
  refine call_of (k43 l p v fv w hv hn hp) fun u w2 ⟨r, e2, hr, k2⟩ => ?_
  subst e2
  simp only [pBin_int, binI]
  exact ⟨by rw [← hr], k2⟩

theorem in_by (l : List Sp) (a : Ad) : inB l a = (mayA a && l.any (spQ a)) := by
  unfold inB
  induction l with
  | nil => simp
  | cons s l ih =>
    simp only [List.any_cons, ih, spB, spQ]
    cases mayA a <;> simp
theorem k32 {w0 : World} (hT : TextOk w0) (l : List Sp) (a : Ad) (v : Value) (w : World) (h0 : Keep [] w0 w) (hv : SlOf w v 6 spC l) (hn : l.length < 1048576) (ha : wfU a) (hl : ∀ s ∈ l, wfU s.lo ∧ wfU s.hi) :
    Calls Tryd.prog 32 #[v, adV a] w fun e w' => ∃ u, e = .returned u ∧ Ans (.bool (inB l a)) w u w' := by
  refine c32 _ _ _ _ ?_
  unfold m32
  refine eBox_of fun b w1 _ k1 g1 => ?_
  have hv := hv.keep0 k1
  refine joinP_of (fun vs w' => vs = [.bool (inB l a)] ∧ Keep [] w w') ?_ ?_
  · refine ldN_all g1 rfl ?_
    refine call_of (k33 hT a ha _ (h0.trans k1 (by simp))) fun v2 w2 ⟨e2, k2⟩ => ?_
    subst e2
    have hv := hv.keep0 k2
    have g1 : w2.heap[b]? = some (.cells (adC a).toArray 35) := k2.get g1 (by simp)
    have kk := k1.trans k2 (fun _ _ h => h)
    refine condF_of (fun h => ?_) (fun h => ⟨by rw [in_by, h]; rfl, kk⟩)
    refine call_of (k34 l (spQ a) v _ w2 hv hn fun x hx w' k K hK => ?_) fun u3 w3 ⟨e3, k3⟩ => ?_
    · exact callV_of fn35 (k35 hT x a (hl x hx).1 (hl x hx).2 b w' ((h0.trans kk (by simp)).trans k (by simp)) (k.get g1 (by simp))) fun v w'' ⟨e, k4⟩ => by subst e; exact hK _ k4
    · subst e3
      exact ⟨by rw [in_by, h]; rfl, kk.trans k3 (fun _ _ h => h)⟩
  · rintro vs w' ⟨rfl, hk⟩
    exact ⟨rfl, hk⟩

structure HdOk (h : Hd) : Prop where
  s : wfU h.flow.src
  d : wfU h.flow.dst
theorem k39 {w0 : World} (hT : TextOk w0) (x : RV) (r : Ru) (h : Hd) (S : List Nat) (hh : HdOk h) (bh bf : Nat) (w : World) (h0 : Keep [] w0 w) (gh : w.heap[bh]? = some (.cells (hdC h).toArray 39)) (gf : w.heap[bf]? = some (.cells #[.func (.func 32) #[] #[]] 64)) (ru : RuleAt w x r S) :
    Calls Tryd.prog 39 #[.agg (rvC x).toArray, .pointer (some ⟨bh, 0, none⟩), .pointer (some ⟨bf, 0, none⟩)] w fun e w' => ∃ u, e = .returned u ∧ Ans (.bool (ruB h r)) w u w' := by
  refine c39 _ _ _ _ _ ?_
  unfold m39
  refine eBox_of fun b w1 _ k1 g1 => ?_
  have gh := k1.get gh (by simp)
  have gf := k1.get gf (by simp)
  have ru := ru.keep k1 (by simp)
  simp only [rvC, Value.cells] at g1
  simp only [hdC, flC, List.cons_append, List.nil_append] at gh
  refine joinP_of (fun vs w' => vs = [.bool (ruB h r)] ∧ Keep [] w w') ?_ ?_
  · simp only [pFld_eq, List.getElem?_toArray, List.getElem?_cons_succ, List.getElem?_cons_zero, Nat.zero_add, Nat.add_zero, Nat.reduceAdd, List.drop_zero, List.take_succ_cons, List.take_zero, List.length_cons, List.length_nil, Nat.reduceLeDiff, ite_true, ld1_eq g1, ldN_eq gh]
    refine call_of (k40 r.protos r.ports h.flow x.p x.o _ ru.p ru.o ru.ok.np ru.ok.no) fun v2 w2 ⟨e2, k2⟩ => ?_
    subst e2
    have ru := ru.keep k2 (by simp)
    have g1 := k2.get g1 (by simp)
    have gh := k2.get gh (by simp)
    have gf := k2.get gf (by simp)
    have k2 := k1.trans k2 (fun _ _ h => h)
    unfold m39_2
    refine condF_of (fun h2 => ?_) (fun h2 => ⟨by simp [ruB, h2], k2⟩)
    simp only [pFld_eq, List.getElem?_toArray, List.getElem?_cons_succ, List.getElem?_cons_zero, Nat.zero_add, Nat.add_zero, Nat.reduceAdd, List.drop_succ_cons, List.drop_zero, List.take_succ_cons, List.take_zero, List.length_cons, List.length_nil, Nat.reduceLeDiff, ite_true, ld1_eq g1, ldN_eq gh, ld1_eq gf]
    refine callV_of fn32 (k32 hT r.src h.flow.src x.s w2 (h0.trans k2 (by simp)) ru.s ru.ok.ns hh.s ru.ok.ws) fun v3 w3 ⟨e3, k3⟩ => ?_
    subst e3
    have ru := ru.keep k3 (by simp)
    have g1 := k3.get g1 (by simp)
    have gh := k3.get gh (by simp)
    have gf := k3.get gf (by simp)
    have k3 := k2.trans k3 (fun _ _ h => h)
    unfold m39_1
    refine condF_of (fun h3 => ?_) (fun h3 => ⟨by simp [ruB, h2, h3], k3⟩)
    simp only [pFld_eq, List.getElem?_toArray, List.getElem?_cons_succ, List.getElem?_cons_zero, Nat.zero_add, Nat.add_zero, Nat.reduceAdd, List.drop_succ_cons, List.drop_zero, List.take_succ_cons, List.take_zero, List.length_cons, List.length_nil, Nat.reduceLeDiff, ite_true, ld1_eq g1, ldN_eq gh, ld1_eq gf]
    refine callV_of fn32 (k32 hT r.dst h.flow.dst x.d w3 (h0.trans k3 (by simp)) ru.d ru.ok.nd hh.d ru.ok.wd) fun v4 w4 ⟨e4, k4⟩ => ?_
    subst e4
    exact ⟨by simp [ruB, h2, h3], k3.trans k4 (fun _ _ h => h)⟩
  · rintro vs w' ⟨rfl, hk⟩
    exact ⟨rfl, hk⟩

theorem k38 {w0 : World} (hT : TextOk w0) (rs : List Ru) (h : Hd) (v : Value) (S : List Nat) (hh : HdOk h) (bh bf : Nat) (w : World) (h0 : Keep [] w0 w) (gh : w.heap[bh]? = some (.cells (hdC h).toArray 39)) (gf : w.heap[bf]? = some (.cells #[.func (.func 32) #[] #[]] 64)) (hv : RulesAt w v rs S) :
    Calls Tryd.prog 38 #[v, .func (.func 39) #[] #[.pointer (some ⟨bh, 0, none⟩), .pointer (some ⟨bf, 0, none⟩)]] w fun e w' => ∃ u, e = .returned u ∧ AnsIx (matchB rs h) w u w' := by
  refine c38 _ _ _ _ ?_
  unfold m38
  have hn := hv.lt
  simp only [hv.len]
  refine loopP_of (fun vs w' => ∃ i : Nat, vs = [.int .i64 i] ∧ i ≤ rs.length ∧ Keep [] w w' ∧ matchB rs h = (rs.drop i).any (ruB h)) (mu0 rs.length) ⟨0, rfl, by omega, Keep.refl _ _, by simp [matchB]⟩ ?_
  rintro vs w' ⟨i, rfl, hi, k, he⟩
  have hv := hv.keep0 k
  have gh := k.get gh (by simp)
  have gf := k.get gf (by simp)
  unfold m38_1
  simp only [List.getD_cons_zero, pBin_int, binI]
  refine condF_of (fun h1 => ?_) (fun h1 => ?_)
  · have hi' : i < rs.length := by simpa using h1
    refine hv.el hi' fun x eb off hb el ru => ?_
    rw [el.ldN0 4 (by simp [rvC_len]), List.take_of_length_le (by simp [rvC_len])]
    refine callV_of fn39 (k39 hT x rs[i] h S hh bh bf w' (h0.trans k (by simp)) gh gf ru) fun v2 w2 ⟨e2, k2⟩ => ?_
    subst e2
    have k2 := k.trans k2 (fun _ _ h => h)
    refine condF_of (fun h2 => ?_) (fun h2 => ?_)
    · exact ⟨i, rfl, by rw [he, any_step _ hi', h2]; simp, k2⟩
    · refine ⟨⟨i + 1, by rw [wrap_succ hi' (by omega)], hi', k2, ?_⟩, ?_⟩
      · rw [he, any_step _ hi', h2, Bool.false_or]
      · rw [wrap_succ hi' (by omega), mu0_eq, mu0_eq]; omega
  · have hi' : rs.length ≤ i := by simpa using h1
    exact ⟨-1, rfl, by rw [he, any_end _ hi']; rfl, k⟩

theorem k23 {w0 : World} (hT : TextOk w0) (rs : List Ru) (h : Hd) (v : Value) (S : List Nat) (hh : HdOk h) (w : World) (h0 : Keep [] w0 w) (hv : RulesAt w v rs S) :
    Calls Tryd.prog 23 #[v, hdV h] w fun e w' => ∃ u, e = .returned u ∧ AnsIx (matchB rs h) w u w' := by
  refine c23 _ _ _ _ ?_
  unfold m23
  refine eBox_of fun b w1 _ k1 g1 => ?_
  refine eBox_of fun b2 w2 hb2 k2 g2 => ?_
  refine eSt1_of g2 (by simp [Value.cells]) rfl (by simp) fun w3 k3 g3 => ?_
  have hne : b ≠ b2 := by have := lt_of_get g1; omega
  have k3' : Keep [] w1 w3 := k2.trans k3 (fun k hk hm => by simp only [List.mem_singleton] at hm; omega)
  have g1 : w3.heap[b]? = some (.cells (hdC h).toArray 39) := k3'.get g1 (by simp)
  have kk := k1.trans k3' (fun _ _ h => h)
  refine call_of (k38 hT rs h v S hh b b2 w3 (h0.trans kk (by simp)) g1 (by rw [g3]; rfl) (hv.keep0 kk)) fun u w4 ⟨r, e4, hr, k4⟩ => ?_
  exact ⟨r, e4, hr, kk.trans k4 (fun _ _ h => h)⟩
end Go.Proofs.YtlfeckimhaegbaaDoor
