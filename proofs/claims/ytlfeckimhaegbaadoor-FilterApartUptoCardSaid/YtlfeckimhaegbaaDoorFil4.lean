/- FilterAnswers, FilterApart: rules in memory; ref20.Match. -/
import Derived.Test.YtlfeckimhaegbaaDoorFil3
namespace Go.Proofs.YtlfeckimhaegbaaDoor
open Go Eng
set_option maxRecDepth 20000

structure RV where
  p : Value
  s : Value
  d : Value
  o : Value
def rvC (x : RV) : List Value := [x.p, x.s, x.d, x.o]
theorem rvC_len (x : RV) : (rvC x).length = 4 := rfl
def wfU (a : Ad) : Prop := wfA a ∧ a.hi < 18446744073709551616 ∧ a.lo < 18446744073709551616
structure RuOk (r : Ru) : Prop where
  np : r.protos.length < 1048576
  ns : r.src.length < 1048576
  nd : r.dst.length < 1048576
  no : r.ports.length < 1048576
  ws : ∀ s ∈ r.src, wfU s.lo ∧ wfU s.hi
  wd : ∀ s ∈ r.dst, wfU s.lo ∧ wfU s.hi
/-- the lists of one rule, in blocks of S -/
structure RuleAt (w : World) (x : RV) (r : Ru) (S : List Nat) : Prop where
  p : SlOf w x.p 1 u8C r.protos
  s : SlOf w x.s 6 spC r.src
  d : SlOf w x.d 6 spC r.dst
  o : SlOf w x.o 2 poC r.ports
  bp : ∀ k ∈ blk x.p, k ∈ S
  bs : ∀ k ∈ blk x.s, k ∈ S
  bd : ∀ k ∈ blk x.d, k ∈ S
  bo : ∀ k ∈ blk x.o, k ∈ S
  ok : RuOk r
theorem RuleAt.keep {w w' : World} {x : RV} {r : Ru} {S : List Nat} (h : RuleAt w x r S) {M : List Nat} (k : Keep M w w') (hd : ∀ b ∈ S, b ∉ M) : RuleAt w' x r S :=
  ⟨h.p.keepB k fun b hb => hd b (h.bp b hb), h.s.keepB k fun b hb => hd b (h.bs b hb), h.d.keepB k fun b hb => hd b (h.bd b hb), h.o.keepB k fun b hb => hd b (h.bo b hb), h.bp, h.bs, h.bd, h.bo, h.ok⟩
theorem RuleAt.mono {w : World} {x : RV} {r : Ru} {S S' : List Nat} (h : RuleAt w x r S) (hs : ∀ k ∈ S, k ∈ S') : RuleAt w x r S' :=
  ⟨h.p, h.s, h.d, h.o, fun k hk => hs k (h.bp k hk), fun k hk => hs k (h.bs k hk), fun k hk => hs k (h.bd k hk), fun k hk => hs k (h.bo k hk), h.ok⟩
/-- a list of rules, in blocks of S -/
def RulesAt (w : World) (v : Value) (rs : List Ru) (S : List Nat) : Prop :=
  ∃ xs : List RV, xs.length = rs.length ∧ SlOf w v 4 rvC xs ∧ (∀ k ∈ blk v, k ∈ S) ∧ rs.length < 1048576 ∧ ∀ i (h : i < xs.length) (h' : i < rs.length), RuleAt w xs[i] rs[i] S
theorem RulesAt.keep {w w' : World} {v : Value} {rs : List Ru} {S : List Nat} (h : RulesAt w v rs S) {M : List Nat} (k : Keep M w w') (hd : ∀ b ∈ S, b ∉ M) : RulesAt w' v rs S := by
  obtain ⟨xs, hl, hs, hb, hn, hr⟩ := h
  exact ⟨xs, hl, hs.keepB k fun b h => hd b (hb b h), hb, hn, fun i h h' => (hr i h h').keep k hd⟩
theorem RulesAt.keep0 {w w' : World} {v : Value} {rs : List Ru} {S : List Nat} (h : RulesAt w v rs S) (k : Keep [] w w') : RulesAt w' v rs S := h.keep k (by simp)
theorem RulesAt.mono {w : World} {v : Value} {rs : List Ru} {S S' : List Nat} (h : RulesAt w v rs S) (hs : ∀ k ∈ S, k ∈ S') : RulesAt w v rs S' := by
  obtain ⟨xs, hl, hsl, hb, hn, hr⟩ := h
  exact ⟨xs, hl, hsl, fun k hk => hs k (hb k hk), hn, fun i h h' => (hr i h h').mono hs⟩
theorem RulesAt.len {w : World} {v : Value} {rs : List Ru} {S : List Nat} (h : RulesAt w v rs S) (K : Value → Prop) : pLenT 2 v K = K (.int .i64 rs.length) := by
  obtain ⟨xs, hl, hs, _⟩ := h
  obtain ⟨a, c, rfl⟩ := hs.slice
  rw [pLenT_sl, hl]
theorem RulesAt.lt {w : World} {v : Value} {rs : List Ru} {S : List Nat} (h : RulesAt w v rs S) : rs.length < 1048576 := by
  obtain ⟨xs, hl, hs, hb, hn, hr⟩ := h
  exact hn
/-- element i -/
theorem RulesAt.el {w : World} {v : Value} {rs : List Ru} {S : List Nat} (h : RulesAt w v rs S) {k : IntKind} {i : Nat} (h1 : i < rs.length)
    {K : Value → Prop} (hk : ∀ x b off, b ∈ S → ElAt w b off (rvC x) → RuleAt w x rs[i] S → K (.pointer (some ⟨b, off, none⟩))) : pIxS 4 v (.int k i) K := by
  obtain ⟨xs, hl, hs, hb, hn, hr⟩ := h
  exact hs.el rvC_len (i := i) (by omega) fun b off hb' el => hk xs[i] b off (hb b hb') el (hr i (by omega) h1)

def matchB (rs : List Ru) (h : Hd) : Bool := rs.any (ruB h)
/-- the call answers whether r is at least 0 -/
abbrev AnsIx (t : Bool) (w : World) : Value → World → Prop := fun u w' => ∃ r : Int, u = .int .i64 r ∧ decide (0 ≤ r) = t ∧ Keep [] w w'

theorem k14 (rs : List Ru) (h : Hd) (v : Value) (S : List Nat) (w : World) (hv : RulesAt w v rs S) :
    Calls Tryd.prog 14 #[v, hdV h] w fun e w' => ∃ x, e = .returned x ∧ AnsIx (matchB rs h) w x w' := by
  refine c14 _ _ _ _ ?_
  unfold m14
  refine eBox_of fun b w1 _ k1 g1 => ?_
  have hn := hv.lt
  have hv := hv.keep0 k1
  simp only [hdV, hdC, flC, Value.cells, List.cons_append, List.nil_append] at g1
  refine loopP_of (fun vs w' => ∃ i : Nat, vs = [.int .i64 i] ∧ i ≤ rs.length ∧ Keep [] w1 w' ∧ matchB rs h = (rs.drop i).any (ruB h)) (mu0 rs.length) ⟨0, rfl, by omega, Keep.refl _ _, by simp [matchB]⟩ ?_
  rintro vs w' ⟨i, rfl, hi, k, he⟩
  have hv := hv.keep0 k
  have g1 := k.get g1 (by simp)
  have kk := k1.trans k (fun _ _ h => h)
  unfold m14_4
  simp only [hv.len, List.getD_cons_zero, pBin_int, binI]
  refine condF_of (fun h1 => ?_) (fun h1 => ?_)
  · have hi' : i < rs.length := by simpa using h1
    refine joinP_of (fun vs w'' => vs = [.bool (ruB h rs[i])] ∧ Keep [] w' w'') ?_ ?_
    · unfold m14_3
      simp only [List.getD_cons_zero]
      refine hv.el hi' fun x eb off hb el ru => ?_
      simp only [rvC] at el
      simp only [pFld_eq, ld1_drew, ldN_drew, List.getElem?_cons_zero, Nat.zero_add, Nat.add_zero, Nat.reduceAdd, List.length_cons, List.length_nil, el.ld10, Nat.reduceLT]
      refine hv.el hi' fun x2 eb off hb el ru2 => ?_
      simp only [rvC] at el
      simp only [pFld_eq, List.getElem?_cons_succ, List.getElem?_cons_zero, Nat.zero_add, Nat.reduceAdd, List.drop_zero, List.take_succ_cons, List.take_zero, List.length_cons, List.length_nil, Nat.reduceLeDiff, ite_true, el.ld1, Nat.reduceLT, ldN_eq g1]
      refine call_of (k21 rs[i].protos rs[i].ports h.flow x.p x2.o _ ru.p ru2.o (by have := ru.ok.np; omega) (by have := ru2.ok.no; omega)) fun v2 w2 ⟨e2, k2⟩ => ?_
      subst e2
      have k2 := Keep.of_drew k2
      have hv2 := hv.keep0 k2
      have g2 := k2.get g1 (by simp)
      unfold m14_2
      refine condF_of (fun h2 => ?_) (fun h2 => ⟨by simp [ruB, h2], k2⟩)
      simp only [List.getD_cons_zero]
      refine hv2.el hi' fun x3 eb off hb el ru3 => ?_
      simp only [rvC] at el
      simp only [pFld_eq, List.getElem?_cons_succ, List.getElem?_cons_zero, Nat.zero_add, Nat.add_zero, Nat.reduceAdd, List.drop_succ_cons, List.drop_zero, List.take_succ_cons, List.take_zero, List.length_cons, List.length_nil, Nat.reduceLeDiff, ite_true, el.ld1, Nat.reduceLT, ldN_eq g2]
      refine call_of (k22 rs[i].src h.flow.src x3.s _ ru3.s (by have := ru3.ok.ns; omega)) fun v3 w3 ⟨e3, k3⟩ => ?_
      subst e3
      have hv3 := hv2.keep0 k3
      have g3 := k3.get g2 (by simp)
      have k3 := k2.trans k3 (fun _ _ h => h)
      unfold m14_1
      refine condF_of (fun h3 => ?_) (fun h3 => ⟨by simp [ruB, h2, h3], k3⟩)
      simp only [List.getD_cons_zero]
      refine hv3.el hi' fun x4 eb off hb el ru4 => ?_
      simp only [rvC] at el
      simp only [pFld_eq, List.getElem?_cons_succ, List.getElem?_cons_zero, Nat.zero_add, Nat.add_zero, Nat.reduceAdd, List.drop_succ_cons, List.drop_zero, List.take_succ_cons, List.take_zero, List.length_cons, List.length_nil, Nat.reduceLeDiff, ite_true, el.ld1, Nat.reduceLT, ldN_eq g3]
      refine call_of (k22 rs[i].dst h.flow.dst x4.d _ ru4.d (by have := ru4.ok.nd; omega)) fun v4 w4 ⟨e4, k4⟩ => ?_
      subst e4
      exact ⟨by simp [ruB, h2, h3], k3.trans k4 (fun _ _ h => h)⟩
    · rintro _ w'' ⟨rfl, k2⟩
      simp only [List.getD_cons_zero]
      refine condF_of (fun h2 => ?_) (fun h2 => ?_)
      · exact ⟨i, rfl, by rw [he, any_step _ hi', h2]; simp, kk.trans k2 (fun _ _ h => h)⟩
      · refine ⟨⟨i + 1, by rw [wrap_succ hi' (by omega)], hi', k.trans k2 (fun _ _ h => h), ?_⟩, ?_⟩
        · rw [he, any_step _ hi', h2, Bool.false_or]
        · rw [wrap_succ hi' (by omega), mu0_eq, mu0_eq]; omega
  · have hi' : rs.length ≤ i := by simpa using h1
    exact ⟨-1, rfl, by rw [he, any_end _ hi']; rfl, kk⟩
end Go.Proofs.YtlfeckimhaegbaaDoor
