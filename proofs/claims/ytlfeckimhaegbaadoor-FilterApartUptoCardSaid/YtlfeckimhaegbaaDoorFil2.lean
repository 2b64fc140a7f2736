/- FilterAnswers, FilterApart: what a rule lets in, by the reference (ref20.Match). -/
import Derived.Test.YtlfeckimhaegbaaDoorFil1
import Derived.Test.YtlfeckimhaegbaaDoorEng12
namespace Go.Proofs.YtlfeckimhaegbaaDoor
open Go Eng
set_option maxRecDepth 20000

theorem spC_len (s : Sp) : (spC s).length = 6 := rfl
theorem poC_len (s : Po) : (poC s).length = 2 := rfl
theorem u8C_len (s : Int) : (u8C s).length = 1 := rfl
def spB (a : Ad) (s : Sp) : Bool := maySp s && mayA a && (s.lo.v6 == a.v6) && !lessA a s.lo && !lessA s.hi a
def inB (l : List Sp) (a : Ad) : Bool := l.any (spB a)
def poB (f : Fl) (p : Po) : Bool := (f.proto == 6 || f.proto == 17) && decide (p.fr ≤ f.to) && decide (f.to ≤ p.to)
def byB (ps : List Int) (l : List Po) (f : Fl) : Bool := (ps.isEmpty || ps.any (· == f.proto)) && (l.isEmpty || l.any (poB f))
def ruB (h : Hd) (r : Ru) : Bool := byB r.protos r.ports h.flow && inB r.src h.flow.src && inB r.dst h.flow.dst

theorem k22 (l : List Sp) (a : Ad) (v : Value) (w : World) (hv : SlOf w v 6 spC l) (hn : l.length < 4294967296) :
    Calls Tryd.prog 22 #[v, adV a] w fun e w' => ∃ u, e = .returned u ∧ Ans (.bool (inB l a)) w u w' := by
  refine c22 _ _ _ _ ?_
  unfold m22
  refine eBox_of fun b w1 _ k1 g1 => ?_
  have hv := hv.keep0 k1
  refine loopP_of (fun vs w' => ∃ i : Nat, vs = [.int .i64 i] ∧ i ≤ l.length ∧ Keep [] w1 w' ∧ inB l a = (l.drop i).any (spB a)) (mu0 l.length) ⟨0, rfl, by omega, Keep.refl _ _, by simp [inB]⟩ ?_
  rintro vs w' ⟨i, rfl, hi, k, he⟩
  have hv := hv.keep0 k
  have g1 := k.get g1 (by simp)
  have k := k1.trans k (fun _ _ h => h)
  simp only [adV, Value.cells] at g1
  unfold m22_4
  obtain ⟨aa, cap, hvv⟩ := hv.slice
  rw [hvv, pLenT_sl, ← hvv]
  simp only [List.getD_cons_zero, pBin_int, binI]
  refine condF_of (fun h => ?_) (fun h => ?_)
  · have hi' : i < l.length := by simpa using h
    refine joinP_of (fun vs w'' => vs = [.bool (spB a l[i])] ∧ Keep [] w' w'') ?_ ?_
    · unfold m22_3
      refine hv.el spC_len hi' fun eb off hb el => ?_
      rw [ldN_drew, el.ldN0 6 (by simp [spC_len]), List.take_of_length_le (by simp [spC_len])]
      refine call_of (k29 l[i] _) fun v2 w2 ⟨e2, k2⟩ => ?_
      subst e2
      have k2 := Keep.of_drew k2
      have g2 := k2.get g1 (by simp)
      have el2 := el.keep k2 (by simp)
      have hv2 := hv.keep0 k2
      refine condF_of (fun h2 => ?_) (fun h2 => by simp [spB, h2, k2])
      simp only [Nat.zero_add, Nat.reduceAdd, List.drop_zero, List.take_succ_cons, List.take_zero, List.length_cons, List.length_nil, Nat.reduceLeDiff, ite_true, ldN_eq g2]
      refine call_of (k30 a _) fun v3 w3 ⟨e3, k3⟩ => ?_
      subst e3
      have g3 := k3.get g2 (by simp)
      have el3 := el2.keep k3 (by simp)
      have hv3 := hv2.keep0 k3
      have k3 := k2.trans k3 (fun _ _ h => h)
      unfold m22_2
      refine condF_of (fun h3 => ?_) (fun h3 => by simp [spB, h3, k3])
      simp only [List.getD_cons_zero]
      refine hv3.el spC_len hi' fun eb off hb el => ?_
      simp only [spC, adC] at el
      simp only [pFld_eq, condF_bool, pBoolEq_bool, List.getElem?_toArray, List.getElem?_cons_zero, Nat.zero_add, Nat.add_zero, Nat.reduceAdd, List.length_cons, List.length_nil, List.cons_append, List.nil_append, el.ld10, Nat.reduceLT, ld1_eq g3]
      refine ⟨fun h4 => ?_, fun h4 => by simp_all [spB]⟩
      simp only [Nat.zero_add, Nat.reduceAdd, List.drop_zero, List.take_succ_cons, List.take_zero, List.length_cons, List.length_nil, Nat.reduceLeDiff, ite_true, ldN_eq g3]
      refine hv3.el spC_len hi' fun eb off hb el => ?_
      simp only [spC, adC] at el
      simp only [pFld_eq, Nat.zero_add, Nat.add_zero, Nat.reduceAdd, List.take_succ_cons, List.take_zero, List.length_cons, List.length_nil, Nat.reduceLeDiff, List.cons_append, List.nil_append, el.ldN0]
      refine call_of (k31 a l[i].lo _) fun v4 w4 ⟨e4, k4⟩ => ?_
      subst e4
      have g4 := k4.get g3 (by simp)
      have hv4 := hv3.keep0 k4
      have k4 := k3.trans k4 (fun _ _ h => h)
      unfold m22_1
      simp only [condF_bool, pNot_bool, List.getD_cons_zero]
      refine ⟨fun h5 => ?_, fun h5 => by simp_all [spB]⟩
      refine hv4.el spC_len hi' fun eb off hb el => ?_
      simp only [spC, adC] at el
      simp only [pFld_eq, Nat.zero_add, Nat.reduceAdd, List.drop_succ_cons, List.drop_zero, List.take_succ_cons, List.take_zero, List.length_cons, List.length_nil, Nat.reduceLeDiff, ite_true, List.cons_append, List.nil_append, el.ldN, ldN_eq g4]
      refine call_of (k31 l[i].hi a _) fun v5 w5 ⟨e5, k5⟩ => ?_
      subst e5
      have k5 := k4.trans k5 (fun _ _ h => h)
      simp only [pNot_bool]
      exact ⟨by simp_all [spB], k5⟩
    · rintro _ w'' ⟨rfl, k2⟩
      have k2 := (k1.trans ‹Keep [] w1 w'› (fun _ _ h => h)).trans k2 (fun _ _ h => h)
      simp only [List.getD_cons_zero]
      refine condF_of (fun h2 => ?_) (fun h2 => ?_)
      · exact ⟨by rw [he, any_step _ hi', h2]; simp, k2⟩
      · refine ⟨⟨i + 1, by rw [wrap_succ hi' hn], hi', ?_, ?_⟩, ?_⟩
        · exact (‹Keep [] w1 w'›).trans ‹Keep [] w' w''› (fun _ _ h => h)
        · rw [he, any_step _ hi', h2, Bool.false_or]
        · rw [wrap_succ hi' hn, mu0_eq, mu0_eq]; omega
  · have hi' : l.length ≤ i := by simpa using h
    exact ⟨by rw [he, any_end _ hi'], k⟩
end Go.Proofs.YtlfeckimhaegbaaDoor
