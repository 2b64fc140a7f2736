/- FilterAnswers, FilterApart: '==' of flows; how heavy the input is. -/
import Derived.Test.YtlfeckimhaegbaaDoorFil12
namespace Go.Proofs.YtlfeckimhaegbaaDoor
open Go Eng
set_option maxRecDepth 20000

theorem eqg37 : Tryd.prog.eqGuardType Tryd.prog.depth 37 = false := by kernel_rfl
theorem eq37 {a b : Fl} {o1 o2 : Operand} {w : World} {K : Value → Prop} (h : K (.bool (decide (a = b)))) : rd Tryd.prog (do eqGuard .eql 37 o1 o2 (flV a) (flV b); binOp .eql 37 (flV a) (flV b)) w K := by
  refine rd_ok (v := .bool (decide (a = b))) ?_ h
  have h1 : (eqGuard .eql 37 o1 o2 (flV a) (flV b)).run Tryd.prog w = .ok () w := by
    unfold eqGuard flV
    simp []
  have h2 : (Op.equal 37 (flV a) (flV b)).run Tryd.prog w = .ok (decide (a = b)) w := by
    have := FK.equal a b w
    rwa [flOf, flOf] at this
  rw [Sem.run_bind, h1, Result.andThen_ok]
  show (do let r ← Op.equal 37 (flV a) (flV b); pure (Value.bool r) : Sem Value).run Tryd.prog w = _
  rw [Sem.run_bind, h2, Result.andThen_ok]
  rfl

/-! ### size, heavy -/
def ruN (r : Ru) : Nat := r.protos.length + r.src.length + r.dst.length + r.ports.length
def sizeN (rs : List Ru) : Nat := rs.length + ((rs.take 100).map ruN).sum
theorem sum_take_succ {γ : Type} (f : γ → Nat) {l : List γ} {i : Nat} (h : i < l.length) : ((l.take (i + 1)).map f).sum = ((l.take i).map f).sum + f l[i] := by
  rw [List.take_add_one, List.getElem?_eq_getElem h]; simp only [List.map_append, List.sum_append, Option.toList_some, List.map_cons, List.map_nil, List.sum_cons, List.sum_nil, Nat.add_zero]
theorem ru_small {r : Ru} (h : RuOk r) : ruN r < 4194304 := by
  have := h.np; have := h.ns; have := h.nd; have := h.no
  unfold ruN; omega
theorem sum_small {l : List Ru} (h : ∀ r ∈ l, ruN r < 4194304) : (l.map ruN).sum ≤ l.length * 4194304 := by
  induction l with
  | nil => simp
  | cons r l ih =>
    have h1 := h r (by simp)
    have h2 := ih fun r hr => h r (by simp [hr])
    simp only [List.map_cons, List.sum_cons, List.length_cons]
    omega
theorem RulesAt.ok {w : World} {v : Value} {rs : List Ru} {S : List Nat} (h : RulesAt w v rs S) : ∀ r ∈ rs, RuOk r := by
  obtain ⟨xs, hl, hs, hb, hn, hr⟩ := h
  intro r hmem
  obtain ⟨i, hi, rfl⟩ := List.getElem_of_mem hmem
  exact (hr i (by omega) hi).ok

theorem k16 (rs : List Ru) (v : Value) (S0 : List Nat) (w : World) (hv : RulesAt w v rs S0) :
    Calls Tryd.prog 16 #[v] w fun e w' => ∃ u, e = .returned u ∧ Ans (.int .i64 (sizeN rs)) w u w' := by
  refine c16 _ _ _ ?_
  unfold m16
  have hn := hv.lt
  have hok := hv.ok
  have hsm : ∀ i : Nat, i ≤ 100 → ((rs.take i).map ruN).sum ≤ 100 * 4194304 := fun i hi => by
    have := sum_small (l := rs.take i) fun r hr => ru_small (hok r (List.mem_of_mem_take hr))
    have h2 : (rs.take i).length ≤ 100 := by simp; omega
    exact Nat.le_trans this (Nat.mul_le_mul_right 4194304 h2)
  simp only [hv.len]
  refine loopP_of (fun vs w' => ∃ i : Nat, vs = [.int .i64 ((rs.length + ((rs.take i).map ruN).sum : Nat) : Int), .int .i64 i] ∧ i ≤ rs.length ∧ i ≤ 100 ∧ Keep [] w w') (mu1 100) ⟨0, by simp, by omega, by omega, Keep.refl _ _⟩ ?_
  rintro vs w' ⟨i, rfl, hi, hi100, k⟩
  have hv := hv.keep0 k
  unfold m16_2
  refine joinP_of (fun vs w'' => vs = [.bool (decide (i < rs.length) && decide (i < 100))] ∧ w'' = w') ?_ ?_
  · simp only [hv.len, List.getD_cons_zero, List.getD_cons_succ, pBin_int, binI]
    refine condF_of (fun h => ?_) (fun h => ?_)
    · have h' : i < rs.length := by simpa using h
      simp [h']
      omega
    · have h' : ¬ i < rs.length := by simpa using h
      simp [h']
  rintro _ w'' ⟨rfl, rfl⟩
  unfold m16_1
  simp only [List.getD_cons_zero, List.getD_cons_succ]
  refine condF_of (fun h => ?_) (fun h => ?_)
  · simp only [Bool.and_eq_true, decide_eq_true_eq] at h
    obtain ⟨h1, h2⟩ := h
    have hs1 := hsm (i + 1) (by omega)
    have hs0 := hsm i (by omega)
    rw [sum_take_succ ruN h1] at hs1
    have hru : ruN rs[i] = rs[i].protos.length + rs[i].src.length + rs[i].dst.length + rs[i].ports.length := rfl
    refine hv.el h1 fun x eb off hb el ru => ?_
    simp only [rvC] at el
    obtain ⟨a1, c1, e1⟩ := ru.p.slice
    simp only [pFld_eq, pBin_int, binI, pLenT_sl, ld1_drew, List.getElem?_cons_zero, Nat.zero_add, Nat.add_zero, Nat.reduceAdd, List.length_cons, List.length_nil, el.ld10, Nat.reduceLT, e1]
    rw [wrap_in_i64 (by omega) (by omega)]
    refine hv.el h1 fun x2 eb off hb el ru => ?_
    simp only [rvC] at el
    obtain ⟨a2, c2, e2⟩ := ru.s.slice
    simp only [pFld_eq, pBin_int, binI, pLenT_sl, List.getElem?_cons_succ, List.getElem?_cons_zero, Nat.zero_add, Nat.reduceAdd, List.length_cons, List.length_nil, el.ld1, Nat.reduceLT, e2]
    rw [wrap_in_i64 (by omega) (by omega)]
    refine hv.el h1 fun x3 eb off hb el ru => ?_
    simp only [rvC] at el
    obtain ⟨a3, c3, e3⟩ := ru.d.slice
    simp only [pFld_eq, pBin_int, binI, pLenT_sl, List.getElem?_cons_succ, List.getElem?_cons_zero, Nat.zero_add, Nat.reduceAdd, List.length_cons, List.length_nil, el.ld1, Nat.reduceLT, e3]
    rw [wrap_in_i64 (by omega) (by omega)]
    refine hv.el h1 fun x4 eb off hb el ru => ?_
    simp only [rvC] at el
    obtain ⟨a4, c4, e4⟩ := ru.o.slice
    simp only [pFld_eq, pBin_int, binI, pLenT_sl, List.getElem?_cons_succ, List.getElem?_cons_zero, Nat.zero_add, Nat.reduceAdd, List.length_cons, List.length_nil, el.ld1, Nat.reduceLT, e4]
    rw [wrap_in_i64 (by omega) (by omega)]
    refine ⟨⟨i + 1, ?_, h1, h2, k.drew⟩, ?_⟩
    · rw [wrap_succ h2 (by omega), sum_take_succ ruN h1, hru]
      simp
      omega
    · rw [wrap_succ h2 (by omega), mu1_eq, mu1_eq]; omega
  · have h3 : rs.take i = rs.take 100 := by
      simp only [Bool.and_eq_false_imp, decide_eq_true_eq, decide_eq_false_iff_not] at h
      by_cases h1 : i < rs.length
      · have : i = 100 := by have := h h1; omega
        rw [this]
      · rw [List.take_of_length_le (by omega), List.take_of_length_le (by omega)]
    exact ⟨by rw [h3]; rfl, k⟩
end Go.Proofs.YtlfeckimhaegbaaDoor
