/- FilterAnswers, FilterApart: which rule lets in, by the reference (ref20.by, ref20.Match). -/
import Derived.Test.YtlfeckimhaegbaaDoorFil2
namespace Go.Proofs.YtlfeckimhaegbaaDoor
open Go Eng
set_option maxRecDepth 20000

theorem any_take {γ : Type} (p : γ → Bool) {l : List γ} {i : Nat} (h : i < l.length) : (l.take (i + 1)).any p = ((l.take i).any p || p l[i]) := by
  rw [List.take_add_one, List.any_append, List.getElem?_eq_getElem h]; simp
theorem any_all {γ : Type} (p : γ → Bool) {l : List γ} {i : Nat} (h : l.length ≤ i) : (l.take i).any p = l.any p := by rw [List.take_of_length_le h]

theorem k21 (ps : List Int) (l : List Po) (f : Fl) (v u : Value) (w : World) (hv : SlOf w v 1 u8C ps) (hu : SlOf w u 2 poC l) (hn : ps.length < 4294967296) (hm : l.length < 4294967296) :
    Calls Tryd.prog 21 #[v, u, flV f] w fun e w' => ∃ x, e = .returned x ∧ Ans (.bool (byB ps l f)) w x w' := by
  refine c21 _ _ _ _ _ ?_
  unfold m21
  refine eBox_of fun b w1 _ k1 g1 => ?_
  have hv := hv.keep0 k1
  have hu := hu.keep0 k1
  simp only [flV, flC, Value.cells] at g1
  obtain ⟨aa, cap, hvv⟩ := hv.slice
  obtain ⟨ab, cap2, huv⟩ := hu.slice
  have lv : ∀ K, pLenT 2 v K = K (.int .i64 ps.length) := fun K => by rw [hvv, pLenT_sl]
  have lu : ∀ K, pLenT 2 u K = K (.int .i64 l.length) := fun K => by rw [huv, pLenT_sl]
  simp only [lv, pBin_int, binI]
  refine loopP_of (fun vs w' => ∃ i : Nat, vs = [.bool (ps.isEmpty || (ps.take i).any (· == f.proto)), .int .i64 i] ∧ i ≤ ps.length ∧ Keep [] w1 w') (mu1 ps.length)
    ⟨0, ?_, by omega, Keep.refl _ _⟩ ?_
  · cases ps <;> simp <;> omega
  rintro vs w' ⟨i, rfl, hi, k⟩
  have hv := hv.keep0 k
  have hu := hu.keep0 k
  have g1 := k.get g1 (by simp)
  have kk := k1.trans k (fun _ _ h => h)
  unfold m21_4
  simp only [lv, List.getD_cons_succ, List.getD_cons_zero, pBin_int, binI]
  refine condF_of (fun h => ?_) (fun h => ?_)
  · have hi' : i < ps.length := by simpa using h
    refine joinP_of (fun vs w'' => vs = [.bool (ps.isEmpty || (ps.take (i + 1)).any (· == f.proto))] ∧ Keep [] w' w'') ?_ ?_
    · unfold m21_1
      simp only [List.getD_cons_succ, List.getD_cons_zero]
      refine condF_of (fun h2 => ⟨?_, (Keep.refl _ _).drew⟩) (fun h2 => ?_)
      · rw [any_take _ hi', ← Bool.or_assoc, h2]; rfl
      · refine hv.el u8C_len hi' fun eb off hb el => ?_
        simp only [u8C] at el
        simp only [pFld_eq, pBin_int, binI, ld1_drew, List.getElem?_toArray, List.getElem?_cons_zero, Nat.zero_add, Nat.add_zero, List.length_cons, List.length_nil, el.ld10, Nat.reduceLT, ld1_eq g1]
        refine ⟨?_, (Keep.refl _ _).drew⟩
        rw [any_take _ hi', ← Bool.or_assoc, h2]; rfl
    · rintro _ w'' ⟨rfl, k2⟩
      simp only [List.getD_cons_zero]
      refine ⟨⟨i + 1, by rw [wrap_succ hi' hn], hi', k.trans k2 (fun _ _ h => h)⟩, ?_⟩
      rw [wrap_succ hi' hn, mu1_eq, mu1_eq]; omega
  · have hi' : ps.length ≤ i := by simpa using h
    simp only [lu, pBin_int, binI]
    rw [any_all _ hi']
    refine loopP_of (fun vs w2 => ∃ j : Nat, vs = [.bool (l.isEmpty || (l.take j).any (poB f)), .int .i64 j] ∧ j ≤ l.length ∧ Keep [] w' w2) (mu1 l.length)
      ⟨0, ?_, by omega, Keep.refl _ _⟩ ?_
    · cases l <;> simp <;> omega
    rintro vs w2 ⟨j, rfl, hj, k2⟩
    have hu := hu.keep0 k2
    have g1 := k2.get g1 (by simp)
    unfold m21_3
    simp only [lu, List.getD_cons_succ, List.getD_cons_zero, pBin_int, binI]
    refine condF_of (fun h3 => ?_) (fun h3 => ?_)
    · have hj' : j < l.length := by simpa using h3
      refine joinP_of (fun vs w'' => vs = [.bool (l.isEmpty || (l.take (j + 1)).any (poB f))] ∧ Keep [] w2 w'') ?_ ?_
      · unfold m21_2
        simp only [List.getD_cons_succ, List.getD_cons_zero]
        have key : (l.isEmpty || (l.take (j + 1)).any (poB f)) = ((l.isEmpty || (l.take j).any (poB f)) || poB f l[j]) := by rw [any_take _ hj', ← Bool.or_assoc]
        rw [key]
        refine condF_of (fun h2 => ⟨by rw [h2]; rfl, (Keep.refl _ _).drew⟩) (fun h2 => ?_)
        rw [h2, Bool.false_or]
        have kd : Keep [] w2 w2.drew := (Keep.refl _ _).drew
        simp only [pFld_eq, condF_bool, pBin_int, binI, ld1_drew, List.getElem?_toArray, List.getElem?_cons_succ, List.getElem?_cons_zero, Nat.zero_add, Nat.add_zero, ld1_eq g1]
        have tail : ∀ J : List Value → World → Prop, (∀ vs w'', vs = [.bool (decide (l[j].fr ≤ f.to) && decide (f.to ≤ l[j].to))] ∧ Keep [] w2 w'' → J vs w'') →
            pIxS 2 u (.int .i64 j) fun t54 => pFld 0 t54 fun t55 => ld1 t55 w2 fun t56 => pBin .geq (.int .u16 f.to) t56 fun t57 => condF t57
              (pIxS 2 u (.int .i64 j) fun t64 => pFld 1 t64 fun t65 => ld1 t65 w2 fun t66 => pBin .leq (.int .u16 f.to) t66 fun t67 => J [t67] w2.drew) (J [.bool false] w2.drew) := by
          intro J hJ
          refine hu.el poC_len hj' fun eb off hb el => ?_
          simp only [poC] at el
          simp only [pFld_eq, condF_bool, pBin_int, binI, List.getElem?_cons_zero, Nat.zero_add, Nat.add_zero, Nat.reduceAdd, List.length_cons, List.length_nil, el.ld10, Nat.reduceLT]
          refine ⟨fun h5 => ?_, fun h5 => hJ _ _ ⟨by have h6 : decide (l[j].fr ≤ f.to) = false := h5; rw [h6]; rfl, kd⟩⟩
          refine hu.el poC_len hj' fun eb off hb el => ?_
          simp only [poC] at el
          simp only [pFld_eq, pBin_int, binI, List.getElem?_cons_succ, List.getElem?_cons_zero, Nat.zero_add, Nat.reduceAdd, List.length_cons, List.length_nil, el.ld1, Nat.reduceLT]
          exact hJ _ _ ⟨by have h6 : decide (l[j].fr ≤ f.to) = true := h5; rw [h6]; rfl, kd⟩
        refine ⟨fun h4 => ?_, fun h4 => ⟨fun h5 => ?_, fun h5 => ?_⟩⟩
        · have := tail _ (fun vs w'' hh => hh)
          simpa [poB, h4] using this
        · have := tail _ (fun vs w'' hh => hh)
          simpa [poB, h4, h5] using this
        · exact ⟨by simp [poB, h4, h5], kd⟩
      · rintro _ w'' ⟨rfl, k3⟩
        simp only [List.getD_cons_zero]
        refine ⟨⟨j + 1, by rw [wrap_succ hj' hm], hj', k2.trans k3 (fun _ _ h => h)⟩, ?_⟩
        rw [wrap_succ hj' hm, mu1_eq, mu1_eq]; omega
    · have hj' : l.length ≤ j := by simpa using h3
      rw [any_all _ hj']
      refine joinP_of (fun vs w'' => vs = [.bool (byB ps l f)] ∧ Keep [] w2 w'') ?_ ?_
      · exact condF_of (fun h4 => ⟨by simp [byB, h4], Keep.refl _ _⟩) (fun h4 => ⟨by simp [byB, h4], Keep.refl _ _⟩)
      · rintro _ w'' ⟨rfl, k3⟩
        simp only [List.getD_cons_zero]
        exact ⟨rfl, (kk.trans k2 (fun _ _ h => h)).trans k3 (fun _ _ h => h)⟩
end Go.Proofs.YtlfeckimhaegbaaDoor
