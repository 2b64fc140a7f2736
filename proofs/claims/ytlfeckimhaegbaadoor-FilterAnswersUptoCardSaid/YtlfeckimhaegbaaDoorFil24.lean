/- FilterAnswers: the row and the card. -/
import Derived.Test.YtlfeckimhaegbaaDoorFil23
namespace Go.Proofs.YtlfeckimhaegbaaDoor.fnFilterAnswers
open Go Eng Go.ChangeShapes Go.WideShapes Go.ChangeAt Go.RowKit
set_option maxRecDepth 100000

theorem own : ownKnob Tryd.prog.godebug = none := by kernel_rfl
theorem laid_eq : Rows.filterAnswersUptoRow.laid = rowLaid := by kernel_rfl

theorem contract (H : Type) (enc : TypeId × Value → H) (W : World) (base : Nat) (args : Array Value) (ds gs : List (DataW H)) (before : List MemPlace)
    (hval : ∀ (j : Nat) t v, Tryd.f3.params[j]? = some t → args[j]? = some v → Value.okWide Tryd.prog W .any base t v)
    (hW : DataW.Whole enc Tryd.prog Tryd.f3.params.toList Rows.filterAnswersSpec.vars false W args.toList ds gs before) (hc : Rows.uptoSmall H (ds ++ gs) = true) (hL : laidMetH Tryd.prog Rows.filterAnswersUptoRow.laid W) :
    Calls Tryd.prog 3 args W fun e W' => ∃ v, e = .returned v ∧ Rows.filterAnswersSpec.post enc Tryd.prog Tryd.f3 false true false false W args v W' := by
  have hW' := hW
  have hlt := hW.lt
  obtain ⟨p, q, hA0, hV, rfl, hfz, hnd⟩ := hW
  have hA : DataW.TrodAll enc Tryd.prog W 0 (fun _ => true) true Tryd.f3.params.toList args.toList ds p := hA0
  rw [Tryd.params3] at hA hval
  obtain ⟨v0, vs0, d0, ds0, p0, q0, hargs, rfl, rfl, h0, r0⟩ := trodAll_cons hA
  obtain ⟨v1, vs1, d1, ds1, p1, q1, rfl, rfl, rfl, h1, r1⟩ := trodAll_cons r0
  obtain ⟨v2, vs2, d2, ds2, p2, q2, rfl, rfl, rfl, h2, r2⟩ := trodAll_cons r1
  obtain ⟨v3, vs3, d3, ds3, p3, q3, rfl, rfl, rfl, h3, r3⟩ := trodAll_cons r2
  obtain ⟨rfl, rfl, rfl⟩ := trodAll_nil r3
  obtain rfl : args = #[v0, v1, v2, v3] := by cases args; simp_all
  obtain ⟨rfl, rfl⟩ := trodVars_none hV
  have hb : Rows.uptoBulkAll [d0, d1, d2, d3] ≤ 1048576 := by
    have : Rows.uptoBulkAll ([d0, d1, d2, d3] ++ []) ≤ 1048576 := of_decide_eq_true hc
    simpa using this
  obtain ⟨n0, t0⟩ := h0
  obtain ⟨n1, t1⟩ := h1
  obtain ⟨n2, t2⟩ := h2
  obtain ⟨n3, t3⟩ := h3
  have u22 : Tryd.prog.underlying 22 = some (.slice 61) := t22.hst
  have u24 : Tryd.prog.underlying 24 = some (.slice 41) := by kernel_rfl
  obtain ⟨x0, rs, S0, e0, hr⟩ := op_rules (enc := enc) (w := W) ⟨n0, p0, t0⟩ (Nat.le_trans (bulk_mem (by simp)) hb)
  obtain ⟨most, e1, m0, m1⟩ := op_int (enc := enc) (w := W) Tryd.underlying5 ⟨n1, p1, t1⟩
  obtain ⟨life, e2, l0, l1⟩ := op_int (enc := enc) (w := W) Tryd.underlying23 ⟨n2, p2, t2⟩
  obtain ⟨x3, ss, S3, e3, hs⟩ := op_steps (enc := enc) (w := W) ⟨n3, p3, t3⟩ (Nat.le_trans (bulk_mem (by simp)) hb)
  rw [one_slice u22 (hval 0 22 v0 rfl rfl)] at e0
  rw [one_int Tryd.underlying5 (hval 1 5 v1 rfl rfl)] at e1
  rw [one_int Tryd.underlying23 (hval 2 23 v2 rfl rfl)] at e2
  rw [one_slice u24 (hval 3 24 v3 rfl rfl)] at e3
  simp only [List.cons.injEq, and_true] at e0 e1 e2 e3
  subst e0 e1 e2 e3
  have mm0 : IntKind.u8.min = 0 := by decide
  have mm1 : IntKind.u8.max = 255 := by decide
  have ll0 : IntKind.u16.min = 0 := by decide
  have ll1 : IntKind.u16.max = 65535 := by decide
  have hT : Tab W := tabs (by rw [← laid_eq]; exact hL)
  have hs' : StepsAt W v3 ss (S0 ++ S3) := by
    obtain ⟨xs, hl, hs, hb, hn, hr⟩ := hs
    exact ⟨xs, hl, hs, fun k hk => List.mem_append.2 (.inr (hb k hk)), hn, fun i h h' => let q := hr i h h'; ⟨q.op, q.h, q.now, q.rules.mono fun k hk => List.mem_append.2 (.inr hk), q.ok, q.n0⟩⟩
  refine (k3 rs most life ss v0 v3 (S0 ++ S3) W (textOk hT) (hr.mono fun k hk => List.mem_append.2 (.inl hk)) hs' (by omega) (by omega) (by omega) (by omega)).mono fun e W' ⟨v, he, hv, hk⟩ => ?_
  subst he hv
  refine ⟨_, rfl, [d0, d1, d2, d3], [], _, [], p0 ++ (p1 ++ (p2 ++ (p3 ++ []))), [], hW', ?_, ?_, rfl, keptBut_of hk _, fun h => by cases h⟩
  · exact trodAll_cons_mk (shut_bool Tryd.underlying4 _) trodAll_mk0
  · have hlt' : ∀ x ∈ p0 ++ (p1 ++ (p2 ++ (p3 ++ []))), x.block < W.heap.size := fun x hx => hlt x (List.mem_append.2 (.inl hx))
    exact trodAll_cons_mk (stay (by kernel_rfl) (of_decide_eq_true (by kernel_rfl)) ⟨n0, t0⟩ hk fun x hx => hlt' x (by simp [hx])) (trodAll_cons_mk (stay (by kernel_rfl) (of_decide_eq_true (by kernel_rfl)) ⟨n1, t1⟩ hk fun x hx => hlt' x (by simp [hx]))
      (trodAll_cons_mk (stay (by kernel_rfl) (of_decide_eq_true (by kernel_rfl)) ⟨n2, t2⟩ hk fun x hx => hlt' x (by simp [hx])) (trodAll_cons_mk (stay (by kernel_rfl) (of_decide_eq_true (by kernel_rfl)) ⟨n3, t3⟩ hk fun x hx => hlt' x (by simp [hx])) trodAll_mk0)))

def wargs : Array Value := #[.slice none 0 0, .int .u8 0, .int .u16 0, .slice none 0 0]
theorem laid_met (os : Os) : laidMet Tryd.prog Rows.filterAnswersUptoRow.laid ((laidWorld os).forCall (fun _ _ => 0) ⟨#[], wargs, []⟩).memory :=
  laidMet_of_run' 8 (by kernel_rfl) (by kernel_rfl)
theorem reads (os : Os) {H : Type} (enc : TypeId × Value → H) : ∃ places, DataW.whole enc Tryd.prog ((laidWorld os).forCall (fun _ _ => 0) ⟨#[], wargs, []⟩).memory Tryd.f3.params.toList Rows.filterAnswersSpec.vars false wargs.toList 8 = some ([.nil, .lit (.int .u8 0), .lit (.int .u16 0), .nil], [], places) :=
  ⟨[], by kernel_rfl⟩
theorem liftedUpto (os : Os) (started : os.Started) (H : Type) (enc : TypeId × Value → H) (F : Stop.Interp) :
    ReturnsInHanded {} Tryd.checked os 3 .any ((Rows.OpenSpec.upto Rows.filterAnswersSpec).preRow enc Tryd.prog Tryd.f3 Rows.filterAnswersUptoRow.domain false Rows.filterAnswersUptoRow.laid) (((Rows.OpenSpec.upto Rows.filterAnswersSpec).at F).post enc Tryd.prog Tryd.f3 false true false false) := by
  obtain ⟨places, hx⟩ := reads os enc
  refine returnsInHanded_of_row (C := Tryd.checked) (s := Rows.OpenSpec.upto Rows.filterAnswersSpec) own started (by kernel_rfl) Tryd.func3
    (witness_row_at (enc := enc) (C := Tryd.checked) false (laidWorld os) wargs rfl (by kernel_rfl) (by kernel_rfl) (by kernel_rfl)
      (OpenSpec.preRow_of_cond 8 hx (by kernel_rfl) (fun k hk => by cases hk; kernel_rfl) (by kernel_rfl) (laid_met os))) ?_
  intro W base args ds gs before hval hW _ hcond _ hL _ _
  exact contract H enc W base args ds gs before hval hW (hcond _ rfl) hL
theorem saidUpto : Rows.FilterAnswersUptoSaid :=
  OpenClaim.holds_of_cond 3 Tryd.f3 rfl rfl rfl rfl rfl rfl rfl ⟨rfl, rfl, rfl, rfl, rfl⟩ rfl rfl rfl rfl rfl (by kernel_rfl) Tryd.func3 (by kernel_rfl)
    (of_decide_eq_true (by kernel_rfl)) (by unfold Func.isWrapper; first | (rw [if_pos (by decide +kernel)]; kernel_rfl) | (rw [if_neg (by decide +kernel)]; exact ⟨rfl, rfl⟩))
    (fun os started H enc _ F => by rw [OpenClaim.pre_eq_preRow]; exact liftedUpto os started H enc F)
theorem plain (f : FuncId) (fn : Func) (hf : Tryd.pinned.checked.prog.funcNamed "isthmus/isthmuslaw21.FilterAnswers" = some f) (hfn : Tryd.pinned.checked.prog.funcs[f]? = some fn) :
    false = Tryd.pinned.checked.prog.looks [] ∧ ∀ (j : Nat) t, fn.params[j]? = some t → Tryd.pinned.checked.prog.wantsStandIn t = false := by
  obtain rfl : f = 3 := Option.some.inj ((show Tryd.prog.funcNamed "isthmus/isthmuslaw21.FilterAnswers" = some 3 by kernel_rfl).symm.trans hf) |>.symm
  obtain rfl : fn = Tryd.f3 := (Option.some.inj (Tryd.func3.symm.trans hfn)).symm
  refine ⟨by kernel_rfl, fun j t ht => ?_⟩
  rw [Tryd.params3] at ht
  have hm := Array.mem_of_getElem? ht
  simp at hm
  rcases hm with rfl | rfl | rfl | rfl
  · exact (show Tryd.prog.wantsStandIn 22 = false by kernel_rfl)
  · exact (show Tryd.prog.wantsStandIn 5 = false by kernel_rfl)
  · exact (show Tryd.prog.wantsStandIn 23 = false by kernel_rfl)
  · exact (show Tryd.prog.wantsStandIn 24 = false by kernel_rfl)
theorem cardUpto : Rows.FilterAnswersUptoCardSaid :=
  Claim7.holds_tied_plain_at .later [] _ _ _ _ saidUpto (fun _ h => by cases h) (by kernel_rfl) (fun _ h => by cases h) filterAnswersUpto_row_tie rfl ⟨rfl, rfl⟩ (by kernel_rfl) rfl plain (by kernel_rfl)
end Go.Proofs.YtlfeckimhaegbaaDoor.fnFilterAnswers
