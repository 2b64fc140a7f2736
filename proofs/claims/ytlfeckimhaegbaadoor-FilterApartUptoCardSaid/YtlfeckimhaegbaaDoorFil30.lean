/- Proved here: isthmuslaw21.FilterApart returns true and leaves its arguments as they were, for every input whose values and letters are together at most 1048576 (the second form, tied card).
   Conditions: the three listed tables hold what the program's text lays in them; no other. -/
import Derived.Test.YtlfeckimhaegbaaDoorFil23
import Derived.Test.YtlfeckimhaegbaaDoorFil29
namespace Go.Proofs.YtlfeckimhaegbaaDoor.fnFilterApart
open Go Eng Go.ChangeShapes Go.WideShapes Go.ChangeAt Go.RowKit
set_option maxRecDepth 100000

theorem own : ownKnob Tryd.prog.godebug = none := by kernel_rfl
theorem laid_eq : Rows.filterApartUptoRow.laid = rowLaid := by kernel_rfl

theorem one_fl {r : Reach} {W : World} {base : Nat} {f : Fl} {v : Value} (h : Value.okWide Tryd.prog W r base 37 v) (e : v.cells.toList = flC f) : v = flV f := by
  have hu : ∃ fs, Tryd.prog.underlying 37 = some (.struct fs) := FK.strct
  obtain ⟨fs, hu⟩ := hu
  unfold Value.okWide at h
  rw [hu] at h
  obtain ⟨cs, rfl, _⟩ := h
  unfold flV
  rw [← e]
  simp [Value.cells]
section
variable {H : Type} {enc : TypeId × Value → H} {w : World}
theorem op_flp {cs : List Value} {d : DataW H} (h : Trd enc Tryd.prog w 37 cs d) : ∃ f, cs = flC f ∧ 0 ≤ f.proto ∧ f.proto < 256 := by
  obtain ⟨f, rfl, _⟩ := op_fl h
  obtain ⟨hl, ds, rfl, _, hf⟩ := op_struct Tryd.underlying37 h
  obtain ⟨_, _, h0⟩ := op_field hf 0 0 co5 rfl
  obtain ⟨p, e0, a, b⟩ := op_int Tryd.underlying5 h0
  have m0 : IntKind.u8.min = 0 := by decide
  have m1 : IntKind.u8.max = 255 := by decide
  simp [flC] at e0
  exact ⟨f, rfl, by omega, by omega⟩
end
theorem contract (H : Type) (enc : TypeId × Value → H) (W : World) (base : Nat) (args : Array Value) (ds gs : List (DataW H)) (before : List MemPlace)
    (hval : ∀ (j : Nat) t v, Tryd.f4.params[j]? = some t → args[j]? = some v → Value.okWide Tryd.prog W .any base t v)
    (hW : DataW.Whole enc Tryd.prog Tryd.f4.params.toList Rows.filterApartSpec.vars false W args.toList ds gs before) (hc : Rows.uptoSmall H (ds ++ gs) = true) (hL : laidMetH Tryd.prog Rows.filterApartUptoRow.laid W) :
    Calls Tryd.prog 4 args W fun e W' => ∃ v, e = .returned v ∧ Rows.filterApartSpec.post enc Tryd.prog Tryd.f4 false true false false W args v W' := by
  have hW' := hW
  have hlt := hW.lt
  obtain ⟨p, q, hA0, hV, rfl, hfz, hnd⟩ := hW
  have hA : DataW.TrodAll enc Tryd.prog W 0 (fun _ => true) true Tryd.f4.params.toList args.toList ds p := hA0
  rw [Tryd.params4] at hA hval
  obtain ⟨v0, vs0, d0, ds0, p0, q0, hargs, rfl, rfl, h0, r0⟩ := trodAll_cons hA
  obtain ⟨v1, vs1, d1, ds1, p1, q1, rfl, rfl, rfl, h1, r1⟩ := trodAll_cons r0
  obtain ⟨v2, vs2, d2, ds2, p2, q2, rfl, rfl, rfl, h2, r2⟩ := trodAll_cons r1
  obtain ⟨v3, vs3, d3, ds3, p3, q3, rfl, rfl, rfl, h3, r3⟩ := trodAll_cons r2
  obtain ⟨rfl, rfl, rfl⟩ := trodAll_nil r3
  obtain rfl : args = #[v0, v1, v2, v3] := by cases args; simp_all
  obtain ⟨rfl, rfl⟩ := trodVars_none hV
  have hb : Rows.uptoBulkAll [d0, d1, d2, d3] ≤ 1048576 := by
    have : Rows.uptoBulkAll ([d0, d1, d2, d3] ++ []) ≤ 1048576 := of_decide_eq_true hc
    simpa using this
  obtain ⟨n0, t0⟩ := h0
  obtain ⟨n1, t1⟩ := h1
  obtain ⟨n2, t2⟩ := h2
  obtain ⟨n3, t3⟩ := h3
  have u22 : Tryd.prog.underlying 22 = some (.slice 61) := t22.hst
  have u24 : Tryd.prog.underlying 24 = some (.slice 41) := by kernel_rfl
  obtain ⟨x0, rs, S0, e0, hr⟩ := op_rules (enc := enc) (w := W) ⟨n0, p0, t0⟩ (Nat.le_trans (bulk_mem (by simp)) hb)
  obtain ⟨life, e1, l0, l1⟩ := op_int (enc := enc) (w := W) Tryd.underlying23 ⟨n1, p1, t1⟩
  obtain ⟨x2, ss, S3, e2, hs⟩ := op_steps (enc := enc) (w := W) ⟨n2, p2, t2⟩ (Nat.le_trans (bulk_mem (by simp)) hb)
  obtain ⟨fl, e3, q0, q1⟩ := op_flp (enc := enc) (w := W) ⟨n3, p3, t3⟩
  rw [one_slice u22 (hval 0 22 v0 rfl rfl)] at e0
  rw [one_int Tryd.underlying23 (hval 1 23 v1 rfl rfl)] at e1
  rw [one_slice u24 (hval 2 24 v2 rfl rfl)] at e2
  obtain rfl := one_fl (hval 3 37 v3 rfl rfl) e3
  simp only [List.cons.injEq, and_true] at e0 e1 e2
  subst e0 e1 e2
  have ll0 : IntKind.u16.min = 0 := by decide
  have ll1 : IntKind.u16.max = 65535 := by decide
  have hT : Tab W := tabs (by rw [← laid_eq]; exact hL)
  have hs' : StepsAt W v2 ss (S0 ++ S3) := by
    obtain ⟨xs, hl, hs, hb, hn, hr⟩ := hs
    exact ⟨xs, hl, hs, fun k hk => List.mem_append.2 (.inr (hb k hk)), hn, fun i h h' => let q := hr i h h'; ⟨q.op, q.h, q.now, q.rules.mono fun k hk => List.mem_append.2 (.inr hk), q.ok, q.n0⟩⟩
  refine (k4 rs life ss fl v0 v2 (S0 ++ S3) W (textOk hT) (hr.mono fun k hk => List.mem_append.2 (.inl hk)) hs' (by omega) (by omega) q0 q1).mono fun e W' ⟨v, he, hv, hk⟩ => ?_
  subst he hv
  refine ⟨_, rfl, [d0, d1, d2, d3], [], _, [], p0 ++ (p1 ++ (p2 ++ (p3 ++ []))), [], hW', ?_, ?_, rfl, keptBut_of hk _, fun h => by cases h⟩
  · exact trodAll_cons_mk (shut_bool Tryd.underlying4 _) trodAll_mk0
  · have hlt' : ∀ x ∈ p0 ++ (p1 ++ (p2 ++ (p3 ++ []))), x.block < W.heap.size := fun x hx => hlt x (List.mem_append.2 (.inl hx))
    exact trodAll_cons_mk (stay (by kernel_rfl) (of_decide_eq_true (by kernel_rfl)) ⟨n0, t0⟩ hk fun x hx => hlt' x (by simp [hx])) (trodAll_cons_mk (stay (by kernel_rfl) (of_decide_eq_true (by kernel_rfl)) ⟨n1, t1⟩ hk fun x hx => hlt' x (by simp [hx]))
      (trodAll_cons_mk (stay (by kernel_rfl) (of_decide_eq_true (by kernel_rfl)) ⟨n2, t2⟩ hk fun x hx => hlt' x (by simp [hx])) (trodAll_cons_mk (stay (by kernel_rfl) (of_decide_eq_true (by kernel_rfl)) ⟨n3, t3⟩ hk fun x hx => hlt' x (by simp [hx])) trodAll_mk0)))

def wfl : Value := .agg #[.int .u8 0, .bool false, .int .u64 0, .int .u64 0, .bool false, .int .u64 0, .int .u64 0, .int .u16 0, .int .u16 0]
def wflD {H : Type} : DataW H := .agg [.lit (.int .u8 0), .agg [.lit (.bool false), .lit (.int .u64 0), .lit (.int .u64 0)], .agg [.lit (.bool false), .lit (.int .u64 0), .lit (.int .u64 0)], .lit (.int .u16 0), .lit (.int .u16 0)]
def wargs : Array Value := #[.slice none 0 0, .int .u16 0, .slice none 0 0, wfl]
theorem laid_met (os : Os) : laidMet Tryd.prog Rows.filterApartUptoRow.laid ((laidWorld os).forCall (fun _ _ => 0) ⟨#[], wargs, []⟩).memory :=
  laidMet_of_run' 8 (by kernel_rfl) (by kernel_rfl)
theorem reads (os : Os) {H : Type} (enc : TypeId × Value → H) : ∃ places, DataW.whole enc Tryd.prog ((laidWorld os).forCall (fun _ _ => 0) ⟨#[], wargs, []⟩).memory Tryd.f4.params.toList Rows.filterApartSpec.vars false wargs.toList 8 = some ([.nil, .lit (.int .u16 0), .nil, wflD], [], places) :=
  ⟨[], by kernel_rfl⟩
theorem liftedUpto (os : Os) (started : os.Started) (H : Type) (enc : TypeId × Value → H) (F : Stop.Interp) :
    ReturnsInHanded {} Tryd.checked os 4 .any ((Rows.OpenSpec.upto Rows.filterApartSpec).preRow enc Tryd.prog Tryd.f4 Rows.filterApartUptoRow.domain false Rows.filterApartUptoRow.laid) (((Rows.OpenSpec.upto Rows.filterApartSpec).at F).post enc Tryd.prog Tryd.f4 false true false false) := by
  obtain ⟨places, hx⟩ := reads os enc
  refine returnsInHanded_of_row (C := Tryd.checked) (s := Rows.OpenSpec.upto Rows.filterApartSpec) own started (by kernel_rfl) Tryd.func4
    (witness_row_at (enc := enc) (C := Tryd.checked) false (laidWorld os) wargs rfl (by kernel_rfl) (by kernel_rfl) (by kernel_rfl)
      (OpenSpec.preRow_of_cond 8 hx (by kernel_rfl) (fun k hk => by cases hk; kernel_rfl) (by kernel_rfl) (laid_met os))) ?_
  intro W base args ds gs before hval hW _ hcond _ hL _ _
  exact contract H enc W base args ds gs before hval hW (hcond _ rfl) hL
theorem saidUpto : Rows.FilterApartUptoSaid :=
  OpenClaim.holds_of_cond 4 Tryd.f4 rfl rfl rfl rfl rfl rfl rfl ⟨rfl, rfl, rfl, rfl, rfl⟩ rfl rfl rfl rfl rfl (by kernel_rfl) Tryd.func4 (by kernel_rfl)
    (of_decide_eq_true (by kernel_rfl)) (by unfold Func.isWrapper; first | (rw [if_pos (by decide +kernel)]; kernel_rfl) | (rw [if_neg (by decide +kernel)]; exact ⟨rfl, rfl⟩))
    (fun os started H enc _ F => by rw [OpenClaim.pre_eq_preRow]; exact liftedUpto os started H enc F)
theorem plain (f : FuncId) (fn : Func) (hf : Tryd.pinned.checked.prog.funcNamed "isthmus/isthmuslaw21.FilterApart" = some f) (hfn : Tryd.pinned.checked.prog.funcs[f]? = some fn) :
    false = Tryd.pinned.checked.prog.looks [] ∧ ∀ (j : Nat) t, fn.params[j]? = some t → Tryd.pinned.checked.prog.wantsStandIn t = false := by
  obtain rfl : f = 4 := Option.some.inj ((show Tryd.prog.funcNamed "isthmus/isthmuslaw21.FilterApart" = some 4 by kernel_rfl).symm.trans hf) |>.symm
  obtain rfl : fn = Tryd.f4 := (Option.some.inj (Tryd.func4.symm.trans hfn)).symm
  refine ⟨by kernel_rfl, fun j t ht => ?_⟩
  rw [Tryd.params4] at ht
  have hm := Array.mem_of_getElem? ht
  simp at hm
  rcases hm with rfl | rfl | rfl | rfl
  · exact (show Tryd.prog.wantsStandIn 22 = false by kernel_rfl)
  · exact (show Tryd.prog.wantsStandIn 23 = false by kernel_rfl)
  · exact (show Tryd.prog.wantsStandIn 24 = false by kernel_rfl)
  · exact (show Tryd.prog.wantsStandIn 37 = false by kernel_rfl)
theorem cardUpto : Rows.FilterApartUptoCardSaid :=
  Claim7.holds_tied_plain_at .later [] _ _ _ _ saidUpto (fun _ h => by cases h) (by kernel_rfl) (fun _ h => by cases h) filterApartUpto_row_tie rfl ⟨rfl, rfl⟩ (by kernel_rfl) rfl plain (by kernel_rfl)
end Go.Proofs.YtlfeckimhaegbaaDoor.fnFilterApart
