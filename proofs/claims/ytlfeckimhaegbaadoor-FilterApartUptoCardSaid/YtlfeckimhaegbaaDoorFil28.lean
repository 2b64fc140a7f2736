/- FilterApart: a turn of the law's loop. -/
import Derived.Test.YtlfeckimhaegbaaDoorFil27
namespace Go.Proofs.YtlfeckimhaegbaaDoor
open Go Eng
set_option maxRecDepth 20000

theorem again_len (s : St) (y : Fl) : (againS s y).ls.length = s.ls.length := by
  unfold againS
  split
  · rename_i h
    rw [← keys_len, put_keys _ _ _ h, keys_len]
  · rfl
theorem at_len (s : St) (t : Int) : (atS s t).ls.length ≤ s.ls.length := List.length_filter_le _ _
theorem in_len (s : St) (h : Hd) (t : Int) : (inS s h t).2.ls.length ≤ s.ls.length := by
  have := at_len s t
  unfold inS
  split
  · exact Nat.le_refl _
  · split
    · exact this
    · split
      · show (againS (atS s t) h.flow).ls.length ≤ _
        rw [again_len]; exact this
      · exact this
theorem out_len (s : St) (h : Hd) (t : Int) : (outS s h t).2.ls.length ≤ s.ls.length + 1 := by
  have := at_len s t
  unfold outS
  split
  · exact Nat.le_succ _
  · split
    · show (againS (atS s t) (revF h.flow)).ls.length ≤ _
      rw [again_len]; omega
    · split
      · show (atS s t).ls.length ≤ _
        omega
      · show ((atS s t).ls ++ [_]).length ≤ _
        simp; omega
theorem xor1 : ∀ p : Nat, p < 256 → IntKind.u8.wrap ((BitVec.ofInt IntKind.u8.bits (p : Int) ^^^ BitVec.ofInt IntKind.u8.bits 1).toNat : Int) ≠ (p : Int) := by decide +kernel

def Turn4 (w0 : World) (fb gb : Nat) (X : List (Nat × Obj)) (x : Fl) (i : Nat) (w : World) : Prop :=
  ∃ sf sg Vf Sf Vg Sg, Env2 w0 w fb gb X sf sg Vf Sf Vg Sg ∧ StOk sf ∧ StOk sg ∧ Apart x sf sg ∧ sf.ls.length ≤ i ∧ sg.ls.length ≤ i ∧ sf.most = 1024 ∧ sg.most = 1024

def ownB (x y : Fl) : Bool := decide (y = x) || decide (y = revF x)
theorem own_iff (x y : Fl) : ownB x y = true ↔ (y = x ∨ y = revF x) := by simp [ownB]
def tickF (p : Int) : Fl := ⟨p, ⟨false, 0, 0⟩, ⟨false, 0, 0⟩, 0, 0⟩
theorem tick_not {x : Fl} {p : Int} (h : p ≠ x.proto) : ¬ ((hd0 (tickF p)).flow = x ∨ (hd0 (tickF p)).flow = revF x) := by
  rintro (h1 | h1)
  · exact h (congrArg Fl.proto h1)
  · exact h (congrArg Fl.proto h1)
theorem tick_ok (p : Int) : HdOk (hd0 (tickF p)) := by
  have z : wfU ⟨false, 0, 0⟩ := ⟨⟨by decide, by decide⟩, by decide, by decide⟩
  exact ⟨z, z⟩

/-- what one step does to both -/
theorem step4 {w0 : World} (hT : TextOk w0) (S : List Nat) (fb gb b15 b7 : Nat) (X : List (Nat × Obj)) (x : Fl) (i : Nat) (op : Int) (h : Hd) (t : Int) (rv : Value) (rs : List Ru) (w : World) (J : List Value → World → Prop)
    (hp0 : 0 ≤ x.proto) (hp1 : x.proto < 256) (hi2 : i < 300) (ht : Turn4 w0 fb gb X x i w) (t0 : 0 ≤ t) (hok : HdOk h) (hr : RulesAt w0 rv rs S)
    (m15 : (b15, .cells (sxC ⟨op, h, t, rv⟩).toArray 41) ∈ X) (m7 : (b7, .cells (flC x).toArray 37) ∈ X)
    (hJ : ∀ (a b : Int) w', (ownB x h.flow = true → a = b) → Turn4 w0 fb gb X x (i + 1) w' → J [.int .i64 a, .int .i64 b] w') :
    m4_6 J [.bool (ownB x h.flow)] (.pointer (some ⟨b15, 0, none⟩)) (.pointer (some ⟨fb, 0, none⟩)) (.pointer (some ⟨gb, 0, none⟩)) (.pointer (some ⟨b7, 0, none⟩)) w := by
  obtain ⟨sf, sg, Vf, Sf, Vg, Sg, env, of, og, ap, lf, lg, mf, mg⟩ := ht
  have g15 := env.get m15
  simp only [sxC, hdC, flC, List.cons_append, List.nil_append] at g15
  unfold m4_6
  simp only [pFld_eq, condF_bool, pBin_int, binI, List.getElem?_toArray, List.getElem?_cons_succ, List.getElem?_cons_zero, Nat.zero_add, Nat.add_zero, Nat.reduceAdd, List.drop_succ_cons, List.drop_zero, List.take_succ_cons, List.take_zero, List.length_cons, List.length_nil, Nat.reduceLeDiff, ite_true, ld1_eq g15, ldN_eq g15]
  refine ⟨fun hop => ?_, fun _ => ⟨fun hop => ?_, fun _ => ?_⟩⟩
  · refine call_of (k8 rs rv S w (hr.keep0 env.k)) fun v1 w1 ⟨S1, r1, k1, hS1⟩ => ?_
    have env := env.keep0 k1
    unfold m4_3
    refine call_of (k9 sf rs v1 S1 fb Vf Sf w1 env.f r1) fun v2 w2 p2 => ?_
    obtain ⟨Vf, Sf, env⟩ := env.postF p2
    have g15 := env.get m15
    simp only [sxC, hdC, flC, List.cons_append, List.nil_append] at g15
    simp only [pFld_eq, List.getElem?_toArray, List.getElem?_cons_succ, List.getElem?_cons_zero, Nat.zero_add, ld1_eq g15]
    refine call_of (k8 rs rv S w2 (hr.keep0 env.k)) fun v3 w3 ⟨S3, r3, k3, hS3⟩ => ?_
    have env := env.keep0 k3
    refine call_of (k9 sg rs v3 S3 gb Vg Sg w3 env.g r3) fun v4 w4 p4 => ?_
    obtain ⟨Vg, Sg, env⟩ := env.postG p4
    exact hJ 0 0 w4 (fun _ => rfl) ⟨_, _, _, _, _, _, env, set_ok of, set_ok og, apart_set ap rs, by show sf.ls.length ≤ i + 1; omega, by show sg.ls.length ≤ i + 1; omega, mf, mg⟩
  · refine call_of (k12 sf h t fb Vf Sf w of t0 env.f) fun v1 w1 ⟨e1, p1⟩ => ?_
    subst e1
    obtain ⟨Vf, Sf, env⟩ := env.postF p1
    have lo := out_len sf h t
    have st := out_state sf h t
    unfold m4_4
    simp only [List.getD_cons_zero]
    have g15 := env.get m15
    simp only [sxC, hdC, flC, List.cons_append, List.nil_append] at g15
    refine condF_of (fun ho => ?_) (fun ho => ?_)
    · simp only [pFld_eq, List.getElem?_toArray, List.getElem?_cons_succ, List.getElem?_cons_zero, Nat.zero_add, Nat.reduceAdd, List.drop_succ_cons, List.drop_zero, List.take_succ_cons, List.take_zero, List.length_cons, List.length_nil, Nat.reduceLeDiff, ite_true, ldN_eq g15, ld1_eq g15]
      refine call_of (k12 sg h t gb Vg Sg w1 og t0 env.g) fun v2 w2 ⟨e2, p2⟩ => ?_
      subst e2
      obtain ⟨Vg, Sg, env⟩ := env.postG p2
      have lo2 := out_len sg h t
      have st2 := out_state sg h t
      have ⟨ea, ap2⟩ := apart_out (t := t) ap of og (by omega) (by omega) ((own_iff _ _).1 ho) t0
      exact hJ _ _ w2 (fun _ => ea) ⟨_, _, _, _, _, _, env, out_ok of t0, out_ok og t0, ap2, by omega, by omega, by rw [st.1]; exact mf, by rw [st2.1]; exact mg⟩
    · have g7 := env.get m7
      simp only [flC] at g7
      have hno : ¬ (h.flow = x ∨ h.flow = revF x) := fun hc => by rw [(own_iff _ _).2 hc] at ho; cases ho
      simp only [pFld_eq, pBin_int, binI, List.getElem?_toArray, List.getElem?_cons_succ, List.getElem?_cons_zero, Nat.zero_add, Nat.add_zero, ld1_eq g7, ld1_eq g15]
      have hx : IntKind.u8.wrap ((BitVec.ofInt IntKind.u8.bits x.proto ^^^ BitVec.ofInt IntKind.u8.bits 1).toNat : Int) ≠ x.proto := by
        have := xor1 x.proto.toNat (by omega)
        rwa [Int.toNat_of_nonneg hp0] at this
      generalize IntKind.u8.wrap ((BitVec.ofInt IntKind.u8.bits x.proto ^^^ BitVec.ofInt IntKind.u8.bits 1).toNat : Int) = pr at hx
      refine @pBuild_of _ _ _ (flC (tickF pr)).toArray _ ?_ ?_
      · kernel_rfl
      refine @pBuild_of _ _ _ (hdC (hd0 (tickF pr))).toArray _ ?_ ?_
      · kernel_rfl
      refine call_of (k15 hT sg (hd0 (tickF pr)) t gb Vg Sg w1 env.k env.hg og (tick_ok pr) t0 env.g) fun v2 w2 ⟨e2, p2⟩ => ?_
      obtain ⟨Vg, Sg, env⟩ := env.postG p2
      have lo2 := in_len sg (hd0 (tickF pr)) t
      have st2 := in_state sg (hd0 (tickF pr)) t
      exact hJ _ _ w2 (fun hc => by rw [hc] at ho; cases ho) ⟨_, _, _, _, _, _, env, out_ok of t0, in_ok og t0, apart_other_out ap of og hno (tick_not hx) t0, by omega, by omega, by rw [st.1]; exact mf, by rw [st2.1]; exact mg⟩
  · refine call_of (k15 hT sf h t fb Vf Sf w env.k env.hf of hok t0 env.f) fun v1 w1 ⟨e1, p1⟩ => ?_
    subst e1
    obtain ⟨Vf, Sf, env⟩ := env.postF p1
    have lo := in_len sf h t
    have st := in_state sf h t
    unfold m4_5
    simp only [List.getD_cons_zero]
    have g15 := env.get m15
    simp only [sxC, hdC, flC, List.cons_append, List.nil_append] at g15
    refine condF_of (fun ho => ?_) (fun ho => ?_)
    · simp only [pFld_eq, List.getElem?_toArray, List.getElem?_cons_succ, List.getElem?_cons_zero, Nat.zero_add, Nat.reduceAdd, List.drop_succ_cons, List.drop_zero, List.take_succ_cons, List.take_zero, List.length_cons, List.length_nil, Nat.reduceLeDiff, ite_true, ldN_eq g15, ld1_eq g15]
      refine call_of (k15 hT sg h t gb Vg Sg w1 env.k env.hg og hok t0 env.g) fun v2 w2 ⟨e2, p2⟩ => ?_
      subst e2
      obtain ⟨Vg, Sg, env⟩ := env.postG p2
      have lo2 := in_len sg h t
      have st2 := in_state sg h t
      have ⟨ea, ap2⟩ := apart_in (t := t) ap of og ((own_iff _ _).1 ho) t0
      exact hJ _ _ w2 (fun _ => ea) ⟨_, _, _, _, _, _, env, in_ok of t0, in_ok og t0, ap2, by omega, by omega, by rw [st.1]; exact mf, by rw [st2.1]; exact mg⟩
    · have g7 := env.get m7
      simp only [flC] at g7
      have hno : ¬ (h.flow = x ∨ h.flow = revF x) := fun hc => by rw [(own_iff _ _).2 hc] at ho; cases ho
      simp only [pFld_eq, pBin_int, binI, List.getElem?_toArray, List.getElem?_cons_succ, List.getElem?_cons_zero, Nat.zero_add, Nat.add_zero, ld1_eq g7, ld1_eq g15]
      have hx : IntKind.u8.wrap ((BitVec.ofInt IntKind.u8.bits x.proto ^^^ BitVec.ofInt IntKind.u8.bits 1).toNat : Int) ≠ x.proto := by
        have := xor1 x.proto.toNat (by omega)
        rwa [Int.toNat_of_nonneg hp0] at this
      generalize IntKind.u8.wrap ((BitVec.ofInt IntKind.u8.bits x.proto ^^^ BitVec.ofInt IntKind.u8.bits 1).toNat : Int) = pr at hx
      refine @pBuild_of _ _ _ (flC (tickF pr)).toArray _ ?_ ?_
      · kernel_rfl
      refine @pBuild_of _ _ _ (hdC (hd0 (tickF pr))).toArray _ ?_ ?_
      · kernel_rfl
      refine call_of (k15 hT sg (hd0 (tickF pr)) t gb Vg Sg w1 env.k env.hg og (tick_ok pr) t0 env.g) fun v2 w2 ⟨e2, p2⟩ => ?_
      obtain ⟨Vg, Sg, env⟩ := env.postG p2
      have lo2 := in_len sg (hd0 (tickF pr)) t
      have st2 := in_state sg (hd0 (tickF pr)) t
      exact hJ _ _ w2 (fun hc => by rw [hc] at ho; cases ho) ⟨_, _, _, _, _, _, env, in_ok of t0, in_ok og t0, apart_other_in ap of og hno (tick_not hx) t0, by omega, by omega, by rw [st.1]; exact mf, by rw [st2.1]; exact mg⟩
end Go.Proofs.YtlfeckimhaegbaaDoor
