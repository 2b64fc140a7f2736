/- FilterAnswers, FilterApart: Flows, New, works. -/
import Derived.Test.YtlfeckimhaegbaaDoorFil11
namespace Go.Proofs.YtlfeckimhaegbaaDoor
open Go Eng
set_option maxRecDepth 20000

theorem k13 (s : St) (fb : Nat) (V S : List Nat) (w : World) (hs : StOk s) (hr : FRep w fb V S s) :
    Calls Tryd.prog 13 #[.pointer (some ⟨fb, 0, none⟩)] w fun e w' => ∃ u, e = .returned u ∧ ∃ a cap, u = .slice a s.ls.length cap ∧ Keep [] w w' := by
  refine c13 _ _ _ ?_
  unfold m13
  have hm1 := hs.m1
  have hle := hs.len
  obtain ⟨mb, es, ck, rv, ov, B, f1, f2, f3, f4, f5, f6, f7, f8, rfl, f10, f11⟩ := hr
  simp only [fC] at f1
  obtain ⟨oa, oc, oe⟩ := f4.rd.slice
  have lo : ∀ K, pLenT 2 ov K = K (.int .i64 s.ls.length) := fun K => by rw [oe, pLenT_sl]
  simp only [pNil_ptr, Option.isNone_some]
  refine condF_of (fun h => by cases h) (fun _ => ?_)
  simp only [pFld_eq, nilC_ptr', List.getElem?_toArray, List.getElem?_cons_succ, List.getElem?_cons_zero, Nat.zero_add, ld1_eq f1, lo]
  refine loopP_of (fun vs w' => ∃ (i : Nat) (out : Value) (cs : List Value) (B : List Nat), vs = [out, .int .i64 i] ∧ i ≤ s.ls.length ∧ OwnS w' out 44 10 i cs B ∧ (∀ k ∈ B, w.heap.size ≤ k) ∧ Keep [] w w') (mu1 s.ls.length)
    ⟨0, _, [], [], rfl, by omega, OwnS.nil _ _ _, by simp, Keep.refl _ _⟩ ?_
  rintro vs w' ⟨i, out, cs, Bo, rfl, hi, ho, hBo, k⟩
  unfold m13_1
  simp only [List.getD_cons_zero, List.getD_cons_succ, pBin_int, binI]
  refine condF_of (fun h => ?_) (fun h => ?_)
  · have hi' : i < s.ls.length := by simpa using h
    have hv : SlOf w' ov 9 (fun p : Fl × Int => flC p.1) s.ls := (f4.keep k (by simp)).rd
    refine hv.el (fun _ => rfl) hi' fun eb off hb el => ?_
    rw [el.ldN0 9 (by simp [flC]), List.take_of_length_le (by simp [flC])]
    refine eBox_of fun b w1 hb1 k1 g1 => ?_
    refine eStAll_of (vs := flC s.ls[i].1) (sz37 _) g1 (by simp [flC, Value.cells]) (fl_one _) fun w2 k2 g2 => ?_
    have k2 : Keep [] w' w2 := k1.trans k2 (fun k hk hm => by simp only [List.mem_singleton] at hm; omega)
    have f1 := (k.get f1 (by simp))
    have f1 := (k2.get f1 (by simp))
    have f2 := (k2.get (k.get f2 (by simp)) (by simp))
    refine ldN_all (w := w2.drew) g2 rfl ?_
    simp only [pFld_eq, nilC_ptr', ld1_drew, ldN_drew, List.getElem?_toArray, List.getElem?_cons_succ, List.getElem?_cons_zero, Nat.zero_add, ld1_eq f1]
    refine ldN_all g2 rfl ?_
    show rd Tryd.prog (Instr.lookup 53 (.map (some mb)) (flV s.ls[i].1) false) w2.drew _
    rw [← flOf]
    refine FK.lookup (w := w2.drew) m53t z32 f2 f3 s.ls[i].1 false ?_
    simp only [Bool.false_eq_true, if_false]
    obtain ⟨u, hu⟩ : ∃ u : Int, ((getA s.ls[i].1 s.ls).map u64V).getD (.int .u64 0) = .int .u64 u := by
      cases getA s.ls[i].1 s.ls with
      | none => exact ⟨0, rfl⟩
      | some x => exact ⟨x, rfl⟩
    rw [hu]
    refine @pBuild_of _ _ _ (flC s.ls[i].1 ++ [Value.int .u64 u]).toArray _ ?_ ?_
    · kernel_rfl
    refine build1_of (n := 10) t33.hst t33.hsz t33.zr rfl (by decide) (by decide) fun b9 w7 hb9 k7 g7 => ?_
    have k7 : Keep [] w2 w7 := Keep.of_drew k7
    have kk := (k2.trans k7 (by simp))
    refine t33.append (ho.keep kk (by simp)) (m := 1) (ys := flC s.ls[i].1 ++ [Value.int .u64 u]) ⟨rfl, .inr ⟨b9, 0, 1, _, _, _, rfl, g7, by simp [Value.cells, flC], by simp [Value.cells, flC]⟩⟩ (by simp [flC, Value.oneCell']) (by omega) fun v8 w8 B' ho8 k8 hB' _ => ?_
    have hsk := k.size
    have hskk := kk.size
    refine ⟨⟨i + 1, v8, _, B', by rw [wrap_succ hi' (by omega)], hi', ho8, fun y hy => ?_, (k.trans kk (by simp)).trans k8 (fun y hy hm => by have := hBo y hm; omega)⟩, ?_⟩
    · rcases hB' y hy with h | h
      · exact hBo y h
      · omega
    · rw [wrap_succ hi' (by omega), mu1_eq, mu1_eq]; omega
  · have hi' : i = s.ls.length := by have : s.ls.length ≤ i := by simpa using h
                                     omega
    subst hi'
    obtain ⟨a, c, e⟩ := ho.rd.slice
    exact ⟨a, c, e, k⟩

def newS (rs : List Ru) (most life : Int) : St := ⟨rs, [], most, life, 0⟩
theorem new_ok {rs : List Ru} {most life : Int} (m0 : 1 ≤ most) (m1 : most ≤ 1024) (l0 : 1 ≤ life) (l1 : life ≤ 4294967296) : StOk (newS rs most life) :=
  ⟨by simp [newS, keys], by simp [newS], by simp [newS], by simp [newS]; omega, l1, by simp [newS]; omega, m1, by simp [newS]; omega⟩
theorem k7 (rs : List Ru) (v : Value) (S0 : List Nat) (most life : Int) (w : World) (hv : RulesAt w v rs S0) (m0 : 1 ≤ most) (m1 : most ≤ 1024) (l0 : 1 ≤ life) (l1 : life ≤ 4294967296) :
    Calls Tryd.prog 7 #[v, .int .i64 most, .int .u64 life] w fun e w' => ∃ u, e = .returned u ∧ ∃ fb, u = .tuple #[.pointer (some ⟨fb, 0, none⟩), .int .i64 0] ∧ Post w [] [] fb (newS rs most life) w' := by
  refine c7 _ _ _ _ _ ?_
  unfold m7
  refine joinP_of (fun vs w' => vs = [.bool false] ∧ w' = w) ?_ ?_
  · unfold m7_1
    simp only [condF_bool, pBin_int, binI]
    refine ⟨fun h => ?_, fun _ => ⟨fun h => ?_, fun _ => ⟨fun h => ?_, fun _ => ?_⟩⟩⟩
    · exfalso; simp at h; omega
    · exfalso; simp at h; omega
    · exfalso; simp at h; omega
    · simp; omega
  · rintro _ w' ⟨rfl, rfl⟩
    simp only [List.getD_cons_zero]
    refine condF_of (fun h => by cases h) (fun _ => ?_)
    refine call_of (k17 rs v S0 w' hv) fun u w2 ⟨S2, hv2, k2, hS2⟩ => ?_
    unfold m7_2
    refine eMap_of fun mb w3 hmb k3 gm => ?_
    obtain ⟨ua, uc, ue⟩ : ∃ a c, u = .slice a rs.length c := by
      obtain ⟨xs, hl, hsl, _⟩ := hv2
      obtain ⟨a, c, e⟩ := hsl.slice
      exact ⟨a, c, by rw [e, hl]⟩
    refine @pBuild_of _ _ _ (fC u (.slice none 0 0) mb most life 0) _ ?_ ?_
    · subst ue; kernel_rfl
    refine eBox_of fun fb w4 hfb k4 g4 => ?_
    have hs2 := k2.size
    have hs3 := k3.size
    have lmb := lt_of_get gm
    have hs4 := k4.size
    have l4 := lt_of_get g4
    refine ⟨fb, rfl, [fb, mb], S2, ⟨mb, #[], 0, u, .slice none 0 0, [], g4, k4.get gm (by simp), by simp [MapRel, newS], OwnS.nil _ _ _, (hv2.keep0 k3).keep0 k4, by omega, by simp, by simp, rfl, fun y hy hm => ?_, fun y hy => ?_⟩,
      (k2.trans k3 (by simp)).trans k4 (by simp), fun y hy => ?_, fun y hy => .inr (hS2 y hy).1⟩
    · have := hS2 y hy
      simp at hm
      omega
    · have := hS2 y hy
      omega
    · simp at hy
      right
      omega

def hd0 (f : Fl) : Hd := ⟨f, 0, 0, 0, 0⟩
def xW : Fl := ⟨17, ⟨false, 0, 1⟩, ⟨false, 0, 2⟩, 5, 6⟩
theorem k6 {w0 : World} (hT : TextOk w0) (w : World) (h0 : Keep [] w0 w) : Calls Tryd.prog 6 #[] w fun e w' => ∃ u, e = .returned u ∧ Ans (.bool true) w u w' := by
  have okx : HdOk (hd0 xW) := ⟨⟨⟨by decide, by decide⟩, by decide, by decide⟩, ⟨by decide, by decide⟩, by decide, by decide⟩
  refine c6 _ _ ?_
  unfold m6
  refine call_of (k7 [] (.slice none 0 0) [] 1 10 w ⟨[], rfl, RdS.nil _ _ _ _, by simp [blk], by decide, by simp⟩ (by decide) (by decide) (by decide) (by decide)) fun v1 w1 ⟨fb, e1, V1, S1, r1, k1, hV1, hS1⟩ => ?_
  subst e1
  have hs0 : StOk (newS [] 1 10) := new_ok (by decide) (by decide) (by decide) (by decide)
  unfold m6_6
  simp only [pExt_eq, condF_bool, pBin_int, binI, pNil_ptr, List.getElem?_toArray, List.getElem?_cons_succ, List.getElem?_cons_zero]
  refine @pBuild_of _ _ _ #[.bool false, .int .u64 0, .int .u64 1] _ (by kernel_rfl) ?_
  refine @pBuild_of _ _ _ #[.bool false, .int .u64 0, .int .u64 2] _ (by kernel_rfl) ?_
  refine @pBuild_of _ _ _ (flC xW).toArray _ (by kernel_rfl) ?_
  refine eBox_of fun b w2 hb k2 g2 => ?_
  refine eStAll_of (vs := flC xW) (sz37 _) g2 (by simp [flC, Value.cells]) (fl_one _) fun w3 k3 g3 => ?_
  have lt1 := r1.lt
  have hsz2 := k2.size
  have hsz1 := k1.size
  have k3 : Keep [] w1 w3 := k2.trans k3 (fun k hk hm => by simp only [List.mem_singleton] at hm; omega)
  have r3 := r1.keep0 k3
  have kk3 := k1.trans k3 (by simp)
  have hs3 := k3.size
  have hbV : ∀ k ∈ V1 ++ S1, k < b := fun k hk => by have := lt1 k hk; omega
  refine joinP_of (fun vs w' => vs = [.bool false] ∧ w' = w3) ?_ ?_
  · simp only
    exact ⟨fun h => by simp at h, fun _ => by simp⟩
  rintro _ w' ⟨rfl, rfl⟩
  unfold m6_5
  simp only [List.getD_cons_zero]
  refine condF_of (fun h => by cases h) (fun _ => ?_)
  refine ldN_all g3 rfl ?_
  refine @pBuild_of _ _ _ (hdC (hd0 xW)).toArray _ (by kernel_rfl) ?_
  refine call_of (k15 hT _ (hd0 xW) 1 fb V1 S1 w' (h0.trans kk3 (by simp)) (fun k hk => by have := h0.size; rcases hV1 k hk with h | h; cases h; omega) hs0 okx (by decide) r3) fun v4 w4 ⟨e4, V4, S4, r4, k4, hV4, hS4⟩ => ?_
  have st4 : inS (newS [] 1 10) (hd0 xW) 1 = (210, ⟨[], [], 1, 10, 1⟩) := by rfl
  rw [st4] at e4 r4
  subst e4
  have old4 : ∀ k, k ∈ V4 → k ∈ V1 ∨ w'.heap.size ≤ k := hV4
  have lb := lt_of_get g3
  have g4 := k4.get g3 (fun hc => by have := hbV b (by simp [hc]); omega)
  have hs4 : StOk ⟨[], [], 1, 10, 1⟩ := ⟨by simp [keys], by decide, by decide, by decide, by decide, by decide, by decide, by decide⟩
  have kk4 := kk3.trans k4 (fun k hk hm => by rcases hV1 k hm with h | h; exact h; omega)
  refine ldN_all g4 rfl ?_
  refine call_of (k11 xW w4) fun v5 w5 ⟨e5, k5⟩ => ?_
  subst e5
  have g5 := k5.get g4 (by simp)
  have r5 := r4.keep0 k5
  have kk5 := kk4.trans k5 (by simp)
  unfold m6_4
  refine @pBuild_of _ _ _ (hdC (hd0 (revF xW))).toArray _ (by kernel_rfl) ?_
  refine call_of (k12 _ (hd0 (revF xW)) 1 fb V4 S4 w5 hs4 (by decide) r5) fun v6 w6 ⟨e6, V6, S6, r6, k6, hV6, hS6⟩ => ?_
  have st6 : outS ⟨[], [], 1, 10, 1⟩ (hd0 (revF xW)) 1 = (0, ⟨[], [(xW, 11)], 1, 10, 1⟩) := by rfl
  rw [st6] at e6 r6
  subst e6
  have hz4 := k4.size
  have hz5 := k5.size
  have hz6 := k6.size
  have nb4 : b ∉ V4 := fun hc => by
    rcases hV4 b hc with h | h
    · have := hbV b (by simp [h]); omega
    · omega
  have new4 : ∀ k ∈ V4, w.heap.size ≤ k := fun k hk => by
    rcases hV4 k hk with h | h
    · rcases hV1 k h with h2 | h2
      · cases h2
      · exact h2
    · omega
  have g6 := k6.get g5 nb4
  have kk6 := kk5.trans k6 (fun k hk hm => by have := new4 k hm; omega)
  have hs6 : StOk ⟨[], [(xW, 11)], 1, 10, 1⟩ := ⟨by simp [keys], by decide, by decide, by decide, by decide, by decide, by decide, by decide⟩
  unfold m6_3
  refine ldN_all g6 rfl ?_
  refine @pBuild_of _ _ _ (hdC (hd0 xW)).toArray _ (by kernel_rfl) ?_
  refine call_of (k15 hT _ (hd0 xW) 5 fb V6 S6 w6 (h0.trans kk6 (by simp)) (fun k hk => by have := h0.size; rcases hV6 k hk with h | h; (have := new4 k h; omega); omega) hs6 okx (by decide) r6) fun v7 w7 ⟨e7, V7, S7, r7, k7, hV7, hS7⟩ => ?_
  have st7 : inS ⟨[], [(xW, 11)], 1, 10, 1⟩ (hd0 xW) 5 = (0, ⟨[], [(xW, 15)], 1, 10, 5⟩) := by rfl
  rw [st7] at e7 r7
  subst e7
  have nb6 : b ∉ V6 := fun hc => by
    rcases hV6 b hc with h | h
    · exact nb4 h
    · omega
  have new6 : ∀ k ∈ V6, w.heap.size ≤ k := fun k hk => by
    rcases hV6 k hk with h | h
    · exact new4 k h
    · omega
  have hz7 := k7.size
  have g7 := k7.get g6 nb6
  have kk7 := kk6.trans k7 (fun k hk hm => by have := new6 k hm; omega)
  have hs7 : StOk ⟨[], [(xW, 15)], 1, 10, 5⟩ := ⟨by simp [keys], by decide, by decide, by decide, by decide, by decide, by decide, by decide⟩
  unfold m6_2
  refine ldN_all g7 rfl ?_
  refine @pBuild_of _ _ _ (hdC (hd0 xW)).toArray _ (by kernel_rfl) ?_
  refine call_of (k15 hT _ (hd0 xW) 24 fb V7 S7 w7 (h0.trans kk7 (by simp)) (fun k hk => by have := h0.size; rcases hV7 k hk with h | h; (have := new6 k h; omega); omega) hs7 okx (by decide) r7) fun v8 w8 ⟨e8, V8, S8, r8, k8, hV8, hS8⟩ => ?_
  have st8 : inS ⟨[], [(xW, 15)], 1, 10, 5⟩ (hd0 xW) 24 = (210, ⟨[], [], 1, 10, 24⟩) := by rfl
  rw [st8] at e8 r8
  subst e8
  have new7 : ∀ k ∈ V7, w.heap.size ≤ k := fun k hk => by
    rcases hV7 k hk with h | h
    · exact new6 k h
    · omega
  have kk8 := kk7.trans k8 (fun k hk hm => by have := new7 k hm; omega)
  have hs8 : StOk ⟨[], [], 1, 10, 24⟩ := ⟨by simp [keys], by decide, by decide, by decide, by decide, by decide, by decide, by decide⟩
  refine joinP_of (fun vs w' => vs = [.bool true] ∧ Keep [] w w') ?_ ?_
  · unfold m6_1
    simp only [condF_bool, pBin_int, binI]
    refine ⟨fun _ => ⟨fun _ => ⟨fun _ => ⟨fun _ => ?_, fun h => by simp at h⟩, fun h => by simp at h⟩, fun h => by simp at h⟩, fun h => by simp at h⟩
    refine call_of (k13 _ fb V8 S8 w8 hs8 r8) fun v9 w9 ⟨a, cap, e9, k9⟩ => ?_
    subst e9
    simp only [pBin_int, binI, pLenT_sl, List.length_nil]
    exact ⟨rfl, kk8.trans k9 (by simp)⟩
  · rintro _ w' ⟨rfl, hk⟩
    exact ⟨rfl, hk⟩
end Go.Proofs.YtlfeckimhaegbaaDoor
