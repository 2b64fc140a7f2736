/- FilterAnswers: the walk through the law, to its end. -/
import Derived.Test.YtlfeckimhaegbaaDoorFil16
namespace Go.Proofs.YtlfeckimhaegbaaDoor
open Go Eng
set_option maxRecDepth 20000

theorem StepsAt.elK {w0 w : World} {v : Value} {ss : List Sc} {S : List Nat} (h : StepsAt w0 v ss S) (kw : Keep [] w0 w) {k : IntKind} {i : Nat} (h1 : i < ss.length)
    {K : Value → Prop} (hk : ∀ rv b off, b ∈ S → ElAt w b off (sxC ⟨ss[i].op, ss[i].h, ss[i].now, rv⟩) → RulesAt w0 rv ss[i].rules S → HdOk ss[i].h → 0 ≤ ss[i].now → K (.pointer (some ⟨b, off, none⟩))) : pIxS 16 v (.int k i) K := by
  obtain ⟨xs, hl, hs, hb, hn, hr⟩ := h
  refine (hs.keep0 kw).el sxC_len (i := i) (by omega) fun b off hb' el => ?_
  obtain ⟨e1, e2, e3, e4, e5, e6⟩ := hr i (by omega) h1
  refine hk xs[i].rv b off (hb b hb') ?_ e4 e5 e6
  rw [← e1, ← e2, ← e3]
  exact el
theorem turn3 {w0 : World} (hT : TextOk w0) (S : List Nat) (fb bn bl b6 : Nat) (X : List (Nat × Obj)) (life n : Int) (i : Nat) (setV u : Value) (ss : List Sc) (w : World) (R : Value → World → Prop) (J' : List Value → World → Prop)
    (l0 : 0 ≤ life) (l1 : life < 65536) (hu : StepsAt w0 u ss S) (hi : i < ss.length) (hi2 : i < 300) (m6 : (b6, .cells #[.int .u16 life] 23) ∈ X) (ht : Turn w0 S fb bn bl X life n i setV w)
    (hJ : ∀ setV' w', Turn w0 S fb bn bl X life n (i + 1) setV' w' → J' [setV'] w') :
    m3_11 R J' [setV, .int .i64 i] u (.pointer (some ⟨fb, 0, none⟩)) (.pointer (some ⟨bn, 0, none⟩)) (.pointer (some ⟨bl, 0, none⟩)) (.pointer (some ⟨b6, 0, none⟩)) (.int .i64 n) w := by
  obtain ⟨s, L, lv, Bl, V, S', env, hs, rel, hmost, hset, hL⟩ := ht
  unfold m3_11
  simp only [List.getD_cons_succ, List.getD_cons_zero]
  refine hu.elK env.k hi fun rv eb off hb el ru hok n0 => ?_
  rw [el.ldN0 16 (by simp [sxC_len]), List.take_of_length_le (by simp [sxC_len])]
  generalize hst : ss[i] = st at *
  refine eBox_of fun b16 w1 hb16 k1 g1 => ?_
  obtain ⟨ra, rc, hrv⟩ : ∃ a c, rv = .slice a st.rules.length c := by
    obtain ⟨xs, hl, hsl, _⟩ := ru
    obtain ⟨a, c, e⟩ := hsl.slice
    exact ⟨a, c, by rw [e, hl]⟩
  have kw0 := env.k
  refine eStAll_of (vs := sxC ⟨st.op, st.h, st.now, rv⟩) (by kernel_rfl) g1 (by simp [sxC, hdC, flC, Value.cells]) (by subst hrv; simp [sxC, hdC, flC, Value.oneCell']) fun w2 k2 g2 => ?_
  have k2 : Keep [] w w2 := k1.trans k2 (fun k hk hm => by simp only [List.mem_singleton] at hm; omega)
  have env := env.box k2 (by omega) g2
  have ru2 := (ru.keep0 kw0).keep0 k2
  have g2s := g2
  simp only [sxC, hdC, flC, List.cons_append, List.nil_append] at g2s
  simp only [pFld_eq, condF_bool, pBin_int, binI, List.getElem?_toArray, List.getElem?_cons_succ, List.getElem?_cons_zero, Nat.zero_add, Nat.add_zero, ld1_eq g2s]
  refine ⟨fun h => ?_, fun h => ?_⟩
  · -- too late: left out
    exact hJ setV w2 ⟨s, L, lv, Bl, V, S', env.drop, hs, rel, hmost, hset, by omega⟩
  have h1 : st.now < 4611686018427387904 := by have : ¬ (st.now ≥ 4611686018427387904) := of_decide_eq_false h; omega
  refine ⟨fun hop => ?_, fun hop => ?_⟩
  · -- Set
    refine call_of (k8 st.rules rv S w2 ru2) fun v3 w3 ⟨S3, r3, k3, hS3⟩ => ?_
    have env := env.keep0 k3
    refine call_of (k9 s st.rules v3 S3 fb V S' w3 env.f r3) fun v4 w4 p4 => ?_
    obtain ⟨V4, S4, env⟩ := env.post p4
    have g4 : w4.heap[b16]? = some (.cells (sxC ⟨st.op, st.h, st.now, rv⟩).toArray 41) := env.get List.mem_cons_self
    simp only [sxC, hdC, flC, List.cons_append, List.nil_append] at g4
    simp only [List.getElem?_toArray, List.getElem?_cons_succ, List.getElem?_cons_zero, ld1_eq g4]
    refine hJ rv w4 ⟨setS s st.rules, L, lv, Bl, V4, S4, env.drop, set_ok hs, ⟨rel.le, rel.eq, rel.life⟩, hmost, ?_, by omega⟩
    exact ru
  · simp only [List.getElem?_toArray, List.getElem?_cons_zero, ite_true, ld1_eq env.gn, pMax_int]
    refine env.setNow (maxI s.now st.now) fun w3 env => ?_
    have finish : ∀ w', Done w0 fb bn bl ((b16, .cells (sxC ⟨st.op, st.h, st.now, rv⟩).toArray 41) :: X) life n (i + 1) s.rules w' → 
        callF Tryd.prog 13 #[.pointer (some ⟨fb, 0, none⟩)] w' fun t162 w_35 => pLenT 2 t162 fun t163 => pBin .gtr t163 (.int .i64 n) fun t165 => condF t165 (R (.bool false) w_35) (J' [setV] w_35) := by
      rintro w' ⟨s2, L2, lv2, Bl2, V2, S2, env2, hs2, rel2, hmost2, hrules2, hL2⟩
      refine call_of (k13 s2 fb V2 S2 w' hs2 env2.f) fun v5 w5 ⟨a, cap, e5, k5⟩ => ?_
      subst e5
      have hlen := hs2.len
      simp only [condF_bool, pBin_int, binI, pLenT_sl]
      refine ⟨fun hc => ?_, fun _ => hJ setV w5 ⟨s2, L2, lv2, Bl2, V2, S2, (env2.keep0 k5).drop, hs2, rel2, hmost2, by rw [hrules2]; exact hset, hL2⟩⟩
      exfalso
      have : (s2.ls.length : Int) > n := of_decide_eq_true hc
      omega
    refine joinP_of (fun _ w' => Done w0 fb bn bl ((b16, .cells (sxC ⟨st.op, st.h, st.now, rv⟩).toArray 41) :: X) life n (i + 1) s.rules w') ?_ ?_
    · unfold m3_10
      have g3 : w3.heap[b16]? = some (.cells (sxC ⟨st.op, st.h, st.now, rv⟩).toArray 41) := env.get List.mem_cons_self
      have g3s := g3
      simp only [sxC, hdC, flC, List.cons_append, List.nil_append] at g3s
      rw [pFld_eq, ld1_eq g3s]
      simp only [List.getElem?_toArray, List.getElem?_cons_zero, Nat.zero_add, pBin_int, binI]
      refine condF_of (fun hout => ?_) (fun hin => ?_)
      · simp only [pFld_eq, Nat.zero_add, Nat.add_zero, Nat.reduceAdd, List.drop_succ_cons, List.drop_zero, List.take_succ_cons, List.take_zero, List.length_cons, List.length_nil, Nat.reduceLeDiff, ite_true, ldN_eq g3s]
        refine call_of (k11 st.h.flow w3) fun v4 w4 ⟨e4, k4⟩ => ?_
        subst e4
        exact turn_out w0 fb bn bl b6 b16 _ life n i st.h st.now s L lv Bl V S' w4 R _ l0 l1 hi2 (env.keep0 k4) hs rel hmost hL n0 h1 (List.mem_cons_of_mem _ m6) st.op rv List.mem_cons_self fun w' h => h
      · simp only [List.getD_cons_zero]
        exact turn_in hT S fb bn bl b6 b16 _ life n i st.h st.now s L lv setV Bl V S' w3 R _ l0 l1 hi2 env hs rel hmost hL n0 h1 hok hset (List.mem_cons_of_mem _ m6) st.op rv List.mem_cons_self fun w' h => h
    · intro vs w' hd
      exact finish w' hd

theorem k3 (rs : List Ru) (most life : Int) (ss : List Sc) (v u : Value) (S : List Nat) (w : World) (hT : TextOk w) (hv : RulesAt w v rs S) (hu : StepsAt w u ss S) (m0 : 0 ≤ most) (m1 : most < 256) (l0 : 0 ≤ life) (l1 : life < 65536) :
    Calls Tryd.prog 3 #[v, .int .u8 most, .int .u16 life, u] w fun e w' => ∃ x, e = .returned x ∧ Ans (.bool true) w x w' := by
  refine c3 _ _ _ _ _ _ ?_
  unfold m3
  refine eBox_of fun b6 w1 hb6 k1 g1 => ?_
  refine call_of (k5 rs ss v u S w1 (hv.keep0 k1) (hu.keep0 k1)) fun v2 w2 ⟨e2, k2⟩ => ?_
  subst e2
  have kk2 := k1.trans k2 (by simp)
  unfold m3_15
  refine condF_of (fun hh => ?_) (fun hh => ?_)
  · refine call_of (k6 hT w2 kk2) fun v3 w3 ⟨e3, k3⟩ => ?_
    exact ⟨e3, kk2.trans k3 (by simp)⟩
  have hlen : ss.length ≤ 200 := by
    unfold heavyB at hh
    simp only [Bool.or_eq_false_iff, decide_eq_false_iff_not] at hh
    omega
  have g2 : w2.heap[b6]? = some (.cells #[.int .u16 life] 23) := k2.get g1 (by simp)
  have hn0 : 0 ≤ most.tmod 20 := Int.tmod_nonneg _ m0
  have hn1 : most.tmod 20 < 20 := Int.tmod_lt_of_pos _ (by decide)
  simp only [pBin_int, binI, ld1_drew, List.getElem?_toArray, List.getElem?_cons_zero, pConv_int, ld1_eq g2]
  rw [wrap_in_i64 (x := most) (by omega) (by omega), wrap_in_i64 (by omega) (by omega)]
  refine ⟨by decide, ?_⟩
  rw [wrap_in_u64 (x := life) (by omega) (by omega), wrap_in_u64 (by omega) (by omega)]
  refine call_of (k8 rs v S w2.drew ((hv.keep0 kk2).keep0 (Keep.refl _ _).drew)) fun v3 w3 ⟨S3, r3, k3, hS3⟩ => ?_
  have k3 : Keep [] w2 w3 := Keep.of_drew k3
  have g3 := k3.get g2 (by simp)
  have kk3 := kk2.trans k3 (by simp)
  simp only [ld1_eq g3, List.getElem?_toArray, List.getElem?_cons_zero]
  refine ⟨trivial, ?_⟩
  refine call_of (k7 rs v3 S3 (most.tmod 20 + 1) (life + 1) w3 r3 (by omega) (by omega) (by omega) (by omega)) fun v4 w4 ⟨fb, e4, V4, S4, r4, k4, hV4, hS4⟩ => ?_
  subst e4
  have hs4 : StOk (newS rs (most.tmod 20 + 1) (life + 1)) := new_ok (by omega) (by omega) (by omega) (by omega)
  have g4 := k4.get g3 (by simp)
  have kk4 := kk3.trans k4 (by simp)
  have hnew4 : ∀ k ∈ V4, w3.heap.size ≤ k := fun k hk => by rcases hV4 k hk with h | h; cases h; exact h
  have lb6 := lt_of_get g3
  unfold m3_14
  simp only [pExt_eq, condF_bool, pBin_int, binI, pNil_ptr, List.getElem?_toArray, List.getElem?_cons_succ, List.getElem?_cons_zero]
  refine joinP_of (fun vs w' => vs = [.bool false] ∧ w' = w4) ?_ ?_
  · simp only
    exact ⟨fun h => by simp at h, fun _ => by simp⟩
  rintro _ w5 ⟨rfl, rfl⟩
  unfold m3_13
  simp only [List.getD_cons_zero]
  refine condF_of (fun h => by cases h) (fun _ => ?_)
  have hlt4 := r4.lt
  have hw := kk4.size
  refine eBox_of fun bn w6 hbn kb6 g6 => ?_
  refine eSt1_of g6 (by simp [Value.cells]) rfl (by simp) fun w7 k7 g7 => ?_
  have k7 : Keep [] w5 w7 := kb6.trans k7 (fun k hk hm => by simp only [List.mem_singleton] at hm; omega)
  have g7 : w7.heap[bn]? = some (.cells #[.int .u64 0] 32) := by rw [g7]; rfl
  refine eBox_of fun bl w8 hbl k8 g8 => ?_
  have hk7 := k7.size
  have lbn := lt_of_get g7
  have env : Env w w8 fb bn bl [(b6, .cells #[.int .u16 life] 23)] (newS rs (most.tmod 20 + 1) (life + 1)) 0 [] (.slice none 0 0) [] V4 S4 := by
    refine ⟨(kk4.trans k7 (by simp)).trans k8 (by simp), (r4.keep0 k7).keep0 k8, k8.get g7 (by simp), g8, OwnS.nil _ _ _, fun q hq => ?_, fun k hk => ?_, fun k hk => ?_, by simp, ?_, ?_⟩
    · simp only [List.mem_singleton] at hq
      subst hq
      have l4 := lt_of_get g4
      exact ⟨k8.get (k7.get g4 (by simp)) (by simp), by simp; omega, by simp; omega, fun hc => by have := hnew4 _ hc; simp at this; omega, by simp⟩
    · have := hnew4 k hk
      have h2 := hlt4 k (by simp [hk])
      have h3 := kk3.size
      exact ⟨by omega, by omega, by omega, by simp⟩
    · have h2 := hlt4 k (by simp [hk])
      exact ⟨by omega, by omega, by simp⟩
    · omega
    · omega
  have rel0 : Rel (newS rs (most.tmod 20 + 1) (life + 1)) [] life := ⟨by simp, fun y n _ => by simp [freshB, thereB, newS], rfl⟩
  refine loopP_of (fun vs w' => ∃ (i : Nat) (setV : Value), vs = [setV, .int .i64 i] ∧ i ≤ ss.length ∧ Turn w S fb bn bl [(b6, .cells #[.int .u16 life] 23)] life (most.tmod 20 + 1) i setV w') (mu1 ss.length)
    ⟨0, v, rfl, by omega, _, _, _, _, _, _, env, hs4, rel0, rfl, hv, by simp⟩ ?_
  rintro vs w9 ⟨i, setV, rfl, hi, ht⟩
  have kw9 : Keep [] w w9 := by obtain ⟨s, L, lv, Bl, V, S', env, _⟩ := ht; exact env.k
  unfold m3_12
  simp only [(hu.keep0 kw9).len, List.getD_cons_succ, List.getD_cons_zero, pBin_int, binI]
  refine condF_of (fun h => ?_) (fun h => ?_)
  · have hi' : i < ss.length := by simpa using h
    refine joinP_of (fun vs w' => ∃ setV', vs = [setV'] ∧ Turn w S fb bn bl [(b6, .cells #[.int .u16 life] 23)] life (most.tmod 20 + 1) (i + 1) setV' w') ?_ ?_
    · exact turn3 hT S fb bn bl b6 _ life _ i setV u ss w9 _ _ l0 l1 hu hi' (by omega) (by simp) ht fun setV' w' h => ⟨setV', rfl, h⟩
    · rintro _ w' ⟨setV', rfl, h⟩
      refine ⟨⟨i + 1, setV', by rw [wrap_succ hi' (by omega)]; rfl, hi', h⟩, ?_⟩
      rw [wrap_succ hi' (by omega)]
      simp only [List.getD_cons_zero]
      rw [mu1_eq, mu1_eq]; omega
  · refine call_of (k6 hT w9 kw9) fun v3 w3 ⟨e3, k3⟩ => ?_
    exact ⟨e3, kw9.trans k3 (by simp)⟩
end Go.Proofs.YtlfeckimhaegbaaDoor
