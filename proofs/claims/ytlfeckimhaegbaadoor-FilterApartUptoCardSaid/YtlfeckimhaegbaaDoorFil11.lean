/- FilterAnswers, FilterApart: a filter's methods In, Out, Set. -/
import Derived.Test.YtlfeckimhaegbaaDoorFil10
namespace Go.Proofs.YtlfeckimhaegbaaDoor
open Go Eng
set_option maxRecDepth 20000

/-- behind a method: the filter is s' in memory; what it did not own before is as it was -/
def Post (w : World) (V S : List Nat) (fb : Nat) (s' : St) (w' : World) : Prop :=
  ∃ V' S', FRep w' fb V' S' s' ∧ Keep V w w' ∧ (∀ k ∈ V', k ∈ V ∨ w.heap.size ≤ k) ∧ (∀ k ∈ S', k ∈ S ∨ w.heap.size ≤ k)
theorem Post.same {w w' : World} {V S : List Nat} {fb : Nat} {s' : St} (h : FRep w' fb V S s') (k : Keep V w w') : Post w V S fb s' w' := ⟨V, S, h, k, fun _ h => .inl h, fun _ h => .inl h⟩

def inS (s : St) (h : Hd) (t : Int) : Int × St :=
  if 4611686018427387904 ≤ t then (2, s) else
  if matchB s.rules h then (0, atS s t) else
  if (keys (atS s t).ls).contains h.flow then (0, againS (atS s t) h.flow) else (210, atS s t)
theorem again_ok {s : St} (h : StOk s) (x : Fl) : StOk (againS s x) := by
  unfold againS
  split
  · rename_i hc
    obtain ⟨a, b, c, d, e, f, g, i⟩ := h
    have hk := put_keys x (s.now + s.life) s.ls hc
    refine ⟨by simp only [hk]; exact a, b, c, d, e, f, g, ?_⟩
    have hl : (putA x (s.now + s.life) s.ls).length = s.ls.length := by rw [← keys_len, hk, keys_len]
    simp only [hl]; exact i
  · exact h

theorem k15 {w0 : World} (hT : TextOk w0) (s : St) (h : Hd) (t : Int) (fb : Nat) (V S : List Nat) (w : World) (h0 : Keep [] w0 w) (hV0 : ∀ k ∈ V, w0.heap.size ≤ k) (hs : StOk s) (hh : HdOk h) (ht : 0 ≤ t) (hr : FRep w fb V S s) :
    Calls Tryd.prog 15 #[.pointer (some ⟨fb, 0, none⟩), hdV h, .int .u64 t] w fun e w' => ∃ u, e = .returned u ∧ u = .int .i64 (inS s h t).1 ∧ Post w V S fb (inS s h t).2 w' := by
  refine c15 _ _ _ _ _ ?_
  unfold m15
  refine eBox_of fun b w1 hb k1 g1 => ?_
  have hlt := hr.lt
  have hr := hr.keep0 k1
  refine call_of (k18 s t fb V S w1 hs hr) fun v w2 ⟨k2, hcase⟩ => ?_
  have g2 : w2.heap[b]? = some (.cells (hdC h).toArray 39) := k2.get g1 (by intro hc; have := hlt b (by simp [hc]); omega)
  have kk : Keep V w w2 := (k1.mono (by simp)).trans k2 (fun _ _ h => h)
  rcases hcase with ⟨h1, rfl, hr⟩ | ⟨h1, rfl, hr⟩
  · simp only [pBin_int, binI]
    refine ⟨?_, ?_⟩
    · simp [inS, h1]
    · simp only [inS, if_pos h1]; exact Post.same hr kk
  · simp only [pBin_int, binI]
    have hn : ¬ (4611686018427387904 ≤ t) := by omega
    have hs1 := atS_ok hs ht h1
    refine joinP_of (fun vs w' => ∃ c : Bool, vs = [.bool c] ∧ (inS s h t).1 = (if c then 0 else 210) ∧ Post w V S fb (inS s h t).2 w') ?_ ?_
    · unfold m15_1
      have hr0 := hr
      obtain ⟨mb, es, ck, rv, ov, B, f1, f2, f3, f4, f5, f6, f7, f8, f9, f10, f11⟩ := hr
      simp only [fC] at f1
      simp only [pFld_eq, nilC_ptr', ld1_drew, ldN_drew, List.getElem?_toArray, List.getElem?_cons_zero, Nat.add_zero, ld1_eq f1]
      refine ldN_all g2 rfl ?_
      have h02 : Keep [] w0 w2 := h0.trans kk (fun x hx hm => by have := hV0 x hm; omega)
      refine call_of (k23 hT (atS s t).rules h rv S hh w2.drew h02.drew (f5.keep0 (Keep.refl _ _).drew)) fun u w3 ⟨r, e3, hm, k3⟩ => ?_
      subst e3
      have k3 : Keep [] w2 w3 := Keep.of_drew k3
      have kk3 := kk.trans k3 (by simp)
      have hr := hr0.keep0 k3
      have g3 := k3.get g2 (by simp)
      simp only [pBin_int, binI]
      have hm' : decide (r ≥ 0) = matchB s.rules h := hm
      rw [hm']
      refine condF_of (fun h2 => ?_) (fun h2 => ?_)
      · refine ⟨true, rfl, ?_, ?_⟩
        · simp [inS, hn, h2]
        · simp only [inS, if_neg hn, if_pos h2]; exact Post.same hr kk3
      · simp only [hdC, flC, List.cons_append, List.nil_append] at g3
        simp only [Nat.zero_add, Nat.reduceAdd, List.drop_zero, List.take_succ_cons, List.take_zero, List.length_cons, List.length_nil, Nat.reduceLeDiff, ite_true, ldN_eq g3]
        refine call_of (k20 (atS s t) h.flow fb V S w3 hs1 hr) fun u4 w4 ⟨e4, hr4, k4⟩ => ?_
        subst e4
        have kk4 := kk3.trans k4 (fun _ _ h => h)
        refine ⟨_, rfl, ?_, ?_⟩
        · simp only [inS, if_neg hn, h2, Bool.false_eq_true, if_false]; split <;> rfl
        · simp only [inS, if_neg hn, h2, Bool.false_eq_true, if_false]
          split
          · exact Post.same hr4 kk4
          · rename_i hc
            have : againS (atS s t) h.flow = atS s t := by unfold againS; rw [if_neg hc]
            rw [this] at hr4
            exact Post.same hr4 kk4
    · rintro _ w' ⟨c, rfl, h1, hp⟩
      simp only [List.getD_cons_zero]
      exact condF_of (fun hc => ⟨by rw [h1, hc]; rfl, hp⟩) (fun hc => ⟨by rw [h1, hc]; rfl, hp⟩)

def outS (s : St) (h : Hd) (t : Int) : Int × St :=
  if 4611686018427387904 ≤ t then (2, s) else
  if (keys (atS s t).ls).contains (revF h.flow) then (0, againS (atS s t) (revF h.flow)) else
  if s.most ≤ ((atS s t).ls.length : Int) then (6, atS s t) else (0, { atS s t with ls := (atS s t).ls ++ [(revF h.flow, (atS s t).now + s.life)] })
theorem out_ok {s : St} {h : Hd} {t : Int} (hs : StOk s) (ht : 0 ≤ t) : StOk (outS s h t).2 := by
  unfold outS
  split
  · exact hs
  · have h1 := atS_ok hs ht (by omega)
    split
    · exact again_ok h1 _
    · split
      · exact h1
      · rename_i hc hl
        obtain ⟨a, b, c, d, e, f, g, i⟩ := h1
        refine ⟨?_, b, c, d, e, f, g, ?_⟩
        · simp only [keys, List.map_append, List.map_cons, List.map_nil]
          rw [List.nodup_append]
          refine ⟨a, by simp, ?_⟩
          intro x hx y hy
          simp only [List.mem_singleton] at hy
          subst hy
          intro he
          subst he
          exact hc (List.contains_iff_mem.2 hx)
        · simp only [List.length_append, List.length_cons, List.length_nil]
          show ((_ + 1 : Nat) : Int) ≤ s.most
          omega
theorem in_ok {s : St} {h : Hd} {t : Int} (hs : StOk s) (ht : 0 ≤ t) : StOk (inS s h t).2 := by
  unfold inS
  split
  · exact hs
  · have h1 := atS_ok hs ht (by omega)
    split
    · exact h1
    · split
      · exact again_ok h1 _
      · exact h1

theorem k12 (s : St) (h : Hd) (t : Int) (fb : Nat) (V S : List Nat) (w : World) (hs : StOk s) (ht : 0 ≤ t) (hr : FRep w fb V S s) :
    Calls Tryd.prog 12 #[.pointer (some ⟨fb, 0, none⟩), hdV h, .int .u64 t] w fun e w' => ∃ u, e = .returned u ∧ u = .int .i64 (outS s h t).1 ∧ Post w V S fb (outS s h t).2 w' := by
  refine c12 _ _ _ _ _ ?_
  unfold m12
  refine eBox_of fun b w1 hb k1 g1 => ?_
  have hlt := hr.lt
  have hr := hr.keep0 k1
  refine call_of (k18 s t fb V S w1 hs hr) fun v w2 ⟨k2, hcase⟩ => ?_
  have g2 : w2.heap[b]? = some (.cells (hdC h).toArray 39) := k2.get g1 (by intro hc; have := hlt b (by simp [hc]); omega)
  have kk : Keep V w w2 := (k1.mono (by simp)).trans k2 (fun _ _ h => h)
  rcases hcase with ⟨h1, rfl, hr⟩ | ⟨h1, rfl, hr⟩
  · simp only [pBin_int, binI]
    refine ⟨?_, ?_⟩
    · simp [outS, h1]
    · simp only [outS, if_pos h1]; exact Post.same hr kk
  · simp only [pBin_int, binI]
    have hn : ¬ (4611686018427387904 ≤ t) := by omega
    have hs1 := atS_ok hs ht h1
    simp only [hdC, flC, List.cons_append, List.nil_append] at g2
    refine condF_of (fun h => by cases h) (fun _ => ?_)
    simp only [pFld_eq, Nat.zero_add, Nat.add_zero, Nat.reduceAdd, List.drop_zero, List.take_succ_cons, List.take_zero, List.length_cons, List.length_nil, Nat.reduceLeDiff, ite_true, ldN_eq g2]
    refine call_of (k19 h.flow w2) fun v w3 ⟨e3, k3⟩ => ?_
    subst e3
    have kk := kk.trans k3 (by simp)
    have hr := hr.keep0 k3
    have hlt2 := hr.lt
    have hs3 := k2.size; have hs33 := k3.size; have hs31 := k1.size
    unfold m12_2
    refine eBox_of fun b8 w4 hb8 k4 g4 => ?_
    refine eStAll_of (vs := flC (revF h.flow)) (sz37 _) g4 (by simp [flC, Value.cells]) (fl_one _) fun w5 k5 g5 => ?_
    have k5 : Keep [] w3 w5 := k4.trans k5 (fun k hk hm => by simp only [List.mem_singleton] at hm; omega)
    have kk := kk.trans k5 (by simp)
    have hr := hr.keep0 k5
    refine ldN_all g5 rfl ?_
    refine call_of (k20 (atS s t) (revF h.flow) fb V S w5 hs1 hr) fun v6 w6 ⟨e6, hr6, k6⟩ => ?_
    subst e6
    have kk6 := kk.trans k6 (fun _ _ h => h)
    have g6 := k6.get g5 (by intro hc; have := hlt2 b8 (by simp [hc]); omega)
    have hs6 := k6.size
    have hs5 := k5.size
    unfold m12_1
    refine condF_of (fun hc => ⟨?_, ?_⟩) (fun hc => ?_)
    · simp only [outS, if_neg hn, hc, if_true]
    · simp only [outS, if_neg hn, hc, if_true]; exact Post.same hr6 kk6
    have hsame : againS (atS s t) (revF h.flow) = atS s t := by unfold againS; rw [hc]; rfl
    rw [hsame] at hr6
    have hr60 := hr6
    obtain ⟨mb, es, ck, rv, ov, B, f1, f2, f3, f4, f5, f6, f7, f8, f9, f10, f11⟩ := hr6
    obtain ⟨oa, oc, oe⟩ := f4.rd.slice
    have f1s := f1
    simp only [fC] at f1s
    have lo : ∀ K, pLenT 2 ov K = K (.int .i64 (atS s t).ls.length) := fun K => by rw [oe, pLenT_sl]
    simp only [pFld_eq, nilC_ptr', condF_bool, pBin_int, binI, ld1_drew, ldN_drew, List.getElem?_toArray, List.getElem?_cons_succ, List.getElem?_cons_zero, Nat.zero_add, ld1_eq f1s, lo, ge_iff_le]
    have hmost : (atS s t).most = s.most := rfl
    refine ⟨fun h2 => ⟨?_, ?_⟩, fun h2 => ?_⟩
    · have h2 : (atS s t).most ≤ ((atS s t).ls.length : Int) := by simpa using h2
      rw [hmost] at h2
      simp only [outS, if_neg hn, hc, Bool.false_eq_true, if_false, if_pos h2]
    · have h2 : (atS s t).most ≤ ((atS s t).ls.length : Int) := by simpa using h2
      rw [hmost] at h2
      simp only [outS, if_neg hn, hc, Bool.false_eq_true, if_false, if_pos h2]
      exact Post.same (hr60.keep0 (Keep.refl _ _).drew) kk6.drew
    · have h2 : ¬ (atS s t).most ≤ ((atS s t).ls.length : Int) := by simpa using h2
      rw [hmost] at h2
      have hm1 := hs.m1
      refine ldN_all g6 rfl ?_
      refine build1_of (n := 9) t54.hst t54.hsz t54.zr rfl (by decide) (by decide) fun b9 w7 hb9 k7 g7 => ?_
      have k7 : Keep [] w6 w7 := ((Keep.of_drew k7 : Keep [] w6.drew w7)).of_drew
      have f1 := k7.get f1 (by simp)
      have f1s := k7.get f1s (by simp)
      have f2 := k7.get f2 (by simp)
      have f4 := f4.keep k7 (by simp)
      have f5 := f5.keep0 k7
      have g6 := k7.get g6 (by simp)
      simp only [List.getElem?_toArray, List.getElem?_cons_succ, List.getElem?_cons_zero, ld1_eq f1s, true_and]
      refine t54.append f4 (m := 1) (ys := flC (revF h.flow)) ⟨rfl, .inr ⟨b9, 0, 1, _, _, _, rfl, g7, by simp [Value.cells, flC], by simp [Value.cells, flC]⟩⟩ (fl_one _) (by omega) fun v8 w8 B' ho8 k8 hB' _ => ?_
      have nb : ∀ y ∈ B, y < w.heap.size ∨ y ∈ B := fun y hy => .inr hy
      have f1s := k8.get f1s f7
      have f2 := k8.get f2 f8
      have f5 := f5.keep k8 fun y hy hb => f10 y hy (by rw [f9]; simp [hb])
      have lfb := lt_of_get f1s
      have hs7 := k7.size
      have hs8 := k8.size
      have hfv : fb < w6.heap.size := hr60.lt fb (by rw [f9]; simp)
      have hmv : mb < w6.heap.size := hr60.lt mb (by rw [f9]; simp)
      have n7 : fb ∉ B' := fun hc => by rcases hB' fb hc with h | h; exact f7 h; omega
      have n8 : mb ∉ B' := fun hc => by rcases hB' mb hc with h | h; exact f8 h; omega
      refine eSt1_of f1s (by simp) ?_ (by simp) fun w9 k9 g9 => ?_
      · obtain ⟨a, c, e⟩ := ho8.rd.slice
        rw [e]; rfl
      have g9s : w9.heap[fb]? = some (.cells #[rv, v8, .map (some mb), .int .i64 (atS s t).most, .int .u64 (atS s t).life, .int .u64 (atS s t).now] 56) := by rw [g9]; rfl
      have f2 := k9.get f2 (by simp; exact fun e => f6 e.symm)
      have ho9 := ho8.keep k9 (by intro y hy hm; simp at hm; rw [hm] at hy; exact n7 hy)
      have f5 := f5.keep k9 fun y hy hb => f10 y hy (by rw [f9]; simp at hb; simp [hb])
      have g69 : w9.heap[b8]? = some (.cells (flC (revF h.flow)).toArray 37) := by
        have h8 : b8 ∉ V := fun hc => by have := hlt2 b8 (by simp [hc]); omega
        rw [f9] at h8
        simp at h8
        exact k9.get (k8.get g6 (by exact fun hc => h8.2.2 hc)) (by simpa using h8.1)
      simp only [pBin_int, binI, List.getElem?_toArray, List.getElem?_cons_succ, List.getElem?_cons_zero, ld1_eq g9s]
      refine ldN_all g69 rfl ?_
      have n0 := hs1.n0; have n1 := hs1.n1; have l0 := hs1.l0; have l1 := hs1.l1
      rw [wrap_in_u64 (by omega) (by omega)]
      show ef Tryd.prog (Instr.mapUpdate 53 (.map (some mb)) (flV (revF h.flow)) (u64V ((atS s t).now + (atS s t).life))) w9.drew _
      rw [← flOf]
      refine FK.update (w := w9.drew) m53t f2 f3 (revF h.flow) ((atS s t).now + (atS s t).life) fun w10 es' ck' k10 g10 hm => ?_
      have k10 : Keep [mb] w9 w10 := k10.of_drew
      rw [put_new _ _ _ hc] at hm
      refine ⟨?_, ?_⟩
      · simp only [outS, if_neg hn, hc, Bool.false_eq_true, if_false, if_neg h2]
      · simp only [outS, if_neg hn, hc, Bool.false_eq_true, if_false, if_neg h2]
        have hs9 := k9.size
        have hs10 := k10.size
        have hss := kk6.size
        have kfin : Keep V w w10 := ((((kk6.trans k7 (by simp)).trans k8 (fun y _ hy => by rw [f9]; simp [hy])).trans k9 (fun y _ hy => by rw [f9]; simp at hy; simp [hy])).trans k10 (fun y _ hy => by rw [f9]; simp at hy; simp [hy]))
        refine ⟨fb :: mb :: B', S, ⟨mb, es', ck', rv, v8, B', k10.get g9s (by simpa using f6), g10, hm, ?_, f5.keep k10 fun y hy hb => f10 y hy (by rw [f9]; simp at hb; simp [hb]), f6, n7, n8, rfl, ?_, ?_⟩, kfin, ?_, fun y hy => .inl hy⟩
        · have := ho9.keep k10 (by intro y hy hm; simp at hm; rw [hm] at hy; exact n8 hy)
          simpa [kc_append, kc] using this
        · intro y hy hv
          simp only [List.mem_cons] at hv
          have hy6 := f11 y hy
          rcases hv with rfl | rfl | hv
          · exact f10 _ hy (by rw [f9]; simp)
          · exact f10 _ hy (by rw [f9]; simp)
          · rcases hB' y hv with h | h
            · exact f10 y hy (by rw [f9]; simp [h])
            · omega
        · intro y hy
          have := f11 y hy
          omega
        · intro y hy
          simp only [List.mem_cons] at hy
          rcases hy with rfl | rfl | hy
          · left; rw [f9]; simp
          · left; rw [f9]; simp
          · rcases hB' y hy with h | h
            · left; rw [f9]; simp [h]
            · right; omega

def setS (s : St) (rs : List Ru) : St := { s with rules := rs }
theorem set_ok {s : St} {rs : List Ru} (h : StOk s) : StOk (setS s rs) := ⟨h.nodup, h.n0, h.n1, h.l0, h.l1, h.m0, h.m1, h.len⟩
theorem k9 (s : St) (rs : List Ru) (v : Value) (S0 : List Nat) (fb : Nat) (V S : List Nat) (w : World) (hr : FRep w fb V S s) (hv : RulesAt w v rs S0) :
    Calls Tryd.prog 9 #[.pointer (some ⟨fb, 0, none⟩), v] w fun e w' => ∃ u, e = .returned u ∧ Post w V S fb (setS s rs) w' := by
  refine c9 _ _ _ _ ?_
  unfold m9
  simp only [pNil_ptr, Option.isNone_some]
  refine condF_of (fun h => by cases h) (fun _ => ?_)
  refine call_of (k17 rs v S0 w hv) fun u w2 ⟨S2, hv2, k2, hS2⟩ => ?_
  have hlt := hr.lt
  have hr := hr.keep0 k2
  obtain ⟨mb, es, ck, rv, ov, B, f1, f2, f3, f4, f5, f6, f7, f8, rfl, f10, f11⟩ := hr
  have f1s := f1
  simp only [fC] at f1s
  simp only [pFld_eq, nilC_ptr', Nat.add_zero]
  refine eSt1_of f1s (by simp) ?_ (by simp) fun w3 k3 g3 => ?_
  · obtain ⟨xs, _, hsl, _⟩ := hv2
    obtain ⟨a, c, e⟩ := hsl.slice
    rw [e]; rfl
  have hnew : ∀ y ∈ S2, y ∉ fb :: mb :: B := fun y hy hm => by
    have := hS2 y hy
    have := hlt y (List.mem_append_left _ hm)
    omega
  have hs3 := k3.size
  refine ⟨fb :: mb :: B, S2, ⟨mb, es, ck, u, ov, B, by rw [g3]; rfl, k3.get f2 (by simp; exact fun e => f6 e.symm), f3, f4.keep k3 (by intro y hy hm; simp at hm; rw [hm] at hy; exact f7 hy),
    hv2.keep k3 (fun y hy hm => hnew y hy (by simp at hm; simp [hm])), f6, f7, f8, rfl, hnew, fun y hy => by have := hS2 y hy; omega⟩,
    (k2.mono (by simp)).trans k3 (fun y _ hy => by simp at hy; simp [hy]), fun y hy => .inl hy, fun y hy => .inr (hS2 y hy).1⟩
end Go.Proofs.YtlfeckimhaegbaaDoor
