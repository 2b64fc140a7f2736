/- FilterAnswers, FilterApart: rules with lists of their own (slices.Clone, both functions 'copied'). -/
import Derived.Test.YtlfeckimhaegbaaDoorFil6
namespace Go.Proofs.YtlfeckimhaegbaaDoor
open Go Eng
set_option maxRecDepth 20000

theorem spC_one (s : Sp) : ∀ v ∈ spC s, v.oneCell' = true := by simp [spC, adC, Value.oneCell']
theorem poC_one (s : Po) : ∀ v ∈ poC s, v.oneCell' = true := by simp [poC, Value.oneCell']
theorem u8C_one (s : Int) : ∀ v ∈ u8C s, v.oneCell' = true := by simp [u8C, Value.oneCell']
theorem flat_one {γ : Type} {enc : γ → List Value} (h : ∀ x, ∀ v ∈ enc x, v.oneCell' = true) (xs : List γ) : ∀ v ∈ xs.flatMap enc, v.oneCell' = true := by
  intro v hv
  obtain ⟨x, _, hx⟩ := List.mem_flatMap.1 hv
  exact h x v hx

/-- what append is told of a type of slices -/
structure SlT (st e bytes sz : Nat) (z : Value) : Prop where
  hst : Tryd.prog.underlying st = some (.slice e)
  hsz : sizeP Tryd.prog e = some sz
  zr : (Tryd.prog.info? e).bind (·.zero) = some z
  zs : z.cells.size = sz
  by_ : (Tryd.prog.info? e).map (·.bytes) = some bytes
  b0 : bytes ≠ 0
  bl : bytes ≤ 128
theorem t57 : SlT 57 5 1 1 (.int .u8 0) := ⟨by kernel_rfl, by kernel_rfl, by kernel_rfl, rfl, by kernel_rfl, by decide, by decide⟩
theorem t58 : SlT 58 68 48 6 (.agg #[.bool false, .int .u64 0, .int .u64 0, .bool false, .int .u64 0, .int .u64 0]) := ⟨by kernel_rfl, by kernel_rfl, by kernel_rfl, rfl, by kernel_rfl, by decide, by decide⟩
theorem t59 : SlT 59 71 4 2 (.agg #[.int .u16 0, .int .u16 0]) := ⟨by kernel_rfl, by kernel_rfl, by kernel_rfl, rfl, by kernel_rfl, by decide, by decide⟩
theorem t22 : SlT 22 61 96 4 (.agg #[.slice none 0 0, .slice none 0 0, .slice none 0 0, .slice none 0 0]) := ⟨by kernel_rfl, by kernel_rfl, by kernel_rfl, rfl, by kernel_rfl, by decide, by decide⟩
theorem t54 : SlT 54 37 64 9 (.agg #[.int .u8 0, .bool false, .int .u64 0, .int .u64 0, .bool false, .int .u64 0, .int .u64 0, .int .u16 0, .int .u16 0]) := ⟨by kernel_rfl, by kernel_rfl, by kernel_rfl, rfl, by kernel_rfl, by decide, by decide⟩
theorem t33 : SlT 33 44 72 10 (.agg #[.int .u8 0, .bool false, .int .u64 0, .int .u64 0, .bool false, .int .u64 0, .int .u64 0, .int .u16 0, .int .u16 0, .int .u64 0]) := ⟨by kernel_rfl, by kernel_rfl, by kernel_rfl, rfl, by kernel_rfl, by decide, by decide⟩

theorem SlT.append {st e bytes sz : Nat} {z : Value} (T : SlT st e bytes sz z) {w : World} {ty n m : Nat} {s x : Value} {cs ys : List Value} {B : List Nat} {K : Value → World → Prop}
    (hs : OwnS w s e sz n cs B) (hx : RdS w x sz m ys) (hone : ∀ v ∈ ys, v.oneCell' = true) (hroom : n + m < 1048576 * 4)
    (hk : ∀ s' w' B', OwnS w' s' e sz (n + m) (cs ++ ys) B' → Keep B w w' → (∀ k ∈ B', k ∈ B ∨ w.heap.size ≤ k) → (0 < n + m → B' ≠ []) → K s' w') :
    ef Tryd.prog (Builtin.append_ #[st, st] ty #[s, x]) w K := by
  refine append_of T.hst T.hsz T.zr T.zs T.by_ T.b0 hs hx hone ?_ hk
  have h1 : (2 * (n + m) + 512) * bytes ≤ (2 * (1048576 * 4) + 512) * 128 := Nat.mul_le_mul (by omega) T.bl
  exact Nat.le_trans h1 (by decide)

/-- append to nil -/
theorem SlT.fresh {st e bytes sz : Nat} {z : Value} (T : SlT st e bytes sz z) {γ : Type} {enc : γ → List Value} {xs : List γ} {w : World} {ty : Nat} {v : Value} {K : Value → World → Prop}
    (hv : SlOf w v sz enc xs) (hone : ∀ x, ∀ v ∈ enc x, v.oneCell' = true) (hn : xs.length < 1048576)
    (hk : ∀ u w' B, OwnS w' u e sz xs.length (xs.flatMap enc) B → Keep [] w w' → (∀ k ∈ B, w.heap.size ≤ k) → K u w') :
    ef Tryd.prog (Builtin.append_ #[st, st] ty #[.slice none 0 0, v]) w K := by
  refine T.append (OwnS.nil w e sz) hv (flat_one hone xs) (by omega) fun s' w' B' ho k hb _ => hk s' w' B' ?_ k fun b hb' => by simpa using hb b hb'
  simpa using ho

theorem SlT.clone {st e bytes sz : Nat} {z : Value} (T : SlT st e bytes sz z) {γ : Type} {enc : γ → List Value} {xs : List γ} {w : World} {v : Value} {R : Value → World → Prop}
    (hv : SlOf w v sz enc xs) (hone : ∀ x, ∀ v ∈ enc x, v.oneCell' = true) (hn : xs.length < 1048576)
    (hk : ∀ u w' B, OwnS w' u e sz xs.length (xs.flatMap enc) B → Keep [] w w' → (∀ k ∈ B, w.heap.size ≤ k) → R u w') :
    pNil .eql (.slice none 0 0) v fun t4 => condF t4 (R (.slice none 0 0) w) (ef Tryd.prog (Instr.buildSlice st 0 ([]).toArray) w fun t5 w' => ef Tryd.prog (Builtin.append_ #[st, st] st #[t5, v]) w' fun t7 w'' => R t7 w'') := by
  obtain ⟨a, cap, rfl⟩ := hv.slice
  rw [pNil_sl]
  refine condF_of (fun h => ?_) (fun h => ?_)
  · cases a with
    | some a => simp at h
    | none =>
      obtain ⟨_, ⟨h0, _⟩ | ⟨b, off, cap, c, t, fz, hh, _⟩⟩ := hv
      · have : xs = [] := by simpa using h0
        subst this
        exact hk _ w [] (OwnS.nil w e sz) (Keep.refl _ _) (by simp)
      · simp at hh
  · refine build0_of T.hst T.hsz fun b w1 hb k1 g1 => ?_
    refine T.append (n := 0) (cs := []) (B := [b]) ⟨by simp, .inr ⟨b, 0, [], rfl, g1, by simp, rfl⟩⟩ (hv.keep0 k1) (flat_one hone xs) (by omega) fun s' w' B' ho k hb' _ => hk s' w' B' ?_ ?_ ?_
    · simpa using ho
    · exact k1.trans k (fun k hk hm => by simp only [List.mem_singleton] at hm; omega)
    · intro k hk
      have := k1.size
      rcases hb' k hk with h | h
      · simp only [List.mem_singleton] at h; omega
      · omega

/-- a slice of its own, freshly made -/
abbrev Fresh (e sz n : Nat) (cs : List Value) (w : World) : Value → World → Prop := fun u w' => ∃ B, OwnS w' u e sz n cs B ∧ Keep [] w w' ∧ ∀ k ∈ B, w.heap.size ≤ k
theorem k24 (xs : List Int) (v : Value) (w : World) (hv : SlOf w v 1 u8C xs) (hn : xs.length < 1048576) : Calls Tryd.prog 24 #[v] w fun e w' => ∃ u, e = .returned u ∧ Fresh 5 1 xs.length (xs.flatMap u8C) w u w' := by
  refine c24 _ _ _ ?_
  unfold m24
  exact t57.clone hv u8C_one hn fun u w' B h1 h2 h3 => ⟨B, h1, h2, h3⟩
theorem k25 (xs : List Sp) (v : Value) (w : World) (hv : SlOf w v 6 spC xs) (hn : xs.length < 1048576) : Calls Tryd.prog 25 #[v] w fun e w' => ∃ u, e = .returned u ∧ Fresh 68 6 xs.length (xs.flatMap spC) w u w' := by
  refine c25 _ _ _ ?_
  unfold m25
  exact t58.clone hv spC_one hn fun u w' B h1 h2 h3 => ⟨B, h1, h2, h3⟩
theorem k26 (xs : List Po) (v : Value) (w : World) (hv : SlOf w v 2 poC xs) (hn : xs.length < 1048576) : Calls Tryd.prog 26 #[v] w fun e w' => ∃ u, e = .returned u ∧ Fresh 71 2 xs.length (xs.flatMap poC) w u w' := by
  refine c26 _ _ _ ?_
  unfold m26
  exact t59.clone hv poC_one hn fun u w' B h1 h2 h3 => ⟨B, h1, h2, h3⟩

/-- i rules are copied -/
def CopyInv (w0 : World) (rs : List Ru) (i : Nat) (out : Value) (w : World) : Prop :=
  ∃ (ys : List RV) (B S : List Nat), ys.length = i ∧ OwnS w out 61 4 i (ys.flatMap rvC) B ∧ (∀ j (h : j < ys.length) (h' : j < rs.length), RuleAt w ys[j] rs[j] S) ∧ (∀ k ∈ B, k ∉ S) ∧
    (∀ k ∈ B, w0.heap.size ≤ k) ∧ (∀ k ∈ S, w0.heap.size ≤ k ∧ k < w.heap.size) ∧ Keep [] w0 w
theorem copy_start (w : World) (rs : List Ru) : CopyInv w rs 0 (.slice none 0 0) w := ⟨[], [], [], rfl, OwnS.nil _ _ _, by simp, by simp, by simp, by simp, Keep.refl _ _⟩
theorem copy_done {w0 : World} {rs : List Ru} {out : Value} {w : World} (h : CopyInv w0 rs rs.length out w) (hn : rs.length < 1048576) : ∃ S, RulesAt w out rs S ∧ Keep [] w0 w ∧ (∀ k ∈ S, w0.heap.size ≤ k ∧ k < w.heap.size) := by
  obtain ⟨ys, B, S, hl, ho, hr, hd, hB, hS, k⟩ := h
  refine ⟨B ++ S, ⟨ys, hl, by rw [SlOf, hl]; exact ho.rd, fun k hk => by rw [ho.blk] at hk; simp [hk], hn, fun i h h' => (hr i h h').mono (fun k hk => List.mem_append.2 (.inr hk))⟩, k, fun k hk => ?_⟩
  rcases List.mem_append.1 hk with h | h
  · exact ⟨hB k h, ho.lt k h⟩
  · exact hS k h

theorem copy_push {w0 : World} {rs : List Ru} {i : Nat} {out u1 u2 u3 u4 : Value} {w w7 : World} {S1 : List Nat} {again : List Value → World → Prop} (h : CopyInv w0 rs i out w) (hi : i < rs.length) (hn : rs.length < 1048576)
    (k7 : Keep [] w w7) (hr1 : RuleAt w7 ⟨u1, u2, u3, u4⟩ rs[i] S1) (hS1 : ∀ k ∈ S1, w.heap.size ≤ k ∧ k < w7.heap.size) (ha : ∀ out' w9, CopyInv w0 rs (i + 1) out' w9 → again [out', .int .i64 ((i + 1 : Nat) : Int)] w9) :
    pBuild #[(.slice none 0 0), (.slice none 0 0), (.slice none 0 0), (.slice none 0 0)] #[(0, 1), (1, 1), (2, 1), (3, 1)] [(0, u1), (1, u2), (2, u3), (3, u4)] fun t25 =>
      ef Tryd.prog (Instr.buildSlice 22 1 ([(0, t25)]).toArray) w7 fun t26 w8 =>
      ef Tryd.prog (Builtin.append_ #[22, 22] 22 #[out, t26]) w8 fun t27 w9 =>
      pBin .add (.int .i64 i) (.int .i64 1) fun t28 => again [t27, t28] w9 := by
  obtain ⟨ys, B, S, hl, ho, hr, hd, hB, hS, kw⟩ := h
  obtain ⟨a1, c1, e1⟩ := hr1.p.slice
  obtain ⟨a2, c2, e2⟩ := hr1.s.slice
  obtain ⟨a3, c3, e3⟩ := hr1.d.slice
  obtain ⟨a4, c4, e4⟩ := hr1.o.slice
  simp only at e1 e2 e3 e4
  refine @pBuild_of _ _ _ (rvC ⟨u1, u2, u3, u4⟩).toArray _ ?_ ?_
  · subst e1 e2 e3 e4
    kernel_rfl
  refine build1_of (n := 4) t22.hst t22.hsz t22.zr rfl (by decide) (by decide) fun b w8 hb k8 g8 => ?_
  have hsz7 := k7.size
  have hsz8 := k8.size
  refine t22.append ((ho.keep k7 (by simp)).keep k8 (by simp)) (m := 1) (ys := rvC ⟨u1, u2, u3, u4⟩) ⟨rfl, .inr ⟨b, 0, 1, _, _, _, rfl, g8, by simp [rvC, Value.cells], by simp [Value.cells, rvC]⟩⟩ ?_ (by omega) fun s' w9 B' ho' k9 hB' _ => ?_
  · subst e1 e2 e3 e4
    simp [rvC, Value.oneCell']
  rw [pBin_int, binI, wrap_succ hi (by omega)]
  have hlt := ho.lt
  refine ha _ _ ⟨ys ++ [⟨u1, u2, u3, u4⟩], B', S ++ S1, by simp [hl], by simpa using ho', fun j h h' => ?_, fun k hk hs => ?_, fun k hk => ?_, fun k hk => ?_, ?_⟩
  · by_cases hj : j < ys.length
    · rw [List.getElem_append_left hj]
      refine ((((hr j hj h').keep k7 (by simp)).keep k8 (by simp)).keep k9 fun x hx hxB => hd x hxB hx).mono (fun k hk => List.mem_append.2 (.inl hk))
    · have hje : j = ys.length := by simp at h; omega
      subst hje
      rw [List.getElem_append_right (Nat.le_refl _)]
      simp only [Nat.sub_self, List.getElem_cons_zero]
      have : rs[ys.length] = rs[i] := by simp [hl]
      rw [this]
      refine ((hr1.keep k8 (by simp)).keep k9 fun x hx hxB => ?_).mono (fun k hk => List.mem_append.2 (.inr hk))
      have := hlt x hxB
      have := (hS1 x hx).1
      omega
  · rcases List.mem_append.1 hs with h | h
    · rcases hB' k hk with h2 | h2
      · exact hd k h2 h
      · have := (hS k h).2; omega
    · have := hS1 k h
      rcases hB' k hk with h2 | h2
      · have := hlt k h2; omega
      · omega
  · have := kw.size
    rcases hB' k hk with h2 | h2
    · exact hB k h2
    · omega
  · have := kw.size
    have := k9.size
    rcases List.mem_append.1 hk with h | h
    · have := hS k h; omega
    · have := hS1 k h; omega
  · exact ((kw.trans k7 (fun _ _ h => h)).trans k8 (fun _ _ h => h)).trans k9 (fun x hx hm => by have := hB x hm; omega)

theorem k17 (rs : List Ru) (v : Value) (S0 : List Nat) (w : World) (hv : RulesAt w v rs S0) :
    Calls Tryd.prog 17 #[v] w fun e w' => ∃ u, e = .returned u ∧ ∃ S, RulesAt w' u rs S ∧ Keep [] w w' ∧ (∀ k ∈ S, w.heap.size ≤ k ∧ k < w'.heap.size) := by
  refine c17 _ _ _ ?_
  unfold m17
  have hn := hv.lt
  simp only [hv.len]
  refine loopP_of (fun vs w' => ∃ (i : Nat) (out : Value), vs = [out, .int .i64 i] ∧ i ≤ rs.length ∧ CopyInv w rs i out w') (mu1 rs.length) ⟨0, _, rfl, by omega, copy_start w rs⟩ ?_
  rintro vs w' ⟨i, out, rfl, hi, hc⟩
  have kw : Keep [] w w' := by obtain ⟨_, _, _, _, _, _, _, _, _, k⟩ := hc; exact k
  have hv := hv.keep0 kw
  unfold m17_3
  simp only [List.getD_cons_zero, List.getD_cons_succ, pBin_int, binI]
  refine condF_of (fun h1 => ?_) (fun h1 => ?_)
  · have hi' : i < rs.length := by simpa using h1
    refine hv.el hi' fun x eb off hb el ru => ?_
    rw [el.ldN0 4 (by simp [rvC_len]), List.take_of_length_le (by simp [rvC_len])]
    refine eBox_of fun b w1 hb1 k1 g1 => ?_
    obtain ⟨a1, c1, e1⟩ := ru.p.slice
    obtain ⟨a2, c2, e2⟩ := ru.s.slice
    obtain ⟨a3, c3, e3⟩ := ru.d.slice
    obtain ⟨a4, c4, e4⟩ := ru.o.slice
    refine eStAll_of (vs := rvC x) (by kernel_rfl) g1 (by simp [rvC, Value.cells]) (by simp [rvC, e1, e2, e3, e4, Value.oneCell']) fun w2 k2 g2 => ?_
    have k2 : Keep [] w' w2 := k1.trans k2 (fun k hk hm => by simp only [List.mem_singleton] at hm; omega)
    have ru := ru.keep k2 (by simp)
    simp only [rvC] at g2
    simp only [pFld_eq, ld1_drew, List.getElem?_toArray, List.getElem?_cons_succ, List.getElem?_cons_zero, Nat.zero_add, Nat.add_zero, ld1_eq g2]
    have hs2 := k2.size
    refine call_of (k24 rs[i].protos x.p _ ru.p (by have := ru.ok.np; omega)) fun u3 w3 ⟨B3, o3, k3, h3⟩ => ?_
    have k3 := Keep.of_drew k3
    have ru := ru.keep k3 (by simp)
    have g3 := k3.get g2 (by simp)
    have hs3 := k3.size
    simp only [List.getElem?_toArray, List.getElem?_cons_succ, List.getElem?_cons_zero, ld1_eq g3, true_and]
    refine call_of (k25 rs[i].src x.s _ ru.s (by have := ru.ok.ns; omega)) fun u4 w4 ⟨B4, o4, k4, h4⟩ => ?_
    have ru := ru.keep k4 (by simp)
    have g4 := k4.get g3 (by simp)
    have hs4 := k4.size
    unfold m17_2
    simp only [List.getElem?_toArray, List.getElem?_cons_succ, List.getElem?_cons_zero, ld1_eq g4, true_and]
    refine call_of (k25 rs[i].dst x.d _ ru.d (by have := ru.ok.nd; omega)) fun u5 w5 ⟨B5, o5, k5, h5⟩ => ?_
    have ru := ru.keep k5 (by simp)
    have g5 := k5.get g4 (by simp)
    have hs5 := k5.size
    simp only [List.getElem?_toArray, List.getElem?_cons_succ, List.getElem?_cons_zero, ld1_eq g5, true_and]
    refine call_of (k26 rs[i].ports x.o _ ru.o (by have := ru.ok.no; omega)) fun u6 w6 ⟨B6, o6, k6, h6⟩ => ?_
    have hs6 := k6.size
    have o3 := ((o3.keep k4 (by simp)).keep k5 (by simp)).keep k6 (by simp)
    have o4 := (o4.keep k5 (by simp)).keep k6 (by simp)
    have o5 := o5.keep k6 (by simp)
    unfold m17_1
    simp only [List.getD_cons_zero, List.getD_cons_succ]
    have hh3 : ∀ k ∈ B3, w2.heap.size ≤ k := h3
    refine copy_push (again := fun vs' w'' => (∃ (i : Nat) (out : Value), vs' = [out, .int .i64 i] ∧ i ≤ rs.length ∧ CopyInv w rs i out w'') ∧ mu1 rs.length vs' w'' < mu1 rs.length [out, .int .i64 i] w') (S1 := B3 ++ (B4 ++ (B5 ++ B6))) hc hi' hn (((k2.trans k3 (fun _ _ h => h)).trans k4 (fun _ _ h => h)).trans (k5.trans k6 (fun _ _ h => h)) (fun _ _ h => h))
      ⟨o3.rd, o4.rd, o5.rd, o6.rd, ?_, ?_, ?_, ?_, ru.ok⟩ ?_ ?_
    · intro k hk; rw [o3.blk] at hk; simp [hk]
    · intro k hk; rw [o4.blk] at hk; simp [hk]
    · intro k hk; rw [o5.blk] at hk; simp [hk]
    · intro k hk; rw [o6.blk] at hk; simp [hk]
    · intro k hk
      simp only [List.mem_append] at hk
      rcases hk with h | h | h | h
      · have := hh3 k h; have := o3.lt k h; omega
      · have := h4 k h; have := o4.lt k h; omega
      · have := h5 k h; have := o5.lt k h; omega
      · have := h6 k h; have := o6.lt k h; omega
    · intro out' w9 hc9
      exact ⟨⟨i + 1, out', rfl, hi', hc9⟩, by rw [mu1_eq, mu1_eq]; omega⟩
  · have hi' : i = rs.length := by have : rs.length ≤ i := by simpa using h1
                                   omega
    subst hi'
    exact copy_done hc hn

theorem k8 (rs : List Ru) (v : Value) (S0 : List Nat) (w : World) (hv : RulesAt w v rs S0) :
    Calls Tryd.prog 8 #[v] w fun e w' => ∃ u, e = .returned u ∧ ∃ S, RulesAt w' u rs S ∧ Keep [] w w' ∧ (∀ k ∈ S, w.heap.size ≤ k ∧ k < w'.heap.size) := by
  refine c8 _ _ _ ?_
  unfold m8
  have hn := hv.lt
  refine loopP_of (fun vs w' => ∃ (i : Nat) (out : Value), vs = [out, .int .i64 i] ∧ i ≤ rs.length ∧ CopyInv w rs i out w') (mu1 rs.length) ⟨0, _, rfl, by omega, copy_start w rs⟩ ?_
  rintro vs w' ⟨i, out, rfl, hi, hc⟩
  have kw : Keep [] w w' := by obtain ⟨_, _, _, _, _, _, _, _, _, k⟩ := hc; exact k
  have hv := hv.keep0 kw
  unfold m8_1
  simp only [hv.len, List.getD_cons_zero, List.getD_cons_succ, pBin_int, binI]
  refine condF_of (fun h1 => ?_) (fun h1 => ?_)
  · have hi' : i < rs.length := by simpa using h1
    refine hv.el hi' fun x eb off hb el ru => ?_
    rw [el.ldN0 4 (by simp [rvC_len]), List.take_of_length_le (by simp [rvC_len])]
    refine eBox_of fun b w1 hb1 k1 g1 => ?_
    obtain ⟨a1, c1, e1⟩ := ru.p.slice
    obtain ⟨a2, c2, e2⟩ := ru.s.slice
    obtain ⟨a3, c3, e3⟩ := ru.d.slice
    obtain ⟨a4, c4, e4⟩ := ru.o.slice
    refine eStAll_of (vs := rvC x) (by kernel_rfl) g1 (by simp [rvC, Value.cells]) (by simp [rvC, e1, e2, e3, e4, Value.oneCell']) fun w2 k2 g2 => ?_
    have k2 : Keep [] w' w2 := k1.trans k2 (fun k hk hm => by simp only [List.mem_singleton] at hm; omega)
    have ru := ru.keep k2 (by simp)
    simp only [rvC] at g2
    simp only [pFld_eq, ld1_drew, List.getElem?_toArray, List.getElem?_cons_succ, List.getElem?_cons_zero, Nat.zero_add, Nat.add_zero, ld1_eq g2]
    have hs2 := k2.size
    refine t57.fresh (w := w2.drew) (by exact ru.p) u8C_one (by have := ru.ok.np; omega) fun u3 w3 B3 o3 k3 h3 => ?_
    have k3 := Keep.of_drew k3
    have ru := ru.keep k3 (by simp)
    have g3 := k3.get g2 (by simp)
    have hs3 := k3.size
    simp only [List.getElem?_toArray, List.getElem?_cons_succ, List.getElem?_cons_zero, ld1_eq g3, true_and]
    refine t58.fresh ru.s spC_one (by have := ru.ok.ns; omega) fun u4 w4 B4 o4 k4 h4 => ?_
    have ru := ru.keep k4 (by simp)
    have g4 := k4.get g3 (by simp)
    have hs4 := k4.size
    simp only [List.getElem?_toArray, List.getElem?_cons_succ, List.getElem?_cons_zero, ld1_eq g4, true_and]
    refine t58.fresh ru.d spC_one (by have := ru.ok.nd; omega) fun u5 w5 B5 o5 k5 h5 => ?_
    have ru := ru.keep k5 (by simp)
    have g5 := k5.get g4 (by simp)
    have hs5 := k5.size
    simp only [List.getElem?_toArray, List.getElem?_cons_succ, List.getElem?_cons_zero, ld1_eq g5, true_and]
    refine t59.fresh ru.o poC_one (by have := ru.ok.no; omega) fun u6 w6 B6 o6 k6 h6 => ?_
    have hs6 := k6.size
    have o3 := ((o3.keep k4 (by simp)).keep k5 (by simp)).keep k6 (by simp)
    have o4 := (o4.keep k5 (by simp)).keep k6 (by simp)
    have o5 := o5.keep k6 (by simp)
    have hh3 : ∀ k ∈ B3, w2.heap.size ≤ k := h3
    have push := copy_push (S1 := B3 ++ (B4 ++ (B5 ++ B6))) (u1 := u3) (u2 := u4) (u3 := u5) (u4 := u6) hc hi' hn (((k2.trans k3 (fun _ _ h => h)).trans k4 (fun _ _ h => h)).trans (k5.trans k6 (fun _ _ h => h)) (fun _ _ h => h))
      ⟨o3.rd, o4.rd, o5.rd, o6.rd, by intro k hk; rw [o3.blk] at hk; simp [hk], by intro k hk; rw [o4.blk] at hk; simp [hk], by intro k hk; rw [o5.blk] at hk; simp [hk], by intro k hk; rw [o6.blk] at hk; simp [hk], ru.ok⟩ ?_
      (again := fun vs' w'' => (∃ (i : Nat) (out : Value), vs' = [out, .int .i64 i] ∧ i ≤ rs.length ∧ CopyInv w rs i out w'') ∧ mu1 rs.length vs' w'' < mu1 rs.length [out, .int .i64 i] w') ?_
    · simp only [pBin_int, binI] at push
      exact push
    · intro k hk
      simp only [List.mem_append] at hk
      rcases hk with h | h | h | h
      · have := hh3 k h; have := o3.lt k h; omega
      · have := h4 k h; have := o4.lt k h; omega
      · have := h5 k h; have := o5.lt k h; omega
      · have := h6 k h; have := o6.lt k h; omega
    · intro out' w9 hc9
      exact ⟨⟨i + 1, out', rfl, hi', hc9⟩, by rw [mu1_eq, mu1_eq]; omega⟩
  · have hi' : i = rs.length := by have : rs.length ≤ i := by simpa using h1
                                   omega
    subst hi'
    exact copy_done hc hn
end Go.Proofs.YtlfeckimhaegbaaDoor
