/- ip.Text, third part: some text; none where the address may not be. -/
import Derived.Test.YtlfeckimhaegbaaDoorFil19
namespace Go.Proofs.YtlfeckimhaegbaaDoor
open Go Eng
set_option maxRecDepth 20000

theorem fn52 : ∃ fn, Tryd.prog.funcs[52]? = some fn ∧ fn.body.isSome = true ∧ (fn.name == "runtime.NumGoroutine") = false := ⟨Tryd.f52, Tryd.func52, by rw [bd52]; rfl, by kernel_rfl⟩
theorem sz90 : sizeP Tryd.prog 90 = some 8 := by kernel_rfl
theorem and3 : ∀ i : Nat, i < 8 → IntKind.i64.wrap ((BitVec.ofInt IntKind.i64.bits (i : Int) &&& BitVec.ofInt IntKind.i64.bits 3).toNat : Int) = ((i % 4 : Nat) : Int) := by decide +kernel
def u16V (x : Int) : Value := .int .u16 x
theorem sec_set {ys : List Int} {k : Nat} {y : Int} (h : ∀ x ∈ ys, 0 ≤ x ∧ x < 65536) (hy : 0 ≤ y ∧ y < 65536) : ∀ x ∈ ys.set k y, 0 ≤ x ∧ x < 65536 := by
  intro x hx
  rcases List.mem_or_eq_of_mem_set hx with h1 | h1
  · exact h x h1
  · subst h1; exact hy

theorem k51 (a : Ad) (w : World) : Calls Tryd.prog 51 #[adV a] w fun e w' => ∃ u, e = .returned u ∧ ∃ ys : List Int, u = .agg (ys.map u16V).toArray ∧ ys.length = 8 ∧ (∀ y ∈ ys, 0 ≤ y ∧ y < 65536) ∧ Keep [] w w' := by
  refine c51 _ _ _ ?_
  unfold m51
  refine eBox_of fun b1 w1 hb1 k1 g1 => ?_
  refine eBox_of fun b2 w2 hb2 k2 g2 => ?_
  simp only [adV, Value.cells] at g1
  have lt1 := lt_of_get g1
  have g1 := k2.get g1 (by simp)
  have h12 := k1.size
  have old2 : ∀ y, y < w.heap.size → y ∈ [b2] → y ∈ ([] : List Nat) := fun y hy hm => by simp at hm; omega
  have g2 : w2.heap[b2]? = some (.cells (([0, 0, 0, 0, 0, 0, 0, 0] : List Int).map u16V).toArray 90) := g2
  refine loopP_of (fun vs w' => ∃ (i : Nat) (ys : List Int), vs = [.int .i64 i] ∧ i ≤ 8 ∧ ys.length = 8 ∧ (∀ y ∈ ys, 0 ≤ y ∧ y < 65536) ∧ w'.heap[b2]? = some (.cells (ys.map u16V).toArray 90) ∧
      w'.heap[b1]? = some (.cells #[.bool a.v6, .int .u64 a.hi, .int .u64 a.lo] 35) ∧ Keep [] w w') (mu0 8) ⟨0, _, rfl, by omega, rfl, by decide, g2, g1, k1.trans k2 (by simp)⟩ ?_
  rintro vs w' ⟨i, ys, rfl, hi, hl, hy, gy, ga, k⟩
  unfold m51_2
  simp only [List.getD_cons_zero, pBin_int, binI]
  refine condF_of (fun h => ?_) (fun h => ?_)
  · have hi' : i < 8 := by have : ((i : Int) < 8) := of_decide_eq_true h
                           omega
    simp only [pFld_eq, condF_bool, List.getElem?_toArray, List.getElem?_cons_succ, List.getElem?_cons_zero, Nat.zero_add, ld1_eq ga]
    refine joinP_of (fun vs w'' => (∃ x : Int, vs = [.int .u64 x]) ∧ w'' = w') ?_ ?_
    · exact ⟨fun _ => ⟨⟨_, rfl⟩, rfl⟩, fun _ => ⟨⟨_, rfl⟩, rfl⟩⟩
    rintro _ w'' ⟨⟨x, rfl⟩, rfl⟩
    unfold m51_1
    have e1 : IntKind.i64.wrap (16 * ((i % 4 : Nat) : Int)) = ((16 * (i % 4) : Nat) : Int) := by rw [wrap_in_i64 (by omega) (by omega)]; omega
    have e2 : IntKind.i64.wrap (48 - ((16 * (i % 4) : Nat) : Int)) = ((48 - 16 * (i % 4) : Nat) : Int) := by rw [wrap_in_i64 (by omega) (by omega)]; omega
    simp only [List.getD_cons_zero, pBin_int, binI, and3 i hi', e1, e2, pShift, shI, pConv_int, pIxA, add_none]
    refine ⟨by omega, by omega, by omega, ?_⟩
    generalize hz : IntKind.u16.wrap (x.fdiv (2 ^ (min (((48 - 16 * (i % 4) : Nat) : Int)).toNat IntKind.u64.bits))) = z
    have hzr : 0 ≤ z ∧ z < 65536 := hz ▸ u16_range _
    refine eSt1_of gy (by simp [hl]; omega) rfl (by simp) fun w3 k3 g3 => ?_
    refine ⟨⟨i + 1, ys.set i z, by rw [wrap_succ hi' (by omega)], hi', by simp [hl], sec_set hy hzr, ?_, k3.get ga (by simp; omega), k.trans k3 old2⟩, ?_⟩
    · rw [g3]
      congr 2
      simp [u16V, List.map_set]
    · rw [wrap_succ hi' (by omega), mu0_eq, mu0_eq]; omega
  · refine ldN_all gy (by simp [hl]) ?_
    refine eStAll_of (vs := ys.map u16V) (by rw [sz90]; simp [hl]) gy (by simp) (by simp [u16V, Value.oneCell']) fun w3 k3 g3 => ?_
    exact ldN_all g3 (by simp [hl]) ⟨ys, rfl, hl, hy, k.trans k3 old2⟩

/-- a part of the eight -/
theorem cut_rd {w : World} {b lo n cap : Nat} {ys : List Int} {t : TypeId} (h : w.heap[b]? = some (.cells (ys.map u16V).toArray t)) (hle : lo + n ≤ ys.length) : SlOf w (.slice (some ⟨b, lo, none⟩) n cap) 1 u16C ((ys.drop lo).take n) := by
  have hl : ((ys.drop lo).take n).length = n := by simp; omega
  refine ⟨flat_len u16C_len _, .inr ⟨b, lo, cap, _, t, _, by rw [hl], h, by rw [hl]; simp; omega, ?_⟩⟩
  rw [hl]
  simp only [Nat.mul_one, Array.toList_extract, List.extract_eq_take_drop]
  have : ∀ l : List Int, l.flatMap u16C = l.map u16V := by intro l; induction l with
    | nil => rfl
    | cons x l ih => simp [u16C, u16V, ih]
  rw [this]
  simp [List.map_take, List.map_drop]

theorem textSome {s : ByteArray} (h : 0 < s.size) : (s.toList == []) = false := by
  rw [ByteArray.toList_eq]
  obtain ⟨⟨l⟩⟩ := s
  cases l with
  | nil => simp [ByteArray.size] at h
  | cons x l => rfl

abbrev AnsS (w : World) : Value → World → Prop := fun u w' => ∃ s : ByteArray, u = .string s ∧ (s.toList == []) = false ∧ Keep [] w w'

/-- an address of the fourth version -/
theorem v4 (w0 w : World) (b1 : Nat) (c : Array Value) (lo : Int) (hT : Tab w0) (kw : Keep [] w0 w) (ga : w.heap[b1]? = some (.cells c 35)) (hc : c[2]? = some (.int .u64 lo)) (R : Value → World → Prop) (hR : ∀ u w', AnsS w0 u w' → R u w') :
    loopP [(.slice none 0 0), (.int .i64 0)] w (fun vs w_3 again => m42_2 R again vs (.pointer (some ⟨b1, 0, none⟩)) w_3) := by
  refine loopP_of (fun vs w' => ∃ (i : Nat) (out : Value) (strs : List ByteArray) (B : List Nat), vs = [out, .int .i64 i] ∧ i ≤ 4 ∧ strs.length = i ∧ OwnS w' out 9 1 strs.length (strs.map stV) B ∧ (∀ s ∈ strs, s.size ≤ 65) ∧ (∀ k ∈ B, w.heap.size ≤ k) ∧ Keep [] w w') (mu1 4)
    ⟨0, _, [], [], rfl, by omega, rfl, OwnS.nil _ _ _, by simp, by simp, Keep.refl _ _⟩ ?_
  rintro vs w' ⟨i, out, strs, B, rfl, hi, hl, ho, hs, hB, k⟩
  have ga := k.get ga (by simp)
  unfold m42_2
  simp only [List.getD_cons_zero, List.getD_cons_succ, pBin_int, binI]
  refine condF_of (fun h => ?_) (fun h => ?_)
  · have hi' : i < 4 := by have : ((i : Int) < 4) := of_decide_eq_true h
                           omega
    have e1 : IntKind.i64.wrap (8 * (i : Int)) = ((8 * i : Nat) : Int) := by rw [wrap_in_i64 (by omega) (by omega)]; omega
    have e2 : IntKind.i64.wrap (24 - ((8 * i : Nat) : Int)) = ((24 - 8 * i : Nat) : Int) := by rw [wrap_in_i64 (by omega) (by omega)]; omega
    simp only [pFld_eq, pBin_int, binI, Nat.zero_add, ld1_eq ga, hc, e1, e2, pShift, shI, pConv_int]
    refine ⟨by omega, ?_⟩
    have hr := i64_range (IntKind.u64.wrap ((BitVec.ofInt IntKind.u64.bits (lo.fdiv (2 ^ (min (((24 - 8 * i : Nat) : Int)).toNat IntKind.u64.bits))) &&& BitVec.ofInt IntKind.u64.bits 255).toNat : Int))
    refine call_of (k49 _ hr.1 hr.2 w' ((hT.keep kw).keep k)) fun v2 w2 ⟨s, e2, hs2, k2⟩ => ?_
    subst e2
    unfold m42_1
    simp only [List.getD_cons_zero, List.getD_cons_succ, pBin_int, binI]
    refine push_str (ho.keep k2 (by simp)) (by omega) (k.trans k2 (by simp)) hB fun out' w4 B' ho' k4 hB' => ?_
    refine ⟨⟨i + 1, out', strs ++ [s], B', by rw [wrap_succ (n := 4) hi' (by omega)], hi', by simp [hl], ho', ?_, hB', k4⟩, ?_⟩
    · intro x hx
      rcases List.mem_append.1 hx with h | h
      · exact hs x h
      · simp only [List.mem_singleton] at h; subst h; exact hs2
    · rw [wrap_succ (n := 4) hi' (by omega), mu1_eq, mu1_eq]; omega
  · have hi' : i = 4 := by have : ¬ ((i : Int) < 4) := of_decide_eq_false h
                           omega
    subst hi'
    refine call_of (k50 strs out 46 B w' ho (by omega) hs) fun v2 w2 ⟨s, e2, h2, h3, k2⟩ => ?_
    subst e2
    exact hR _ _ ⟨s, rfl, textSome (by omega), kw.trans (k.trans k2 (by simp)) (by simp)⟩

/-- an address of the sixth version -/
theorem v6 (w0 w : World) (ys : List Int) (hT : Tab w0) (kw : Keep [] w0 w) (hl : ys.length = 8) (hy : ∀ y ∈ ys, 0 ≤ y ∧ y < 65536) (R : Value → World → Prop) (hR : ∀ u w', AnsS w0 u w' → R u w') : m42_6 R (.agg (ys.map u16V).toArray) w := by
  unfold m42_6
  refine eBox_of fun b w1 hb k1 g1 => ?_
  refine eStAll_of (vs := ys.map u16V) (by rw [sz90]; simp [hl]) g1 (by simp [Value.cells, hl]) (by simp [u16V, Value.oneCell']) fun w2 k2 g2 => ?_
  have k2 : Keep [] w w2 := k1.trans k2 (fun k hk hm => by simp only [List.mem_singleton] at hm; omega)
  have kw := kw.trans k2 (by simp)
  refine loopP_of (fun vs w' => ∃ (at_ n : Int) (i : Nat), vs = [.int .i64 at_, .int .i64 n, .int .i64 i] ∧ -1 ≤ at_ ∧ 0 ≤ n ∧ at_ + n ≤ 8 ∧ i ≤ 8 ∧ w' = w2) (fun vs _ => match vs with | [_, _, .int _ i] => 8 - i.toNat | _ => 0)
    ⟨-1, 1, 0, rfl, by decide, by decide, by decide, by omega, rfl⟩ ?_
  rintro vs w3 ⟨at_, n, i, rfl, a0, n0, an, hi, rfl⟩
  unfold m42_5
  simp only [List.getD_cons_zero, List.getD_cons_succ, pBin_int, binI]
  refine condF_of (fun h => ?_) (fun h => ?_)
  · have hi' : i < 8 := by have : ((i : Int) < 8) := of_decide_eq_true h
                           omega
    refine joinP_of (fun vs w' => ∃ (at_ n : Int), vs = [.int .i64 at_, .int .i64 n] ∧ -1 ≤ at_ ∧ 0 ≤ n ∧ at_ + n ≤ 8 ∧ w' = w3) ?_ ?_
    · refine loopP_of (fun vs w' => ∃ m : Nat, vs = [.int .i64 m] ∧ i + m ≤ 8 ∧ w' = w3) (mu0 8) ⟨0, rfl, by omega, rfl⟩ ?_
      rintro vs w' ⟨m, rfl, hm, rfl⟩
      refine joinP_of (fun vs w'' => (∃ c : Bool, vs = [.bool c] ∧ (c = true → i + m < 8)) ∧ w'' = w') ?_ ?_
      · unfold m42_3
        have e1 : IntKind.i64.wrap ((i : Int) + (m : Int)) = ((i + m : Nat) : Int) := by rw [wrap_in_i64 (by omega) (by omega)]; omega
        simp only [List.getD_cons_zero, List.getD_cons_succ, pBin_int, binI, e1]
        refine condF_of (fun h => ?_) (fun h => ⟨⟨false, rfl, fun h => by cases h⟩, trivial⟩)
        have hlt : i + m < 8 := by have : (((i + m : Nat) : Int) < 8) := of_decide_eq_true h
                                   omega
        refine ⟨by omega, by omega, ?_⟩
        rw [add_none]
        have hlt2 : i + m < ys.length := by omega
        have ei : (((i + m : Nat) : Int)).toNat = i + m := Int.toNat_natCast _
        refine ld1_of (u := u16V ys[i + m]) g2 (by rw [ei, Nat.zero_add, Nat.mul_one]; simp [hlt2]) ?_
        unfold u16V
        simp only [pBin_int, binI]
        exact ⟨⟨_, rfl, fun _ => hlt⟩, trivial⟩
      · rintro _ w'' ⟨⟨c, rfl, hc⟩, rfl⟩
        unfold m42_4
        simp only [List.getD_cons_zero, List.getD_cons_succ, pBin_int, binI]
        refine condF_of (fun h => ?_) (fun h => ?_)
        · have := hc h
          refine ⟨⟨m + 1, by rw [wrap_succ (n := 8) (by omega) (by omega)], by omega, trivial⟩, ?_⟩
          rw [wrap_succ (n := 8) (by omega) (by omega), mu0_eq, mu0_eq]; omega
        · exact condF_of (fun _ => ⟨i, m, rfl, by omega, by omega, by omega, trivial⟩) (fun _ => ⟨at_, n, rfl, a0, n0, an, trivial⟩)
    · rintro _ w' ⟨at2, n2, rfl, b0, m0, bm, rfl⟩
      simp only [List.getD_cons_zero, List.getD_cons_succ]
      refine ⟨⟨at2, n2, i + 1, by rw [wrap_succ (n := 8) hi' (by omega)], b0, m0, bm, hi', trivial⟩, ?_⟩
      rw [wrap_succ (n := 8) hi' (by omega)]
      simp only [Int.toNat_natCast]
      omega
  · have whole : SlOf w3 (.slice (some ⟨b, 0, none⟩) 8 8) 1 u16C ys := by
      have := cut_rd (lo := 0) (n := 8) (cap := 8) g2 (by omega)
      rwa [List.drop_zero, List.take_of_length_le (by omega)] at this
    refine condF_of (fun hneg => ?_) (fun hpos => ?_)
    · simp only [pCutArr, bndO, if_neg (show ¬ (8 = 0) by decide), add_none, Nat.zero_mul, Nat.zero_add, Nat.sub_zero]
      refine callV_of fn52 (k52 ys _ w3 (hT.keep kw) whole (by omega) hy) fun v2 w4 ⟨s, e2, h2, h3, k2⟩ => ?_
      subst e2
      exact hR _ _ ⟨s, rfl, textSome (by omega), kw.trans k2 (by simp)⟩
    · have hat : 0 ≤ at_ := by have : ¬ (at_ < 0) := of_decide_eq_false hpos
                               omega
      obtain ⟨p, rfl⟩ : ∃ p : Nat, at_ = p := ⟨at_.toNat, by omega⟩
      obtain ⟨q, rfl⟩ : ∃ q : Nat, n = q := ⟨n.toNat, by omega⟩
      have e1 : IntKind.i64.wrap ((p : Int) + (q : Int)) = ((p + q : Nat) : Int) := by rw [wrap_in_i64 (by omega) (by omega)]; omega
      simp only [pCutArr, bndO, bnd, e1, if_neg (show ¬ (8 = 0) by decide), add_none, Nat.zero_add, Nat.sub_zero, Int.toNat_natCast, Nat.mul_one]
      refine ⟨by omega, by omega, by omega, by omega, ?_⟩
      have s1 : SlOf w3 (.slice (some ⟨b, 0, none⟩) p 8) 1 u16C ((ys.drop 0).take p) := cut_rd g2 (by omega)
      have hd : w3.drew.heap = w3.heap := rfl
      refine callV_of fn52 (k52 _ _ w3.drew ((hT.keep kw).keep (Keep.refl _ _).drew) s1 (by simp; omega) (fun y hy' => hy y (List.mem_of_mem_drop (List.mem_of_mem_take hy')))) fun v2 w4 ⟨s, e2, h2, h3, k2⟩ => ?_
      subst e2
      have k2 : Keep [] w3 w4 := Keep.of_drew k2
      rw [pBin_str]
      refine ⟨?_, ?_⟩
      · show ((s.size + 2 : Nat) : Int) ≤ 9223372036854775807
        omega
      have g4 := k2.get g2 (by simp)
      have s2 : SlOf w4 (.slice (some (if 8 = p + q then (⟨b, 0, none⟩ : Addr) else ⟨b, p + q, none⟩)) (8 - (p + q)) (8 - (p + q))) 1 u16C ((ys.drop (p + q)).take (8 - (p + q))) := by
        by_cases h8 : 8 = p + q
        · have : ((ys.drop (p + q)).take (8 - (p + q))) = [] := by rw [← h8]; simp
          rw [this, if_pos h8, ← h8]
          exact SlOf.nil _ _ _ _ _
        · rw [if_neg h8]
          exact cut_rd g4 (by omega)
      refine callV_of fn52 (k52 _ _ w4 ((hT.keep kw).keep k2) s2 (by simp; omega) (fun y hy' => hy y (List.mem_of_mem_drop (List.mem_of_mem_take hy')))) fun v5 w5 ⟨s5, e5, h5, h6, k5⟩ => ?_
      subst e5
      rw [pBin_str]
      refine ⟨?_, ?_⟩
      · show (((s ++ { data := #[58, 58] }).size + s5.size : Nat) : Int) ≤ 9223372036854775807
        rw [ByteArray.size_append]
        show ((s.size + 2 + s5.size : Nat) : Int) ≤ 9223372036854775807
        omega
      · refine hR _ _ ⟨_, rfl, textSome ?_, kw.trans (k2.trans k5 (by simp)) (by simp)⟩
        rw [ByteArray.size_append, ByteArray.size_append]
        show 0 < s.size + 2 + s5.size
        omega

theorem textOk {w0 : World} (hT : Tab w0) : TextOk w0 := by
  intro a w ha k0
  refine c42 _ _ _ ?_
  unfold m42
  refine eBox_of fun b1 w1 hb1 k1 g1 => ?_
  refine ldN_all g1 rfl ?_
  refine call_of (k48 a ha.1 w1) fun v2 w2 ⟨e2, k2⟩ => ?_
  subst e2
  have kk := k1.trans k2 (by simp)
  have g2 := k2.get g1 (by simp)
  simp only [adV, Value.cells] at g2
  unfold m42_7
  simp only [pNot_bool]
  refine condF_of (fun h => ?_) (fun h => ?_)
  · refine ⟨_, rfl, ?_, kk⟩
    rw [h]
    unfold ByteArray.toList ByteArray.toList.loop
    rfl
  · have hm : (!mayA a) = false := h
    simp only [pFld_eq, condF_bool, pNot_bool, List.getElem?_toArray, List.getElem?_cons_zero, Nat.add_zero, ld1_eq g2]
    have fin : ∀ u w', AnsS w u w' → ∃ s : ByteArray, u = .string s ∧ (s.toList == []) = (!mayA a) ∧ Keep [] w w' := fun u w' ⟨s, e, h1, h2⟩ => ⟨s, e, by rw [h1, hm], h2⟩
    have hT1 : Tab w := hT.keep k0
    refine ⟨fun _ => ?_, fun _ => ?_⟩
    · exact v4 w w2 b1 _ a.lo hT1 kk g2 rfl _ fin
    · simp only [Nat.zero_add, Nat.reduceAdd, List.drop_zero, List.take_succ_cons, List.take_zero, List.length_cons, List.length_nil, Nat.reduceLeDiff, ite_true, ldN_eq g2]
      refine call_of (k51 a w2) fun v3 w3 ⟨ys, e3, hl, hy, k3⟩ => ?_
      subst e3
      exact v6 w w3 ys hT1 (kk.trans k3 (by simp)) hl hy _ fin
end Go.Proofs.YtlfeckimhaegbaaDoor
