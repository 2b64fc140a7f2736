/- FilterAnswers, FilterApart: the plain data, and what the smallest functions compute. -/
import Derived.Test.YtlfeckimhaegbaaDoorM0
import Derived.Test.YtlfeckimhaegbaaDoorEng11
namespace Go.Proofs.YtlfeckimhaegbaaDoor
open Go Eng
set_option maxRecDepth 20000

structure Ad where
  v6 : Bool
  hi : Int
  lo : Int
structure Fl where
  proto : Int
  src : Ad
  dst : Ad
  fr : Int
  to : Int
structure Hd where
  flow : Fl
  flags : Int
  kind : Int
  code : Int
  size : Int
structure Sp where
  lo : Ad
  hi : Ad
structure Po where
  fr : Int
  to : Int
structure Ru where
  protos : List Int
  src : List Sp
  dst : List Sp
  ports : List Po

def adC (a : Ad) : List Value := [.bool a.v6, .int .u64 a.hi, .int .u64 a.lo]
def adV (a : Ad) : Value := .agg #[.bool a.v6, .int .u64 a.hi, .int .u64 a.lo]
def flC (f : Fl) : List Value := [.int .u8 f.proto, .bool f.src.v6, .int .u64 f.src.hi, .int .u64 f.src.lo, .bool f.dst.v6, .int .u64 f.dst.hi, .int .u64 f.dst.lo, .int .u16 f.fr, .int .u16 f.to]
def flV (f : Fl) : Value := .agg (flC f).toArray
def hdC (h : Hd) : List Value := flC h.flow ++ [.int .u8 h.flags, .int .u8 h.kind, .int .u8 h.code, .int .i64 h.size]
def hdV (h : Hd) : Value := .agg (hdC h).toArray
def spC (s : Sp) : List Value := adC s.lo ++ adC s.hi
def spV (s : Sp) : Value := .agg (spC s).toArray
def poC (p : Po) : List Value := [.int .u16 p.fr, .int .u16 p.to]
def poV (p : Po) : Value := .agg (poC p).toArray
def u8C (x : Int) : List Value := [.int .u8 x]

/-! ### addresses -/
def mayA (a : Ad) : Bool := a.v6 || (a.hi == 0 && decide (a.lo < 4294967296))
def lessA (a b : Ad) : Bool := if a.v6 != b.v6 then b.v6 else decide (a.hi < b.hi) || (a.hi == b.hi && decide (a.lo < b.lo))
def maySp (s : Sp) : Bool := mayA s.lo && mayA s.hi && (s.lo.v6 == s.hi.v6) && !lessA s.hi s.lo
def wfA (a : Ad) : Prop := 0 ≤ a.hi ∧ 0 ≤ a.lo

/-- a call that answers v and leaves what was there -/
abbrev Ans (v : Value) (w : World) : Value → World → Prop := fun u w' => u = v ∧ Keep [] w w'

theorem sz37 (f : Fl) : sizeP Tryd.prog 37 = some (flC f).length := by kernel_rfl
theorem sz35 (a : Ad) : sizeP Tryd.prog 35 = some (adC a).length := by kernel_rfl
theorem fl_one (f : Fl) : ∀ v ∈ flC f, v.oneCell' = true := by simp [flC, Value.oneCell']
theorem ad_one (a : Ad) : ∀ v ∈ adC a, v.oneCell' = true := by simp [adC, Value.oneCell']

theorem k30 (a : Ad) (w : World) : Calls Tryd.prog 30 #[adV a] w fun e w' => ∃ v, e = .returned v ∧ Ans (.bool (mayA a)) w v w' := by
  refine c30 _ _ _ ?_
  unfold m30
  refine eBox_of fun b w1 _ k1 g1 => ?_
  refine joinP_of (fun vs w' => vs = [.bool (mayA a)] ∧ Keep [] w w') ?_ ?_
  · obtain ⟨v6, hi, lo⟩ := a
    unfold m30_1
    simp only [adV, Value.cells] at g1
    simp only [pFld_eq, condF_bool, pBin_int, binI, List.getElem?_toArray, List.getElem?_cons_succ, List.getElem?_cons_zero, Nat.zero_add, Nat.add_zero, ld1_eq g1]
    refine ⟨fun h => ?_, fun h => ⟨fun h2 => ?_, fun h2 => ?_⟩⟩ <;> subst h <;> simp_all [mayA]
  · rintro vs w' ⟨rfl, hk⟩
    exact ⟨rfl, hk⟩

theorem k31 (a c : Ad) (w : World) : Calls Tryd.prog 31 #[adV a, adV c] w fun e w' => ∃ v, e = .returned v ∧ Ans (.bool (lessA a c)) w v w' := by
  refine c31 _ _ _ _ ?_
  unfold m31
  refine eBox_of fun b w1 _ k1 g1 => ?_
  refine eBox_of fun b2 w2 _ k2 g2 => ?_
  have g1 := k2.get g1 (by simp)
  have k2 := k1.trans k2 (fun _ _ h => h)
  obtain ⟨v6, hi, lo⟩ := a
  obtain ⟨v6', hi', lo'⟩ := c
  simp only [adV, Value.cells] at g1 g2
  simp only [pFld_eq, condF_bool, pBoolEq_bool, List.getElem?_toArray, List.getElem?_cons_zero, Nat.add_zero, ld1_eq g1, ld1_eq g2]
  refine ⟨fun h => ⟨by simp_all [lessA], k2⟩, fun h => ?_⟩
  refine joinP_of (fun vs w' => vs = [.bool (lessA ⟨v6, hi, lo⟩ ⟨v6', hi', lo'⟩)] ∧ Keep [] w w') ?_ ?_
  · unfold m31_1
    simp only [pFld_eq, condF_bool, pBin_int, binI, List.getElem?_toArray, List.getElem?_cons_succ, List.getElem?_cons_zero, Nat.zero_add, ld1_eq g1, ld1_eq g2]
    refine ⟨fun h1 => ?_, fun h1 => ⟨fun h2 => ?_, fun h2 => ?_⟩⟩ <;> simp_all [lessA]
  · rintro vs w' ⟨rfl, hk⟩
    exact ⟨rfl, hk⟩

theorem k29 (s : Sp) (w : World) : Calls Tryd.prog 29 #[spV s] w fun e w' => ∃ v, e = .returned v ∧ Ans (.bool (maySp s)) w v w' := by
  refine c29 _ _ _ ?_
  unfold m29
  refine eBox_of fun b w1 _ k1 g1 => ?_
  simp only [spV, spC, adC, Value.cells, List.cons_append, List.nil_append] at g1
  refine joinP_of (fun vs w' => vs = [.bool (maySp s)] ∧ Keep [] w w') ?_ ?_
  · unfold m29_2
    simp only [pFld_eq, Nat.zero_add, Nat.add_zero, Nat.reduceAdd, List.drop_zero, List.take_succ_cons, List.take_zero, List.length_cons, List.length_nil, Nat.reduceLeDiff, ite_true, ldN_eq g1]
    refine call_of (k30 s.lo _) fun v w2 ⟨hv, k2⟩ => ?_
    subst hv
    have g2 := k2.get g1 (by simp)
    have k2 := k1.trans k2 (fun _ _ h => h)
    simp only [condF_bool, Nat.zero_add, Nat.reduceAdd, List.drop_succ_cons, List.drop_zero, List.take_succ_cons, List.take_zero, List.length_cons, List.length_nil, Nat.reduceLeDiff, ite_true, ldN_eq g2]
    refine ⟨fun h => ?_, fun h => by simp [maySp, h, k2]⟩
    refine call_of (k30 s.hi _) fun v w3 ⟨hv, k3⟩ => ?_
    subst hv
    have g3 := k3.get g2 (by simp)
    have k3 := k2.trans k3 (fun _ _ h => h)
    unfold m29_1
    simp only [pFld_eq, condF_bool, pBoolEq_bool, List.getElem?_toArray, List.getElem?_cons_succ, List.getElem?_cons_zero, Nat.zero_add, Nat.add_zero, Nat.reduceAdd, List.drop_succ_cons, List.drop_zero, List.take_succ_cons, List.take_zero, List.length_cons, List.length_nil, Nat.reduceLeDiff, ite_true, ldN_eq g3, ld1_eq g3]
    refine ⟨fun h2 => ⟨fun h3 => ?_, fun h3 => by simp_all [maySp]⟩, fun h2 => by simp [maySp, h2, k3]⟩
    refine call_of (k31 s.hi s.lo _) fun v w4 ⟨hv, k4⟩ => ?_
    subst hv
    have k4 := k3.trans k4 (fun _ _ h => h)
    simp only [pNot_bool]
    exact ⟨by simp_all [maySp], k4⟩
  · rintro vs w' ⟨rfl, hk⟩
    exact ⟨rfl, hk⟩

/-! the program's own -/
theorem shr32 (x : Int) (h0 : 0 ≤ x) : (x.fdiv (2 ^ 32) == 0) = decide (x < 4294967296) := by
  have h1 : x.fdiv (2 ^ 32) = x / 4294967296 := by rw [Int.fdiv_eq_ediv_of_nonneg _ (by decide)]; rfl
  rw [h1, Bool.eq_iff_iff]
  simp
  omega

theorem k48 (a : Ad) (ha : wfA a) (w : World) : Calls Tryd.prog 48 #[adV a] w fun e w' => ∃ v, e = .returned v ∧ Ans (.bool (mayA a)) w v w' := by
  refine c48 _ _ _ ?_
  unfold m48
  refine eBox_of fun b w1 _ k1 g1 => ?_
  refine joinP_of (fun vs w' => vs = [.bool (mayA a)] ∧ Keep [] w w') ?_ ?_
  · obtain ⟨v6, hi, lo⟩ := a
    unfold m48_1
    simp only [adV, Value.cells] at g1
    have hs : pShift .shr (.int .u64 lo) (.int .u64 32) = fun K => K (.int .u64 (lo.fdiv (2 ^ 32))) := by funext K; simp [pShift, shI, IntKind.bits]
    simp only [pFld_eq, condF_bool, pBin_int, binI, List.getElem?_toArray, List.getElem?_cons_succ, List.getElem?_cons_zero, Nat.zero_add, Nat.add_zero, ld1_eq g1, hs]
    refine ⟨fun h => ?_, fun h => ⟨fun h2 => ?_, fun h2 => ?_⟩⟩
    · simp_all [mayA]
    · have := shr32 lo ha.2
      simp only [this]
      simp_all [mayA]
    · simp_all [mayA]
  · rintro vs w' ⟨rfl, hk⟩
    exact ⟨rfl, hk⟩

theorem k44 (a c : Ad) (w : World) : Calls Tryd.prog 44 #[adV a, adV c] w fun e w' => ∃ v, e = .returned v ∧ Ans (.bool (lessA a c)) w v w' := by
  refine c44 _ _ _ _ ?_
  unfold m44
  refine eBox_of fun b w1 _ k1 g1 => ?_
  refine eBox_of fun b2 w2 _ k2 g2 => ?_
  have g1 := k2.get g1 (by simp)
  have k2 := k1.trans k2 (fun _ _ h => h)
  obtain ⟨v6, hi, lo⟩ := a
  obtain ⟨v6', hi', lo'⟩ := c
  simp only [adV, Value.cells] at g1 g2
  simp only [pFld_eq, condF_bool, pBin_int, binI, pBoolEq_bool, List.getElem?_toArray, List.getElem?_cons_succ, List.getElem?_cons_zero, Nat.zero_add, Nat.add_zero, ld1_eq g1, ld1_eq g2]
  refine ⟨fun h => ⟨by simp_all [lessA], k2⟩, fun h => ⟨fun h1 => ⟨?_, k2⟩, fun h1 => ⟨?_, k2⟩⟩⟩ <;> simp_all [lessA]

def cmpA (a c : Ad) : Int := if lessA a c then -1 else if lessA c a then 1 else 0
theorem k37 (a c : Ad) (w : World) : Calls Tryd.prog 37 #[adV a, adV c] w fun e w' => ∃ v, e = .returned v ∧ Ans (.int .i64 (cmpA a c)) w v w' := by
  refine c37 _ _ _ _ ?_
  unfold m37
  refine eBox_of fun b w1 _ k1 g1 => ?_
  refine eBox_of fun b2 w2 _ k2 g2 => ?_
  have g1 := k2.get g1 (by simp)
  have k2 := k1.trans k2 (fun _ _ h => h)
  refine ldN_all g1 rfl (ldN_all g2 rfl ?_)
  refine call_of (k44 a c _) fun v w3 ⟨hv, k3⟩ => ?_
  subst hv
  have g1 := k3.get g1 (by simp)
  have g2 := k3.get g2 (by simp)
  have k3 := k2.trans k3 (fun _ _ h => h)
  refine condF_of (fun h => ⟨by simp [cmpA, h], k3⟩) (fun h => ?_)
  refine ldN_all g2 rfl (ldN_all g1 rfl ?_)
  refine call_of (k44 c a _) fun v w4 ⟨hv, k4⟩ => ?_
  subst hv
  have k4 := k3.trans k4 (fun _ _ h => h)
  exact condF_of (fun h1 => ⟨by simp [cmpA, h, h1], k4⟩) (fun h1 => ⟨by simp [cmpA, h, h1], k4⟩)

def revF (f : Fl) : Fl := ⟨f.proto, f.dst, f.src, f.to, f.fr⟩
theorem k11 (f : Fl) (w : World) : Calls Tryd.prog 11 #[flV f] w fun e w' => ∃ v, e = .returned v ∧ Ans (flV (revF f)) w v w' := by
  refine c11 _ _ _ ?_
  unfold m11
  refine eBox_of fun b w1 _ k1 g1 => ?_
  refine eBox_of fun b2 w2 _ k2 g2 => ?_
  have g1 := k2.get g1 (by simp)
  have k2 := k1.trans k2 (fun _ _ h => h)
  simp only [flV, flC, Value.cells] at g1 g2
  simp only [pFld_eq, List.getElem?_toArray, List.getElem?_cons_succ, List.getElem?_cons_zero, Nat.zero_add, Nat.add_zero, Nat.reduceAdd, List.drop_succ_cons, List.drop_zero, List.take_succ_cons, List.take_zero, List.length_cons, List.length_nil, Nat.reduceLeDiff, ite_true, ld1_eq g1, ldN_eq g1]
  refine @pBuild_of _ _ _ (flC (revF f)).toArray _ ?_ ?_
  · kernel_rfl
  refine eStAll_of (vs := flC (revF f)) (sz37 _) g2 (by simp [flC]) (fl_one _) fun w3 k3 g3 => ?_
  refine ldN_all g3 rfl ?_
  exact ⟨rfl, k2.trans k3 (fun k hk hm => by have := k1.size; simp only [List.mem_singleton] at hm; omega)⟩

theorem k19 (f : Fl) (w : World) : Calls Tryd.prog 19 #[flV f] w fun e w' => ∃ v, e = .returned v ∧ Ans (flV (revF f)) w v w' := by
  refine c19 _ _ _ ?_
  unfold m19
  refine eBox_of fun b w1 hb1 k1 g1 => ?_
  refine eBox_of fun b2 w2 hb2 k2 g2 => ?_
  have hne : b2 ≠ b := by have := lt_of_get g1; omega
  have g1 := k2.get g1 (by simp)
  have k2 := k1.trans k2 (fun _ _ h => h)
  have old : ∀ k, k < w.heap.size → k ∈ [b] → k ∈ ([] : List Nat) := fun k hk hm => by simp only [List.mem_singleton] at hm; omega
  have old2 : ∀ k, k < w.heap.size → k ∈ [b2] → k ∈ ([] : List Nat) := fun k hk hm => by have := k1.size; simp only [List.mem_singleton] at hm; omega
  simp only [flV, flC, Value.cells] at g1 g2
  simp only [pFld_eq, Nat.zero_add, Nat.reduceAdd, List.drop_succ_cons, List.drop_zero, List.take_succ_cons, List.take_zero, List.length_cons, List.length_nil, Nat.reduceLeDiff, ite_true, ldN_eq g1]
  refine eStN_of (vs := adC f.dst) (sz35 _) g1 (by simp [adC]) (by simp) (ad_one _) fun w3 k3 g3 => ?_
  have g2 := k3.get g2 (by simpa using hne)
  have k3 := k2.trans k3 old
  simp only [adC, setRow, Nat.zero_add, Nat.reduceAdd, List.drop_succ_cons, List.drop_zero, List.take_succ_cons, List.take_zero, List.length_cons, List.length_nil, List.cons_append, List.nil_append] at g3
  refine eStN_of (vs := adC f.src) (sz35 _) g3 (by simp [adC]) (by simp) (ad_one _) fun w4 k4 g4 => ?_
  have g2 := k4.get g2 (by simpa using hne)
  have k4 := k3.trans k4 old
  simp only [adC, setRow, Nat.zero_add, Nat.reduceAdd, List.drop_succ_cons, List.drop_zero, List.take_succ_cons, List.take_zero, List.length_cons, List.length_nil, List.cons_append, List.nil_append] at g4
  simp only [ld1_eq g4, List.getElem?_toArray, List.getElem?_cons_succ, List.getElem?_cons_zero]
  refine eSt1_of g4 (by simp) rfl (by simp) fun w5 k5 g5 => ?_
  have g2 := k5.get g2 (by simpa using hne)
  have k5 := k4.trans k5 old
  refine eSt1_of g5 (by simp) rfl (by simp) fun w6 k6 g6 => ?_
  have g2 := k6.get g2 (by simpa using hne)
  have k6 := k5.trans k6 old
  refine ldN_of' (cs := (flC (revF f)).toArray) g6 (by simp) rfl ?_
  refine eStAll_of (vs := flC (revF f)) (sz37 _) g2 (by simp [flC]) (fl_one _) fun w7 k7 g7 => ?_
  exact ldN_all g7 rfl ⟨rfl, k6.trans k7 old2⟩
end Go.Proofs.YtlfeckimhaegbaaDoor
