/- FilterAnswers, FilterApart: the script in memory; heavy; fresh. -/
import Derived.Test.YtlfeckimhaegbaaDoorFil13
namespace Go.Proofs.YtlfeckimhaegbaaDoor
open Go Eng
set_option maxRecDepth 20000

structure Sx where
  op : Int
  h : Hd
  now : Int
  rv : Value
def sxC (x : Sx) : List Value := [.int .i64 x.op] ++ hdC x.h ++ [.int .u64 x.now, x.rv]
theorem sxC_len (x : Sx) : (sxC x).length = 16 := rfl
structure Sc where
  op : Int
  h : Hd
  now : Int
  rules : List Ru
structure StepAt (w : World) (x : Sx) (s : Sc) (S : List Nat) : Prop where
  op : x.op = s.op
  h : x.h = s.h
  now : x.now = s.now
  rules : RulesAt w x.rv s.rules S
  ok : HdOk s.h
  n0 : 0 ≤ s.now
def StepsAt (w : World) (v : Value) (ss : List Sc) (S : List Nat) : Prop :=
  ∃ xs : List Sx, xs.length = ss.length ∧ SlOf w v 16 sxC xs ∧ (∀ k ∈ blk v, k ∈ S) ∧ ss.length < 1048576 ∧ ∀ i (h : i < xs.length) (h' : i < ss.length), StepAt w xs[i] ss[i] S
theorem StepsAt.keep {w w' : World} {v : Value} {ss : List Sc} {S : List Nat} (h : StepsAt w v ss S) {M : List Nat} (k : Keep M w w') (hd : ∀ b ∈ S, b ∉ M) : StepsAt w' v ss S := by
  obtain ⟨xs, hl, hs, hb, hn, hr⟩ := h
  exact ⟨xs, hl, hs.keepB k fun b h => hd b (hb b h), hb, hn, fun i h h' => let q := hr i h h'; ⟨q.op, q.h, q.now, q.rules.keep k hd, q.ok, q.n0⟩⟩
theorem StepsAt.keep0 {w w' : World} {v : Value} {ss : List Sc} {S : List Nat} (h : StepsAt w v ss S) (k : Keep [] w w') : StepsAt w' v ss S := h.keep k (by simp)
theorem StepsAt.len {w : World} {v : Value} {ss : List Sc} {S : List Nat} (h : StepsAt w v ss S) (K : Value → Prop) : pLenT 2 v K = K (.int .i64 ss.length) := by
  obtain ⟨xs, hl, hs, _⟩ := h
  obtain ⟨a, c, rfl⟩ := hs.slice
  rw [pLenT_sl, hl]
theorem StepsAt.lt {w : World} {v : Value} {ss : List Sc} {S : List Nat} (h : StepsAt w v ss S) : ss.length < 1048576 := by
  obtain ⟨xs, hl, hs, hb, hn, hr⟩ := h
  exact hn
theorem StepsAt.el {w : World} {v : Value} {ss : List Sc} {S : List Nat} (h : StepsAt w v ss S) {k : IntKind} {i : Nat} (h1 : i < ss.length)
    {K : Value → Prop} (hk : ∀ rv b off, b ∈ S → ElAt w b off (sxC ⟨ss[i].op, ss[i].h, ss[i].now, rv⟩) → RulesAt w rv ss[i].rules S → HdOk ss[i].h → 0 ≤ ss[i].now → K (.pointer (some ⟨b, off, none⟩))) : pIxS 16 v (.int k i) K := by
  obtain ⟨xs, hl, hs, hb, hn, hr⟩ := h
  refine hs.el sxC_len (i := i) (by omega) fun b off hb' el => ?_
  obtain ⟨e1, e2, e3, e4, e5, e6⟩ := hr i (by omega) h1
  refine hk xs[i].rv b off (hb b hb') ?_ e4 e5 e6
  rw [← e1, ← e2, ← e3]
  exact el
theorem StepsAt.rok {w : World} {v : Value} {ss : List Sc} {S : List Nat} (h : StepsAt w v ss S) : ∀ s ∈ ss, s.rules.length < 1048576 ∧ ∀ r ∈ s.rules, RuOk r := by
  obtain ⟨xs, hl, hs, hb, hn, hr⟩ := h
  intro r hmem
  obtain ⟨i, hi, rfl⟩ := List.getElem_of_mem hmem
  exact ⟨(hr i (by omega) hi).rules.lt, (hr i (by omega) hi).rules.ok⟩

def heavyB (rs : List Ru) (ss : List Sc) : Bool := decide (600 < sizeN rs + ((ss.take 300).map fun s => sizeN s.rules).sum) || decide (200 < ss.length)
theorem size_small {rs : List Ru} (h : rs.length < 1048576) (hok : ∀ r ∈ rs, RuOk r) : sizeN rs < 1000000000 := by
  have h1 := sum_small (l := rs.take 100) fun r hr => ru_small (hok r (List.mem_of_mem_take hr))
  have h2 : (rs.take 100).length ≤ 100 := by simp; omega
  have h3 := Nat.mul_le_mul_right 4194304 h2
  unfold sizeN
  omega
theorem sum_bound {γ : Type} (f : γ → Nat) (B : Nat) : ∀ (l : List γ), (∀ x ∈ l, f x ≤ B) → (l.map f).sum ≤ l.length * B
  | [], _ => by simp
  | x :: l, h => by
    have h1 := h x (by simp)
    have h2 := sum_bound f B l fun y hy => h y (by simp [hy])
    rw [List.map_cons, List.sum_cons, List.length_cons, Nat.add_mul]
    omega

theorem k5 (rs : List Ru) (ss : List Sc) (v u : Value) (S : List Nat) (w : World) (hv : RulesAt w v rs S) (hu : StepsAt w u ss S) :
    Calls Tryd.prog 5 #[v, u] w fun e w' => ∃ x, e = .returned x ∧ Ans (.bool (heavyB rs ss)) w x w' := by
  refine c5 _ _ _ _ ?_
  unfold m5
  have hz0 := size_small hv.lt hv.ok
  have hrok := hu.rok
  have hsl := hu.lt
  refine call_of (k16 rs v S w hv) fun x w1 ⟨e1, k1⟩ => ?_
  subst e1
  have hu := hu.keep0 k1
  have hsm : ∀ i : Nat, i ≤ 300 → ((ss.take i).map fun s => sizeN s.rules).sum ≤ 300 * 1000000000 := fun i hi => by
    have := sum_bound (fun s : Sc => sizeN s.rules) 1000000000 (ss.take i) fun s hs => by
      have h := hrok s (List.mem_of_mem_take hs)
      exact Nat.le_of_lt (size_small h.1 h.2)
    have h2 : (ss.take i).length ≤ 300 := by simp; omega
    exact Nat.le_trans this (Nat.mul_le_mul_right 1000000000 h2)
  refine loopP_of (fun vs w' => ∃ i : Nat, vs = [.int .i64 ((sizeN rs + ((ss.take i).map fun s => sizeN s.rules).sum : Nat) : Int), .int .i64 i] ∧ i ≤ ss.length ∧ i ≤ 300 ∧ Keep [] w1 w') (mu1 300) ⟨0, by simp, by omega, by omega, Keep.refl _ _⟩ ?_
  rintro vs w' ⟨i, rfl, hi, hi300, k⟩
  have hu := hu.keep0 k
  unfold m5_2
  refine joinP_of (fun vs w'' => vs = [.bool (decide (i < ss.length) && decide (i < 300))] ∧ w'' = w') ?_ ?_
  · simp only [hu.len, List.getD_cons_zero, List.getD_cons_succ, pBin_int, binI]
    refine condF_of (fun h => ?_) (fun h => ?_)
    · have h' : i < ss.length := by simpa using h
      simp [h']
      omega
    · have h' : ¬ i < ss.length := by simpa using h
      simp [h']
  rintro _ w'' ⟨rfl, rfl⟩
  unfold m5_1
  simp only [List.getD_cons_zero, List.getD_cons_succ]
  refine condF_of (fun h => ?_) (fun h => ?_)
  · simp only [Bool.and_eq_true, decide_eq_true_eq] at h
    obtain ⟨h1, h2⟩ := h
    have hs1 := hsm (i + 1) (by omega)
    rw [sum_take_succ (fun s : Sc => sizeN s.rules) h1] at hs1
    refine hu.el h1 fun rv eb off hb el ru hok n0 => ?_
    simp only [sxC, hdC, flC, List.cons_append, List.nil_append] at el
    simp only [pFld_eq, pBin_int, binI, List.getElem?_cons_succ, List.getElem?_cons_zero, Nat.zero_add, Nat.reduceAdd, List.length_cons, List.length_nil, el.ld1, Nat.reduceLT]
    refine call_of (k16 ss[i].rules rv S _ ru) fun x w2 ⟨e2, k2⟩ => ?_
    subst e2
    simp only [pBin_int, binI]
    refine ⟨⟨i + 1, ?_, h1, h2, k.trans k2 (fun _ _ h => h)⟩, ?_⟩
    · rw [wrap_succ h2 (by omega), wrap_in_i64 (by omega) (by omega), sum_take_succ (fun s : Sc => sizeN s.rules) h1]
      simp
      omega
    · rw [wrap_succ h2 (by omega), mu1_eq, mu1_eq]; omega
  · have h3 : ss.take i = ss.take 300 := by
      simp only [Bool.and_eq_false_imp, decide_eq_true_eq, decide_eq_false_iff_not] at h
      by_cases h1 : i < ss.length
      · have : i = 300 := by have := h h1; omega
        rw [this]
      · rw [List.take_of_length_le (by omega), List.take_of_length_le (by omega)]
    rw [h3]
    have hh : heavyB rs ss = (decide (600 < sizeN rs + ((ss.take 300).map fun s => sizeN s.rules).sum) || decide (200 < ss.length)) := rfl
    generalize ((ss.take 300).map fun s => sizeN s.rules).sum = T at hh
    refine joinP_of (fun vs w3 => vs = [.bool (heavyB rs ss)] ∧ w3 = w'') ?_ ?_
    · simp only [pBin_int, binI, hu.len]
      rw [hh]
      refine condF_of (fun h => ?_) (fun h => ?_)
      · have h : ((sizeN rs + T : Nat) : Int) > 600 := of_decide_eq_true h
        have h' : 600 < sizeN rs + T := by omega
        rw [decide_eq_true h', Bool.true_or]
        exact ⟨rfl, trivial⟩
      · have h : ¬ ((sizeN rs + T : Nat) : Int) > 600 := of_decide_eq_false h
        have h' : ¬ 600 < sizeN rs + T := by omega
        rw [decide_eq_false h', Bool.false_or]
        have : decide (((ss.length : Nat) : Int) > 200) = decide (200 < ss.length) := by rw [decide_eq_decide]; omega
        rw [← this]
        exact ⟨rfl, trivial⟩
    · rintro _ w3 ⟨rfl, rfl⟩
      exact ⟨rfl, k1.trans k (fun _ _ h => h)⟩

/-! ### fresh -/
def liC (p : Fl × Int) : List Value := flC p.1 ++ [.int .u64 p.2]
theorem liC_len (p : Fl × Int) : (liC p).length = 10 := rfl
def freshB (L : List (Fl × Int)) (y : Fl) (life now : Int) : Bool := L.any fun p => decide (p.1 = y) && decide (now < p.2 + life + 1)
theorem k10 (L : List (Fl × Int)) (y : Fl) (life now : Int) (lv : Value) (bl bf bn : Nat) (w : World) (gl : w.heap[bl]? = some (.cells #[lv] 33)) (gf : w.heap[bf]? = some (.cells #[.int .u16 life] 23)) (gn : w.heap[bn]? = some (.cells #[.int .u64 now] 32))
    (hl : SlOf w lv 10 liC L) (hn : L.length < 1048576) (l0 : 0 ≤ life) (l1 : life < 65536) (hL : ∀ p ∈ L, 0 ≤ p.2 ∧ p.2 < 4611686018427387904) :
    Calls Tryd.prog 10 #[flV y, .pointer (some ⟨bl, 0, none⟩), .pointer (some ⟨bf, 0, none⟩), .pointer (some ⟨bn, 0, none⟩)] w fun e w' => ∃ u, e = .returned u ∧ Ans (.bool (freshB L y life now)) w u w' := by
  refine c10 _ _ _ _ _ _ ?_
  unfold m10
  refine eBox_of fun b w1 _ k1 g1 => ?_
  obtain ⟨aa, cap, hvv⟩ := hl.slice
  have lv' : ∀ K, pLenT 2 lv K = K (.int .i64 L.length) := fun K => by rw [hvv, pLenT_sl]
  refine loopP_of (fun vs w' => ∃ i : Nat, vs = [.int .i64 i] ∧ i ≤ L.length ∧ Keep [] w1 w' ∧ freshB L y life now = (L.drop i).any fun p => decide (p.1 = y) && decide (now < p.2 + life + 1)) (mu0 L.length)
    ⟨0, rfl, by omega, Keep.refl _ _, by simp [freshB]⟩ ?_
  rintro vs w' ⟨i, rfl, hi, k, he⟩
  have kk := k1.trans k (fun _ _ h => h)
  have hl := hl.keep0 kk
  have gl := kk.get gl (by simp)
  have gf := kk.get gf (by simp)
  have gn := kk.get gn (by simp)
  have g1 : w'.heap[b]? = some (.cells (flC y).toArray 37) := k.get g1 (by simp)
  unfold m10_2
  simp only [condF_bool, pBin_int, binI, List.getElem?_toArray, List.getElem?_cons_zero, List.getD_cons_zero, ld1_eq gl, lv']
  refine ⟨fun h => ?_, fun h => ?_⟩
  · have hi' : i < L.length := by simpa using h
    refine joinP_of (fun vs w'' => vs = [.bool (decide (L[i].1 = y) && decide (now < L[i].2 + life + 1))] ∧ Keep [] w' w'') ?_ ?_
    · have kd : Keep [] w' w'.drew := (Keep.refl _ _).drew
      unfold m10_1
      simp only [ld1_drew, ldN_drew, List.getElem?_toArray, List.getElem?_cons_zero, List.getD_cons_zero, ld1_eq gl]
      refine hl.el liC_len hi' fun eb off hb el => ?_
      simp only [liC, flC, List.cons_append, List.nil_append] at el
      simp only [pFld_eq, Nat.zero_add, Nat.add_zero, Nat.reduceAdd, List.take_succ_cons, List.take_zero, List.length_cons, List.length_nil, Nat.reduceLeDiff, el.ldN0, Nat.reduceLeDiff]
      refine ldN_all g1 rfl ?_
      refine eq37 (a := L[i].1) (b := y) ?_
      refine condF_of (fun h2 => ?_) (fun h2 => ⟨by rw [h2]; rfl, kd⟩)
      refine hl.el liC_len hi' fun eb off hb el => ?_
      simp only [liC, flC, List.cons_append, List.nil_append] at el
      simp only [pFld_eq, pBin_int, binI, List.getElem?_toArray, List.getElem?_cons_succ, List.getElem?_cons_zero, Nat.zero_add, Nat.reduceAdd, List.length_cons, List.length_nil, el.ld1, Nat.reduceLT, ld1_eq gf, ld1_eq gn, pConv_int]
      have hp := hL _ (List.getElem_mem hi')
      rw [wrap_in_u64 (x := life) (by omega) (by omega), wrap_in_u64 (x := L[i].2 + life) (by omega) (by omega), wrap_in_u64 (by omega) (by omega), h2]
      exact ⟨rfl, kd⟩
    · rintro _ w'' ⟨rfl, k2⟩
      simp only [List.getD_cons_zero]
      refine condF_of (fun h2 => ?_) (fun h2 => ?_)
      · exact ⟨by rw [he, any_step _ hi', h2]; simp, kk.trans k2 (fun _ _ h => h)⟩
      · refine ⟨⟨i + 1, by rw [wrap_succ hi' (by omega)], hi', k.trans k2 (fun _ _ h => h), ?_⟩, ?_⟩
        · rw [he, any_step _ hi', h2, Bool.false_or]
        · rw [wrap_succ hi' (by omega), mu0_eq, mu0_eq]; omega
  · have hi' : L.length ≤ i := by simpa using h
    exact ⟨by rw [he, any_end _ hi'], kk⟩
end Go.Proofs.YtlfeckimhaegbaaDoor
