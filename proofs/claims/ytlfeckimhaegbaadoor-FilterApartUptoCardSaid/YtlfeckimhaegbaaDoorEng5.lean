/- An engine of this session's own, fifth part: a region whose order is left open. One walk serves every order: what only reads is done as soon as it may be, and reads the same behind whatever may stand before it. -/
import Derived.Test.YtlfeckimhaegbaaDoorEng4
namespace Go.Proofs.YtlfeckimhaegbaaDoor.Eng
open Go
section
variable {P : Program} {ops : Array Oper} {Q : Exit → Act → World → Prop} {md : Region.Mode}

/-! ### what must stand before an operation -/
def maskOf (md : Region.Mode) (acc : Array Nat) : List Edge → Nat
  | [] => 0
  | e :: r => (bif Region.binds md e then (2 ^ e.on) ||| acc.getD e.on 0 else 0) ||| maskOf md acc r
def befGo (md : Region.Mode) : List Oper → Array Nat → Array Nat
  | [], acc => acc
  | o :: r, acc => befGo md r (acc.push (maskOf md acc o.after.toList))
def befOf (md : Region.Mode) (ops : Array Oper) : Array Nat := befGo md ops.toList #[]

def Closed (md : Region.Mode) (ops : Array Oper) (listed : Array Bool) : Prop :=
  ∀ j o, ops[j]? = some o → listed.getD j false = true → ∀ e ∈ o.after, Region.binds md e = true → listed.getD e.on false = true

theorem mask_in {acc : Array Nat} {listed : Array Bool} (hacc : ∀ j, listed.getD j false = true → ∀ i, (acc.getD j 0).testBit i = true → listed.getD i false = true) :
    ∀ (l : List Edge), (∀ e ∈ l, Region.binds md e = true → listed.getD e.on false = true) → ∀ i, (maskOf md acc l).testBit i = true → listed.getD i false = true
  | [], _, i, h => by simp [maskOf] at h
  | e :: r, hl, i, h => by
    unfold maskOf at h
    rw [Nat.testBit_or, Bool.or_eq_true] at h
    rcases h with h | h
    · cases hb : Region.binds md e
      · rw [hb] at h; simp at h
      · rw [hb, cond_true, Nat.testBit_or, Bool.or_eq_true] at h
        have he := hl e (by simp) hb
        rcases h with h | h
        · rw [Nat.testBit_two_pow, decide_eq_true_eq] at h
          rw [← h]; exact he
        · exact hacc _ he i h
    · exact mask_in hacc r (fun e' he' => hl e' (by simp [he'])) i h

theorem bef_go {listed : Array Bool} (hc : Closed md ops listed) : ∀ (l : List Oper) (acc : Array Nat), (∀ k, l[k]? = ops[acc.size + k]?) →
    (∀ j, listed.getD j false = true → ∀ i, (acc.getD j 0).testBit i = true → listed.getD i false = true) →
    (∀ j o, ops[j]? = some o → (∀ e ∈ o.after, Region.binds md e = true → listed.getD e.on false = true) → ∀ i, (acc.getD j 0).testBit i = true → listed.getD i false = true) →
    ∀ j o, ops[j]? = some o → (∀ e ∈ o.after, Region.binds md e = true → listed.getD e.on false = true) → ∀ i, ((befGo md l acc).getD j 0).testBit i = true → listed.getD i false = true
  | [], acc, _, _, h2 => h2
  | o :: r, acc, hl, h1, h2 => by
    have h0 : ops[acc.size]? = some o := by simpa using (hl 0).symm
    have hpush : ∀ j, j ≠ acc.size → (acc.push (maskOf md acc o.after.toList)).getD j 0 = acc.getD j 0 := fun j hj => by
      simp only [Array.getD_eq_getD_getElem?, Array.getElem?_push, if_neg hj]
    have hlast : (acc.push (maskOf md acc o.after.toList)).getD acc.size 0 = maskOf md acc o.after.toList := by
      simp [Array.getD_eq_getD_getElem?]
    refine bef_go hc r _ (fun k => ?_) (fun j hj i hi => ?_) (fun j oj hj hd i hi => ?_)
    · have := hl (k + 1)
      simp only [List.getElem?_cons_succ] at this
      rw [this, Array.size_push]
      congr 1
      omega
    · by_cases hjs : j = acc.size
      · subst hjs
        rw [hlast] at hi
        exact mask_in h1 _ (fun e he hb => hc _ o h0 hj e (by simpa using he) hb) i hi
      · rw [hpush j hjs] at hi; exact h1 j hj i hi
    · by_cases hjs : j = acc.size
      · subst hjs
        rw [hlast] at hi
        have : oj = o := Option.some.inj (hj.symm.trans h0)
        subst this
        exact mask_in h1 _ (fun e he hb => hd e (by simpa using he) hb) i hi
      · rw [hpush j hjs] at hi; exact h2 j oj hj hd i hi

theorem bef_ready {listed : Array Bool} (hc : Closed md ops listed) {j i : Nat} (hj : j ∈ Region.ready md ops listed) (hi : ((befOf md ops).getD j 0).testBit i = true) : listed.getD i false = true := by
  obtain ⟨_, o, ho, hall⟩ := mem_ready.1 hj
  exact bef_go hc ops.toList #[] (fun k => by simp) (fun j _ i h => by simp at h) (fun j _ _ _ i h => by simp at h) j o ho hall i hi

theorem getD_false {listed : Array Bool} {i : Nat} (h : listed.getD i true = false) : listed.getD i false = false := by
  rcases Nat.lt_or_ge i listed.size with h' | h'
  · simp [h'] at h ⊢; exact h
  · simp [Array.getElem?_eq_none h'] at h

theorem Closed.set {listed : Array Bool} (hc : Closed md ops listed) {i : Nat} (hi : i ∈ Region.ready md ops listed) : Closed md ops (listed.setIfInBounds i true) := by
  obtain ⟨_, oi, hoi, hall⟩ := mem_ready.1 hi
  intro j o hj hl e he hb
  by_cases hij : i = j
  · subst hij
    have : o = oi := Option.some.inj (hj.symm.trans hoi)
    subst this
    exact getD_set_true (hall e he hb)
  · rw [getD_set_ne false hij] at hl
    exact getD_set_true (hc j o hj hl e he hb)

/-! ### the walk -/
abbrev Pend := Nat × Sem Next × Value
def FreeAt (md : Region.Mode) (ops : Array Oper) (listed : Array Bool) (i : Nat) (oi : Oper) : Prop :=
  ∀ j oj, ops[j]? = some oj → j ≠ i → listed.getD j true = false → (∀ e ∈ oj.after, Region.binds md e = true → e.on ≠ i) → oi.apart ops oj = true

theorem FreeAt.set {listed : Array Bool} {i : Nat} {oi : Oper} (h : FreeAt md ops listed i oi) (k : Nat) : FreeAt md ops (listed.setIfInBounds k true) i oi := by
  intro j oj hj hji hun hno
  refine h j oj hj hji ?_ hno
  by_cases hkj : k = j
  · subst hkj
    rcases Nat.lt_or_ge k listed.size with h' | h'
    · simp [h'] at hun
    · simp at hun
  · rwa [getD_set_ne true hkj] at hun

def wpE (P : Program) (md : Region.Mode) (ops : Array Oper) (Q : Exit → Act → World → Prop) : Nat → Array Bool → List Pend → Act → World → Prop
  | 0, listed, _, a, w => Region.ready md ops listed = [] ∧ Q .normal a w
  | n + 1, listed, pend, a, w =>
    (Region.ready md ops listed = [] ∧ Q .normal a w) ∨
    (∃ i o v, i ∈ Region.ready md ops listed ∧ ops[i]? = some o ∧ FreeAt md ops listed i o ∧ Yields P ops o v a ∧ wpE P md ops Q n (listed.setIfInBounds i true) pend (a.put o.dst v) w) ∨
    (∃ i o v, i ∈ Region.ready md ops listed ∧ ops[i]? = some o ∧ FreeAt md ops listed i o ∧ Region.wanted o (yielded ops a.tmps) = true ∧ (execOp a.eval o).run P w = .ok (.value v) w ∧
      wpE P md ops Q n (listed.setIfInBounds i true) ((i, execOp a.eval o, v) :: pend) (a.put o.dst v) w) ∨
    (Region.ready md ops listed ≠ [] ∧ ∀ j ∈ Region.ready md ops listed, wpOp P ops Q j
      (fun a' w' => (∀ p ∈ pend, ((befOf md ops).getD j 0).testBit p.1 = false → p.2.1.run P w' = .ok (.value p.2.2) w') ∧ wpE P md ops Q n (listed.setIfInBounds j true) pend a' w') a w)

theorem wpE_weak : ∀ (n : Nat) (listed : Array Bool) (pend pend' : List Pend) (a : Act) (w : World), (∀ p ∈ pend', p ∈ pend) → wpE P md ops Q n listed pend a w → wpE P md ops Q n listed pend' a w
  | 0, _, _, _, _, _, _, h => h
  | n + 1, listed, pend, pend', a, w, hs, h => by
    rcases h with h | ⟨i, o, v, h1, h2, h3, h4, h5⟩ | ⟨i, o, v, h1, h2, h3, h4, h5, h6⟩ | ⟨h1, h2⟩
    · exact .inl h
    · exact .inr (.inl ⟨i, o, v, h1, h2, h3, h4, wpE_weak n _ _ _ _ _ hs h5⟩)
    · refine .inr (.inr (.inl ⟨i, o, v, h1, h2, h3, h4, h5, wpE_weak n _ _ _ _ _ (fun p hp => ?_) h6⟩))
      rcases List.mem_cons.1 hp with rfl | hp
      · simp
      · simp [hs p hp]
    · exact .inr (.inr (.inr ⟨h1, fun j hj => wpOp_mono (fun a' w' ⟨hp, hw⟩ => ⟨fun p hp' => hp p (hs p hp'), wpE_weak n _ _ _ _ _ hs hw⟩) (h2 j hj)⟩))

/-- an operation's run does not hang on another one's slot -/
theorem wpOp_swap {j : Nat} {oi oj : Oper} {v : Value} (hj : ops[j]? = some oj) (hap : oi.apart ops oj = true) (hsi : ∀ cs b, oi.op ≠ .select cs b) (hsj : ∀ cs b, oj.op ≠ .select cs b)
    (hQ : ∀ c a w, Q (.panic c) (a.put oi.dst v) w → Q (.panic c) a w) {K : Act → World → Prop} {a : Act} {w : World} (h : wpOp P ops Q j K (a.put oi.dst v) w) :
    wpOp P ops Q j (fun a' w' => (execOp a'.eval oi = execOp a.eval oi ∧ Region.wanted oi (yielded ops a'.tmps) = Region.wanted oi (yielded ops a.tmps)) ∧ K (a'.put oi.dst v) w') a w := by
  obtain ⟨h1, h2, h3⟩ := Oper.apart_spec hap
  have keep : ∀ (a' : Act) u, execOp a'.eval oi = execOp a.eval oi ∧ Region.wanted oi (yielded ops a'.tmps) = Region.wanted oi (yielded ops a.tmps) →
      execOp (a'.put oj.dst u).eval oi = execOp a.eval oi ∧ Region.wanted oi (yielded ops (a'.put oj.dst u).tmps) = Region.wanted oi (yielded ops a.tmps) := fun a' u ⟨e1, e2⟩ =>
    ⟨(execOp_put oi hsi a' oj.dst u h3).trans e1, (wanted_put oi a' oj.dst u h3).trans e2⟩
  unfold wpOp at *
  simp only [hj] at *
  rw [wanted_put oj a oi.dst v h1] at h
  split
  · rename_i hw
    simp only [hw, if_true] at h
    rcases h with h | ⟨hasks, hlets⟩
    case inr => exact .inr ⟨by unfold Oper.asks at *; rw [execOp_put oj hsj a oi.dst v h1] at hasks; exact hasks, hlets⟩
    refine .inl ?_
    unfold Oper.wp at *
    rw [execOp_put oj hsj a oi.dst v h1] at h
    generalize (execOp a.eval oj).run P w = r at *
    cases r with
    | ok n w' =>
      cases n <;> simp only [Oper.upon] at h ⊢
      case value u => exact ⟨keep a u ⟨rfl, rfl⟩, by rw [← Act.put_comm a v u h2]; exact h⟩
      case skip => exact ⟨keep a _ ⟨rfl, rfl⟩, by rw [← Act.put_comm a v undef h2]; exact h⟩
      case defer d =>
        refine ⟨keep { a with defers := d :: a.defers } _ ⟨congrArg (fun ρ => execOp ρ oi) (funext fun x => by cases x <;> rfl), rfl⟩, ?_⟩
        rw [← Act.put_comm _ v undef h2, ← Act.put_defers]
        exact h
      case enter g args =>
        refine Calls.mono h fun e w'' he => ?_
        cases e with
        | returned u => exact ⟨keep a u ⟨rfl, rfl⟩, by rw [← Act.put_comm a v u h2]; exact he⟩
        | panicked c => exact hQ _ _ _ he
        | outgrown => exact he
      case row row args => exact Rows.mono h fun u w'' he => ⟨keep a u ⟨rfl, rfl⟩, by rw [← Act.put_comm a v u h2]; exact he⟩
    | halt x w' =>
      cases x <;> simp only [Oper.upon] at h ⊢
      case panic u => exact hQ _ _ _ h
  · rename_i hw
    simp only [hw] at h
    exact ⟨keep a _ ⟨rfl, rfl⟩, by rw [← Act.put_comm a v undef h2]; exact h⟩

theorem no_dep {listed : Array Bool} {i j : Nat} {oj : Oper} (hi : listed.getD i true = false) (hall : ∀ e ∈ oj.after, Region.binds md e = true → listed.getD e.on false = true) (_hj : ops[j]? = some oj) :
    ∀ e ∈ oj.after, Region.binds md e = true → e.on ≠ i := fun e he hb heq => by
  have h1 := hall e he hb
  rw [heq, getD_false hi] at h1
  cases h1

theorem wpE_front (hsel : ∀ (j : Nat) (o : Oper) cs b, ops[j]? = some o → o.op ≠ .select cs b) (hQ : ∀ c a d v w, Q (.panic c) (a.put d v) w → Q (.panic c) a w) :
    ∀ (n : Nat) (listed : Array Bool) (pend : List Pend) (a : Act) (w : World), Closed md ops listed → (∀ p ∈ pend, p.2.1.run P w = .ok (.value p.2.2) w) → wpE P md ops Q n listed pend a w →
    ∀ j ∈ Region.ready md ops listed, ∃ m, n = m + 1 ∧ wpOp P ops Q j (fun a' w' => (∀ p ∈ pend, ((befOf md ops).getD j 0).testBit p.1 = false → p.2.1.run P w' = .ok (.value p.2.2) w') ∧
      wpE P md ops Q m (listed.setIfInBounds j true) pend a' w') a w
  | 0, listed, pend, a, w, _, _, h, j, hj => by rw [h.1] at hj; cases hj
  | n + 1, listed, pend, a, w, hc, hst, h, j, hj => by
    refine ⟨n, rfl, ?_⟩
    obtain ⟨hjun, oj, hoj, hall⟩ := mem_ready.1 hj
    rcases h with h | ⟨i, o, v, hi, ho, hf, hy, h⟩ | ⟨i, o, v, hi, ho, hf, hw, hrun, h⟩ | ⟨h1, h2⟩
    · rw [h.1] at hj; cases hj
    · by_cases hji : j = i
      · subst hji
        exact hy.wpOp ho ⟨fun p hp _ => hst p hp, h⟩
      · obtain ⟨m, rfl, h'⟩ := wpE_front hsel hQ n _ pend _ w (hc.set hi) hst h j (ready_mono hj hji)
        have hiun := (mem_ready.1 hi).1
        have hap := hf j oj hoj hji hjun (no_dep hiun hall hoj)
        refine wpOp_mono (fun a' w' h3 => ?_) (wpOp_swap hoj hap (fun cs b => hsel i o cs b ho) (fun cs b => hsel j oj cs b hoj) (fun c a w => hQ c a _ _ w) h')
        obtain ⟨⟨e1, e2⟩, hs, hE⟩ := h3
        refine ⟨hs, .inr (.inl ⟨i, o, v, ready_mono hi (Ne.symm hji), ho, hf.set j, ?_, ?_⟩)⟩
        · unfold Yields at *; rw [e1, e2]; exact hy
        · rw [Array.setIfInBounds_comm _ _ hji]; exact hE
    · by_cases hji : j = i
      · subst hji
        unfold wpOp
        simp only [ho, hw, if_true]
        refine .inl ?_
        unfold Oper.wp
        rw [hrun]
        exact ⟨fun p hp _ => hst p hp, wpE_weak n _ _ _ _ _ (fun p hp => by simp [hp]) h⟩
      · have hst' : ∀ p ∈ (i, execOp a.eval o, v) :: pend, p.2.1.run P w = .ok (.value p.2.2) w := fun p hp => by
          rcases List.mem_cons.1 hp with rfl | hp
          · exact hrun
          · exact hst p hp
        obtain ⟨m, rfl, h'⟩ := wpE_front hsel hQ n _ _ _ w (hc.set hi) hst' h j (ready_mono hj hji)
        have hiun := (mem_ready.1 hi).1
        have hap := hf j oj hoj hji hjun (no_dep hiun hall hoj)
        have hbit : ((befOf md ops).getD j 0).testBit i = false := by
          cases hb : ((befOf md ops).getD j 0).testBit i
          · rfl
          · have := bef_ready hc hj hb
            rw [getD_false hiun] at this
            cases this
        refine wpOp_mono (fun a' w' h3 => ?_) (wpOp_swap hoj hap (fun cs b => hsel i o cs b ho) (fun cs b => hsel j oj cs b hoj) (fun c a w => hQ c a _ _ w) h')
        obtain ⟨⟨e1, e2⟩, hs, hE⟩ := h3
        refine ⟨fun p hp => hs p (by simp [hp]), .inr (.inr (.inl ⟨i, o, v, ready_mono hi (Ne.symm hji), ho, hf.set j, e2.trans hw, ?_, ?_⟩))⟩
        · rw [e1]; exact hs (i, execOp a.eval o, v) (by simp) hbit
        · rw [Array.setIfInBounds_comm _ _ hji, e1]; exact hE
    · exact h2 j hj

theorem wpAny_of_E (hsel : ∀ (j : Nat) (o : Oper) cs b, ops[j]? = some o → o.op ≠ .select cs b) (hQ : ∀ c a d v w, Q (.panic c) (a.put d v) w → Q (.panic c) a w) :
    ∀ (n : Nat) (listed : Array Bool) (a : Act) (w : World), Closed md ops listed → wpE P md ops Q n listed [] a w → wpAny P md ops Q n listed a w
  | 0, _, _, _, _, h => h
  | n + 1, listed, a, w, hc, h => by
    refine ⟨fun h0 => ?_, fun j hj => ?_⟩
    · rcases h with h | ⟨i, o, v, hi, _⟩ | ⟨i, o, v, hi, _⟩ | ⟨h1, _⟩
      · exact h.2
      · rw [h0] at hi; cases hi
      · rw [h0] at hi; cases hi
      · exact absurd h0 h1
    · obtain ⟨m, hm, h'⟩ := wpE_front hsel hQ (n + 1) listed [] a w hc (by simp) h j hj
      obtain rfl : n = m := by omega
      exact wpOp_mono (fun a' w' ⟨_, hE⟩ => wpAny_of_E hsel hQ n _ a' w' (hc.set hj) hE) h'

theorem closed_none : Closed md ops (Array.replicate ops.size false) := by
  intro j o _ hl
  exfalso
  rcases Nat.lt_or_ge j ops.size with h' | h'
  · simp [h'] at hl
  · simp [h'] at hl

theorem wp_region_E {id : Nat} {a : Act} {w : World} (hm : P.follows .mixedOrders = true) (hs : Region.noSelect ops = true) (hQ : ∀ c a d v w, Q (.panic c) (a.put d v) w → Q (.panic c) a w)
    (h : wpE P .any ops Q ops.size (Array.replicate ops.size false) [] a w.drew) : (Code.region id ops true).wp P Q a w :=
  wp_region_any hm (wpAny_of_E (Region.noSelect_spec hs) hQ _ _ _ _ closed_none h)
end
end Go.Proofs.YtlfeckimhaegbaaDoor.Eng
