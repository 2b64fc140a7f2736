/- An engine of this session's own, sixth part: the formula of a function's whole body ('wpF'), and that it is sound ('calls_of_F'). -/
import Derived.Test.YtlfeckimhaegbaaDoorEng5
namespace Go.Proofs.YtlfeckimhaegbaaDoor.Eng
open Go

/-! ### words -/
def condF (v : Value) (A B : Prop) : Prop := match v with | .bool true => A | .bool false => B | _ => False
theorem condF_bool (b : Bool) (A B : Prop) : condF (.bool b) A B ↔ ((b = true → A) ∧ (b = false → B)) := by cases b <;> simp [condF]
theorem condF_of {b : Bool} {A B : Prop} (h1 : b = true → A) (h2 : b = false → B) : condF (.bool b) A B := (condF_bool b A B).2 ⟨h1, h2⟩
def spG (g : Bool) (v : Value) (K : Value → Prop) : Prop := bif g then condF v (K (.bool true)) (K (.bool false)) else K v
theorem spG_imp {g : Bool} {v : Value} {K : Value → Prop} (h : spG g v K) : K v := by
  cases g
  · exact h
  · unfold spG condF at h
    simp only [cond_true] at h
    split at h
    · exact h
    · exact h
    · exact h.elim
def joinP (A : (List Value → World → Prop) → Prop) (B : List Value → World → Prop) : Prop := ∃ J, A J ∧ ∀ vs w, J vs w → B vs w
theorem joinP_dup {A : (List Value → World → Prop) → Prop} {B : List Value → World → Prop} (h : A B) : joinP A B := ⟨B, h, fun _ _ h => h⟩
theorem joinP_of {A : (List Value → World → Prop) → Prop} {B : List Value → World → Prop} (J : List Value → World → Prop) (h : A J) (h' : ∀ vs w, J vs w → B vs w) : joinP A B := ⟨J, h, h'⟩
def loopP (v0 : List Value) (w : World) (B : List Value → World → (List Value → World → Prop) → Prop) : Prop :=
  ∃ (I : List Value → World → Prop) (μ : List Value → World → Nat), I v0 w ∧ ∀ vs w', I vs w' → B vs w' (fun vs' w'' => I vs' w'' ∧ μ vs' w'' < μ vs w')
theorem loopP_of {v0 : List Value} {w : World} {B : List Value → World → (List Value → World → Prop) → Prop} (I : List Value → World → Prop) (μ : List Value → World → Nat)
    (h0 : I v0 w) (h : ∀ vs w', I vs w' → B vs w' (fun vs' w'' => I vs' w'' ∧ μ vs' w'' < μ vs w')) : loopP v0 w B := ⟨I, μ, h0, h⟩
def setL (f : Fr) : List Nat → Nat → List Value → Fr
  | [], _, _ => f
  | c :: r, k, vs => fun i => bif Nat.beq i c then vs.getD k undef else setL f r (k + 1) vs i
def uni (a b : List Nat) : List Nat := a ++ b.filter (fun x => !a.contains x)
def dsts : List Oper → List Nat
  | [] => []
  | o :: r => match o.dst with | some d => uni [d] (dsts r) | none => dsts r
def writes : Code → List Nat
  | .region _ ops _ => dsts ops.toList
  | .seq a b => uni (writes a) (writes b)
  | .cond _ a b => uni (writes a) (writes b)
  | .block _ b => writes b
  | .loop b => writes b
  | _ => []
def isGL (ops : List Oper) (k : Nat) : Bool := ops.any fun o => match o.guard with | some (j, _) => Nat.beq j k | none => false
def hasG (ops : List Oper) : Bool := ops.any fun o => o.guard.isSome
def cex (id : Nat) : Code → Nat
  | .exit i => bif Nat.beq i id then 1 else 0
  | .seq a b => cex id a + cex id b
  | .cond _ a b => cex id a + cex id b
  | .block _ b => cex id b
  | .loop b => cex id b
  | _ => 0
/-- how many ways lead to the code's end -/
def nx : Code → Nat
  | .region _ ops _ => bif hasG ops.toList then 2 else 1
  | .seq a b => bif Nat.beq (nx a) 0 then 0 else nx b
  | .cond _ a b => nx a + nx b
  | .block id b => nx b + cex id b
  | .loop _ => 0
  | .exit _ => 0
  | .ret => 0
  | .skip => 1
  | _ => 1
/-! which slots are still wanted (a guess: that it is enough is looked at where they are read) -/
def mkM : List Nat → Nat
  | [] => 0
  | i :: r => 2 ^ i ||| mkM r
def subM (L m : Nat) : Nat := (L ||| m) ^^^ m
def opdM : List Operand → Nat
  | [] => 0
  | .tmp t :: r => 2 ^ t ||| opdM r
  | _ :: r => opdM r
def grdM (ops : List Oper) (o : Oper) : Nat :=
  match o.guard with | some (j, _) => (match (ops[j]?).bind (·.dst) with | some t => 2 ^ t | none => 0) | none => 0
def liveOps (ops : List Oper) : List Oper → Nat → Nat
  | [], lv => lv
  | o :: r, lv => subM (liveOps ops r lv) (match o.dst with | some d => 2 ^ d | none => 0) ||| opdM o.op.operands.toList ||| grdM ops o
def liveIn : Code → (lv lx lr : Nat) → Nat
  | .skip, lv, _, _ => lv
  | .exit _, _, lx, _ => lx
  | .ret, _, _, lr => lr
  | .seq a b, lv, lx, lr => liveIn a (liveIn b lv lx lr) lx lr
  | .cond c a b, lv, lx, lr => opdM [c] ||| liveIn a lv lx lr ||| liveIn b lv lx lr
  | .block _ b, lv, lx, lr => liveIn b lv (lv ||| lx) lr
  | .loop b, _, lx, lr => liveIn b 0 lx lr
  | .region _ ops _, lv, _, _ => liveOps ops.toList ops.toList lv
  | _, lv, lx, _ => lv ||| lx
def pick (l : List Nat) (m : Nat) : List Nat := l.filter fun i => Nat.testBit m i
def allIn (L : Nat) (l : List Nat) : Bool := l.all fun i => Nat.testBit L i

def opdL : Operand → List Nat
  | .tmp t => [t]
  | _ => []

def guardW (ops : Array Oper) (f : Fr) (o : Oper) : Bool :=
  match o.guard with
  | none => true
  | some (j, want) => match (ops[j]?).bind (·.dst) with
    | some t => (match f t with | .bool b => b == want | _ => false)
    | none => false
/-- what an operation looks at is known, and its slot is one of the frame's -/
def knows (n L : Nat) (ops : Array Oper) (o : Oper) : Bool :=
  allIn L (o.op.operands.toList.filterMap fun | .tmp t => some t | _ => none) &&
  (match o.guard with | some (j, _) => (match (ops[j]?).bind (·.dst) with | some t => Nat.testBit L t | none => true) | none => true) &&
  (match o.dst with | some d => Nat.blt d n | none => true) && (match o.op with | .select .. => false | _ => true)
def stepF (P : Program) (o : Oper) (g : Bool) (f : Fr) (w : World) (K : Value → World → Prop) : Prop :=
  match form P o (evF f) with
  | .pure F => F fun v => spG g v fun v' => K v' w
  | .read F => F w fun v => spG g v fun v' => K v' w
  | .eff F => F w fun v w' => spG g v fun v' => K v' w'
def opsF (P : Program) (n : Nat) (ops : Array Oper) (K : Nat → Fr → World → Prop) : List Oper → Nat → Nat → Fr → World → Prop
  | [], _, L, f, w => K L f w
  | o :: r, k, L, f, w =>
    bif knows n L ops o then
      bif guardW ops f o then stepF P o (isGL ops.toList k) f w (fun v w' => opsF P n ops K r (k + 1) (addL L o.dst) (setD n f o.dst v) w')
      else opsF P n ops K r (k + 1) (addL L o.dst) (setD n f o.dst undef) w
    else False
def quietNow (P : Program) (ops : Array Oper) (f : Fr) (i : Nat) : Bool :=
  match ops[i]? with
  | some o => !(guardW ops f o) || (match form P o (evF f) with | .eff _ => false | _ => true)
  | none => false
def conjP (m : Nat) (w' : World) : List (Nat × (World → Prop)) → Prop → Prop
  | [], X => X
  | p :: r, X => bif Nat.testBit m p.1 then conjP m w' r X else p.2 w' ∧ conjP m w' r X
def allE (g : Nat → Prop) : List Nat → Prop
  | [] => True
  | [i] => g i
  | i :: r => g i ∧ allE g r
def knowsAt (n L : Nat) (ops : Array Oper) (i : Nat) : Bool := match ops[i]? with | some o => knows n L ops o | none => false
def drawF (P : Program) (n : Nat) (ops : Array Oper) (K : Nat → Fr → World → Prop) : Nat → Array Bool → List (Nat × (World → Prop)) → Nat → Fr → World → Prop
  | 0, listed, _, L, f, w => match Region.ready .any ops listed with | [] => K L f w | _ :: _ => False
  | m + 1, listed, pend, L, f, w =>
    match Region.ready .any ops listed with
    | [] => K L f w
    | r :: rs =>
      bif (r :: rs).all (knowsAt n L ops) then
      match (r :: rs).find? (quietNow P ops f) with
      | some i => (match ops[i]? with
        | some o => bif Region.free .any ops listed i then
            (bif guardW ops f o then
              (match form P o (evF f) with
              | .pure F => F fun v => spG (isGL ops.toList i) v fun v' => drawF P n ops K m (listed.setIfInBounds i true) pend (addL L o.dst) (setD n f o.dst v') w
              | .read F => F w fun v => spG (isGL ops.toList i) v fun v' => drawF P n ops K m (listed.setIfInBounds i true) ((i, fun w' => F w' (fun u => u = v)) :: pend) (addL L o.dst) (setD n f o.dst v') w
              | .eff _ => False)
            else drawF P n ops K m (listed.setIfInBounds i true) pend (addL L o.dst) (setD n f o.dst undef) w)
          else False
        | none => False)
      | none => allE (fun j => match ops[j]? with
        | some o => (match form P o (evF f) with
          | .eff F => F w fun v w' => conjP ((befOf .any ops).getD j 0) w' pend (spG (isGL ops.toList j) v fun v' => drawF P n ops K m (listed.setIfInBounds j true) pend (addL L o.dst) (setD n f o.dst v') w')
          | _ => False)
        | none => False) (r :: rs)
      else False

def wpF (P : Program) (n lr : Nat) : Code → (lv lx L : Nat) → Fr → World → (Nat → Fr → World → Prop) → (Nat → Nat → Fr → World → Prop) → (Nat → Fr → World → Prop) → Prop
  | .skip, _, _, L, f, w, Kn, _, _ => Kn L f w
  | .exit id, _, _, L, f, w, _, Ke, _ => Ke id L f w
  | .ret, _, _, L, f, w, _, _, Kr => Kr L f w
  | .seq a b, lv, lx, L, f, w, Kn, Ke, Kr =>
    bif Nat.ble (nx a) 1 then wpF P n lr a (liveIn b lv lx lr) lx L f w (fun L' f' w' => wpF P n lr b lv lx L' f' w' Kn Ke Kr) Ke Kr
    else joinP (fun J => wpF P n lr a (liveIn b lv lx lr) lx L f w (fun L' f' w' => bif allIn L' (pick (writes a) (liveIn b lv lx lr)) then J ((pick (writes a) (liveIn b lv lx lr)).map f') w' else False) Ke Kr)
      (fun vs w' => wpF P n lr b lv lx (subM L (mkM (writes a)) ||| mkM (pick (writes a) (liveIn b lv lx lr))) (setL f (pick (writes a) (liveIn b lv lx lr)) 0 vs) w' Kn Ke Kr)
  | .cond c a b, lv, lx, L, f, w, Kn, Ke, Kr =>
    bif allIn L (opdL c) then condF (evF f c) (wpF P n lr a lv lx L f w Kn Ke Kr) (wpF P n lr b lv lx L f w Kn Ke Kr) else False
  | .block id b, lv, lx, L, f, w, Kn, Ke, Kr => wpF P n lr b lv (lv ||| lx) L f w Kn (fun id' L' f' w' => bif Nat.beq id' id then Kn L' f' w' else Ke id' L' f' w') Kr
  | .loop b, _, lx, L, f, w, _, Ke, Kr =>
    bif allIn L (pick (writes b) (liveIn b 0 lx lr)) then
      loopP ((pick (writes b) (liveIn b 0 lx lr)).map f) w (fun vs w' again =>
        wpF P n lr b (liveIn b 0 lx lr) lx (subM L (mkM (writes b)) ||| mkM (pick (writes b) (liveIn b 0 lx lr))) (setL f (pick (writes b) (liveIn b 0 lx lr)) 0 vs) w'
          (fun L' f' w'' => bif allIn L' (pick (writes b) (liveIn b 0 lx lr)) then again ((pick (writes b) (liveIn b 0 lx lr)).map f') w'' else False) Ke Kr)
    else False
  | .region _ ops draw, _, _, L, f, w, Kn, _, _ =>
    bif draw then (bif Region.noSelect ops then drawF P n ops Kn ops.size (Array.replicate ops.size false) [] L f w.drew else False) else opsF P n ops Kn ops.toList 0 L f w
  | _, _, _, _, _, _, _, _, _ => False

def loadF (P : Program) (t : TypeId) (v : Value) (w : World) (K : Value → Prop) : Prop :=
  match isAggP P t, sizeP P t with
  | some true, some n => ldN n v w K
  | some false, some _ => ld1 v w K
  | _, _ => False
def retsF (P : Program) : List ResultVar → Nat → Fr → World → (List Value → Prop) → Prop
  | [], _, _, _, K => K []
  | .tmp t :: r, L, f, w, K => bif Nat.testBit L t then retsF P r L f w fun vs => K (f t :: vs) else False
  | .cell a t :: r, L, f, w, K => bif Nat.testBit L a then loadF P t (f a) w fun v => retsF P r L f w fun vs => K (v :: vs) else False
def retM : List ResultVar → Nat
  | [] => 0
  | .tmp t :: r => 2 ^ t ||| retM r
  | .cell a _ :: r => 2 ^ a ||| retM r
def tup : List Value → Value
  | [v] => v
  | vs => .tuple vs.toArray
def fr0 (args : List Value) : Fr := fun i => args.getD i undef
def bodyF (P : Program) (fn : Func) (c : Code) (args : List Value) (w : World) (R : Value → World → Prop) : Prop :=
  wpF P fn.ntmps (retM fn.results.toList) c (retM fn.results.toList) 0 (2 ^ fn.ntmps - 1) (fr0 args) w
    (fun L f w' => retsF P fn.results.toList L f w' fun vs => R (tup vs) w') (fun _ _ _ _ => False) (fun L f w' => retsF P fn.results.toList L f w' fun vs => R (tup vs) w')
def bd (fn : Func) : Code := fn.body.getD .skip

/-! ### soundness -/
section
variable {P : Program}

/-- outside of some slots nothing has turned -/
def Agree (ch : List Nat) (a0 a : Act) : Prop := ∀ i, i ∉ ch → a.tmps.getD i undef = a0.tmps.getD i undef
theorem Agree.refl (ch : List Nat) (a : Act) : Agree ch a a := fun _ _ => rfl
theorem Agree.trans {ch : List Nat} {f g h : Act} (h1 : Agree ch f g) (h2 : Agree ch g h) : Agree ch f h := fun i hi => (h2 i hi).trans (h1 i hi)
theorem Agree.mono {ch ch' : List Nat} {f g : Act} (h : Agree ch f g) (hs : ∀ i, i ∈ ch → i ∈ ch') : Agree ch' f g := fun i hi => h i (fun hh => hi (hs i hh))
theorem mem_uni {a b : List Nat} {i : Nat} : i ∈ uni a b ↔ i ∈ a ∨ i ∈ b := by
  unfold uni
  rw [List.mem_append, List.mem_filter]
  constructor
  · rintro (h | h)
    · exact .inl h
    · exact .inr h.1
  · rintro (h | h)
    · exact .inl h
    · by_cases ha : i ∈ a
      · exact .inl ha
      · exact .inr ⟨h, by simpa using ha⟩
theorem mem_dsts : ∀ {l : List Oper} {o : Oper} {d : Nat}, o ∈ l → o.dst = some d → d ∈ dsts l
  | [], _, _, h, _ => by cases h
  | x :: r, o, d, h, hd => by
    unfold dsts
    rcases List.mem_cons.1 h with rfl | h
    · rw [hd]; exact mem_uni.2 (.inl (by simp))
    · split
      · exact mem_uni.2 (.inr (mem_dsts h hd))
      · exact mem_dsts h hd
theorem Agree.put {ch : List Nat} {a0 a : Act} (h : Agree ch a0 a) (d : Option Tmp) (hd : ∀ x, d = some x → x ∈ ch) (v : Value) : Agree ch a0 (a.put d v) := by
  cases d with
  | none => exact h
  | some d =>
    intro i hi
    have hne : d ≠ i := fun e => hi (e ▸ hd d rfl)
    rw [← h i hi]
    simp [Act.put, Array.getElem?_setIfInBounds_ne hne]
theorem setL_out {f : Fr} : ∀ (ch : List Nat) (k : Nat) (vs : List Value) (i : Nat), i ∉ ch → setL f ch k vs i = f i
  | [], _, _, _, _ => rfl
  | c :: r, k, vs, i, h => by
    unfold setL
    rw [beq_false (fun e => h (by simp [e])), cond_false]
    exact setL_out r (k + 1) vs i (fun hh => h (by simp [hh]))
theorem setL_in {f g : Fr} : ∀ (ch pre : List Nat) (i : Nat), i ∈ ch → setL f ch pre.length ((pre ++ ch).map g) i = g i
  | [], _, _, h => by cases h
  | c :: r, pre, i, h => by
    unfold setL
    by_cases hc : i = c
    · subst hc
      rw [Nat.beq_refl, cond_true]
      simp
    · rw [beq_false hc, cond_false]
      have := setL_in (f := f) (g := g) r (pre ++ [c]) i (by rcases List.mem_cons.1 h with h | h; exact absurd h hc; exact h)
      simpa using this
theorem mem_mkM : ∀ {l : List Nat} {i : Nat}, Nat.testBit (mkM l) i = true ↔ i ∈ l
  | [], i => by simp [mkM]
  | c :: r, i => by
    unfold mkM
    rw [Nat.testBit_or, Bool.or_eq_true, mem_mkM, Nat.testBit_two_pow, decide_eq_true_eq, List.mem_cons, eq_comm]
theorem mem_subM {L m i : Nat} : Nat.testBit (subM L m) i = true ↔ (Nat.testBit L i = true ∧ Nat.testBit m i = false) := by
  unfold subM
  rw [Nat.testBit_xor, Nat.testBit_or]
  cases Nat.testBit L i <;> cases Nat.testBit m i <;> simp
theorem allIn_spec {L : Nat} {l : List Nat} (h : allIn L l = true) {i : Nat} (hi : i ∈ l) : Nat.testBit L i = true := List.all_eq_true.1 h i hi

theorem fits_join {n L L' : Nat} {a a' : Act} {f f' : Fr} {ws ch : List Nat} (h : Fits n L a f) (h' : Fits n L' a' f') (hag : Agree ws a a') (hch : allIn L' ch = true) :
    Fits n (subM L (mkM ws) ||| mkM ch) a' (setL f ch 0 (ch.map f')) := by
  refine ⟨h'.defers, h'.size, fun i hi => ?_⟩
  by_cases hc : i ∈ ch
  · rw [h'.get i (allIn_spec hch hc)]
    have := setL_in (f := f) (g := f') ch [] i hc
    simpa using this.symm
  · rw [setL_out ch 0 _ i hc]
    rw [Nat.testBit_or, Bool.or_eq_true] at hi
    rcases hi with hi | hi
    · obtain ⟨h1, h2⟩ := mem_subM.1 hi
      have hw : i ∉ ws := fun hh => by rw [mem_mkM.2 hh] at h2; cases h2
      rw [hag i hw, h.get i h1]
    · exact absurd (mem_mkM.1 hi) hc

theorem knows_spec {n L : Nat} {ops : Array Oper} {o : Oper} (h : knows n L ops o = true) :
    (∀ t, Operand.tmp t ∈ o.op.operands → Nat.testBit L t = true) ∧ (∀ j want t, o.guard = some (j, want) → (ops[j]?).bind (·.dst) = some t → Nat.testBit L t = true) ∧
    (∀ d, o.dst = some d → d < n) ∧ (∀ cs b, o.op ≠ .select cs b) := by
  unfold knows at h
  simp only [Bool.and_eq_true] at h
  obtain ⟨⟨⟨h1, h2⟩, h3⟩, h4⟩ := h
  refine ⟨fun t ht => allIn_spec h1 (List.mem_filterMap.2 ⟨.tmp t, by simpa using ht, rfl⟩), fun j want t hg ht => ?_, fun d hd => ?_, fun cs b he => ?_⟩
  · rw [hg] at h2; simp only [ht] at h2; exact h2
  · rw [hd] at h3; simp only at h3; rwa [Nat.blt_eq] at h3
  · rw [he] at h4; simp at h4

theorem exec_F {n L : Nat} {a : Act} {f : Fr} (h : Fits n L a f) {ops : Array Oper} {o : Oper} (hk : knows n L ops o = true) : execOp a.eval o = execOp (evF f) o := by
  obtain ⟨h1, _, _, h4⟩ := knows_spec hk
  refine execOp_congr o h4 fun x hx => ?_
  cases x with
  | tmp t => exact h.get t (h1 t hx)
  | _ => rfl

theorem wanted_F {n L : Nat} {a : Act} {f : Fr} (h : Fits n L a f) {ops : Array Oper} {o : Oper} (hk : knows n L ops o = true) : Region.wanted o (yielded ops a.tmps) = guardW ops f o := by
  obtain ⟨_, h2, _, _⟩ := knows_spec hk
  unfold Region.wanted guardW
  cases hg : o.guard with
  | none => rfl
  | some p =>
    obtain ⟨j, want⟩ := p
    simp only
    unfold yielded
    cases ht : (ops[j]?).bind (·.dst) with
    | none => rfl
    | some t =>
      have hgt := h.get t (h2 j want t hg ht)
      simp only [Option.bind_some]
      rw [← hgt]
      rcases Nat.lt_or_ge t a.tmps.size with hl | hl
      · simp only [Array.getElem?_eq_getElem hl, Array.getD_eq_getD_getElem?, Option.getD_some]
        cases a.tmps[t] <;> simp
      · simp [Array.getElem?_eq_none hl, undef]

theorem call_next {g : FuncId} {args : Array Value} {w : World} {K : Value → World → Prop} {next : Act → World → Prop} {Q : Exit → Act → World → Prop} {a : Act} {d : Option Tmp}
    (h : callF P g args w K) (hk : ∀ v w', K v w' → next (a.put d v) w') : Calls P g args w fun
      | .returned v, w'' => next (a.put d v) w''
      | .panicked chain, w'' => Q (.panic chain) a w''
      | .outgrown, _ => LetsOut Q :=
  Calls.mono h fun e w' ⟨v, he, hv⟩ => by subst he; exact hk v w' hv

theorem stepF_wp {n L : Nat} {a : Act} {f : Fr} (hf : Fits n L a f) {ops : Array Oper} {o : Oper} (hkn : knows n L ops o = true) {g : Bool} {w : World} {K : Value → World → Prop} {next : Act → World → Prop}
    {Q : Exit → Act → World → Prop} (h : stepF P o g f w K) (hk : ∀ v w', K v w' → next (a.put o.dst v) w') : o.wp P a w next Q := by
  have hok := form_ok (P := P) o f
  unfold stepF at h
  unfold Oper.wp
  rw [exec_F hf hkn]
  split at h
  · rename_i F hF
    rw [hF] at hok
    obtain ⟨v, hv, hr⟩ := hok _ h
    rw [hr w]
    exact hk v w (spG_imp hv)
  · rename_i F hF
    rw [hF] at hok
    obtain ⟨v, hv, hr⟩ := hok w _ h
    rw [hr]
    exact hk v w (spG_imp hv)
  · rename_i F hF
    rw [hF] at hok
    rcases hok w _ h with ⟨v, w', hv, hr⟩ | ⟨w', hv, hr⟩ | ⟨g', args, w', hv, hr⟩
    · rw [hr]; exact hk v w' (spG_imp hv)
    · rw [hr]; exact hk _ w' (spG_imp hv)
    · rw [hr]; exact call_next hv fun v w' hv => hk v w' (spG_imp hv)

def QK (n : Nat) (a0 : Act) (ch : List Nat) (Kn : Nat → Fr → World → Prop) (Ke : Nat → Nat → Fr → World → Prop) (Kr : Nat → Fr → World → Prop) : Exit → Act → World → Prop
  | .normal, a, w => ∃ L f, Fits n L a f ∧ Agree ch a0 a ∧ Kn L f w
  | .exit id, a, w => ∃ L f, Fits n L a f ∧ Agree ch a0 a ∧ Ke id L f w
  | .ret, a, w => ∃ L f, Fits n L a f ∧ Kr L f w
  | _, _, _ => False

theorem opsF_sound {n : Nat} {ops : Array Oper} {K : Nat → Fr → World → Prop} {Q : Exit → Act → World → Prop} {a0 : Act} {ch : List Nat}
    (hQ : ∀ L a w f, Fits n L a f → Agree ch a0 a → K L f w → Q .normal a w) :
    ∀ (l : List Oper) (k L : Nat) (a : Act) (f : Fr) (w : World), (∀ o ∈ l, ∀ d, o.dst = some d → d ∈ ch) → Fits n L a f → Agree ch a0 a → opsF P n ops K l k L f w → wpList P ops Q l a w
  | [], _, L, a, f, w, _, hf, ha, h => hQ L a w f hf ha h
  | o :: r, k, L, a, f, w, hd, hf, ha, h => by
    unfold opsF at h
    cases hkn : knows n L ops o
    · rw [hkn, cond_false] at h; exact h.elim
    rw [hkn, cond_true] at h
    have hdn := (knows_spec hkn).2.2.1
    unfold wpList
    rw [wanted_F hf hkn]
    cases hg : guardW ops f o
    · rw [hg, cond_false] at h
      simp only [Bool.false_eq_true, if_false]
      exact opsF_sound hQ r (k + 1) _ _ _ w (fun o' ho' => hd o' (by simp [ho'])) (hf.put o.dst hdn undef) (ha.put o.dst (hd o (by simp)) undef) h
    · rw [hg, cond_true] at h
      simp only [if_true]
      exact .inl (stepF_wp hf hkn h fun v w' hv => opsF_sound hQ r (k + 1) _ _ _ w' (fun o' ho' => hd o' (by simp [ho'])) (hf.put o.dst hdn v) (ha.put o.dst (hd o (by simp)) v) hv)

def PendRel (P : Program) : List (Nat × (World → Prop)) → List Pend → Prop
  | [], [] => True
  | p :: r, q :: s => (p.1 = q.1 ∧ ∀ w', p.2 w' → q.2.1.run P w' = .ok (.value q.2.2) w') ∧ PendRel P r s
  | _, _ => False
theorem conj_sound {m : Nat} {w' : World} : ∀ {pf : List (Nat × (World → Prop))} {pend : List Pend} {X : Prop}, PendRel P pf pend → conjP m w' pf X →
    (∀ p ∈ pend, Nat.testBit m p.1 = false → p.2.1.run P w' = .ok (.value p.2.2) w') ∧ X
  | [], [], _, _, h => ⟨by simp, h⟩
  | [], _ :: _, _, hr, _ => hr.elim
  | _ :: _, [], _, hr, _ => hr.elim
  | p :: r, q :: s, X, hr, h => by
    obtain ⟨⟨h1, h2⟩, hr⟩ := hr
    unfold conjP at h
    cases hb : Nat.testBit m p.1
    · rw [hb, cond_false] at h
      obtain ⟨h3, h4⟩ := h
      obtain ⟨h5, h6⟩ := conj_sound hr h4
      refine ⟨fun x hx hbx => ?_, h6⟩
      rcases List.mem_cons.1 hx with rfl | hx
      · exact h2 w' h3
      · exact h5 x hx hbx
    · rw [hb, cond_true] at h
      obtain ⟨h5, h6⟩ := conj_sound hr h
      refine ⟨fun x hx hbx => ?_, h6⟩
      rcases List.mem_cons.1 hx with rfl | hx
      · rw [← h1, hb] at hbx; cases hbx
      · exact h5 x hx hbx
theorem allE_mem {g : Nat → Prop} : ∀ {l : List Nat}, allE g l → ∀ j ∈ l, g j
  | [], _, j, hj => by cases hj
  | [i], h, j, hj => by
    have : j = i := by simpa using hj
    subst this; exact h
  | i :: k :: r, h, j, hj => by
    rcases List.mem_cons.1 hj with rfl | hj
    · exact h.1
    · exact allE_mem h.2 j hj

theorem drawF_sound {n : Nat} {ops : Array Oper} {K : Nat → Fr → World → Prop} {Q : Exit → Act → World → Prop} {a0 : Act} {ch : List Nat}
    (hQ : ∀ L a w f, Fits n L a f → Agree ch a0 a → K L f w → Q .normal a w) (hd : ∀ (i : Nat) (o : Oper), ops[i]? = some o → ∀ d, o.dst = some d → d ∈ ch) :
    ∀ (m : Nat) (listed : Array Bool) (pf : List (Nat × (World → Prop))) (pend : List Pend) (L : Nat) (a : Act) (f : Fr) (w : World), PendRel P pf pend → Fits n L a f → Agree ch a0 a →
      drawF P n ops K m listed pf L f w → wpE P .any ops Q m listed pend a w
  | 0, listed, pf, pend, L, a, f, w, hp, hf, ha, h => by
    unfold drawF at h
    split at h
    · rename_i hr; exact ⟨hr, hQ L a w f hf ha h⟩
    · exact h.elim
  | m + 1, listed, pf, pend, L, a, f, w, hp, hf, ha, h => by
    unfold drawF at h
    split at h
    · rename_i hr; exact .inl ⟨hr, hQ L a w f hf ha h⟩
    · rename_i r rs hr
      cases hka : (r :: rs).all (knowsAt n L ops)
      · rw [hka, cond_false] at h; exact h.elim
      rw [hka, cond_true] at h
      have hkn : ∀ i o, i ∈ r :: rs → ops[i]? = some o → knows n L ops o = true := fun i o hi ho => by
        have := List.all_eq_true.1 hka i hi
        unfold knowsAt at this
        rw [ho] at this
        exact this
      split at h
      · rename_i i hi
        have hin := List.mem_of_find?_eq_some hi
        have him : i ∈ Region.ready .any ops listed := by rw [hr]; exact hin
        split at h
        · rename_i o ho
          have hk := hkn i o hin ho
          have hdn := (knows_spec hk).2.2.1
          cases hfr : Region.free .any ops listed i
          · rw [hfr, cond_false] at h; exact h.elim
          rw [hfr, cond_true] at h
          have hfree : FreeAt .any ops listed i o := Region.free_spec ho hfr
          cases hg : guardW ops f o
          · rw [hg, cond_false] at h
            refine .inr (.inl ⟨i, o, undef, him, ho, hfree, .inr ⟨by rw [wanted_F hf hk, hg], rfl⟩, ?_⟩)
            exact drawF_sound hQ hd m _ pf pend _ _ _ w hp (hf.put o.dst hdn undef) (ha.put o.dst (hd i o ho) undef) h
          · rw [hg, cond_true] at h
            have hok := form_ok (P := P) o f
            split at h
            · rename_i F hF
              rw [hF] at hok
              obtain ⟨v, hv, hrun⟩ := hok _ h
              refine .inr (.inl ⟨i, o, v, him, ho, hfree, .inl ⟨by rw [wanted_F hf hk, hg], fun w => by rw [exec_F hf hk]; exact hrun w⟩, ?_⟩)
              exact drawF_sound hQ hd m _ pf pend _ _ _ w hp (hf.put o.dst hdn v) (ha.put o.dst (hd i o ho) v) (spG_imp hv)
            · rename_i F hF
              rw [hF] at hok
              obtain ⟨v, hv, hrun⟩ := hok w _ h
              refine .inr (.inr (.inl ⟨i, o, v, him, ho, hfree, by rw [wanted_F hf hk, hg], by rw [exec_F hf hk]; exact hrun, ?_⟩))
              refine drawF_sound hQ hd m _ ((i, fun w' => F w' (fun u => u = v)) :: pf) ((i, execOp a.eval o, v) :: pend) _ _ _ w ⟨⟨rfl, fun w' hw' => ?_⟩, hp⟩ (hf.put o.dst hdn v) (ha.put o.dst (hd i o ho) v) (spG_imp hv)
              obtain ⟨u, hu, hr'⟩ := hok w' _ hw'
              rw [exec_F hf hk, hr', hu]
            · exact h.elim
        · exact h.elim
      · rename_i hnone
        refine .inr (.inr (.inr ⟨by rw [hr]; simp, fun j hj => ?_⟩))
        have hj' : j ∈ r :: rs := by rw [← hr]; exact hj
        have hq := List.find?_eq_none.1 hnone j hj'
        have h1 := allE_mem h j hj'
        split at h1
        · rename_i o ho
          have hk := hkn j o hj' ho
          have hdn := (knows_spec hk).2.2.1
          have hok := form_ok (P := P) o f
          split at h1
          · rename_i F hF
            rw [hF] at hok
            have hg : guardW ops f o = true := by
              unfold quietNow at hq
              rw [ho] at hq
              simp only at hq
              cases hg : guardW ops f o
              · simp [hg] at hq
              · rfl
            unfold wpOp
            simp only [ho, wanted_F hf hk, hg, if_true]
            refine .inl ?_
            have fin : ∀ v w', conjP ((befOf .any ops).getD j 0) w' pf (spG (isGL ops.toList j) v fun v' => drawF P n ops K m (listed.setIfInBounds j true) pf (addL L o.dst) (setD n f o.dst v') w') →
                (∀ p ∈ pend, ((befOf .any ops).getD j 0).testBit p.1 = false → p.2.1.run P w' = .ok (.value p.2.2) w') ∧ wpE P .any ops Q m (listed.setIfInBounds j true) pend (a.put o.dst v) w' := fun v w' hv => by
              obtain ⟨h2, h3⟩ := conj_sound hp hv
              exact ⟨h2, drawF_sound hQ hd m _ pf pend _ _ _ w' hp (hf.put o.dst hdn v) (ha.put o.dst (hd j o ho) v) (spG_imp h3)⟩
            unfold Oper.wp
            rw [exec_F hf hk]
            rcases hok w _ h1 with ⟨v, w', hv, hrn⟩ | ⟨w', hv, hrn⟩ | ⟨g', args, w', hv, hrn⟩
            · rw [hrn]; exact fin v w' hv
            · rw [hrn]; exact fin _ w' hv
            · rw [hrn]; exact call_next (d := o.dst) (a := a) (next := fun a' w' => (∀ p ∈ pend, ((befOf .any ops).getD j 0).testBit p.1 = false → p.2.1.run P w' = .ok (.value p.2.2) w') ∧ wpE P .any ops Q m (listed.setIfInBounds j true) pend a' w') hv fun v w' hv => fin v w' hv
          · exact h1.elim
        · exact h1.elim

theorem QK.mono {n : Nat} {a0 : Act} {ch ch' : List Nat} {Kn : Nat → Fr → World → Prop} {Ke : Nat → Nat → Fr → World → Prop} {Kr : Nat → Fr → World → Prop} (hs : ∀ i, i ∈ ch → i ∈ ch') :
    ∀ e a w, QK n a0 ch Kn Ke Kr e a w → QK n a0 ch' Kn Ke Kr e a w
  | .normal, _, _, ⟨L, f, a1, a2, a3⟩ => ⟨L, f, a1, a2.mono hs, a3⟩
  | .exit _, _, _, ⟨L, f, a1, a2, a3⟩ => ⟨L, f, a1, a2.mono hs, a3⟩
  | .ret, _, _, h => h
  | .panic _, _, _, h => h
  | .goto _, _, _, h => h
  | .outgrown, _, _, h => h

theorem wpF_sound (hm : P.follows .mixedOrders = true) (n lr : Nat) : ∀ (c : Code) (lv lx L : Nat) (a : Act) (f : Fr) (w : World) (Kn : Nat → Fr → World → Prop) (Ke : Nat → Nat → Fr → World → Prop) (Kr : Nat → Fr → World → Prop),
    Fits n L a f → wpF P n lr c lv lx L f w Kn Ke Kr → c.wp P (QK n a (writes c) Kn Ke Kr) a w
  | .skip, lv, lx, L, a, f, w, Kn, Ke, Kr, hf, h => wp_skip ⟨L, f, hf, Agree.refl _ _, h⟩
  | .exit id, lv, lx, L, a, f, w, Kn, Ke, Kr, hf, h => wp_exit ⟨L, f, hf, Agree.refl _ _, h⟩
  | .ret, lv, lx, L, a, f, w, Kn, Ke, Kr, hf, h => wp_ret ⟨L, f, hf, h⟩
  | .seq x y, lv, lx, L, a, f, w, Kn, Ke, Kr, hf, h => by
    have up1 : ∀ i, i ∈ writes x → i ∈ writes (.seq x y) := fun i hi => by unfold writes; exact mem_uni.2 (.inl hi)
    have up2 : ∀ i, i ∈ writes y → i ∈ writes (.seq x y) := fun i hi => by unfold writes; exact mem_uni.2 (.inr hi)
    have behind : ∀ (L' : Nat) (f' : Fr) a' w', Fits n L' a' f' → Agree (writes x) a a' → wpF P n lr y lv lx L' f' w' Kn Ke Kr → y.wp P (QK n a (writes (.seq x y)) Kn Ke Kr) a' w' := fun L' f' a' w' h1 h2 h3 =>
      wp_mono (wpF_sound hm n lr y lv lx L' a' f' w' Kn Ke Kr h1 h3) fun e a'' w'' hq => by
        cases e with
        | normal => obtain ⟨L1, g, g1, g2, g3⟩ := hq; exact ⟨L1, g, g1, (h2.mono up1).trans (g2.mono up2), g3⟩
        | exit id => obtain ⟨L1, g, g1, g2, g3⟩ := hq; exact ⟨L1, g, g1, (h2.mono up1).trans (g2.mono up2), g3⟩
        | ret => exact hq
        | _ => exact hq
    unfold wpF at h
    cases hb : Nat.ble (nx x) 1
    · rw [hb, cond_false] at h
      obtain ⟨J, h1, h2⟩ := h
      refine wp_seq (wp_mono (wpF_sound hm n lr x _ lx L a f w _ Ke Kr hf h1) fun e a' w' hq => ?_)
      cases e with
      | normal =>
        obtain ⟨L1, g, g1, g2, g3⟩ := hq
        cases hch : allIn L1 (pick (writes x) (liveIn y lv lx lr))
        · rw [hch, cond_false] at g3; exact g3.elim
        rw [hch, cond_true] at g3
        exact behind _ _ a' w' (fits_join hf g1 g2 hch) g2 (h2 _ _ g3)
      | exit id => obtain ⟨L1, g, g1, g2, g3⟩ := hq; exact ⟨L1, g, g1, g2.mono up1, g3⟩
      | ret => exact hq
      | _ => exact hq
    · rw [hb, cond_true] at h
      refine wp_seq (wp_mono (wpF_sound hm n lr x _ lx L a f w _ Ke Kr hf h) fun e a' w' hq => ?_)
      cases e with
      | normal => obtain ⟨L1, g, g1, g2, g3⟩ := hq; exact behind L1 g a' w' g1 g2 g3
      | exit id => obtain ⟨L1, g, g1, g2, g3⟩ := hq; exact ⟨L1, g, g1, g2.mono up1, g3⟩
      | ret => exact hq
      | _ => exact hq
  | .cond c x y, lv, lx, L, a, f, w, Kn, Ke, Kr, hf, h => by
    unfold wpF at h
    cases hc0 : allIn L (opdL c)
    · rw [hc0, cond_false] at h; exact h.elim
    rw [hc0, cond_true] at h
    have hev : a.eval c = evF f c := by
      cases c with
      | tmp t => exact hf.get t (allIn_spec hc0 (by simp [opdL]))
      | _ => rfl
    unfold condF at h
    split at h
    · rename_i hc
      refine wp_cond_true (by rw [hev]; exact hc) ?_
      exact wp_mono (wpF_sound hm n lr x lv lx L a f w Kn Ke Kr hf h) (QK.mono (fun i hi => by unfold writes; exact mem_uni.2 (.inl hi)))
    · rename_i hc
      refine wp_cond_false (by rw [hev]; exact hc) ?_
      exact wp_mono (wpF_sound hm n lr y lv lx L a f w Kn Ke Kr hf h) (QK.mono (fun i hi => by unfold writes; exact mem_uni.2 (.inr hi)))
    · exact h.elim
  | .block id b, lv, lx, L, a, f, w, Kn, Ke, Kr, hf, h => by
    unfold wpF at h
    refine wp_block (wp_mono (wpF_sound hm n lr b lv _ L a f w _ _ Kr hf h) fun e a' w' hq => ?_)
    cases e with
    | normal => exact hq
    | exit id' =>
      obtain ⟨L1, g, g1, g2, g3⟩ := hq
      simp only [Exit.inBlock]
      by_cases he : id' = id
      · rw [if_pos he]
        subst he
        rw [Nat.beq_refl, cond_true] at g3
        exact ⟨L1, g, g1, g2, g3⟩
      · rw [if_neg he]
        rw [beq_false he, cond_false] at g3
        exact ⟨L1, g, g1, g2, g3⟩
    | ret => exact hq
    | _ => exact hq
  | .loop b, lv, lx, L, a, f, w, Kn, Ke, Kr, hf, h => by
    unfold wpF at h
    cases hc0 : allIn L (pick (writes b) (liveIn b 0 lx lr))
    · rw [hc0, cond_false] at h; exact h.elim
    rw [hc0, cond_true] at h
    obtain ⟨I, μ, h0, h1⟩ := h
    refine wp_loop (fun a' w => ∃ L' g, Fits n L' a' g ∧ allIn L' (pick (writes b) (liveIn b 0 lx lr)) = true ∧ Agree (writes b) a a' ∧ I ((pick (writes b) (liveIn b 0 lx lr)).map g) w)
      (fun a w => μ ((pick (writes b) (liveIn b 0 lx lr)).map fun i => a.tmps.getD i undef) w) ⟨L, f, hf, hc0, Agree.refl _ _, h0⟩ ?_
    rintro a1 w1 ⟨L1, g, g1, gc, g2, g3⟩
    have h2 := h1 _ _ g3
    have hμ : ∀ (L' : Nat) (a' : Act) (g' : Fr), Fits n L' a' g' → allIn L' (pick (writes b) (liveIn b 0 lx lr)) = true →
        ((pick (writes b) (liveIn b 0 lx lr)).map fun i => a'.tmps.getD i undef) = (pick (writes b) (liveIn b 0 lx lr)).map g' := fun L' a' g' hg hc =>
      List.map_congr_left fun i hi => hg.get i (allIn_spec hc hi)
    refine wp_mono (wpF_sound hm n lr b _ lx _ a1 _ w1 _ Ke Kr (fits_join hf g1 g2 gc) h2) fun e a' w' hq => ?_
    cases e with
    | normal =>
      obtain ⟨L2, g', g1', g2', g3'⟩ := hq
      cases hc2 : allIn L2 (pick (writes b) (liveIn b 0 lx lr))
      · rw [hc2, cond_false] at g3'; exact g3'.elim
      rw [hc2, cond_true] at g3'
      refine ⟨⟨L2, g', g1', hc2, g2.trans g2', g3'.1⟩, ?_⟩
      rw [hμ L2 a' g' g1' hc2, hμ L1 a1 g g1 gc]
      exact g3'.2
    | exit id => obtain ⟨L2, g', g1', g2', g3'⟩ := hq; exact ⟨L2, g', g1', g2.trans g2', g3'⟩
    | ret => exact hq
    | _ => exact hq
  | .region id ops draw, lv, lx, L, a, f, w, Kn, Ke, Kr, hf, h => by
    unfold wpF at h
    have hd : ∀ o ∈ ops.toList, ∀ d, o.dst = some d → d ∈ writes (.region id ops draw) := fun o ho d hod => by unfold writes; exact mem_dsts ho hod
    have hQ : ∀ L a' w f', Fits n L a' f' → Agree (writes (.region id ops draw)) a a' → Kn L f' w → QK n a (writes (.region id ops draw)) Kn Ke Kr .normal a' w := fun L a' w f' h1 h2 h3 => ⟨L, f', h1, h2, h3⟩
    cases draw
    · rw [cond_false] at h
      exact wp_region_list (opsF_sound hQ ops.toList 0 L a f w hd hf (Agree.refl _ _) h)
    · rw [cond_true] at h
      cases hs : Region.noSelect ops
      · rw [hs, cond_false] at h; exact h.elim
      · rw [hs, cond_true] at h
        exact wp_region_E hm hs (fun _ _ _ _ _ h => h) (drawF_sound hQ (fun i o ho => hd o (Array.mem_toList_iff.2 (Array.mem_of_getElem? ho))) _ _ [] [] L a f w.drew trivial hf (Agree.refl _ _) h)
  | .rangeFunc _ _ _ _, _, _, _, _, _, _, _, _, _, _, h => by unfold wpF at h; exact h.elim
  | .scope _, _, _, _, _, _, _, _, _, _, _, h => by unfold wpF at h; exact h.elim
  | .label _, _, _, _, _, _, _, _, _, _, _, h => by unfold wpF at h; exact h.elim
  | .goto _, _, _, _, _, _, _, _, _, _, _, h => by unfold wpF at h; exact h.elim
  | .refuse _, _, _, _, _, _, _, _, _, _, _, h => by unfold wpF at h; exact h.elim

theorem loadF_run {t : TypeId} {v : Value} {w : World} {K : Value → Prop} (h : loadF P t v w K) : ∃ u, K u ∧ (do loadVar t (← asAddr v) : Sem Value).run P w = .ok u w := by
  have conv : ∀ u, (Instr.loadAt t v).run P w = .ok u w → (do loadVar t (← asAddr v) : Sem Value).run P w = .ok u w := fun u hu => by
    unfold Instr.loadAt Instr.sureAddr at hu
    unfold asAddr
    cases v <;> simp_all
    rename_i a
    cases a <;> simp_all
  have back : ∀ u, (do pure (Next.value (← Instr.loadAt t v)) : Sem Next).run P w = .ok (.value u) w → (Instr.loadAt t v).run P w = .ok u w := fun u hu => by
    rw [run_v] at hu
    cases hx : (Instr.loadAt t v).run P w with
    | ok y w' => rw [hx] at hu; simp at hu; obtain ⟨rfl, rfl⟩ := hu; rfl
    | halt y w' => rw [hx] at hu; simp at hu
  unfold loadF at h
  split at h
  · rename_i n ha hn
    obtain ⟨u, hu, hr⟩ := (ok_load (P := P) t v).1 n ha hn w K h
    exact ⟨u, hu, conv u (back u hr)⟩
  · rename_i n ha hn
    obtain ⟨u, hu, hr⟩ := (ok_load (P := P) t v).2 ha w K h
    exact ⟨u, hu, conv u (back u hr)⟩
  · exact h.elim

theorem retsF_run {n L : Nat} {a : Act} {f : Fr} (hf : Fits n L a f) (w : World) : ∀ (l : List ResultVar) (K : List Value → Prop), retsF P l L f w K → ∃ vs, K vs ∧
    (l.mapM fun
      | .tmp t => pure (a.tmps.getD t undef)
      | .cell x t => do loadVar t (← asAddr (a.tmps.getD x undef)) : Sem (List Value)).run P w = .ok vs w
  | [], K, h => ⟨[], h, rfl⟩
  | .tmp t :: r, K, h => by
    unfold retsF at h
    cases hb : Nat.testBit L t
    · rw [hb, cond_false] at h; exact h.elim
    rw [hb, cond_true] at h
    obtain ⟨vs, h1, h2⟩ := retsF_run hf w r _ h
    refine ⟨f t :: vs, h1, ?_⟩
    rw [List.mapM_cons]
    simp only [Sem.run_bind, Sem.run_pure, Result.andThen_ok]
    rw [h2, Result.andThen_ok, hf.get t hb]
  | .cell x t :: r, K, h => by
    unfold retsF at h
    cases hb : Nat.testBit L x
    · rw [hb, cond_false] at h; exact h.elim
    rw [hb, cond_true] at h
    obtain ⟨u, hu, hr⟩ := loadF_run h
    obtain ⟨vs, h1, h2⟩ := retsF_run hf w r _ hu
    refine ⟨u :: vs, h1, ?_⟩
    rw [List.mapM_cons, Sem.run_bind]
    have hr' : (match (ResultVar.cell x t) with
      | .tmp t => pure (a.tmps.getD t undef)
      | .cell x t => do loadVar t (← asAddr (a.tmps.getD x undef)) : Sem Value).run P w = .ok u w := by
      simp only
      rw [hf.get x hb]; exact hr
    rw [hr', Result.andThen_ok, Sem.run_bind, h2]
    rfl

theorem rets_sound {n L : Nat} {a : Act} {f : Fr} (hf : Fits n L a f) {fn : Func} {w : World} {R : Value → World → Prop} (h : retsF P fn.results.toList L f w fun vs => R (tup vs) w) :
    ∃ v, (results fn a.tmps).run P w = .ok v w ∧ R v w := by
  obtain ⟨vs, h1, h2⟩ := retsF_run hf w _ _ h
  refine ⟨tup vs, ?_, h1⟩
  have : (results fn a.tmps).run P w = .ok (if h : vs.toArray.size = 1 then vs.toArray[0] else .tuple vs.toArray) w := by
    unfold results
    rw [Sem.run_bind, Array.mapM_eq_mapM_toList, Sem.run_map]
    erw [h2]
    rfl
  rw [this]
  congr 1
  match vs with
  | [] => rfl
  | [v] => rfl
  | v :: u :: r => simp [tup]

/-- THE ENGINE's THEOREM -/
theorem calls_of_F (hm : P.follows .mixedOrders = true) {g : FuncId} {fn : Func} {c : Code} {args : List Value} {w : World} {R : Value → World → Prop}
    (hfn : P.funcs[g]? = some fn) (hb : fn.body = some c) (hle : args.length ≤ fn.ntmps) (h : bodyF P fn c args w R) :
    Calls P g args.toArray w fun e w' => ∃ v, e = .returned v ∧ R v w' := by
  refine calls_of_wp hfn hb ?_
  have hf : Fits fn.ntmps (2 ^ fn.ntmps - 1) { tmps := args.toArray ++ Array.replicate (fn.ntmps - args.toArray.size) undef, defers := [] } (fr0 args) := by
    refine ⟨rfl, by simp; omega, fun i _ => ?_⟩
    simp only [Array.getD_eq_getD_getElem?, Array.getElem?_append, fr0, List.getD_eq_getElem?_getD]
    split
    · simp
    · rename_i hi
      simp only [List.size_toArray, Nat.not_lt] at hi
      rw [List.getElem?_eq_none hi]
      simp only [List.size_toArray, Option.getD_none]
      rcases Nat.lt_or_ge (i - args.length) (fn.ntmps - args.length) with hl | hl
      · simp [hl]
      · simp [hl]
  refine wp_mono (wpF_sound hm fn.ntmps _ c _ _ _ _ (fr0 args) w _ _ _ hf h) fun e a' w' hq => ?_
  cases e with
  | normal =>
    obtain ⟨L, f, f1, _, f3⟩ := hq
    obtain ⟨v, h1, h2⟩ := rets_sound f1 f3
    exact ⟨f1.defers, v, h1, v, rfl, h2⟩
  | exit id => obtain ⟨L, f, _, _, f3⟩ := hq; exact f3.elim
  | ret =>
    obtain ⟨L, f, f1, f3⟩ := hq
    obtain ⟨v, h1, h2⟩ := rets_sound f1 f3
    exact ⟨f1.defers, v, h1, v, rfl, h2⟩
  | _ => exact hq.elim
end
end Go.Proofs.YtlfeckimhaegbaaDoor.Eng
