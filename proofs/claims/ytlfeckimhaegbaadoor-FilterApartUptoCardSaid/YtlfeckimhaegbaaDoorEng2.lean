/- An engine of this session's own, second part: the formula of an operation is sound for what the model runs. -/
import Derived.Test.YtlfeckimhaegbaaDoorEng1
namespace Go.Proofs.YtlfeckimhaegbaaDoor.Eng
open Go

def Form.ok (P : Program) (s : Sem Next) : Form → Prop
  | .pure F => ∀ K, F K → ∃ v, K v ∧ ∀ w, s.run P w = .ok (.value v) w
  | .read F => ∀ w K, F w K → ∃ v, K v ∧ s.run P w = .ok (.value v) w
  | .eff F => ∀ w K, F w K → (∃ v w', K v w' ∧ s.run P w = .ok (.value v) w') ∨ (∃ w', K undef w' ∧ s.run P w = .ok .skip w') ∨
      (∃ g args w', callF P g args w' K ∧ s.run P w = .ok (.enter g args) w')

section
variable {P : Program}

theorem run_v (s : Sem Value) (w : World) : (do pure (Next.value (← s)) : Sem Next).run P w = (s.run P w).andThen fun v w' => .ok (.value v) w' := by
  simp

theorem ok_rd (s : Sem Value) : Form.ok P (do pure (.value (← s))) (.read fun w K => rd P s w K) := by
  intro w K h
  unfold rd at h
  rw [run_v]
  split at h
  · rename_i v w' hs
    obtain ⟨rfl, hk⟩ := h
    exact ⟨v, hk, by rw [hs]; rfl⟩
  · exact h.elim
theorem ok_ef (s : Sem Value) : Form.ok P (do pure (.value (← s))) (.eff fun w K => ef P s w K) := by
  intro w K h
  unfold ef at h
  rw [run_v]
  split at h
  · rename_i v w' hs
    exact .inl ⟨v, w', h, by rw [hs]; rfl⟩
  · exact h.elim
theorem ok_efu (s : Sem Unit) : Form.ok P (do s; pure .skip) (.eff fun w K => ef P s w fun _ => K undef) := by
  intro w K h
  unfold ef at h
  split at h
  · rename_i v w' hs
    exact .inr (.inl ⟨w', h, by simp [hs]⟩)
  · exact h.elim
theorem ok_raw (o : Oper) (ev : Operand → Value) : Form.ok P (execOp ev o) (.eff (rawF P o ev)) := by
  intro w K h
  unfold rawF at h
  split at h
  · exact .inl ⟨_, _, h, by assumption⟩
  · exact .inr (.inl ⟨_, h, by assumption⟩)
  · exact .inr (.inr ⟨_, _, _, h, by assumption⟩)
  · exact h.elim

theorem und_run {t : TypeId} {d : TypeDesc} (h : P.underlying t = some d) (w : World) : (underlying t).run P w = .ok d w := by
  simp [underlying, h]
theorem size_run {t : TypeId} {n : Nat} (h : sizeP P t = some n) (w : World) : (sizeOf t).run P w = .ok n w := by
  unfold sizeP at h
  cases hi : P.info? t with
  | none => simp [hi] at h
  | some i => simp [hi] at h; simp [sizeOf, typeInfo, hi, h]
theorem zero_run {t : TypeId} {z : Value} (h : (P.info? t).bind (·.zero) = some z) (w : World) : (zeroValue t).run P w = .ok z w := by
  cases hi : P.info? t with
  | none => simp [hi] at h
  | some i => simp [hi] at h; simp [zeroValue, typeInfo, hi, h]
theorem agg_run {t : TypeId} {b : Bool} (h : isAggP P t = some b) (w : World) : (isAgg t).run P w = .ok b w := by
  unfold isAggP at h
  unfold isAgg
  cases hu : P.underlying t with
  | none => simp [hu] at h
  | some d =>
    rw [Sem.run_bind, und_run hu, Result.andThen_ok]
    rw [hu] at h
    cases d <;> simp_all

/-! ### the pure ones -/
theorem ok_pPick (c x y : Value) : Form.ok P (do pure (.value (if ← asBool c then x else y))) (.pure (pPick c x y)) := by
  intro K h
  unfold pPick at h
  split at h
  · exact ⟨_, h, fun w => by simp [asBool]⟩
  · exact ⟨_, h, fun w => by simp [asBool]⟩
  · exact h.elim
theorem ok_pExt (i : Nat) (v : Value) : Form.ok P (do pure (.value (← Instr.extract v i))) (.pure (pExt i v)) := by
  intro K h
  unfold pExt at h
  split at h
  · split at h
    · rename_i u hu; exact ⟨u, h, fun w => by simp [Instr.extract, hu]⟩
    · exact h.elim
  · exact h.elim
theorem ok_nilC (o : Oper) (ev : Operand → Value) (x : Operand) (ho : o.op = .nilCheck x) : Form.ok P (execOp ev o) (.pure (nilC (ev x))) := by
  intro K h
  unfold nilC at h
  refine ⟨ev x, ?_, fun w => ?_⟩
  · split at h <;> first | exact h.elim | exact h
  · simp only [execOp, ho]
    split at h <;> first | exact h.elim | skip
    split <;> simp_all
theorem ok_pBinI (op : BinOp) (hop : isShift op = false) (t : TypeId) (x y : Operand) (v u : Value) :
    Form.ok P (do pure (.value (← (do eqGuard op t x y v u; binOp op t v u)))) (.pure (pBin op v u)) := by
  intro K h
  unfold pBin at h
  split at h
  · rename_i k a k' b
    obtain ⟨rfl, h⟩ := h
    have hg : ∀ w, (eqGuard op t x y (.int k a) (.int k b)).run P w = .ok () w := fun w => by
      unfold eqGuard; cases op <;> simp
    cases op <;> simp only [binI] at h <;>
      first
        | exact h.elim
        | (simp [isShift] at hop; done)
        | (exact ⟨_, h, fun w => by simp [hg, binOp, Op.intArith, Op.intBits, Op.intCmp]⟩)
        | (exact ⟨_, h.2, fun w => by simp [hg, binOp, Op.intDiv, h.1]⟩)
  · rename_i a b
    have hg : ∀ w, (eqGuard op t x y (.string a) (.string b)).run P w = .ok () w := fun w => by
      unfold eqGuard; cases op <;> simp
    cases op <;> simp only [binS] at h <;>
      first
        | exact h.elim
        | (exact ⟨_, h, fun w => by simp [hg, binOp, Op.stringOp]⟩)
        | (refine ⟨_, h.2, fun w => ?_⟩
           have h1 := h.1
           have : ¬ (((a.size + b.size : Nat) : Int) > IntKind.i64.max) := by omega
           simp only [Sem.run_bind, hg, Result.andThen_ok, binOp, Op.stringOp, if_neg this, Sem.run_pure])
  · exact h.elim
theorem ok_pShift (op : BinOp) (hop : isShift op = true) (t : TypeId) (x y : Operand) (v u : Value) :
    Form.ok P (do pure (.value (← (do eqGuard op t x y v u; binOp op t v u)))) (.pure (pShift op v u)) := by
  intro K h
  unfold pShift at h
  split at h
  · rename_i k a k' b
    have hg : ∀ w, (eqGuard op t x y (.int k a) (.int k' b)).run P w = .ok () w := fun w => by
      unfold eqGuard; cases op <;> simp
    cases op <;> simp only [shI] at h <;>
      first
        | exact h.elim
        | (simp [isShift] at hop; done)
        | (exact ⟨_, h.2, fun w => by simp [hg, binOp, Op.shift, Int.not_lt.2 h.1]⟩)
  · exact h.elim
theorem equal_step {t : TypeId} {x y : Value} {w : World} {r : Result Bool} (h : ∀ d, (Op.equalIn (d + 1) t x y).run P w = r) : (Op.equal t x y).run P w = r := h 9999
theorem equal_bool {t : TypeId} (ht : P.underlying t = some .bool) (a b : Bool) (w : World) : (Op.equal t (.bool a) (.bool b)).run P w = .ok (a == b) w :=
  equal_step fun d => by
    rw [Op.equalIn]
    simp only [Sem.run_bind, und_run ht, Result.andThen_ok, Sem.run_pure]
theorem ok_pBoolEq (op : BinOp) (t : TypeId) (x y : Operand) (v u : Value) (ht : P.underlying t = some .bool) :
    Form.ok P (do pure (.value (← (do eqGuard op t x y v u; binOp op t v u)))) (.pure (pBoolEq op v u)) := by
  intro K h
  unfold pBoolEq at h
  split at h
  · rename_i a b
    have hg : ∀ w, (eqGuard op t x y (.bool a) (.bool b)).run P w = .ok () w := fun w => by
      unfold eqGuard; cases op <;> simp
    cases op <;> simp only at h <;>
      first
        | exact h.elim
        | (exact ⟨_, h, fun w => by simp only [Sem.run_bind, hg, Result.andThen_ok, binOp, equal_bool ht, Sem.run_pure]⟩)
  · exact h.elim
theorem ok_pNot (v : Value) : Form.ok P (do pure (.value (← Op.unary .not v))) (.pure (pNot v)) := by
  intro K h
  unfold pNot at h
  split at h
  · exact ⟨_, h, fun w => by simp [Op.unary]⟩
  · exact h.elim
theorem ok_pNeg (v : Value) : Form.ok P (do pure (.value (← Op.unary .neg v))) (.pure (pNeg v)) := by
  intro K h
  unfold pNeg at h
  split at h
  · exact ⟨_, h, fun w => by simp [Op.unary, Op.intArith]⟩
  · exact h.elim
theorem ok_pXorU (v : Value) : Form.ok P (do pure (.value (← Op.unary .xor v))) (.pure (pXorU v)) := by
  intro K h
  unfold pXorU at h
  split at h
  · exact ⟨_, h, fun w => by simp [Op.unary, Op.intBits]⟩
  · exact h.elim

theorem ok_pure_val (v : Value) : Form.ok P (pure (.value v)) (.pure fun K => K v) := fun K h => ⟨v, h, fun w => by simp⟩

theorem guard_nil {op : BinOp} {t : TypeId} {x y : Operand} {v c : Value} (hc : c = .pointer none ∨ (∃ n m, c = .slice none n m) ∨ c = .map none ∨ c = .nilFunc) (w : World) :
    (eqGuard op t x y v c).run P w = .ok () w ∧ (eqGuard op t x y c v).run P w = .ok () w := by
  rcases hc with rfl | ⟨n, m, rfl⟩ | rfl | rfl <;> cases op <;> cases v <;> simp [eqGuard]

def nilIs (c v : Value) (b : Bool) : Prop :=
  match c, v with
  | .pointer none, .pointer a => b = a.isNone
  | .slice none _ _, .slice a _ _ => b = a.isNone
  | .map none, .map a => b = a.isNone
  | .nilFunc, .nilFunc => b = true
  | .nilFunc, .func _ _ _ => b = false
  | _, _ => False
theorem equal_nil {t : TypeId} {d : TypeDesc} (ht : P.underlying t = some d) {c v : Value} (hc : nilConst d c = true) {b : Bool}
    (hb : nilIs c v b) (w : World) :
    (Op.equal t v c).run P w = .ok b w ∧ (Op.equal t c v).run P w = .ok b w := by
  have key : ∀ n, (Op.equalIn (n + 1) t v c).run P w = .ok b w ∧ (Op.equalIn (n + 1) t c v).run P w = .ok b w := by
    intro n
    simp only [Op.equalIn, Sem.run_bind, und_run ht, Result.andThen_ok]
    unfold nilIs at hb
    split at hb
    · subst hb
      cases d <;> first | (exfalso; simp [nilConst] at hc; done) | (cases ‹Option Addr› <;> simp)
    · subst hb
      cases d <;> first | (exfalso; simp [nilConst] at hc; done) | (cases ‹Option Addr› <;> simp)
    · subst hb
      cases d <;> first | (exfalso; simp [nilConst] at hc; done) | (cases ‹Option Nat› <;> simp)
    · subst hb
      cases d <;> first | (exfalso; simp [nilConst] at hc; done) | simp
    · subst hb
      cases d <;> first | (exfalso; simp [nilConst] at hc; done) | simp
    · exact hb.elim
  exact ⟨equal_step fun n => (key n).1, equal_step fun n => (key n).2⟩

theorem ok_pNil (op : BinOp) (t : TypeId) (x y : Operand) (c v : Value) {d : TypeDesc} (ht : P.underlying t = some d) (hc : nilConst d c = true) :
    Form.ok P (do pure (.value (← (do eqGuard op t x y v c; binOp op t v c)))) (.pure (pNil op c v)) ∧
    Form.ok P (do pure (.value (← (do eqGuard op t x y c v; binOp op t c v)))) (.pure (pNil op c v)) := by
  have hcs : c = .pointer none ∨ (∃ n m, c = .slice none n m) ∨ c = .map none ∨ c = .nilFunc := by
    unfold nilConst at hc
    split at hc <;> simp_all
  have hbin : ∀ op, (op = .eql ∨ op = .neq) → binOp op t v c = (do let b ← Op.equal t v c; pure (.bool (if op = .eql then b else !b))) ∧
      binOp op t c v = (do let b ← Op.equal t c v; pure (.bool (if op = .eql then b else !b))) := by
    intro op hop
    rcases hop with rfl | rfl <;> rcases hcs with rfl | ⟨n, m, rfl⟩ | rfl | rfl <;> cases v <;> constructor <;> rfl
  have main : ∀ K, pNil op c v K → ∃ b, (op = .eql ∨ op = .neq) ∧ K (.bool (if op = .eql then b else !b)) ∧ ∀ w, (Op.equal t v c).run P w = .ok b w ∧ (Op.equal t c v).run P w = .ok b w := by
    intro K h
    have step : ∀ b, (match op with | .eql => K (.bool b) | .neq => K (.bool !b) | _ => False) →
        nilIs c v b → ∃ b, (op = .eql ∨ op = .neq) ∧ K (.bool (if op = .eql then b else !b)) ∧ ∀ w, (Op.equal t v c).run P w = .ok b w ∧ (Op.equal t c v).run P w = .ok b w := by
      intro b hk hb
      refine ⟨b, ?_, ?_, fun w => equal_nil ht hc hb w⟩
      · cases op <;> simp_all
      · cases op <;> simp_all
    unfold pNil at h
    simp only at h
    split at h
    · exact step _ h rfl
    · exact step _ h rfl
    · exact step _ h rfl
    · exact step _ h rfl
    · exact step _ h rfl
    · exact h.elim
  constructor
  · intro K h
    obtain ⟨b, hop, hk, hr⟩ := main K h
    refine ⟨_, hk, fun w => ?_⟩
    rw [(hbin op hop).1]
    simp only [Sem.run_bind, (guard_nil hcs w).1, Result.andThen_ok, (hr w).1, Sem.run_pure]
  · intro K h
    obtain ⟨b, hop, hk, hr⟩ := main K h
    refine ⟨_, hk, fun w => ?_⟩
    rw [(hbin op hop).2]
    simp only [Sem.run_bind, (guard_nil hcs w).2, Result.andThen_ok, (hr w).2, Sem.run_pure]

theorem ok_formBin (op : BinOp) (t : TypeId) (x y : Operand) (ev : Operand → Value) (hev : ∀ v, ev (.const v) = v) {f : Form} (h : formBin P op t x y ev = some f) :
    Form.ok P (do pure (.value (← (do eqGuard op t x y (ev x) (ev y); binOp op t (ev x) (ev y))))) f := by
  unfold formBin at h
  split at h
  · injection h with h; subst h
    cases hs : isShift op
    · simp only [Bool.false_eq_true, if_false]; exact ok_pBinI op hs t x y _ _
    · simp only [if_true]; exact ok_pShift op hs t x y _ _
  · cases hs : isShift op
    · rw [hs] at h; simp only [Bool.false_eq_true, if_false] at h; injection h with h; subst h; exact ok_pBinI op hs t x y _ _
    · rw [hs] at h; simp at h
  · rename_i ht; injection h with h; subst h; exact ok_pBoolEq op t x y _ _ ht
  · rename_i d _ _ _ ht
    split at h
    · rename_i c
      split at h
      · rename_i hc; injection h with h; subst h; rw [hev c]; exact (ok_pNil op t x (.const c) c (ev x) ht hc).1
      · cases h
    · rename_i c _
      split at h
      · rename_i hc; injection h with h; subst h; rw [hev c]; exact (ok_pNil op t (.const c) y c (ev y) ht hc).2
      · cases h
    · cases h
  · cases h

theorem ok_formConv (s d : TypeId) (x : Operand) (ev : Operand → Value) : Form.ok P (do pure (.value (← convert s d (ev x)))) (formConv P s d x ev) := by
  unfold formConv
  split
  · rename_i k1 k2 hs hd
    intro K h
    unfold pConv at h
    split at h
    · rename_i k n hx
      refine ⟨_, h, fun w => ?_⟩
      rw [hx]
      simp [convert, und_run hs, und_run hd, Conv.intToInt]
    · exact h.elim
  · rename_i hs hd
    intro K h
    unfold pStr at h
    split at h
    · rename_i b hx
      refine ⟨_, h, fun w => ?_⟩
      rw [hx]
      simp [convert, und_run hs, und_run hd]
    · exact h.elim
  · exact ok_rd _
  · exact ok_ef _

theorem part_run {t : TypeId} (cs : Array Value) (off : Nat) {b : Bool} {n : Nat} (ha : isAggP P t = some b) (hn : sizeP P t = some n) (w : World) :
    (part t cs off).run P w = (if b then Result.ok (.agg (cs.extract off (off + n))) w else match cs[off]? with | some v => .ok v w | none => .halt (.stuck "part: no such cell") w) := by
  unfold part
  rw [Sem.run_bind, agg_run ha, Result.andThen_ok]
  cases b
  · simp only [Bool.false_eq_true, if_false]
    cases cs[off]? <;> rfl
  · simp [size_run hn]

theorem ok_formField (t : TypeId) (i : Nat) (v : Value) {f : Form} (h : formField P t i v = some f) : Form.ok P (do pure (.value (← Instr.field t v i))) f := by
  unfold formField at h
  split at h
  · rename_i fs ht
    split at h
    · rename_i fd hf
      split at h
      · rename_i n ha hn
        injection h with h; subst h
        intro K hk
        unfold pPartN at hk
        split at hk
        · rename_i cs
          refine ⟨_, hk, fun w => ?_⟩
          simp [Instr.field, und_run ht, hf, asAgg, part_run cs fd.offset ha hn]
        · exact hk.elim
      · rename_i n ha hn
        injection h with h; subst h
        intro K hk
        unfold pPart at hk
        split at hk
        · rename_i cs
          split at hk
          · rename_i u hu
            refine ⟨_, hk, fun w => ?_⟩
            simp [Instr.field, und_run ht, hf, asAgg, part_run cs fd.offset ha hn, hu]
          · exact hk.elim
        · exact hk.elim
      · cases h
    · cases h
  · cases h

theorem ok_formFld (t : TypeId) (i : Nat) (v : Value) {f : Form} (h : formFld P t i v = some f) : Form.ok P (do pure (.value (← Instr.fieldAt t v i))) f := by
  unfold formFld at h
  split at h
  · rename_i fs ht
    split at h
    · rename_i fd hf
      split at h
      · rename_i n hn
        injection h with h; subst h
        intro K hk
        unfold pFld at hk
        split at hk
        · rename_i a
          refine ⟨_, hk, fun w => ?_⟩
          simp [Instr.fieldAt, und_run ht, hf, Instr.sureAddr, fieldPlace, size_run hn]
        · exact hk.elim
      · cases h
    · cases h
  · cases h

theorem ok_formIxA (t : TypeId) (v i : Value) {f : Form} (h : formIxA P t v i = some f) : Form.ok P (do pure (.value (← Instr.indexAt t v i))) f := by
  unfold formIxA at h
  split at h
  · rename_i e ht
    cases hn : sizeP P e with
    | none => rw [hn] at h; cases h
    | some n =>
      rw [hn] at h; injection h with h; subst h
      intro K hk
      unfold pIxS at hk
      split at hk
      · rename_i a len cap q j
        obtain ⟨h0, h1, hk⟩ := hk
        refine ⟨_, hk, fun w => ?_⟩
        simp [Instr.indexAt, asIntOf, und_run ht, h0, h1, size_run hn]
      · exact hk.elim
  · rename_i len e ht
    cases hn : sizeP P e with
    | none => rw [hn] at h; cases h
    | some n =>
      rw [hn] at h; injection h with h; subst h
      intro K hk
      unfold pIxA at hk
      split at hk
      · rename_i a q j
        obtain ⟨h0, h1, hk⟩ := hk
        refine ⟨_, hk, fun w => ?_⟩
        simp [Instr.indexAt, asIntOf, und_run ht, h0, h1, size_run hn, Instr.sureAddr]
      · exact hk.elim
  · cases h

theorem ok_formIx (t : TypeId) (v i : Value) {f : Form} (h : formIx P t v i = some f) : Form.ok P (do pure (.value (← Instr.index t v i))) f := by
  unfold formIx at h
  split at h
  · rename_i ht
    injection h with h; subst h
    intro K hk
    unfold pIxStr at hk
    split at hk
    · rename_i s q j
      obtain ⟨h0, hk⟩ := hk
      split at hk
      · rename_i b hb
        refine ⟨_, hk, fun w => ?_⟩
        simp [Instr.index, asIntOf, und_run ht, h0, hb]
      · exact hk.elim
    · exact hk.elim
  · rename_i len e ht
    split at h
    · rename_i ha hn
      injection h with h; subst h
      intro K hk
      unfold pIxV at hk
      split at hk
      · rename_i cs q j
        obtain ⟨h0, h1, hk⟩ := hk
        split at hk
        · rename_i u hu
          refine ⟨_, hk, fun w => ?_⟩
          simp [Instr.index, asIntOf, und_run ht, h0, h1, size_run hn, part_run cs _ ha hn]
          simp at hu
          simp [hu]
        · exact hk.elim
      · exact hk.elim
    · cases h
  · cases h

end
end Go.Proofs.YtlfeckimhaegbaaDoor.Eng
