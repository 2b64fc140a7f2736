/- An engine of this session's own, fourth part: each operation's formula is sound ('form_ok'). -/
import Derived.Test.YtlfeckimhaegbaaDoorEng3
namespace Go.Proofs.YtlfeckimhaegbaaDoor.Eng
open Go
section
variable {P : Program}

theorem getD_toList {α : Type} (xs : Array α) (l : List α) (h : xs.toList = l) : xs = l.toArray := by subst h; rfl

theorem ok_callFun {o : Oper} {c : Call} (ho : o.op = .call c) {g : FuncId} (hc : c.callee = .value (.func g)) (hb : bodied P g = true) (ev : Operand → Value)
    (hev : ev (.func g) = .func (.func g) #[] #[]) : Form.ok P (execOp ev o) (.eff fun w K => callF P g (mapA ev c.args) w K) := by
  intro w K h
  refine .inr (.inr ⟨g, mapA ev c.args, w, h, ?_⟩)
  simp only [execOp, ho, resolve, hc, hev, Deferred.ofValue, Sem.run_bind, Sem.run_pure, Result.andThen_ok, invoke, mapA_eq, Array.empty_append, Array.append_empty]
  exact call_run (bodied_spec hb) _ w
theorem ok_callVal {o : Oper} {c : Call} (ho : o.op = .call c) {x : Operand} (hc : c.callee = .value x) (ev : Operand → Value) :
    Form.ok P (execOp ev o) (.eff fun w K => callV P (ev x) (mapA ev c.args) w K) := by
  intro w K h
  unfold callV at h
  split at h
  · rename_i g first captured hx
    obtain ⟨hb, h⟩ := h
    refine .inr (.inr ⟨g, _, w, h, ?_⟩)
    simp only [execOp, ho, resolve, hc, hx, Deferred.ofValue, Sem.run_bind, Sem.run_pure, Result.andThen_ok, invoke, mapA_eq]
    exact call_run hb _ w
  · exact h.elim

theorem exec_builtin {o : Oper} {c : Call} (ho : o.op = .call c) {b : Builtin} (hc : c.callee = .builtin b) (ev : Operand → Value) (w : World) :
    (execOp ev o).run P w = (builtin b c.argTypes o.type (c.args.map fun | .const _ => true | _ => false) (mapA ev c.args)).run P w := by
  simp only [execOp, ho, resolve, hc, Sem.run_bind, Sem.run_pure, Result.andThen_ok, invoke, mapA_eq]
  rfl

theorem Form.ok_congr {s s' : Sem Next} {f : Form} (h : ∀ w, s.run P w = s'.run P w) (hf : f.ok P s') : f.ok P s := by
  cases f with
  | pure F => exact fun K hk => let ⟨v, hv, hr⟩ := hf K hk; ⟨v, hv, fun w => (h w).trans (hr w)⟩
  | read F => exact fun w K hk => let ⟨v, hv, hr⟩ := hf w K hk; ⟨v, hv, (h w).trans hr⟩
  | eff F =>
    intro w K hk
    rcases hf w K hk with ⟨v, w', h1, h2⟩ | ⟨w', h1, h2⟩ | ⟨g, args, w', h1, h2⟩
    · exact .inl ⟨v, w', h1, (h w).trans h2⟩
    · exact .inr (.inl ⟨w', h1, (h w).trans h2⟩)
    · exact .inr (.inr ⟨g, args, w', h1, (h w).trans h2⟩)

theorem ok_formCall {o : Oper} {c : Call} (ho : o.op = .call c) (ev : Operand → Value) (hev : ∀ g, ev (.func g) = .func (.func g) #[] #[]) {f : Form}
    (h : formCall P c o.type ev = some f) : Form.ok P (execOp ev o) f := by
  unfold formCall at h
  split at h
  · rename_i g hc
    split at h
    · rename_i hb; injection h with h; subst h; exact ok_callFun ho hc hb ev (hev g)
    · cases h
  · rename_i x hne hc
    injection h with h; subst h; exact ok_callVal ho hc ev
  · cases h
  · rename_i hc
    split at h
    · rename_i t x ht hx
      have ha : mapA ev c.args = #[ev x] := by simp [mapA, hx]
      have hts : c.argTypes = #[t] := getD_toList _ _ ht
      split at h
      · injection h with h; subst h
        exact Form.ok_congr (fun w => exec_builtin ho hc ev w) (by rw [ha, hts]; exact ok_len t o.type (ev x))
      · injection h with h; subst h
        exact Form.ok_congr (fun w => exec_builtin ho hc ev w) (ok_rd _)
    · cases h
  · rename_i hc
    split at h
    · rename_i t x ht hx
      have ha : mapA ev c.args = #[ev x] := by simp [mapA, hx]
      have hts : c.argTypes = #[t] := getD_toList _ _ ht
      split at h
      · rename_i hk; injection h with h; subst h
        exact Form.ok_congr (fun w => exec_builtin ho hc ev w) (by rw [ha, hts]; exact ok_cap t o.type (ev x) hk)
      · injection h with h; subst h
        exact Form.ok_congr (fun w => exec_builtin ho hc ev w) (ok_rd _)
    · cases h
  · rename_i hc
    split at h
    · rename_i x y hx
      have ha : mapA ev c.args = #[ev x, ev y] := by simp [mapA, hx]
      split at h
      · injection h with h; subst h
        exact Form.ok_congr (fun w => exec_builtin ho hc ev w) (by rw [ha]; exact ok_max _ _ _ _)
      · injection h with h; subst h
        exact Form.ok_congr (fun w => exec_builtin ho hc ev w) (ok_rd _)
    · injection h with h; subst h
      exact Form.ok_congr (fun w => exec_builtin ho hc ev w) (ok_rd _)
  · rename_i hc
    split at h
    · rename_i x y hx
      have ha : mapA ev c.args = #[ev x, ev y] := by simp [mapA, hx]
      split at h
      · injection h with h; subst h
        exact Form.ok_congr (fun w => exec_builtin ho hc ev w) (by rw [ha]; exact ok_min _ _ _ _)
      · injection h with h; subst h
        exact Form.ok_congr (fun w => exec_builtin ho hc ev w) (ok_rd _)
    · injection h with h; subst h
      exact Form.ok_congr (fun w => exec_builtin ho hc ev w) (ok_rd _)
  · rename_i hc; injection h with h; subst h; exact Form.ok_congr (fun w => exec_builtin ho hc ev w) (ok_ef _)
  · rename_i hc; injection h with h; subst h; exact Form.ok_congr (fun w => exec_builtin ho hc ev w) (ok_ef _)
  · rename_i hc; injection h with h; subst h; exact Form.ok_congr (fun w => exec_builtin ho hc ev w) (ok_ef _)
  · rename_i hc; injection h with h; subst h; exact Form.ok_congr (fun w => exec_builtin ho hc ev w) (ok_ef _)
  · cases h

theorem map_parts (parts : Array (Nat × Operand)) (ev : Operand → Value) : (parts.map fun (i, x) => (i, ev x)) = (parts.toList.map fun p => (p.1, ev p.2)).toArray := by
  apply Array.ext'
  simp

theorem form_ok (o : Oper) (f : Fr) : Form.ok P (execOp (evF f) o) (form P o (evF f)) := by
  unfold form
  split
  rotate_left
  · exact ok_raw o _
  rename_i F hF
  obtain ⟨dst, op, type, pos, after, guard⟩ := o
  cases op <;> simp only [formO] at hF <;> (try (cases hF; done)) <;> simp only [execOp]
  case move x => injection hF with hF; subst hF; exact ok_pure_val _
  case assign x => injection hF with hF; subst hF; exact ok_pure_val _
  case pick c a b => injection hF with hF; subst hF; exact ok_pPick _ _ _
  case nilCheck x => injection hF with hF; subst hF; exact ok_nilC ⟨dst, .nilCheck x, type, pos, after, guard⟩ (evF f) x rfl
  case extract t i => injection hF with hF; subst hF; exact ok_pExt i _
  case makeFunc fn fs cs =>
    injection hF with hF; subst hF
    intro K h
    refine ⟨_, h, fun w => ?_⟩
    simp only [Instr.makeFunc, mapA_eq, Sem.run_bind, Sem.run_pure, Result.andThen_ok]
  case makeInterface t x =>
    split at hF
    · cases hF
    · rename_i d hne ht
      injection hF with hF; subst hF
      intro K h
      refine ⟨_, h, fun w => ?_⟩
      have ht : P.underlying t = some d := ht
      simp only [Instr.makeInterface, Sem.run_bind, und_run ht, Result.andThen_ok]
      cases d <;> first | (exact absurd ht (hne _)) | rfl
    · cases hF
  case binOp op t x y u =>
    split at hF
    · rename_i G hG; injection hF with hF; subst hF; exact ok_formBin op t x y _ (fun _ => rfl) hG
    · injection hF with hF; subst hF; exact ok_rd _
  case unOp op t x =>
    cases op <;> simp only at hF
    · split at hF
      · injection hF with hF; subst hF; exact ok_pNeg _
      · cases hF
    · split at hF
      · injection hF with hF; subst hF; exact ok_pXorU _
      · cases hF
    · injection hF with hF; subst hF; exact ok_pNot _
    · cases hF
  case convert s d x => injection hF with hF; subst hF; exact ok_formConv s d x _
  case box t x => injection hF with hF; subst hF; exact ok_box t _
  case alloc t =>
    split at hF
    · rename_i z hz; injection hF with hF; subst hF; exact ok_alloc t hz
    · cases hF
  case load t a =>
    split at hF
    · rename_i n ha hn; injection hF with hF; subst hF; exact (ok_load t _).1 _ ha hn
    · rename_i n ha hn; injection hF with hF; subst hF; exact (ok_load t _).2 ha
    · cases hF
  case store t a x =>
    split at hF
    · rename_i ha hn; injection hF with hF; subst hF; exact ok_st1 t _ _ hn
    · injection hF with hF; subst hF; exact ok_efu _
  case slice t x lo hi mx =>
    split at hF
    · rename_i G hG; injection hF with hF; subst hF; exact ok_formCut t x lo hi mx _ hG
    · injection hF with hF; subst hF; exact ok_rd _
  case fieldAddr t x i =>
    split at hF
    · rename_i G hG; injection hF with hF; subst hF; exact ok_formFld t i _ hG
    · injection hF with hF; subst hF; exact ok_rd _
  case field t x i => exact ok_formField t i _ hF
  case indexAddr t x i => exact ok_formIxA t _ _ hF
  case index t x i =>
    split at hF
    · rename_i G hG; injection hF with hF; subst hF; exact ok_formIx t _ _ hG
    · injection hF with hF; subst hF; exact ok_rd _
  case lookup t x i ok => injection hF with hF; subst hF; exact ok_rd _
  case entry x => injection hF with hF; subst hF; exact ok_rd _
  case typeAssert x t u ok => injection hF with hF; subst hF; exact ok_rd _
  case mapUpdate t m k x => injection hF with hF; subst hF; exact ok_efu _
  case insert t m k x => injection hF with hF; subst hF; exact ok_efu _
  case mapEntry t m k => injection hF with hF; subst hF; exact ok_ef _
  case entryStore t m s x => injection hF with hF; subst hF; exact ok_efu _
  case makeMap t r =>
    cases r with
    | none =>
      injection hF with hF; subst hF
      intro w K h
      exact .inl ⟨_, _, h, by simp [Instr.makeMap, ← World.alloc_eq]⟩
    | some r => injection hF with hF; subst hF; exact ok_ef _
  case makeSlice t l c => injection hF with hF; subst hF; exact ok_ef _
  case build t parts =>
    rw [map_parts]
    split at hF
    · rename_i G hG; injection hF with hF; subst hF; exact ok_formBuild t _ (by simpa using hG)
    · injection hF with hF; subst hF; exact ok_rd _
  case buildSlice t n parts => injection hF with hF; subst hF; rw [map_parts]; exact ok_ef _
  case range t x => injection hF with hF; subst hF; exact ok_ef _
  case next x s => injection hF with hF; subst hF; exact ok_ef _
  case panic x => injection hF with hF; subst hF; exact fun _ _ h => h.elim
  case call c => exact ok_formCall (o := ⟨dst, .call c, type, pos, after, guard⟩) rfl (evF f) (fun _ => rfl) hF

end
end Go.Proofs.YtlfeckimhaegbaaDoor.Eng
