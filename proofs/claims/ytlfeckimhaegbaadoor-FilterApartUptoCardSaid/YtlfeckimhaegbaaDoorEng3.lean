/- An engine of this session's own, third part: the formula of every operation is sound. -/
import Derived.Test.YtlfeckimhaegbaaDoorEng2
namespace Go.Proofs.YtlfeckimhaegbaaDoor.Eng
open Go
section
variable {P : Program}

theorem bnd_run {v : Value} {y : Nat} {code : BoundsCode} {K : Nat → Prop} (h : bnd v y K) : ∃ n, K n ∧ ∀ w, (Instr.sliceBound v y code).run P w = .ok n w := by
  unfold bnd at h
  split at h
  · obtain ⟨h0, h1, hk⟩ := h
    exact ⟨_, hk, fun w => by simp [Instr.sliceBound, asIntOf, h0, h1]⟩
  · exact h.elim

theorem bounds_run {isSlice : Bool} {len cap : Nat} {lo hi mx : Option Value} (hm : (mx.isSome && hi.isNone) = false) {K : Nat → Nat → Nat → Prop}
    (h : bndO mx cap cap fun m => bndO hi len m fun h => bndO lo 0 h fun l => K l h m) :
    ∃ l h m, K l h m ∧ ∀ w, (Instr.sliceBounds isSlice len cap lo hi mx).run P w = .ok (l, h, m) w := by
  unfold Instr.sliceBounds
  cases mx with
  | none =>
    cases hi with
    | none =>
      cases lo with
      | none => exact ⟨0, len, cap, h, fun w => by simp⟩
      | some v =>
        obtain ⟨l, hk, hr⟩ := bnd_run (P := P) (code := .sliceB) (v := v) (y := len) (K := fun l => K l len cap) h
        exact ⟨l, len, cap, hk, fun w => by simp [hr]⟩
    | some u =>
      obtain ⟨b, h, hr⟩ := bnd_run (P := P) (code := if isSlice then .sliceAcap else .sliceAlen) (v := u) (y := cap) (K := fun b => bndO lo 0 b fun l => K l b cap) h
      cases lo with
      | none => exact ⟨0, b, cap, h, fun w => by simp [hr]⟩
      | some v =>
        obtain ⟨l, hk, hr'⟩ := bnd_run (P := P) (code := .sliceB) (v := v) (y := b) (K := fun l => K l b cap) h
        exact ⟨l, b, cap, hk, fun w => by simp [hr, hr']⟩
  | some x =>
    obtain ⟨m, h, hr⟩ := bnd_run (P := P) (code := if isSlice then .slice3Acap else .slice3Alen) (v := x) (y := cap) (K := fun m => bndO hi len m fun h => bndO lo 0 h fun l => K l h m) h
    cases hi with
    | none => simp at hm
    | some u =>
      obtain ⟨b, h, hr'⟩ := bnd_run (P := P) (code := .slice3B) (v := u) (y := m) (K := fun b => bndO lo 0 b fun l => K l b m) h
      cases lo with
      | none => exact ⟨0, b, m, h, fun w => by simp [hr, hr']⟩
      | some v =>
        obtain ⟨l, hk, hr''⟩ := bnd_run (P := P) (code := .slice3C) (v := v) (y := b) (K := fun l => K l b m) h
        exact ⟨l, b, m, hk, fun w => by simp [hr, hr', hr'']⟩

theorem ok_formCut (t : TypeId) (x : Operand) (lo hi mx : Option Operand) (ev : Operand → Value) {f : Form} (h : formCut P t x lo hi mx ev = some f) :
    Form.ok P (do pure (.value (← Instr.sliceAt t (ev x) (lo.map ev) (hi.map ev) (mx.map ev)))) f := by
  unfold formCut at h
  split at h
  · cases h
  rename_i hm
  have hm' : ((mx.map ev).isSome && (hi.map ev).isNone) = false := by
    cases mx <;> cases hi <;> simp_all
  split at h
  · rename_i ht
    split at h
    · cases h
    · rename_i hmx
      have hmn : mx = none := by cases mx <;> simp_all
      subst hmn
      injection h with h; subst h
      intro K hk
      unfold pCutStr at hk
      split at hk
      · rename_i s hx
        obtain ⟨l, h', m, hk, hr⟩ := bounds_run (P := P) (isSlice := false) (lo := lo.map ev) (hi := hi.map ev) (mx := none) (len := s.size) (cap := s.size) (K := fun l h _ => K (.string (s.extract l h))) (by simp) hk
        refine ⟨_, hk, fun w => ?_⟩
        simp [Instr.sliceAt, Instr.slice, und_run ht, hx, hr]
      · exact hk.elim
  · rename_i e ht
    cases hn : sizeP P e with
    | none => rw [hn] at h; cases h
    | some n =>
      rw [hn] at h; injection h with h; subst h
      intro K hk
      unfold pCut at hk
      split at hk
      · rename_i a len cap hx
        obtain ⟨l, h', m, hk, hr⟩ := bounds_run (P := P) (isSlice := true) (K := fun l h m => K (.slice (if m = l then a else a.map (·.add (l * n))) (h - l) (m - l))) hm' hk
        refine ⟨_, hk, fun w => ?_⟩
        simp [Instr.sliceAt, Instr.slice, und_run ht, hx, hr, size_run hn]
      · exact hk.elim
  · rename_i len e ht
    cases hn : sizeP P e with
    | none => rw [hn] at h; cases h
    | some n =>
      rw [hn] at h; injection h with h; subst h
      intro K hk
      unfold pCutArr at hk
      split at hk
      · rename_i a hx
        obtain ⟨l, h', m, hk, hr⟩ := bounds_run (P := P) (isSlice := false) (K := fun l h m => K (.slice (some (if m = l then a else a.add (l * n))) (h - l) (m - l))) hm' hk
        refine ⟨_, hk, fun w => ?_⟩
        simp [Instr.sliceAt, und_run ht, hx, hr, size_run hn, Instr.sureAddr]
      · exact hk.elim
  · cases h

theorem places_run : ∀ (fs : List Field) (pl : List (Nat × Nat)), placesOf P fs = some pl → ∀ w, (fs.mapM fun f => do pure (f.offset, ← sizeOf f.type) : Sem (List (Nat × Nat))).run P w = .ok pl w
  | [], pl, h, w => by cases h; rfl
  | f :: r, pl, h, w => by
    unfold placesOf at h
    split at h
    · rename_i n l hn hl
      injection h with h; subst h
      rw [List.mapM_cons]
      simp only [Sem.run_bind, size_run hn, Result.andThen_ok, Sem.run_pure, places_run r l hl w]
    · cases h

theorem ok_formBuild (t : TypeId) (parts : Array (Nat × Value)) {f : Form} (h : formBuild P t parts.toList = some f) : Form.ok P (do pure (.value (← Instr.build t parts))) f := by
  unfold formBuild at h
  split at h
  · rename_i fs z ht hz
    cases hp : placesOf P fs.toList with
    | none => rw [hp] at h; cases h
    | some pl =>
      rw [hp] at h; injection h with h; subst h
      intro K hk
      unfold pBuild at hk
      split at hk
      · rename_i cs hcs
        refine ⟨_, hk, fun w => ?_⟩
        have hm : (fs.mapM fun f => do pure (f.offset, ← sizeOf f.type) : Sem (Array (Nat × Nat))).run P w = .ok pl.toArray w := by
          rw [Array.mapM_eq_mapM_toList, Sem.run_map, places_run fs.toList pl hp w]
          rfl
        unfold Instr.build
        simp only [Sem.run_bind, zero_run hz, und_run ht, Result.andThen_ok, hm]
        simp only [hcs, Sem.run_pure, Result.andThen_ok]
      · exact hk.elim
  · cases h

theorem cells_run (w : World) (b o : Nat) : ∀ (n i : Nat) (acc : Array Value) (c : Array Value) (e : TypeId) (fz : Nat × Nat), w.heap[b]? = some (.cells c e fz) → o + i + n ≤ c.size →
    (loadCellsFrom ⟨b, o, none⟩ i n acc).run P w = .ok (acc ++ c.extract (o + i) (o + i + n)) w
  | 0, i, acc, c, e, fz, h, hn => by
    have : c.extract (o + i) (o + i + 0) = #[] := by apply Array.ext <;> simp; omega
    simp only [loadCellsFrom, this, Array.append_empty, Sem.run_pure]
  | n + 1, i, acc, c, e, fz, h, hn => by
    have hadd : (Addr.add ⟨b, o, none⟩ i) = ⟨b, o + i, none⟩ := by unfold Addr.add; split <;> simp_all
    have hc : w.cell? ⟨b, o + i, none⟩ = some (c[o + i]'(by omega)) := by simp [World.cell?, h]
    unfold loadCellsFrom
    rw [Sem.run_bind, hadd, run_load, hc, Result.andThen_ok, cells_run w b o n (i + 1) _ c e fz h (by omega)]
    congr 1
    have : c.extract (o + i) (o + i + (n + 1)) = #[c[o + i]'(by omega)] ++ c.extract (o + i + 1) (o + i + (n + 1)) := by
      apply Array.ext
      · simp; omega
      · intro k h1 h2
        rw [Array.getElem_append]
        split
        · have hk : k = 0 := by simp at *; omega
          subst hk
          simp
        · simp only [Array.getElem_extract]
          congr 1
          simp at *
          omega
    rw [this, ← Array.append_assoc, Array.append_singleton]
    congr 2 <;> omega

theorem ok_load (t : TypeId) (v : Value) : (∀ n, isAggP P t = some true → sizeP P t = some n → Form.ok P (do pure (.value (← Instr.loadAt t v))) (.read fun w K => ldN n v w K)) ∧
    (isAggP P t = some false → Form.ok P (do pure (.value (← Instr.loadAt t v))) (.read fun w K => ld1 v w K)) := by
  constructor
  · intro n ha hn w K h
    unfold ldN at h
    split at h
    · rename_i b o
      split at h
      · rename_i cs hcs
        refine ⟨_, h, ?_⟩
        unfold rowAt at hcs
        split at hcs
        · rename_i c e fz hb
          split at hcs
          · rename_i hle
            injection hcs with hcs; subst hcs
            have := cells_run (P := P) w b o n 0 #[] c e fz hb (by omega)
            simp only [Nat.add_zero, Array.empty_append] at this
            rw [run_v]
            simp only [Instr.loadAt, Instr.sureAddr, loadVar, loadCells, Sem.run_bind, Sem.run_pure, Result.andThen_ok, agg_run ha, if_true, size_run hn, this]
          · cases hcs
        · cases hcs
      · exact h.elim
    · exact h.elim
  · intro ha w K h
    unfold ld1 at h
    split at h
    · rename_i a
      split at h
      · rename_i u hu
        refine ⟨u, h, ?_⟩
        rw [run_v]
        simp only [Instr.loadAt, Instr.sureAddr, loadVar, Sem.run_bind, Sem.run_pure, Result.andThen_ok, agg_run ha, Bool.false_eq_true, if_false, run_load, hu]
      · exact h.elim
    · exact h.elim

theorem ok_box (t : TypeId) (v : Value) : Form.ok P (do pure (.value (← Instr.box t v))) (.eff fun w K => eBox t v w K) := by
  intro w K h
  exact .inl ⟨_, _, h, by rw [run_v]; simp [Instr.box, newVar, newRow, ← World.alloc_eq]⟩
theorem ok_alloc (t : TypeId) {z : Value} (hz : (P.info? t).bind (·.zero) = some z) : Form.ok P (do pure (.value (← Instr.alloc t true (.tuple #[])))) (.eff fun w K => eBox t z w K) := by
  intro w K h
  exact .inl ⟨_, _, h, by rw [run_v]; simp [Instr.alloc, zero_run hz, newVar, newRow, ← World.alloc_eq]⟩
theorem ok_st1 (t : TypeId) (p v : Value) (hn : sizeP P t = some 1) : Form.ok P (do Instr.storeAt t p v; pure .skip) (.eff fun w K => eSt1 p v w (K undef)) := by
  intro w K h
  unfold eSt1 at h
  obtain ⟨h1, h⟩ := h
  split at h
  · rename_i a
    obtain ⟨hc, hf, hk⟩ := h
    refine .inr (.inl ⟨_, hk, ?_⟩)
    obtain ⟨u, hu⟩ := Option.isSome_iff_exists.1 hc
    have hcells : v.cells = #[v] := by cases v <;> first | rfl | (simp [Value.oneCell'] at h1; done)
    have hs : (store a v).run P w = .ok () (w.setCell a v) := by rw [run_store P w a v .plain h1, hu]; simp [hf]
    simp [Instr.storeAt, Instr.sureAddr, storeVar, hcells, size_run hn, storeCells, Addr.add, hs]
  · exact h.elim

theorem kind_spec {t : TypeId} : (kindOf P t = 1 → P.underlying t = some .string) ∧ (kindOf P t = 2 → ∃ e, P.underlying t = some (.slice e)) ∧ (kindOf P t = 4 → ∃ k, P.underlying t = some (.int k)) := by
  unfold kindOf
  split <;> simp_all

theorem ok_len (t ty : TypeId) (v : Value) : Form.ok P (do pure (.value (← Builtin.len_ #[t] ty #[v]))) (.pure (pLenT (kindOf P t) v)) := by
  intro K hk
  unfold pLenT at hk
  split at hk
  · obtain ⟨h2, hk⟩ := hk
    obtain ⟨e, ht⟩ := kind_spec.2.1 h2
    exact ⟨_, hk, fun w => by simp [Builtin.len_, und_run ht]⟩
  · obtain ⟨h1, hk⟩ := hk
    have ht := kind_spec.1 h1
    exact ⟨_, hk, fun w => by simp [Builtin.len_, und_run ht]⟩
  · exact hk.elim
theorem ok_cap (t ty : TypeId) (v : Value) (h : kindOf P t = 2) : Form.ok P (do pure (.value (← Builtin.cap_ #[t] ty #[v]))) (.pure (pCap v)) := by
  intro K hk
  unfold pCap at hk
  obtain ⟨e, ht⟩ := kind_spec.2.1 h
  split at hk
  · exact ⟨_, hk, fun w => by simp [Builtin.cap_, und_run ht]⟩
  · exact hk.elim
theorem ok_max (ts : Array TypeId) (ty : TypeId) (v u : Value) : Form.ok P (do pure (.value (← Builtin.max_ ts ty #[v, u]))) (.pure (pMax true v u)) := by
  intro K hk
  unfold pMax at hk
  split at hk
  · exact ⟨_, hk, fun w => by simp [Builtin.max_, Builtin.max2]⟩
  · exact hk.elim
theorem ok_min (ts : Array TypeId) (ty : TypeId) (v u : Value) : Form.ok P (do pure (.value (← Builtin.min_ ts ty #[v, u]))) (.pure (pMax false v u)) := by
  intro K hk
  unfold pMax at hk
  split at hk
  · exact ⟨_, hk, fun w => by simp [Builtin.min_, Builtin.min2]⟩
  · exact hk.elim

theorem bodied_spec {g : FuncId} (h : bodied P g = true) : ∃ fn, P.funcs[g]? = some fn ∧ fn.body.isSome = true ∧ (fn.name == "runtime.NumGoroutine") = false := by
  unfold bodied at h
  split at h
  · rename_i fn hf
    simp only [Bool.and_eq_true, Bool.not_eq_true'] at h
    exact ⟨fn, hf, h.1, h.2⟩
  · cases h
theorem call_run {g : FuncId} (h : ∃ fn, P.funcs[g]? = some fn ∧ fn.body.isSome = true ∧ (fn.name == "runtime.NumGoroutine") = false) (args : Array Value) (w : World) :
    (callFunc g args).run P w = .ok (.enter g args) w := by
  obtain ⟨fn, hf, hb, hn⟩ := h
  have hb' : fn.body.isNone = false := by cases hx : fn.body <;> simp_all
  unfold callFunc
  simp only [Sem.run_bind, run_program, Result.andThen_ok, hf, hn, hb', Bool.false_eq_true, if_false, Sem.run_pure]

end
end Go.Proofs.YtlfeckimhaegbaaDoor.Eng
