/- An engine of this session's own, seventh part: structs whose cells are numbers, bools and texts ('flat'): their '==', and maps keyed by them. -/
import Derived.Test.YtlfeckimhaegbaaDoorEng6
import Derived.Laws.StructEq
namespace Go.Proofs.YtlfeckimhaegbaaDoor.Eng
open Go

inductive CK where
  | i (k : IntKind)
  | b
  | s
def ckOk : CK → Value → Bool
  | .i k, .int k' _ => k' == k
  | .b, .bool _ => true
  | .s, .string _ => true
  | _, _ => false
def ckEq : Value → Value → Bool
  | .int _ a, .int _ b => a == b
  | .bool a, .bool b => a == b
  | .string a, .string b => a == b
  | _, _ => false
def cellsOk : List CK → List Value → Bool
  | [], [] => true
  | k :: ks, v :: vs => ckOk k v && cellsOk ks vs
  | _, _ => false
def cellsEq : List Value → List Value → Bool
  | [], [] => true
  | a :: as, b :: bs => ckEq a b && cellsEq as bs
  | _, _ => false
def flatFs (P : Program) (g : TypeId → Option (List CK)) : List Field → Nat → Option (List CK)
  | [], _ => some []
  | f :: r, off =>
    if f.name = "_" ∨ f.offset ≠ off then none else
    match g f.type, sizeP P f.type with
    | some ks, some n => if n ≠ ks.length then none else (match flatFs P g r (off + ks.length) with | some l => some (ks ++ l) | none => none)
    | _, _ => none
def flatT (P : Program) : Nat → TypeId → Option (List CK)
  | 0, _ => none
  | d + 1, t =>
    match P.underlying t with
    | some (.int k) => some [.i k]
    | some .bool => some [.b]
    | some .string => some [.s]
    | some (.struct fs) => if P.stoodInHeld t = true then none else flatFs P (flatT P d) fs.toList 0
    | _ => none
def vOf (P : Program) (t : TypeId) (xs : List Value) : Value := if isAggP P t = some true then .agg xs.toArray else xs.headD undef

section
variable {P : Program}

theorem cells_len : ∀ {ks : List CK} {xs : List Value}, cellsOk ks xs = true → xs.length = ks.length
  | [], [], _ => rfl
  | [], _ :: _, h => by simp [cellsOk] at h
  | _ :: _, [], h => by simp [cellsOk] at h
  | k :: ks, v :: vs, h => by
    simp only [cellsOk, Bool.and_eq_true] at h
    simp [cells_len h.2]
theorem bytes_beq (a b : ByteArray) : (a == b) = true ↔ a = b := by
  rw [beq_toListBytes, ByteArray.toList_eq, ByteArray.toList_eq]
  obtain ⟨⟨x⟩⟩ := a
  obtain ⟨⟨y⟩⟩ := b
  simp
theorem ckEq_iff {k : CK} {a b : Value} (ha : ckOk k a = true) (hb : ckOk k b = true) : ckEq a b = true ↔ a = b := by
  cases k <;> cases a <;> simp [ckOk] at ha <;> cases b <;> simp [ckOk] at hb <;> simp_all [ckEq, bytes_beq]
theorem cellsEq_iff : ∀ {ks : List CK} {xs ys : List Value}, cellsOk ks xs = true → cellsOk ks ys = true → (cellsEq xs ys = true ↔ xs = ys)
  | [], [], [], _, _ => by simp [cellsEq]
  | [], _ :: _, _, h, _ => by simp [cellsOk] at h
  | [], [], _ :: _, _, h => by simp [cellsOk] at h
  | _ :: _, [], _, h, _ => by simp [cellsOk] at h
  | _ :: _, _ :: _, [], _, h => by simp [cellsOk] at h
  | k :: ks, a :: as, b :: bs, h, h' => by
    simp only [cellsOk, Bool.and_eq_true] at h h'
    simp only [cellsEq, Bool.and_eq_true, ckEq_iff h.1 h'.1, cellsEq_iff h.2 h'.2, List.cons.injEq]
theorem cellsOk_split : ∀ {k1 k2 : List CK} {xs : List Value}, cellsOk (k1 ++ k2) xs = true → cellsOk k1 (xs.take k1.length) = true ∧ cellsOk k2 (xs.drop k1.length) = true
  | [], k2, xs, h => by simpa [cellsOk] using h
  | k :: k1, k2, [], h => by simp [cellsOk] at h
  | k :: k1, k2, x :: xs, h => by
    simp only [List.cons_append, cellsOk, Bool.and_eq_true] at h
    obtain ⟨h1, h2⟩ := cellsOk_split h.2
    simp [cellsOk, h.1, h1, h2]
theorem cellsEq_split : ∀ {n : Nat} {xs ys : List Value}, n ≤ xs.length → xs.length = ys.length → cellsEq xs ys = (cellsEq (xs.take n) (ys.take n) && cellsEq (xs.drop n) (ys.drop n))
  | 0, xs, ys, _, _ => by simp [cellsEq]
  | n + 1, [], ys, h, _ => by simp at h
  | n + 1, x :: xs, [], _, h => by simp at h
  | n + 1, x :: xs, y :: ys, h, h' => by
    simp only [List.length_cons, Nat.add_le_add_iff_right, Nat.add_right_cancel_iff] at h h'
    simp [cellsEq, cellsEq_split h h', Bool.and_assoc]

theorem agg_of_flat {d : Nat} {t : TypeId} {ks : List CK} (h : flatT P d t = some ks) : ∃ b, isAggP P t = some b ∧ (b = false → ks.length = 1) := by
  cases d with
  | zero => cases h
  | succ d =>
    unfold flatT at h
    unfold isAggP
    split at h <;> rename_i hu <;> simp_all
    · subst h; rfl
    · subst h; rfl
    · subst h; rfl

theorem part_flat {d : Nat} {t : TypeId} {ks : List CK} (h : flatT P d t = some ks) (hn : sizeP P t = some ks.length) (pre xs : List Value) (hx : cellsOk ks (xs.take ks.length) = true) (w : World) :
    (part t (pre ++ xs).toArray pre.length).run P w = .ok (vOf P t (xs.take ks.length)) w := by
  obtain ⟨b, hb, h1⟩ := agg_of_flat h
  have hl := cells_len hx
  rw [part_run _ _ hb hn]
  unfold vOf
  rw [hb]
  cases b
  · have h1 := h1 rfl
    have : xs ≠ [] := fun e => by subst e; simp at hl; omega
    obtain ⟨x, r, rfl⟩ := List.exists_cons_of_ne_nil this
    simp [h1]
  · simp only [if_true]
    congr 2
    apply Array.ext'
    simp

theorem eqFields_flat {d m : Nat} (ih : ∀ (t : TypeId) (ks : List CK) (xs ys : List Value), flatT P d t = some ks → cellsOk ks xs = true → cellsOk ks ys = true → ∀ w,
      (Op.equalIn (d + m) t (vOf P t xs) (vOf P t ys)).run P w = .ok (cellsEq xs ys) w) (w : World) :
    ∀ (fs : List Field) (ks : List CK) (px py xs ys : List Value), px.length = py.length → flatFs P (flatT P d) fs px.length = some ks → cellsOk ks xs = true → cellsOk ks ys = true →
      (Op.eqFields (d + m) (px ++ xs).toArray (py ++ ys).toArray fs).run P w = .ok (cellsEq xs ys) w
  | [], ks, px, py, xs, ys, _, h, hx, hy => by
    cases h
    have h1 := cells_len hx
    have h2 := cells_len hy
    simp at h1 h2
    subst h1; subst h2
    rfl
  | f :: fs, ks, px, py, xs, ys, hl, h, hx, hy => by
    unfold flatFs at h
    split at h
    · cases h
    rename_i hf
    have hf1 : f.name ≠ "_" := fun e => hf (.inl e)
    have hf2 : f.offset = px.length := Decidable.byContradiction fun e => hf (.inr e)
    split at h
    · rename_i k1 n hk hn
      split at h
      · cases h
      rename_i hnn
      obtain rfl : n = k1.length := Decidable.byContradiction hnn
      split at h
      · rename_i k2 hk2
        injection h with h; subst h
        obtain ⟨x1, x2⟩ := cellsOk_split hx
        obtain ⟨y1, y2⟩ := cellsOk_split hy
        have lx := cells_len hx
        have ly := cells_len hy
        unfold Op.eqFields
        rw [if_pos hf1, Sem.run_bind, hf2, part_flat hk hn px xs x1, Result.andThen_ok, Sem.run_bind, hl, part_flat hk hn py ys y1, Result.andThen_ok, Sem.run_bind, ih f.type k1 _ _ hk x1 y1, Result.andThen_ok]
        rw [cellsEq_split (n := k1.length) (xs := xs) (ys := ys) (by simp at lx; omega) (by omega)]
        cases hc : cellsEq (xs.take k1.length) (ys.take k1.length)
        · simp
        · simp only [Bool.not_true, Bool.false_eq_true, if_false, Bool.true_and]
          have := eqFields_flat ih w fs k2 (px ++ xs.take k1.length) (py ++ ys.take k1.length) (xs.drop k1.length) (ys.drop k1.length)
            (by simp; simp at lx ly; omega) (by rw [List.length_append, cells_len x1]; exact hk2) x2 y2
          simpa [List.append_assoc, List.take_append_drop] using this
      · cases h
    · cases h

theorem eq_flat : ∀ (d m : Nat) (t : TypeId) (ks : List CK) (xs ys : List Value), flatT P d t = some ks → cellsOk ks xs = true → cellsOk ks ys = true → ∀ w,
    (Op.equalIn (d + m) t (vOf P t xs) (vOf P t ys)).run P w = .ok (cellsEq xs ys) w
  | 0, _, _, _, _, _, h, _, _, _ => by cases h
  | d + 1, m, t, ks, xs, ys, h, hx, hy, w => by
    have hadd : d + 1 + m = (d + m) + 1 := by omega
    rw [hadd]
    unfold flatT at h
    split at h
    · rename_i k hu
      injection h with h; subst h
      have hag : isAggP P t = some false := by simp [isAggP, hu]
      match xs, ys, hx, hy with
      | [x], [y], hx, hy =>
        cases x <;> simp [cellsOk, ckOk] at hx
        cases y <;> simp [cellsOk, ckOk] at hy
        subst hx; subst hy
        simp [vOf, hag, run_equalIn_int w (d + m) t _ _ _ _ hu, cellsEq, ckEq]
      | [], _, hx, _ => simp [cellsOk] at hx
      | _ :: _ :: _, _, hx, _ => simp [cellsOk] at hx
      | [_], [], _, hy => simp [cellsOk] at hy
      | [_], _ :: _ :: _, _, hy => simp [cellsOk] at hy
    · rename_i hu
      injection h with h; subst h
      have hag : isAggP P t = some false := by simp [isAggP, hu]
      match xs, ys, hx, hy with
      | [x], [y], hx, hy =>
        cases x <;> simp [cellsOk, ckOk] at hx
        cases y <;> simp [cellsOk, ckOk] at hy
        simp [vOf, hag, run_equalIn_bool' w (d + m) t _ _ hu, cellsEq, ckEq]
      | [], _, hx, _ => simp [cellsOk] at hx
      | _ :: _ :: _, _, hx, _ => simp [cellsOk] at hx
      | [_], [], _, hy => simp [cellsOk] at hy
      | [_], _ :: _ :: _, _, hy => simp [cellsOk] at hy
    · rename_i hu
      injection h with h; subst h
      have hag : isAggP P t = some false := by simp [isAggP, hu]
      match xs, ys, hx, hy with
      | [x], [y], hx, hy =>
        cases x <;> simp [cellsOk, ckOk] at hx
        cases y <;> simp [cellsOk, ckOk] at hy
        simp [vOf, hag, run_equalIn_string w (d + m) t _ _ hu, cellsEq, ckEq, beq_toListBytes]
      | [], _, hx, _ => simp [cellsOk] at hx
      | _ :: _ :: _, _, hx, _ => simp [cellsOk] at hx
      | [_], [], _, hy => simp [cellsOk] at hy
      | [_], _ :: _ :: _, _, hy => simp [cellsOk] at hy
    · rename_i fs hu
      split at h
      · cases h
      · rename_i hp
        have hag : isAggP P t = some true := by simp [isAggP, hu]
        have hfs : P.fieldsOf t = fs := by simp [Program.fieldsOf, hu]
        simp only [vOf, hag, if_true]
        rw [run_equalIn_struct w (d + m) t _ _ (by rw [hfs]; exact hu) (by simpa using hp), hfs]
        exact eqFields_flat (fun t ks xs ys h1 h2 h3 w => eq_flat d m t ks xs ys h1 h2 h3 w) w fs.toList ks [] [] xs ys rfl h hx hy
    · cases h

/-! ### maps keyed by flat values -/
theorem check_flat (em : Bool) : ∀ (d m : Nat) (t : TypeId) (ks : List CK) (xs : List Value), flatT P d t = some ks → cellsOk ks xs = true → ∀ w, (Instr.checkKey em (d + m) t (vOf P t xs)).run P w = .ok () w
  | 0, _, _, _, _, h, _, _ => by cases h
  | d + 1, m, t, ks, xs, h, hx, w => by
    have hadd : d + 1 + m = (d + m) + 1 := by omega
    rw [hadd]
    unfold flatT at h
    have plain : ∀ {tb : TypeDesc}, P.underlying t = some tb → isAggP P t = some false → (∀ ms, tb ≠ .interface ms) → (∀ n e, tb ≠ .array n e) → (∀ fs, tb ≠ .struct fs) →
        (Instr.checkKey em (d + m + 1) t (vOf P t xs)).run P w = .ok () w := fun {tb} hu _ h1 h2 h3 => by
      unfold Instr.checkKey
      rw [Sem.run_bind, und_run hu, Result.andThen_ok]
      cases tb <;> first | (exact absurd rfl (h1 _)) | (exact absurd rfl (h2 _ _)) | (exact absurd rfl (h3 _)) | rfl
    split at h
    · rename_i k hu; exact plain hu (by simp [isAggP, hu]) (by simp) (by simp) (by simp)
    · rename_i hu; exact plain hu (by simp [isAggP, hu]) (by simp) (by simp) (by simp)
    · rename_i hu; exact plain hu (by simp [isAggP, hu]) (by simp) (by simp) (by simp)
    · rename_i fs hu
      split at h
      · cases h
      · have hag : isAggP P t = some true := by simp [isAggP, hu]
        simp only [vOf, hag, if_true]
        unfold Instr.checkKey
        rw [Sem.run_bind, und_run hu, Result.andThen_ok]
        simp only
        rw [← Array.forIn_toList]
        have key : ∀ (fs : List Field) (ks : List CK) (px xs : List Value), flatFs P (flatT P d) fs px.length = some ks → cellsOk ks xs = true →
            (forIn fs PUnit.unit (fun (f : Field) (_ : PUnit) => (do
              if f.name ≠ "_" then Instr.checkKey em (d + m) f.type (← part f.type (px ++ xs).toArray f.offset)
              pure (ForInStep.yield PUnit.unit) : Sem (ForInStep PUnit)))).run P w = .ok PUnit.unit w := by
          intro fs
          induction fs with
          | nil => intro ks px xs _ _; rfl
          | cons f fs ih =>
            intro ks px xs h hx
            unfold flatFs at h
            split at h
            · cases h
            rename_i hf
            have hf1 : f.name ≠ "_" := fun e => hf (.inl e)
            have hf2 : f.offset = px.length := Decidable.byContradiction fun e => hf (.inr e)
            split at h
            · rename_i k1 n hk hn
              split at h
              · cases h
              rename_i hnn
              obtain rfl : n = k1.length := Decidable.byContradiction hnn
              split at h
              · rename_i k2 hk2
                injection h with h; subst h
                obtain ⟨x1, x2⟩ := cellsOk_split hx
                rw [List.forIn_cons, Sem.run_bind]
                simp only [if_pos hf1]
                rw [Sem.run_bind, hf2, part_flat hk hn px xs x1, Result.andThen_ok, Sem.run_bind, check_flat em d m f.type k1 _ hk x1 w, Result.andThen_ok, Sem.run_pure, Result.andThen_ok]
                simp only
                have := ih k2 (px ++ xs.take k1.length) (xs.drop k1.length) (by rw [List.length_append, cells_len x1]; exact hk2) x2
                simpa [List.append_assoc, List.take_append_drop] using this
              · cases h
            · cases h
        have := key fs.toList ks [] xs h hx
        simp only [List.nil_append, ne_eq, ite_not] at this
        simpa using this
    · cases h
end
end Go.Proofs.YtlfeckimhaegbaaDoor.Eng
