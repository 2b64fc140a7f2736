/- An engine of this session's own, ninth part: rules for maps keyed by flat values, for slices that are read, and for slices that the call owns. -/
import Derived.Test.YtlfeckimhaegbaaDoorEng8
namespace Go.Proofs.YtlfeckimhaegbaaDoor.Eng
open Go
section
variable {P : Program}

theorem ef_ok {α : Type} {s : Sem α} {w w' : World} {v : α} {K : α → World → Prop} (h : s.run P w = .ok v w') (hk : K v w') : ef P s w K := by
  unfold ef; rw [h]; exact hk
theorem rd_ok {α : Type} {s : Sem α} {w : World} {v : α} {K : α → Prop} (h : s.run P w = .ok v w) (hk : K v) : rd P s w K := by
  unfold rd; rw [h]; exact ⟨rfl, hk⟩
theorem rd_drew {α : Type} {s : Sem α} {w : World} {v : α} {K : α → Prop} (h : ∀ w, s.run P w = .ok v w) (hk : K v) : rd P s w K := rd_ok (h w) hk

/-! ### a value stored into several cells -/
theorem eStN_of {t b o : Nat} {w : World} {c : Array Value} {tt : TypeId} {fz : Nat × Nat} {vs : List Value} {K : Unit → World → Prop} (hn : sizeP P t = some vs.length)
    (h : w.heap[b]? = some (.cells c tt fz)) (hle : o + vs.length ≤ c.size) (hfz : ∀ i, o ≤ i → i < o + vs.length → (decide (fz.1 ≤ i) && decide (i < fz.2)) = false) (hone : ∀ v ∈ vs, v.oneCell' = true)
    (hk : ∀ w', Keep [b] w w' → w'.heap[b]? = some (.cells (setRow c.toList o vs).toArray tt fz) → K () w') : ef P (Instr.storeAt t (.pointer (some ⟨b, o, none⟩)) (.agg vs.toArray)) w K := by
  obtain ⟨w', h1, h2, h3⟩ := storeCells_run (P := P) b o tt fz vs [] w c.toList (by rw [h]) (by simpa using hle) (by simpa using hfz) hone
  refine ef_ok (w' := w') (v := ()) ?_ (hk w' h2 (by simpa using h3))
  unfold Instr.storeAt storeVar
  simp only [Instr.sureAddr, Sem.run_bind, Sem.run_pure, Result.andThen_ok, size_run hn, Value.cells]
  simpa using h1
theorem setRow_all {c vs : List Value} (h : c.length = vs.length) : setRow c 0 vs = vs := by
  simp [setRow, ← h]

/-! ### maps keyed by flat values -/
section maps
variable {α β : Type}
/-- the key's type: flat; different keys differ in their cells -/
structure FlatKey (P : Program) (kt : TypeId) (enc : α → List Value) : Prop where
  ks : ∃ d ks, d ≤ 10000 ∧ flatT P d kt = some ks ∧ ∀ a, cellsOk ks (enc a) = true
  strct : ∃ fs, P.underlying kt = some (.struct fs)
  inj : ∀ a b, enc a = enc b → a = b

variable {kt : TypeId} {enc : α → List Value} {encv : β → Value}
theorem FlatKey.check (F : FlatKey P kt enc) (em : Bool) (a : α) (w : World) : (Instr.checkKey em 10000 kt (vOf P kt (enc a))).run P w = .ok () w := by
  obtain ⟨d, ks, hd, hf, hok⟩ := F.ks
  obtain ⟨m, hm⟩ : ∃ m, 10000 = d + m := ⟨10000 - d, by omega⟩
  have h2 := check_flat em d m kt ks _ hf (hok a) w
  rwa [← hm] at h2
theorem same_cells : ∀ {ks : List CK} {xs : List Value}, cellsOk ks xs = true → ∀ n, (xs.zip xs).all (fun (x, y) => Instr.sameBits n x y) = true
  | [], [], _, _ => rfl
  | [], _ :: _, h, _ => by simp [cellsOk] at h
  | _ :: _, [], h, _ => by simp [cellsOk] at h
  | k :: ks, v :: vs, h, n => by
    simp only [cellsOk, Bool.and_eq_true] at h
    simp only [List.zip_cons_cons, List.all_cons, Bool.and_eq_true]
    refine ⟨?_, same_cells h.2 n⟩
    have hb : ∀ s : ByteArray, (s == s) = true := fun s => (bytes_beq s s).2 rfl
    have h1 := h.1
    cases k <;> cases v <;> first | (simp [ckOk] at h1; done) | (unfold Instr.sameBits; simp [hb])
theorem FlatKey.stays (F : FlatKey P kt enc) (a : α) (w : World) : (Instr.keyThatStays (vOf P kt (enc a)) (vOf P kt (enc a))).run P w = .ok (vOf P kt (enc a)) w := by
  obtain ⟨d, ks, hd, hf, hok⟩ := F.ks
  obtain ⟨fs, hu⟩ := F.strct
  have hag : isAggP P kt = some true := by simp [isAggP, hu]
  unfold Instr.keyThatStays
  have : Instr.sameBits 10000 (vOf P kt (enc a)) (vOf P kt (enc a)) = true := by
    simp only [vOf, hag, if_true]
    have key : ∀ n, Instr.sameBits (n + 1) (.agg (enc a).toArray) (.agg (enc a).toArray) = true := fun n => by
      unfold Instr.sameBits
      simp only [Bool.and_eq_true, beq_self_eq_true, true_and]
      exact same_cells (hok a) n
    exact key 9999
  rw [if_pos this]
  rfl

variable [DecidableEq α]
def lookI (a : α) : List (α × β) → Nat → Option (Nat × β)
  | [], _ => none
  | p :: r, i => if p.1 = a then some (i, p.2) else lookI a r (i + 1)
def getA (a : α) (m : List (α × β)) : Option β := (lookI a m 0).map Prod.snd
def putA (a : α) (b : β) : List (α × β) → List (α × β)
  | [] => [(a, b)]
  | p :: r => if p.1 = a then (a, b) :: r else p :: putA a b r
def delA (a : α) : List (α × β) → List (α × β)
  | [] => []
  | p :: r => if p.1 = a then r else p :: delA a r

/-- the entries of a map's block are those of a list -/
def MapRel (P : Program) (kt : TypeId) (enc : α → List Value) (encv : β → Value) (es : Array MapEntry) (m : List (α × β)) : Prop :=
  es.toList.map (fun e => (e.key, e.val)) = m.map fun p => (vOf P kt (enc p.1), encv p.2)

theorem FlatKey.equal (F : FlatKey P kt enc) (a b : α) (w : World) : (Op.equal kt (vOf P kt (enc a)) (vOf P kt (enc b))).run P w = .ok (decide (a = b)) w := by
  obtain ⟨d, ks, hd, hf, hok⟩ := F.ks
  obtain ⟨m, hm⟩ : ∃ m, 10000 = d + m := ⟨10000 - d, by omega⟩
  have h1 : cellsEq (enc a) (enc b) = decide (a = b) := by
    by_cases h : a = b
    · subst h
      simp [(cellsEq_iff (hok a) (hok a)).2 rfl]
    · have : cellsEq (enc a) (enc b) ≠ true := fun hc => h (F.inj a b ((cellsEq_iff (hok a) (hok b)).1 hc))
      simp [h, this]
  have h2 := eq_flat d m kt ks _ _ hf (hok a) (hok b) w
  rw [← hm, h1] at h2
  exact h2
theorem FlatKey.asking (F : FlatKey P kt enc) (a : α) (w : World) : ∀ (es : List MapEntry) (m : List (α × β)) (i : Nat), es.map (fun e => (e.key, e.val)) = m.map (fun p => (vOf P kt (enc p.1), encv p.2)) →
    (Instr.findAsking kt (vOf P kt (enc a)) es i).run P w = .ok ((lookI a m i).map fun q => (q.1, encv q.2)) w
  | [], [], i, _ => rfl
  | [], _ :: _, _, h => by simp at h
  | _ :: _, [], _, h => by simp at h
  | e :: es, p :: m, i, h => by
    simp only [List.map_cons, List.cons.injEq, Prod.mk.injEq] at h
    obtain ⟨⟨h1, h2⟩, h3⟩ := h
    unfold Instr.findAsking lookI
    rw [Sem.run_bind, h1, F.equal, Result.andThen_ok]
    by_cases hp : a = p.1
    · subst hp; simp [h2]
    · have hp' : ¬ p.1 = a := fun e => hp e.symm
      simp only [hp, decide_false, Bool.false_eq_true, if_false, hp']
      exact F.asking a w es m (i + 1) h3
theorem FlatKey.find (F : FlatKey P kt enc) {es : Array MapEntry} {m : List (α × β)} (h : MapRel P kt enc encv es m) (a : α) (w : World) :
    (Instr.findKey kt (vOf P kt (enc a)) es.toList).run P w = .ok ((lookI a m 0).map fun q => (q.1, encv q.2)) w := by
  obtain ⟨fs, hu⟩ := F.strct
  unfold Instr.findKey
  rw [Sem.run_bind, und_run hu, Result.andThen_ok]
  unfold MapRel at h
  cases he : es.toList with
  | nil =>
    rw [he] at h
    cases m with
    | nil => rfl
    | cons p m => simp at h
  | cons e r =>
    rw [he] at h
    have : Instr.findNow (.struct fs) (vOf P kt (enc a)) (e :: r) 0 = none := by simp [Instr.findNow, Instr.sameNow]
    rw [this]
    exact F.asking a w (e :: r) m 0 h

theorem FlatKey.lookup (F : FlatKey P kt enc) {mt et : TypeId} (ht : P.underlying mt = some (.map kt et)) {z : Value} (hz : (P.info? et).bind (·.zero) = some z) {w : World} {mb : Nat} {es : Array MapEntry} {ck : Nat} {m : List (α × β)}
    (hb : w.heap[mb]? = some (.map es ck)) (h : MapRel P kt enc encv es m) (a : α) (ok : Bool) {K : Value → Prop}
    (hk : K (if ok then .tuple #[((getA a m).map encv).getD z, .bool (getA a m).isSome] else ((getA a m).map encv).getD z)) : rd P (Instr.lookup mt (.map (some mb)) (vOf P kt (enc a)) ok) w K := by
  refine rd_ok ?_ hk
  unfold Instr.lookup
  have hg : (getObj mb).run P w = .ok (.map es ck) w := by simp [getObj, Sem.run, hb]
  simp only [Sem.run_bind, und_run ht, Result.andThen_ok, hg, Sem.run_pure, F.check, F.find h]
  unfold getA
  cases hl : lookI a m 0 with
  | none => simp [zero_run hz]
  | some q => simp

theorem map_eraseIdx' {γ δ : Type} (f : γ → δ) : ∀ (l : List γ) (i : Nat), (l.eraseIdx i).map f = (l.map f).eraseIdx i
  | [], _ => rfl
  | _ :: _, 0 => rfl
  | x :: r, i + 1 => by simp [map_eraseIdx' f r i]
theorem put_none {a : α} {b : β} : ∀ {m : List (α × β)} {i : Nat}, lookI a m i = none → putA a b m = m ++ [(a, b)]
  | [], _, _ => rfl
  | p :: r, i, h => by
    unfold lookI at h
    split at h
    · cases h
    · rename_i hp; simp [putA, hp, put_none h]
theorem put_some {a : α} {b : β} : ∀ {m : List (α × β)} {i : Nat} {q : Nat × β}, lookI a m i = some q → ∃ j, q.1 = i + j ∧ j < m.length ∧ putA a b m = m.set j (a, b) ∧ (m[j]?).map Prod.fst = some a
  | [], _, _, h => by cases h
  | p :: r, i, q, h => by
    unfold lookI at h
    split at h
    · rename_i hp
      injection h with h
      subst h
      exact ⟨0, rfl, by simp, by simp [putA, hp], by simp [hp]⟩
    · rename_i hp
      obtain ⟨j, h1, h2, h3, h4⟩ := put_some (b := b) h
      exact ⟨j + 1, by omega, by simp; omega, by simp [putA, hp, h3], by simpa using h4⟩
theorem del_none {a : α} : ∀ {m : List (α × β)} {i : Nat}, lookI a m i = none → delA a m = m
  | [], _, _ => rfl
  | p :: r, i, h => by
    unfold lookI at h
    split at h
    · cases h
    · rename_i hp; simp [delA, hp, del_none h]
theorem del_some {a : α} : ∀ {m : List (α × β)} {i : Nat} {q : Nat × β}, lookI a m i = some q → ∃ j, q.1 = i + j ∧ j < m.length ∧ delA a m = m.eraseIdx j
  | [], _, _, h => by cases h
  | p :: r, i, q, h => by
    unfold lookI at h
    split at h
    · rename_i hp
      injection h with h
      subst h
      exact ⟨0, rfl, by simp, by simp [delA, hp]⟩
    · rename_i hp
      obtain ⟨j, h1, h2, h3⟩ := del_some h
      exact ⟨j + 1, by omega, by simp; omega, by simp [delA, hp, h3]⟩

theorem setObj_run {w : World} {mb : Nat} {es : Array MapEntry} {ck : Nat} (hb : w.heap[mb]? = some (.map es ck)) (o : Obj) :
    ∃ w', (setObj mb o).run P w = .ok () w' ∧ Keep [mb] w w' ∧ w'.heap[mb]? = some o := by
  refine ⟨{ w with heap := w.heap.setIfInBounds mb o }, by simp [setObj, Sem.run, hb], ⟨rfl, rfl, rfl, by simp, fun k _ hm => ?_⟩, ?_⟩
  · simp only [List.mem_singleton] at hm
    simp [Array.getElem?_setIfInBounds_ne (Ne.symm hm)]
  · simp [lt_of_get hb]

theorem FlatKey.update (F : FlatKey P kt enc) {mt et : TypeId} (ht : P.underlying mt = some (.map kt et)) {w : World} {mb : Nat} {es : Array MapEntry} {ck : Nat} {m : List (α × β)}
    (hb : w.heap[mb]? = some (.map es ck)) (h : MapRel P kt enc encv es m) (a : α) (b : β) {K : Unit → World → Prop}
    (hk : ∀ w' es' ck', Keep [mb] w w' → w'.heap[mb]? = some (.map es' ck') → MapRel P kt enc encv es' (putA a b m) → K () w') : ef P (Instr.mapUpdate mt (.map (some mb)) (vOf P kt (enc a)) (encv b)) w K := by
  have hg : (getObj mb).run P w = .ok (.map es ck) w := by simp [getObj, Sem.run, hb]
  cases hl : lookI a m 0 with
  | none =>
    obtain ⟨w', h1, h2, h3⟩ := setObj_run (P := P) hb (.map (es.push { key := vOf P kt (enc a), val := encv b, born := ck }) (ck + 1))
    refine ef_ok (w' := w') (v := ()) ?_ (hk w' _ _ h2 h3 ?_)
    · unfold Instr.mapUpdate
      simp only [Sem.run_bind, und_run ht, Result.andThen_ok, hg, F.check, F.find h, hl, Option.map_none]
      exact h1
    · unfold MapRel at h ⊢
      rw [put_none hl]
      simp [h]
  | some q =>
    obtain ⟨j, hj, hjl, hput, hkey⟩ := put_some (b := b) hl
    obtain ⟨w', h1, h2, h3⟩ := setObj_run (P := P) hb (.map (es.modify q.1 fun e => { e with key := vOf P kt (enc a), val := encv b }) ck)
    have hlen : es.size = m.length := by have := congrArg List.length h; simpa using this
    have hje : es[j]? = some (es[j]'(by omega)) := by simp [hlen, hjl]
    have hkj : (es[j]'(by omega)).key = vOf P kt (enc a) := by
      have h4 := congrArg (fun l => l[j]?) h
      simp only [List.getElem?_map] at h4
      rw [show es.toList[j]? = some (es[j]'(by omega)) by simp [hlen, hjl]] at h4
      cases hm : m[j]? with
      | none => rw [hm] at hkey; simp at hkey
      | some p =>
        rw [hm] at hkey h4
        simp at hkey h4
        rw [h4.1, hkey]
    have hq : q.1 = j := by omega
    refine ef_ok (w' := w') (v := ()) ?_ (hk w' _ _ h2 h3 ?_)
    · unfold Instr.mapUpdate
      simp only [Sem.run_bind, und_run ht, Result.andThen_ok, hg, F.check, F.find h, hl, Option.map_some]
      rw [hq, hje, Option.map_some, Option.getD_some, hkj, F.stays, Result.andThen_ok, ← hq]
      exact h1
    · unfold MapRel at h ⊢
      rw [hput, hq]
      apply List.ext_getElem?
      intro i
      have h4 := congrArg (fun l => l[i]?) h
      simp only [List.getElem?_map, Array.getElem?_toList] at h4
      simp only [List.getElem?_map, Array.getElem?_toList, Array.getElem?_modify, List.getElem?_set]
      by_cases hi : j = i
      · subst hi
        simp [hje, hjl]
      · simp [hi, h4]

theorem FlatKey.delete (F : FlatKey P kt enc) {mt et ty : TypeId} (ht : P.underlying mt = some (.map kt et)) {w : World} {mb : Nat} {es : Array MapEntry} {ck : Nat} {m : List (α × β)}
    (hb : w.heap[mb]? = some (.map es ck)) (h : MapRel P kt enc encv es m) (a : α) {K : Value → World → Prop}
    (hk : ∀ w' es' ck', Keep [mb] w w' → w'.heap[mb]? = some (.map es' ck') → MapRel P kt enc encv es' (delA a m) → K (.tuple #[]) w') :
    ef P (Builtin.delete_ #[mt, kt] ty #[.map (some mb), vOf P kt (enc a)]) w K := by
  have hg : (getObj mb).run P w = .ok (.map es ck) w := by simp [getObj, Sem.run, hb]
  cases hl : lookI a m 0 with
  | none =>
    obtain ⟨w', h1, h2, h3⟩ := setObj_run (P := P) hb (.map es ck)
    refine ef_ok (w' := w') (v := .tuple #[]) ?_ (hk w' _ _ h2 h3 (by rw [del_none hl]; exact h))
    unfold Builtin.delete_
    simp [und_run ht, hg, F.check, F.find h, hl, h1]
  | some q =>
    obtain ⟨j, hj, hjl, hdel⟩ := del_some hl
    obtain ⟨w', h1, h2, h3⟩ := setObj_run (P := P) hb (.map (es.eraseIdxIfInBounds q.1) ck)
    have hlen : es.size = m.length := by have := congrArg List.length h; simpa using this
    have hq : q.1 = j := by omega
    refine ef_ok (w' := w') (v := .tuple #[]) ?_ (hk w' _ _ h2 h3 ?_)
    · unfold Builtin.delete_
      simp [und_run ht, hg, F.check, F.find h, hl, h1]
    · unfold MapRel at h ⊢
      rw [hdel, hq, Array.toList_eraseIdxIfInBounds, map_eraseIdx', h, ← map_eraseIdx']
end maps
end
end Go.Proofs.YtlfeckimhaegbaaDoor.Eng
