/- An engine of this session's own, tenth part: slices that are read, slices that the call owns; append. -/
import Derived.Test.YtlfeckimhaegbaaDoorEng9
namespace Go.Proofs.YtlfeckimhaegbaaDoor.Eng
open Go
section
variable {P : Program}

/-! ### a slice whose cells are known -/
/-- slice v has m elements of sz cells each; all their cells are ys -/
def RdS (w : World) (v : Value) (sz m : Nat) (ys : List Value) : Prop :=
  ys.length = m * sz ∧ ((m = 0 ∧ ∃ a c, v = .slice a 0 c) ∨
    ∃ b off cap c t fz, v = .slice (some ⟨b, off, none⟩) m cap ∧ w.heap[b]? = some (.cells c t fz) ∧ off + m * sz ≤ c.size ∧ ys = (c.extract off (off + m * sz)).toList)
theorem RdS.slice {w : World} {v : Value} {sz m : Nat} {ys : List Value} (h : RdS w v sz m ys) : ∃ a cap, v = .slice a m cap := by
  obtain ⟨_, ⟨rfl, a, c, hv⟩ | ⟨b, off, cap, c, t, fz, hv, _⟩⟩ := h
  · exact ⟨a, c, hv⟩
  · exact ⟨_, cap, hv⟩
theorem RdS.at {w : World} {v : Value} {sz m : Nat} {ys : List Value} (h : RdS w v sz m ys) (hm : 0 < m) : ∃ b off cap c t fz, v = .slice (some ⟨b, off, none⟩) m cap ∧ w.heap[b]? = some (.cells c t fz) ∧
    off + m * sz ≤ c.size ∧ ys = (c.extract off (off + m * sz)).toList ∧ (∀ j, j < m * sz → c[off + j]? = ys[j]?) ∧ (∀ j n, j + n ≤ m * sz → c.extract (off + j) (off + j + n) = ((ys.drop j).take n).toArray) := by
  obtain ⟨hl, ⟨rfl, _⟩ | ⟨b, off, cap, c, t, fz, hv, hb, hle, hy⟩⟩ := h
  · omega
  · refine ⟨b, off, cap, c, t, fz, hv, hb, hle, hy, fun j hj => ?_, fun j n hj => ?_⟩
    · subst hy
      rw [Array.getElem?_toList, Array.getElem?_extract]
      simp; omega
    · subst hy
      apply Array.ext'
      simp only [Array.toList_extract, List.extract_eq_take_drop, List.drop_take, List.drop_drop, List.take_take]
      congr 1
      omega
/-- what a step keeps -/
theorem RdS.keep {w w' : World} {v : Value} {sz m : Nat} {ys : List Value} (h : RdS w v sz m ys) {M : List Nat} (k : Keep M w w') (hd : ∀ b o n c, v = .slice (some ⟨b, o, none⟩) n c → b ∉ M) : RdS w' v sz m ys := by
  obtain ⟨hl, h | ⟨b, off, cap, c, t, fz, hv, hb, hle, hy⟩⟩ := h
  · exact ⟨hl, .inl h⟩
  · exact ⟨hl, .inr ⟨b, off, cap, c, t, fz, hv, k.get hb (hd b off m cap hv), hle, hy⟩⟩
theorem RdS.nil (w : World) (sz : Nat) (a : Option Addr) (c : Nat) : RdS w (.slice a 0 c) sz 0 [] := ⟨by simp, .inl ⟨rfl, a, c, rfl⟩⟩
theorem RdS.lt {w : World} {v : Value} {sz m : Nat} {ys : List Value} (h : RdS w v sz m ys) {b o n c : Nat} (hv : v = .slice (some ⟨b, o, none⟩) n c) (hm : 0 < m) : b < w.heap.size := by
  obtain ⟨b', off, cap, c', t, fz, hv', hb, _⟩ := h.at hm
  rw [hv] at hv'
  simp only [Value.slice.injEq, Option.some.injEq, Addr.mk.injEq] at hv'
  rw [hv'.1.1]; exact lt_of_get hb

/-- the elements as a list, each told by its cells -/
theorem flat_get {γ : Type} {enc : γ → List Value} {sz : Nat} (hsz : ∀ x, (enc x).length = sz) : ∀ (xs : List γ) (i : Nat) (hi : i < xs.length) (o n : Nat), o + n ≤ sz →
    (((xs.flatMap enc).drop (i * sz + o)).take n) = (((enc xs[i]).drop o).take n)
  | [], i, hi, _, _, _ => by simp at hi
  | x :: r, 0, _, o, n, h => by
    have hx := hsz x
    simp only [List.flatMap_cons, Nat.zero_mul, Nat.zero_add, List.getElem_cons_zero]
    rw [List.drop_append_of_le_length (by omega), List.take_append_of_le_length (by simp; omega)]
  | x :: r, i + 1, hi, o, n, h => by
    have hx := hsz x
    have := flat_get hsz r i (by simpa using hi) o n h
    simp only [List.flatMap_cons, List.getElem_cons_succ]
    rw [← this]
    rw [show (i + 1) * sz + o = (enc x).length + (i * sz + o) by rw [hx, Nat.add_mul]; omega, List.drop_append, List.drop_eq_nil_of_le (by omega)]
    simp
theorem flat_len {γ : Type} {enc : γ → List Value} {sz : Nat} (hsz : ∀ x, (enc x).length = sz) : ∀ (xs : List γ), (xs.flatMap enc).length = xs.length * sz
  | [] => by simp
  | x :: r => by simp [flat_len hsz r, hsz x, Nat.add_mul]; omega

/-- slice v holds the elements xs, each of which is told by enc -/
def SlOf {γ : Type} (w : World) (v : Value) (sz : Nat) (enc : γ → List Value) (xs : List γ) : Prop := RdS w v sz xs.length (xs.flatMap enc)

/-- the address of element i, and what stands there -/
theorem SlOf.ix {γ : Type} {w : World} {v : Value} {sz : Nat} {enc : γ → List Value} {xs : List γ} (h : SlOf w v sz enc xs) (hsz : ∀ x, (enc x).length = sz) {k : IntKind} {i : Int} (h0 : 0 ≤ i) (h1 : i < (xs.length : Int))
    {K : Value → Prop} (hk : ∀ b off c t fz, w.heap[b]? = some (.cells c t fz) → (∀ o, o < sz → c[off + o]? = (enc (xs[i.toNat]'(by omega)))[o]?) →
      (∀ o n, o + n ≤ sz → off + o + n ≤ c.size ∧ c.extract (off + o) (off + o + n) = (((enc (xs[i.toNat]'(by omega))).drop o).take n).toArray) → K (.pointer (some ⟨b, off, none⟩))) : pIxS sz v (.int k i) K := by
  have hm : 0 < xs.length := by omega
  obtain ⟨b, off, cap, c, t, fz, rfl, hb, hle, _, hg, he⟩ := RdS.at h hm
  rw [pIxS_eq _ _ _ _ _ _ _ _ h0 h1]
  have hi : i.toNat < xs.length := by omega
  have hmul : i.toNat * sz + sz ≤ xs.length * sz := by rw [← Nat.succ_mul]; exact Nat.mul_le_mul_right _ hi
  refine hk b (off + i.toNat * sz) c t fz hb (fun o ho => ?_) (fun o n hn => ?_)
  · have h3 := flat_get hsz xs i.toNat hi o 1 (by omega)
    have h4 := hg (i.toNat * sz + o) (by omega)
    rw [Nat.add_assoc, h4]
    have h5 := congrArg (fun l => l[0]?) h3
    simpa [List.getElem?_take, List.getElem?_drop] using h5
  · refine ⟨by omega, ?_⟩
    rw [Nat.add_assoc off, he (i.toNat * sz + o) n (by omega), flat_get hsz xs i.toNat hi o n hn]

/-! ### a slice that the call owns -/
/-- slice v, of elements of type e with sz cells, has n elements, whose cells are cs; it is nil (B: []) or begins at the head of the block B that is its own -/
def OwnS (w : World) (v : Value) (e : TypeId) (sz n : Nat) (cs : List Value) (B : List Nat) : Prop :=
  cs.length = n * sz ∧ ((v = .slice none 0 0 ∧ n = 0 ∧ B = []) ∨
    ∃ b cap rest, v = .slice (some ⟨b, 0, none⟩) n cap ∧ w.heap[b]? = some (.cells (cs ++ rest).toArray e (0, 0)) ∧ n * sz + rest.length = cap * sz ∧ B = [b])
theorem OwnS.nil (w : World) (e : TypeId) (sz : Nat) : OwnS w (.slice none 0 0) e sz 0 [] [] := ⟨by simp, .inl ⟨rfl, rfl, rfl⟩⟩
theorem OwnS.rd {w : World} {v : Value} {e : TypeId} {sz n : Nat} {cs : List Value} {B : List Nat} (h : OwnS w v e sz n cs B) : RdS w v sz n cs := by
  obtain ⟨hl, ⟨rfl, rfl, _⟩ | ⟨b, cap, rest, rfl, hb, hc, _⟩⟩ := h
  · exact ⟨hl, .inl ⟨rfl, _, _, rfl⟩⟩
  · refine ⟨hl, .inr ⟨b, 0, cap, _, e, (0, 0), rfl, hb, by simp; omega, ?_⟩⟩
    simp [← hl]
theorem OwnS.keep {w w' : World} {v : Value} {e : TypeId} {sz n : Nat} {cs : List Value} {B : List Nat} (h : OwnS w v e sz n cs B) {M : List Nat} (k : Keep M w w') (hd : ∀ b ∈ B, b ∉ M) : OwnS w' v e sz n cs B := by
  obtain ⟨hl, h | ⟨b, cap, rest, rfl, hb, hc, rfl⟩⟩ := h
  · exact ⟨hl, .inl h⟩
  · exact ⟨hl, .inr ⟨b, cap, rest, rfl, k.get hb (hd b (by simp)), hc, rfl⟩⟩
theorem OwnS.lt {w : World} {v : Value} {e : TypeId} {sz n : Nat} {cs : List Value} {B : List Nat} (h : OwnS w v e sz n cs B) : ∀ b ∈ B, b < w.heap.size := by
  obtain ⟨hl, ⟨_, _, rfl⟩ | ⟨b, cap, rest, rfl, hb, hc, rfl⟩⟩ := h
  · simp
  · intro k hk; simp only [List.mem_singleton] at hk; subst hk; exact lt_of_get hb

theorem loadCells_run {w : World} {b o n : Nat} {c : Array Value} {t : TypeId} {fz : Nat × Nat} (h : w.heap[b]? = some (.cells c t fz)) (hle : o + n ≤ c.size) :
    (loadCells ⟨b, o, none⟩ n).run P w = .ok (c.extract o (o + n)) w := by
  have := cells_run (P := P) w b o n 0 #[] c t fz h (by omega)
  simpa [loadCells] using this
theorem firstCells_run {w : World} {v : Value} {sz m : Nat} {ys : List Value} (h : RdS w v sz m ys) : (Builtin.firstCells sz m v).run P w = .ok ys.toArray w := by
  obtain ⟨hl, ⟨rfl, a, c, rfl⟩ | ⟨b, off, cap, c, t, fz, rfl, hb, hle, rfl⟩⟩ := h
  · have : ys = [] := by simpa using hl
    subst this
    cases a with
    | none => rfl
    | some a => simp [Builtin.firstCells, loadCells, loadCellsFrom]
  · simp only [Builtin.firstCells]
    rw [loadCells_run hb hle]
theorem growBy_le (need : Nat) : ∀ (r c : Nat), c ≤ need → Builtin.growBy need r c ≤ 2 * need + 200
  | 0, c, h => by unfold Builtin.growBy; omega
  | r + 1, c, h => by
    unfold Builtin.growBy
    split
    · omega
    · by_cases hc : c + (c + 768) / 4 ≤ need
      · exact growBy_le need r _ hc
      · cases r with
        | zero => unfold Builtin.growBy; omega
        | succ r => unfold Builtin.growBy; rw [if_pos (by omega)]; omega
theorem nextcap_le {need cap : Nat} (h : cap < need) : Builtin.nextslicecap need cap ≤ 2 * need + 512 := by
  unfold Builtin.nextslicecap
  split
  · omega
  · split
    · omega
    · have := growBy_le need 4 cap (by omega); omega

theorem append_of {w : World} {st ty e bytes sz n m : Nat} {s x : Value} {cs ys : List Value} {B : List Nat} {z : Value} {K : Value → World → Prop}
    (hst : P.underlying st = some (.slice e)) (hsz : sizeP P e = some sz) (hz : (P.info? e).bind (·.zero) = some z) (hzs : z.cells.size = sz) (hby : (P.info? e).map (·.bytes) = some bytes) (hb0 : bytes ≠ 0)
    (hs : OwnS w s e sz n cs B) (hx : RdS w x sz m ys) (hone : ∀ v ∈ ys, v.oneCell' = true) (hroom : (2 * (n + m) + 512) * bytes ≤ 2 ^ 48)
    (hk : ∀ s' w' B', OwnS w' s' e sz (n + m) (cs ++ ys) B' → Keep B w w' → (∀ k ∈ B', k ∈ B ∨ w.heap.size ≤ k) → (0 < n + m → B' ≠ []) → K s' w') :
    ef P (Builtin.append_ #[st, st] ty #[s, x]) w K := by
  obtain ⟨a, capx, rfl⟩ := hx.slice
  have hfc := firstCells_run (P := P) hx
  have hly := hx.1
  obtain ⟨hlc, hs'⟩ := hs
  have hinfo : ∃ i, P.info? e = some i ∧ i.bytes = bytes := by
    cases hi : P.info? e with
    | none => simp [hi] at hby
    | some i => simp [hi] at hby; exact ⟨i, rfl, hby⟩
  obtain ⟨inf, hinf, hbytes⟩ := hinfo
  have hbr : ∀ w, (typeInfo e).run P w = .ok inf w := fun w => by simp [typeInfo, hinf]
  have hzm : z.cells.toList.length = sz := by simpa using hzs
  have big : ∀ (sCap : Nat), sCap < n + m → ∀ (base : Option Addr), s = .slice base n sCap → (Builtin.firstCells sz n s).run P w.drew = .ok cs.toArray w.drew →
      ∃ w' q, (Builtin.append_ #[st, st] ty #[s, .slice a m capx]).run P w = .ok (.slice (some ⟨w.heap.size, 0, none⟩) (n + m) q) w' ∧ n + m ≤ q ∧ Keep [] w w' ∧
        w'.heap[w.heap.size]? = some (.cells ((cs ++ ys) ++ (Builtin.zeroCells z.cells (q - (n + m))).toList).toArray e (0, 0)) := by
    intro sCap hlt base hbase hold
    subst hbase
    have hnot : ¬ (n + m ≤ sCap) := by omega
    have hcap := nextcap_le hlt
    have hroom' : ¬ (Builtin.nextslicecap (n + m) sCap * bytes > 2 ^ 48) := by
      have := Nat.mul_le_mul_right bytes hcap; omega
    have hfx : (Builtin.firstCells sz m (.slice a m capx)).run P w.drew = .ok ys.toArray w.drew := firstCells_run (P := P) (w := w.drew) (by exact hx)
    obtain ⟨q, hq, hqle⟩ : ∃ q, (choose (.appendCap (n + m) sCap e)).run P w = .ok q w.drew ∧ n + m ≤ q :=
      ⟨(n + m) + (w.tape w.drawn (.appendCap (n + m) sCap e)) % (2 ^ 63 - (n + m)), by rw [run_choose, if_neg (by simp [Question.forced])]; rfl, by omega⟩
    refine ⟨w.drew.alloc (.cells ((cs ++ ys) ++ (Builtin.zeroCells z.cells (q - (n + m))).toList).toArray e), q, ?_, hqle, ?_, alloc_get w.drew _⟩
    · unfold Builtin.append_
      simp only [List.getElem?_toArray, List.getElem?_cons_zero, List.getElem?_cons_succ, Sem.run_bind, und_run hst, Result.andThen_ok, size_run hsz, Sem.run_pure, Builtin.lenOf,
        Bool.false_eq_true, if_false, Bool.not_false, if_true, if_neg hnot, hbr, hbytes, hb0, false_or, and_false, hroom', hq, run_askRoom, hold, hfx, zero_run hz, newRow, run_newObj]
      simp [World.alloc]
      congr 2
      apply Array.ext'
      simp
    · exact (keep_alloc w.drew _ : Keep [] w.drew _).of_drew
  have fin : ∀ w' q, n + m ≤ q → Keep [] w w' → w'.heap[w.heap.size]? = some (.cells ((cs ++ ys) ++ (Builtin.zeroCells z.cells (q - (n + m))).toList).toArray e (0, 0)) →
      K (.slice (some ⟨w.heap.size, 0, none⟩) (n + m) q) w' := fun w' q hq hkp hget =>
    hk _ w' [w.heap.size] ⟨by simp [hlc, hly, Nat.add_mul], .inr ⟨_, q, _, rfl, hget, by
        simp [Builtin.zeroCells, hzs, Nat.sub_mul]
        have := Nat.mul_le_mul_right sz hq
        omega, rfl⟩⟩ (hkp.mono (fun _ _ h => by cases h)) (fun k hk => by simp only [List.mem_singleton] at hk; right; omega) (by simp)
  rcases hs' with ⟨rfl, rfl, rfl⟩ | ⟨b, cap, rest, rfl, hb, hc, rfl⟩
  · -- nil
    by_cases hm : m = 0
    · subst hm
      have : ys = [] := by simpa using hly
      subst this
      refine ef_ok (w' := w) (v := .slice none 0 0) ?_ (hk _ w [] ⟨by simpa using hlc, .inl ⟨rfl, rfl, rfl⟩⟩ (Keep.refl _ _) (by simp) (by simp))
      unfold Builtin.append_
      simp only [List.getElem?_toArray, List.getElem?_cons_zero, List.getElem?_cons_succ, Sem.run_bind, und_run hst, Result.andThen_ok, size_run hsz, Sem.run_pure, Builtin.lenOf]
      simp [hfc]
    · have hcs : cs = [] := by simpa using hlc
      subst hcs
      obtain ⟨w', q, h1, h2, h3, h4⟩ := big 0 (by omega) none rfl rfl
      exact ef_ok h1 (fin w' q h2 h3 h4)
  · by_cases hfit : n + m ≤ cap
    · -- room
      have hc0 : (cs ++ rest).length = cap * sz := by simp [hlc]; omega
      have hmul := Nat.mul_le_mul_right sz hfit
      rw [Nat.add_mul] at hmul
      obtain ⟨w', h1, h2, h3⟩ := storeCells_run (P := P) b (n * sz) e (0, 0) ys [] w (cs ++ rest) hb (by rw [hc0]; simp; omega) (by simp) hone
      refine ef_ok (w' := w') (v := .slice (some ⟨b, 0, none⟩) (n + m) cap) ?_ (hk _ w' [b] ⟨by simp [hlc, hly, Nat.add_mul], .inr ⟨b, cap, rest.drop ys.length, rfl, ?_, ?_, rfl⟩⟩ h2 (by simp) (by simp))
      · unfold Builtin.append_
        simp only [List.getElem?_toArray, List.getElem?_cons_zero, List.getElem?_cons_succ, Sem.run_bind, und_run hst, Result.andThen_ok, size_run hsz, Sem.run_pure, Builtin.lenOf,
          Bool.false_eq_true, if_false, Bool.not_false, if_true, if_pos hfit, hfc, add_none, Nat.zero_add]
        simp only [List.length_nil] at h1
        rw [h1]
        rfl
      · rw [h3]
        congr 3
        simp only [List.length_nil, Nat.add_zero, setRow, ← hlc]
        simp [List.drop_append]
      · simp only [List.length_drop, Nat.add_mul]
        rw [hly]
        omega
    · have hold : (Builtin.firstCells sz n (.slice (some ⟨b, 0, none⟩) n cap)).run P w.drew = .ok cs.toArray w.drew :=
        firstCells_run (P := P) (w := w.drew) (OwnS.rd (B := [b]) ⟨hlc, .inr ⟨b, cap, rest, rfl, hb, hc, rfl⟩⟩)
      obtain ⟨w', q, h1, h2, h3, h4⟩ := big cap (by omega) _ rfl hold
      exact ef_ok h1 (fin w' q h2 h3 h4)
end
end Go.Proofs.YtlfeckimhaegbaaDoor.Eng
