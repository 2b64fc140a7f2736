/- An engine of this session's own, thirteenth part: what the kit's reader (DataW.trod) tells of slices, structs, numbers, in the words of the twelfth. -/
import Derived.Test.YtlfeckimhaegbaaDoorEng12
import Derived.Deep.Slices
import Derived.ChangeArms
namespace Go.Proofs.YtlfeckimhaegbaaDoor.Eng
open Go
section
variable {P : Program} {H : Type} {enc : TypeId × Value → H} {w : World} {base : Nat} {sp : Nat → Bool} {held : Bool}

/-- the cells cs are read, as type t -/
abbrev Trd (enc : TypeId × Value → H) (P : Program) (w : World) (t : TypeId) (cs : List Value) (d : DataW H) : Prop := ∃ n ps, DataW.trod enc P w 0 (fun _ => true) true n t cs = some (d, ps)

theorem op_int {t : TypeId} {k : IntKind} {cs : List Value} {d : DataW H} (ht : P.underlying t = some (.int k)) (h : Trd enc P w t cs d) : ∃ i, cs = [.int k i] ∧ k.min ≤ i ∧ i ≤ k.max := by
  obtain ⟨n, ps, h⟩ := h
  obtain ⟨i, hc, _, hw⟩ := DataW.trod_int ht h
  simp only [Lit.wf, Bool.and_eq_true, decide_eq_true_eq] at hw
  exact ⟨i, hc, hw⟩
theorem op_bool {t : TypeId} {cs : List Value} {d : DataW H} (ht : P.underlying t = some .bool) (h : Trd enc P w t cs d) : ∃ b, cs = [.bool b] := by
  obtain ⟨n, ps, h⟩ := h
  obtain ⟨b, hc, _⟩ := DataW.trod_bool ht h
  exact ⟨b, hc⟩
theorem op_struct {t : TypeId} {fs : Array Field} {cs : List Value} {d : DataW H} (ht : P.underlying t = some (.struct fs)) (h : Trd enc P w t cs d) :
    cs.length = P.cellsOf t ∧ ∃ ds : List (DataW H), d = .agg ds ∧ ds.length = fs.size ∧ ∀ (i : Nat) (f : Field), fs[i]? = some f → ∃ y, y ∈ ds ∧ Trd enc P w f.type ((cs.drop f.offset).take (P.cellsOf f.type)) y := by
  obtain ⟨n, ps, h⟩ := h
  obtain ⟨xs, m, _, hx, hl, hxl, hf⟩ := DataW.trod_struct ht h
  refine ⟨hl, xs.map (·.1), congrArg Prod.fst hx, by simp [hxl], fun i f hi => ?_⟩
  have h1 := hf i f hi
  have hlt : i < xs.length := by rw [hxl]; exact (Array.getElem?_eq_some_iff.1 hi).1
  rw [List.getElem?_eq_getElem hlt] at h1
  exact ⟨xs[i].1, List.mem_map.2 ⟨xs[i], List.getElem_mem hlt, rfl⟩, m, xs[i].2, h1⟩

theorem mapM_get {α β : Type} {f : α → Option β} : ∀ {l : List α} {r : List β}, l.mapM f = some r → r.length = l.length ∧ ∀ i (h : i < l.length) (h' : i < r.length), f l[i] = some r[i]
  | [], r, h => by
    simp at h
    subst h
    exact ⟨rfl, fun i h => by simp at h⟩
  | a :: l, r, h => by
    simp only [List.mapM_cons, Option.bind_eq_bind, Option.pure_def, Option.bind_eq_some_iff, Option.some.injEq] at h
    obtain ⟨b, hb, r', hr', rfl⟩ := h
    obtain ⟨hl, hg⟩ := mapM_get hr'
    refine ⟨by simp [hl], fun i h h' => ?_⟩
    cases i with
    | zero => simpa using hb
    | succ i => simpa using hg i (by simpa using h) (by simpa using h')

theorem op_slice {t e : TypeId} {sz : Nat} {cs : List Value} {d : DataW H} (ht : P.underlying t = some (.slice e)) (hsz : P.cellsOf e = sz) (h0 : 0 < sz) (h : Trd enc P w t cs d) :
    ∃ (v : Value) (m : Nat) (ys : List Value), cs = [v] ∧ RdS w v sz m ys ∧ ((v = .slice none 0 0 ∧ d = .nil ∧ m = 0) ∨ ∃ (D : Nat → DataW H) (rest : List (DataW H)), d = .slice ((List.range m).map D) rest ∧
      ∀ i, i < m → Trd enc P w e ((ys.drop (i * sz)).take sz) (D i)) := by
  obtain ⟨n, ps, h⟩ := h
  rcases Deep.open_slice ht h with ⟨rfl, hx⟩ | ⟨a, len, cap, m, n', D, Pl, rfl, hb, hl, hm, hmm, hx, hel⟩
  · exact ⟨_, 0, [], rfl, RdS.nil _ _ _ _, .inl ⟨rfl, congrArg Prod.fst hx, rfl⟩⟩
  · simp only [if_true] at hmm
    subst hmm
    rw [hsz] at hel
    have hd : d = .slice ((List.range len).map D) ((List.range (m - len)).map fun j => D (len + j)) := congrArg Prod.fst hx
    by_cases h00 : len = 0
    · subst h00
      exact ⟨_, 0, [], rfl, RdS.nil _ _ _ _, .inr ⟨D, _, hd, fun i hi => by omega⟩⟩
    -- each cell
    have hcell : ∀ i, i < len → ∀ j, j < sz → ∃ u, w.cell? ((a.add (i * sz)).add j) = some u := by
      intro i hi j hj
      obtain ⟨cs', h1, _⟩ := hel i (by omega)
      simp only [World.cells?] at h1
      rw [if_pos (Nat.zero_le _)] at h1
      obtain ⟨hlen, hg⟩ := mapM_get h1
      have := hg j (by simpa using hj) (by rw [hlen]; simpa using hj)
      simp only [List.getElem_range] at this
      exact ⟨_, this⟩
    have hadd : ∀ i j, (a.add (i * sz)).add j = a.add (i * sz + j) := fun i j => Deep.add_add a _ _
    obtain ⟨u0, hu0⟩ := hcell 0 (by omega) 0 h0
    simp only [Nat.zero_mul, Addr.add, if_true] at hu0
    obtain ⟨b, off, spot⟩ := a
    obtain ⟨c, tt, fz, hbk, hspot⟩ : ∃ c tt fz, w.heap[b]? = some (.cells c tt fz) ∧ spot = none := by
      unfold World.cell? at hu0
      simp only at hu0
      split at hu0
      · rename_i c tt fz hbk
        split at hu0
        · cases hu0
        · rename_i hs
          refine ⟨c, tt, fz, hbk, ?_⟩
          cases spot with
          | none => rfl
          | some q => simp at hs
      · cases hu0
    subst hspot
    have hcell2 : ∀ k, k < len * sz → ∃ u, c[off + k]? = some u := by
      intro k hk
      have hdiv : k / sz < len := Nat.div_lt_of_lt_mul (by rw [Nat.mul_comm]; exact hk)
      obtain ⟨u, hu⟩ := hcell (k / sz) hdiv (k % sz) (Nat.mod_lt _ h0)
      rw [hadd, Nat.mul_comm, Nat.div_add_mod, add_none, cell_at hbk] at hu
      exact ⟨u, hu⟩
    have hpos : 0 < len * sz := Nat.mul_pos (by omega) h0
    have hle : off + len * sz ≤ c.size := by
      obtain ⟨u, hu⟩ := hcell2 (len * sz - 1) (by omega)
      have := (Array.getElem?_eq_some_iff.1 hu).1
      omega
    refine ⟨_, len, (c.extract off (off + len * sz)).toList, rfl, ⟨by simp; omega, .inr ⟨b, off, m, c, tt, fz, rfl, hbk, hle, rfl⟩⟩, .inr ⟨D, _, hd, fun i hi => ?_⟩⟩
    obtain ⟨cs', h1, h2⟩ := hel i (by omega)
    have hsame : cs' = (((c.extract off (off + len * sz)).toList.drop (i * sz)).take sz) := by
      simp only [World.cells?] at h1
      rw [if_pos (Nat.zero_le _)] at h1
      obtain ⟨hlen, hg⟩ := mapM_get h1
      simp only [List.length_range] at hlen
      have hmul : i * sz + sz ≤ len * sz := by rw [← Nat.succ_mul]; exact Nat.mul_le_mul_right _ hi
      apply List.ext_getElem?
      intro j
      by_cases hj : j < sz
      · have h3 := hg j (by simpa using hj) (by omega)
        simp only [List.getElem_range] at h3
        rw [hadd, add_none, cell_at hbk] at h3
        rw [List.getElem?_eq_getElem (by omega), ← h3]
        rw [List.getElem?_take, if_pos hj, List.getElem?_drop, Array.getElem?_toList, Array.getElem?_extract, if_pos (by omega)]
      · rw [List.getElem?_eq_none (by omega), List.getElem?_eq_none (by simp; omega)]
    rw [← hsame]
    exact ⟨n', Pl i, h2⟩
end
end Go.Proofs.YtlfeckimhaegbaaDoor.Eng
