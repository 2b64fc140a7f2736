/- An engine of this session's own, eighth part: what a step leaves of memory ('Keep'), a rule for each word of the formulas, maps keyed by flat values. -/
import Derived.Test.YtlfeckimhaegbaaDoorEng7
import Derived.Below
namespace Go.Proofs.YtlfeckimhaegbaaDoor.Eng
open Go

/-- but for the blocks M, what was there is as it was -/
structure Keep (M : List Nat) (w w' : World) : Prop where
  os : w'.os = w.os
  tape : w'.tape = w.tape
  output : w'.output = w.output
  size : w.heap.size ≤ w'.heap.size
  block : ∀ k, k < w.heap.size → k ∉ M → w'.heap[k]? = w.heap[k]?

theorem Keep.refl (M : List Nat) (w : World) : Keep M w w := ⟨rfl, rfl, rfl, Nat.le_refl _, fun _ _ _ => rfl⟩
theorem Keep.drew {M : List Nat} {w w' : World} (h : Keep M w w') : Keep M w w'.drew := ⟨h.os, h.tape, h.output, h.size, h.block⟩
theorem Keep.of_drew {M : List Nat} {w w' : World} (h : Keep M w.drew w') : Keep M w w' := ⟨h.os, h.tape, h.output, h.size, h.block⟩
theorem Keep.mono {M M' : List Nat} {w w' : World} (h : Keep M w w') (hs : ∀ k, k < w.heap.size → k ∈ M → k ∈ M') : Keep M' w w' :=
  ⟨h.os, h.tape, h.output, h.size, fun k hk hm => h.block k hk fun hh => hm (hs k hk hh)⟩
/-- M2's blocks that are older than w are among M's -/
theorem Keep.trans {M M2 : List Nat} {w w1 w2 : World} (h : Keep M w w1) (h2 : Keep M2 w1 w2) (hs : ∀ k, k < w.heap.size → k ∈ M2 → k ∈ M) : Keep M w w2 :=
  ⟨h2.os.trans h.os, h2.tape.trans h.tape, h2.output.trans h.output, Nat.le_trans h.size h2.size, fun k hk hm =>
    (h2.block k (Nat.lt_of_lt_of_le hk h.size) fun hh => hm (hs k hk hh)).trans (h.block k hk hm)⟩
theorem lt_of_get {w : World} {b : Nat} {o : Obj} (h : w.heap[b]? = some o) : b < w.heap.size := (Array.getElem?_eq_some_iff.1 h).1
theorem Keep.get {M : List Nat} {w w' : World} (h : Keep M w w') {b : Nat} {o : Obj} (hb : w.heap[b]? = some o) (hm : b ∉ M) : w'.heap[b]? = some o := (h.block b (lt_of_get hb) hm).trans hb
theorem Keep.below {M : List Nat} {w w' : World} (h : Keep M w w') {B : Nat} (hB : B ≤ w.heap.size) (hm : ∀ k ∈ M, B ≤ k) : RowKit.Below B w w' :=
  ⟨h.os, h.tape, h.output, h.size, fun k hk => h.block k (by omega) fun hh => by have := hm k hh; omega⟩

theorem add_none (b o k : Nat) : (Addr.add ⟨b, o, none⟩ k) = ⟨b, o + k, none⟩ := by unfold Addr.add; split <;> simp_all
theorem cell_at {w : World} {b o : Nat} {c : Array Value} {t : TypeId} {fz : Nat × Nat} (h : w.heap[b]? = some (.cells c t fz)) : w.cell? ⟨b, o, none⟩ = c[o]? := by simp [World.cell?, h]
theorem frozen_at {w : World} {b o : Nat} {c : Array Value} {t : TypeId} {fz : Nat × Nat} (h : w.heap[b]? = some (.cells c t fz)) : w.frozen? ⟨b, o, none⟩ = (decide (fz.1 ≤ o) && decide (o < fz.2)) := by
  obtain ⟨lo, hi⟩ := fz; simp [World.frozen?, h]

section
variable {P : Program}
/-! ### rules -/
theorem nilC_ptr {a : Addr} {K : Value → Prop} (h : K (.pointer (some a))) : nilC (.pointer (some a)) K := h
theorem pFld_of {off b o : Nat} {K : Value → Prop} (h : K (.pointer (some ⟨b, o + off, none⟩))) : pFld off (.pointer (some ⟨b, o, none⟩)) K := by
  show K (.pointer (some (Addr.add ⟨b, o, none⟩ off))); rw [add_none]; exact h
theorem pFld_eq (off b o : Nat) (K : Value → Prop) : pFld off (.pointer (some ⟨b, o, none⟩)) K = K (.pointer (some ⟨b, o + off, none⟩)) := by
  simp only [pFld, add_none]
theorem pIxS_eq (size b o len cap : Nat) (k : IntKind) (i : Int) (K : Value → Prop) (h0 : 0 ≤ i) (h1 : i < (len : Int)) :
    pIxS size (.slice (some ⟨b, o, none⟩) len cap) (.int k i) K = K (.pointer (some ⟨b, o + i.toNat * size, none⟩)) := by
  simp only [pIxS, add_none, h0, h1, true_and]
theorem ld1_eq {w : World} {b o : Nat} {c : Array Value} {t : TypeId} {fz : Nat × Nat} (h : w.heap[b]? = some (.cells c t fz)) (K : Value → Prop) :
    ld1 (.pointer (some ⟨b, o, none⟩)) w K = (match c[o]? with | some u => K u | none => False) := by
  simp only [ld1, cell_at h]
  rfl
theorem ld1_of {w : World} {b o : Nat} {c : Array Value} {t : TypeId} {fz : Nat × Nat} {u : Value} {K : Value → Prop} (h : w.heap[b]? = some (.cells c t fz)) (hu : c[o]? = some u) (hk : K u) :
    ld1 (.pointer (some ⟨b, o, none⟩)) w K := by rw [ld1_eq h, hu]; exact hk
theorem ldN_of {w : World} {n b o : Nat} {c : Array Value} {t : TypeId} {fz : Nat × Nat} {K : Value → Prop} (h : w.heap[b]? = some (.cells c t fz)) (hle : o + n ≤ c.size)
    (hk : K (.agg (c.extract o (o + n)))) : ldN n (.pointer (some ⟨b, o, none⟩)) w K := by
  simp only [ldN, rowAt, h, if_pos hle]; exact hk
theorem ldN_of' {w : World} {n b o : Nat} {c cs : Array Value} {t : TypeId} {fz : Nat × Nat} {K : Value → Prop} (h : w.heap[b]? = some (.cells c t fz)) (hle : o + n ≤ c.size) (hc : c.extract o (o + n) = cs)
    (hk : K (.agg cs)) : ldN n (.pointer (some ⟨b, o, none⟩)) w K := ldN_of h hle (by rw [hc]; exact hk)
theorem ld1_drew (v : Value) (w : World) (K : Value → Prop) : ld1 v w.drew K = ld1 v w K := rfl
theorem ldN_drew (n : Nat) (v : Value) (w : World) (K : Value → Prop) : ldN n v w.drew K = ldN n v w K := rfl

theorem keep_alloc (w : World) (o : Obj) : Keep [] w (w.alloc o) :=
  ⟨rfl, rfl, rfl, by simp, fun k hk _ => RowKit.Below.heap_alloc w o k hk⟩
theorem alloc_get (w : World) (o : Obj) : (w.alloc o).heap[w.heap.size]? = some o := by
  show (w.heap.push o)[w.heap.size]? = some o
  simp
theorem eBox_of {t : TypeId} {v : Value} {w : World} {K : Value → World → Prop}
    (h : ∀ b w', b = w.heap.size → Keep [] w w' → w'.heap[b]? = some (.cells v.cells t) → K (.pointer (some ⟨b, 0, none⟩)) w') : eBox t v w K :=
  h _ _ rfl (keep_alloc w _) (alloc_get w _)
theorem eMap_of {w : World} {K : Value → World → Prop} (h : ∀ b w', b = w.heap.size → Keep [] w w' → w'.heap[b]? = some (.map #[] 0) → K (.map (some b)) w') : eMap w K :=
  h _ _ rfl (keep_alloc w _) (alloc_get w _)
theorem setCell_get {w : World} {b o : Nat} {c : Array Value} {t : TypeId} {fz : Nat × Nat} (h : w.heap[b]? = some (.cells c t fz)) (v : Value) :
    (w.setCell ⟨b, o, none⟩ v).heap[b]? = some (.cells (c.setIfInBounds o v) t fz) := by
  simp only [World.setCell, Array.getElem?_modify, if_true, h, Option.map_some]
  simp
theorem keep_setCell {w : World} {b o : Nat} (v : Value) : Keep [b] w (w.setCell ⟨b, o, none⟩ v) :=
  ⟨rfl, rfl, rfl, by simp [World.setCell], fun k _ hm => RowKit.Below.heap_setCell w _ v k (by simpa using hm)⟩
theorem eSt1_of {w : World} {b o : Nat} {c : Array Value} {t : TypeId} {fz : Nat × Nat} {v : Value} {K : World → Prop} (h : w.heap[b]? = some (.cells c t fz)) (ho : o < c.size)
    (hv : v.oneCell' = true) (hfz : (decide (fz.1 ≤ o) && decide (o < fz.2)) = false)
    (hk : ∀ w', Keep [b] w w' → w'.heap[b]? = some (.cells (c.setIfInBounds o v) t fz) → K w') : eSt1 (.pointer (some ⟨b, o, none⟩)) v w K := by
  refine ⟨hv, ?_, ?_, ?_⟩
  · rw [cell_at h]; simp [ho]
  · rw [frozen_at h]; exact hfz
  · exact hk _ (keep_setCell v) (setCell_get h v)

theorem call_of {g : FuncId} {args : Array Value} {w : World} {K : Value → World → Prop} {R : Value → World → Prop}
    (hc : Calls P g args w fun e w' => ∃ v, e = .returned v ∧ R v w') (h : ∀ v w', R v w' → K v w') : callF P g args w K :=
  hc.mono fun _ w' ⟨v, he, hr⟩ => ⟨v, he, h v w' hr⟩

/-! ### a value that is stored in several cells -/
def setRow (c : List Value) (o : Nat) (vs : List Value) : List Value := c.take o ++ vs ++ c.drop (o + vs.length)
theorem storeCells_run (b o : Nat) (t : TypeId) (fz : Nat × Nat) : ∀ (vs pre : List Value) (w : World) (c : List Value), w.heap[b]? = some (.cells c.toArray t fz) → o + pre.length + vs.length ≤ c.length →
    (∀ i, o + pre.length ≤ i → i < o + pre.length + vs.length → (decide (fz.1 ≤ i) && decide (i < fz.2)) = false) → (∀ v ∈ vs, v.oneCell' = true) →
    ∃ w', (storeCells ⟨b, o, none⟩ vs pre.length).run P w = .ok () w' ∧ Keep [b] w w' ∧ w'.heap[b]? = some (.cells (setRow c (o + pre.length) vs).toArray t fz)
  | [], pre, w, c, h, _, _, _ => ⟨w, rfl, Keep.refl _ _, by rw [h]; simp [setRow]⟩
  | v :: r, pre, w, c, h, hle, hfz, hone => by
    simp only [List.length_cons] at hle hfz
    have hlt : o + pre.length < c.length := by omega
    have hs : (store (Addr.add ⟨b, o, none⟩ pre.length) v).run P w = .ok () (w.setCell ⟨b, o + pre.length, none⟩ v) := by
      rw [add_none, run_store P w _ v .plain (hone v (by simp)), cell_at h, frozen_at h, hfz _ (by omega) (by omega)]
      simp [hlt]
    have hb := setCell_get (o := o + pre.length) h v
    rw [List.setIfInBounds_toArray] at hb
    obtain ⟨w', h1, h2, h3⟩ := storeCells_run b o t fz r (pre ++ [v]) _ (c.set (o + pre.length) v) hb (by simp; omega)
      (fun i hi1 hi2 => hfz i (by simp at hi1; omega) (by simp at hi2; omega)) (fun u hu => hone u (by simp [hu]))
    refine ⟨w', ?_, (keep_setCell (o := o + pre.length) v).trans h2 (fun k _ hk => hk), ?_⟩
    · unfold storeCells
      rw [Sem.run_bind, hs, Result.andThen_ok]
      simpa using h1
    · rw [h3]
      congr 3
      unfold setRow
      simp only [List.length_append, List.length_cons, List.length_nil]
      apply List.ext_getElem?
      intro i
      simp only [List.append_assoc, List.getElem?_append, List.length_take, List.length_set, List.getElem?_take, List.getElem?_set, List.getElem?_drop, List.length_cons, List.getElem?_cons]
      (repeat' split) <;> first | rfl | omega | (congr 1; omega) | simp_all | skip
      all_goals (try omega)

end
end Go.Proofs.YtlfeckimhaegbaaDoor.Eng
