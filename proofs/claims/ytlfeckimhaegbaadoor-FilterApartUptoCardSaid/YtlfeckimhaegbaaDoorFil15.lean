/- FilterAnswers: the plain law. -/
import Derived.Test.YtlfeckimhaegbaaDoorFil14
namespace Go.Proofs.YtlfeckimhaegbaaDoor
open Go Eng
set_option maxRecDepth 20000

/-- a flow is there, and not over at n -/
def thereB (m : List (Fl × Int)) (y : Fl) (n : Int) : Bool := m.any fun p => decide (p.1 = y) && decide (n < p.2)
/-- what the law remembers, and what the filter remembers -/
structure Rel (s : St) (L : List (Fl × Int)) (life : Int) : Prop where
  le : ∀ p ∈ L, 0 ≤ p.2 ∧ p.2 ≤ s.now
  eq : ∀ y n, s.now ≤ n → freshB L y life n = thereB s.ls y n
  life : s.life = life + 1

theorem maxI_le (x y : Int) : x ≤ maxI x y := by unfold maxI; split <;> omega
theorem there_filter (m : List (Fl × Int)) (y : Fl) (now n : Int) (h : now ≤ n) : thereB (m.filter (live now)) y n = thereB m y n := by
  unfold thereB
  rw [List.any_filter]
  congr 1
  funext p
  unfold live
  by_cases h1 : n < p.2
  · have : now < p.2 := by omega
    simp [h1, this]
  · simp [h1]
theorem rel_at {s : St} {L : List (Fl × Int)} {life : Int} (h : Rel s L life) (t : Int) : Rel (atS s t) L life := by
  refine ⟨fun p hp => ?_, fun y n hn => ?_, h.life⟩
  · have := h.le p hp
    have h2 := maxI_le s.now t
    exact ⟨this.1, Int.le_trans this.2 h2⟩
  · have h2 := maxI_le s.now t
    have hn' : maxI s.now t ≤ n := hn
    show _ = thereB (s.ls.filter (live (maxI s.now t))) y n
    rw [there_filter _ _ _ _ hn']
    exact h.eq y n (by omega)
theorem at_live (s : St) (t : Int) : ∀ p ∈ (atS s t).ls, (atS s t).now < p.2 := by
  intro p hp
  have h1 : p ∈ s.ls.filter (live (maxI s.now t)) := hp
  have := (List.mem_filter.1 h1).2
  have h2 : maxI s.now t < p.2 := by simpa [live] using this
  exact h2
theorem there_contains {m : List (Fl × Int)} {n : Int} (h : ∀ p ∈ m, n < p.2) (y : Fl) : thereB m y n = (keys m).contains y := by
  induction m with
  | nil => simp [thereB, keys]
  | cons p m ih =>
    have h1 := h p (by simp)
    have h2 := ih fun q hq => h q (by simp [hq])
    unfold thereB at h2 ⊢
    simp only [List.any_cons, h2, keys, List.map_cons, List.contains_cons, h1, decide_true, Bool.and_true]
    congr 1
    rw [Bool.eq_iff_iff]
    simp
    exact eq_comm
theorem rel_contains {s : St} {L : List (Fl × Int)} {life : Int} (h : Rel s L life) (hl : ∀ p ∈ s.ls, s.now < p.2) (y : Fl) : freshB L y life s.now = (keys s.ls).contains y := by
  rw [h.eq y _ (Int.le_refl _), there_contains hl]
theorem fresh_append (L : List (Fl × Int)) (y z : Fl) (u life n : Int) : freshB (L ++ [(y, u)]) z life n = (freshB L z life n || (decide (y = z) && decide (n < u + life + 1))) := by
  simp [freshB]
theorem there_append (m : List (Fl × Int)) (y z : Fl) (u n : Int) : thereB (m ++ [(y, u)]) z n = (thereB m z n || (decide (y = z) && decide (n < u))) := by
  simp [thereB]
theorem there_put (y z : Fl) (b n : Int) : ∀ (m : List (Fl × Int)), (keys m).contains y = true → (keys m).Nodup → thereB (putA y b m) z n = if y = z then decide (n < b) else thereB m z n
  | [], h, _ => by simp [keys] at h
  | p :: r, h, hn => by
    simp only [keys, List.map_cons, List.nodup_cons] at hn
    unfold putA
    by_cases hp : p.1 = y
    · rw [if_pos hp]
      have hno : ∀ q ∈ r, ¬ q.1 = y := fun q hq e => hn.1 (by rw [hp]; exact List.mem_map.2 ⟨q, hq, e⟩)
      by_cases hz : y = z
      · subst hz
        rw [if_pos rfl]
        have : thereB r y n = false := by
          unfold thereB
          rw [List.any_eq_false]
          intro q hq
          simp [hno q hq]
        unfold thereB at this ⊢
        simp only [List.any_cons, this, decide_true, Bool.true_and, Bool.or_false]
      · rw [if_neg hz]
        unfold thereB
        simp [hz, hp]
    · rw [if_neg hp]
      have hp' : ¬ y = p.1 := fun e => hp e.symm
      have h' : (keys r).contains y = true := by
        simp [keys, hp'] at h ⊢
        exact h
      have := there_put y z b n r h' hn.2
      unfold thereB at this ⊢
      simp only [List.any_cons, this]
      by_cases hz : y = z
      · subst hz
        simp [hp]
      · simp [hz]
theorem rel_again {s : St} {L : List (Fl × Int)} {life : Int} (h : Rel s L life) (hs : StOk s) (y : Fl) (hc : (keys s.ls).contains y = true) : Rel (againS s y) (L ++ [(y, s.now)]) life := by
  have ha : againS s y = { s with ls := putA y (s.now + s.life) s.ls } := by unfold againS; rw [if_pos hc]
  rw [ha]
  refine ⟨fun p hp => ?_, fun z n hn => ?_, h.life⟩
  · rcases List.mem_append.1 hp with h1 | h1
    · exact h.le p h1
    · simp only [List.mem_singleton] at h1
      subst h1
      exact ⟨hs.n0, Int.le_refl _⟩
  · show _ = thereB (putA y (s.now + s.life) s.ls) z n
    rw [fresh_append, there_put y z _ n s.ls hc hs.nodup]
    by_cases hz : y = z
    · subst hz
      rw [if_pos rfl, h.life, ← Int.add_assoc]
      simp only [decide_true, Bool.true_and]
      by_cases h2 : n < s.now + life + 1
      · simp [h2]
      · have : freshB L y life n = false := by
          unfold freshB
          rw [List.any_eq_false]
          intro q hq
          have := (h.le q hq).2
          simp
          intro _
          omega
        simp [this, h2]
    · rw [if_neg hz, h.eq z n hn]
      simp [hz]
theorem rel_push {s : St} {L : List (Fl × Int)} {life : Int} (h : Rel s L life) (hs : StOk s) (y : Fl) : Rel { s with ls := s.ls ++ [(y, s.now + s.life)] } (L ++ [(y, s.now)]) life := by
  refine ⟨fun p hp => ?_, fun z n hn => ?_, h.life⟩
  · rcases List.mem_append.1 hp with h1 | h1
    · exact h.le p h1
    · simp only [List.mem_singleton] at h1
      subst h1
      exact ⟨hs.n0, Int.le_refl _⟩
  · show _ = thereB (s.ls ++ [(y, s.now + s.life)]) z n
    rw [fresh_append, there_append, h.eq z n hn, h.life, Int.add_assoc]

/-- what Out does, to both -/
theorem rel_out {s : St} {L : List (Fl × Int)} {life : Int} {h : Hd} {t : Int} (hr : Rel s L life) (hs : StOk s) (h0 : 0 ≤ t) (h1 : t < 4611686018427387904) :
    let was := freshB L (revF h.flow) life (maxI s.now t)
    ((outS s h t).1 = 0 ∧ Rel (outS s h t).2 (L ++ [(revF h.flow, maxI s.now t)]) life) ∨
    ((outS s h t).1 = 6 ∧ was = false ∧ ((outS s h t).2.ls.length : Int) = s.most ∧ Rel (outS s h t).2 L life) := by
  intro was
  have hra := rel_at hr t
  have hsa := atS_ok hs h0 h1
  have hw : was = (keys (atS s t).ls).contains (revF h.flow) := rel_contains hra (at_live s t) _
  unfold outS
  rw [if_neg (by omega)]
  split
  · rename_i hc
    exact .inl ⟨rfl, rel_again hra hsa _ hc⟩
  · rename_i hc
    split
    · rename_i hm
      refine .inr ⟨rfl, by rw [hw]; simpa using hc, ?_, hra⟩
      have h3 := hsa.len
      have h2 : (atS s t).most = s.most := rfl
      rw [h2] at h3
      exact Int.le_antisymm h3 hm
    · exact .inl ⟨rfl, rel_push hra hsa _⟩
/-- what In does, to both -/
theorem rel_in {s : St} {L : List (Fl × Int)} {life : Int} {h : Hd} {t : Int} (hr : Rel s L life) (hs : StOk s) (h0 : 0 ≤ t) (h1 : t < 4611686018427387904) :
    let may := freshB L h.flow life (maxI s.now t)
    (inS s h t).1 = (if matchB s.rules h || may then 0 else 210) ∧ Rel (inS s h t).2 (if !matchB s.rules h && may then L ++ [(h.flow, maxI s.now t)] else L) life := by
  intro may
  have hra := rel_at hr t
  have hsa := atS_ok hs h0 h1
  have hw : may = (keys (atS s t).ls).contains h.flow := rel_contains hra (at_live s t) _
  unfold inS
  rw [if_neg (by omega)]
  by_cases hm : matchB s.rules h
  · simp only [hm, if_true, Bool.true_or, Bool.not_true, Bool.false_and, Bool.false_eq_true, if_false]
    exact ⟨trivial, hra⟩
  · simp only [hm, Bool.false_eq_true, if_false, Bool.false_or, Bool.not_false, Bool.true_and]
    rw [hw]
    by_cases hc : (keys (atS s t).ls).contains h.flow
    · simp only [hc, if_true]
      exact ⟨trivial, rel_again hra hsa _ hc⟩
    · simp only [hc, Bool.false_eq_true, if_false]
      exact ⟨trivial, hra⟩
end Go.Proofs.YtlfeckimhaegbaaDoor
