/- FilterApart: the plain law, step by step. -/
import Derived.Test.YtlfeckimhaegbaaDoorFil25
namespace Go.Proofs.YtlfeckimhaegbaaDoor
open Go Eng
set_option maxRecDepth 20000

theorem own_rev {x y : Fl} (h : y = x ∨ y = revF x) : revF y = x ∨ revF y = revF x := by
  rcases h with rfl | rfl
  · exact .inr rfl
  · exact .inl rfl
theorem own_rev' {x y : Fl} (h : ¬ (y = x ∨ y = revF x)) : ¬ (revF y = x ∨ revF y = revF x) := fun hc => h (by
  have := own_rev hc
  rwa [rev_rev] at this)
theorem room_at {s : St} {t : Int} (h : (s.ls.length : Int) < s.most) : ((atS s t).ls.length : Int) < s.most := by
  have : (s.ls.filter (live (maxI s.now t))).length ≤ s.ls.length := List.length_filter_le _ _
  show ((s.ls.filter (live (maxI s.now t))).length : Int) < s.most
  omega
theorem apart_out {x : Fl} {sf sg : St} {h : Hd} {t : Int} (ha : Apart x sf sg) (of : StOk sf) (og : StOk sg) (rf : (sf.ls.length : Int) < sf.most) (rg : (sg.ls.length : Int) < sg.most) (ho : h.flow = x ∨ h.flow = revF x) (t0 : 0 ≤ t) :
    (outS sf h t).1 = (outS sg h t).1 ∧ Apart x (outS sf h t).2 (outS sg h t).2 := by
  unfold outS
  by_cases ht : 4611686018427387904 ≤ t
  · rw [if_pos ht, if_pos ht]; exact ⟨rfl, ha⟩
  rw [if_neg ht, if_neg ht]
  have h1 := apart_at ha of og t
  have hy := own_rev ho
  have hcc := apart_contains h1 hy
  by_cases hc : (keys (atS sg t).ls).contains (revF h.flow) = true
  · rw [if_pos (by rw [hcc]; exact hc), if_pos hc]
    exact ⟨rfl, apart_again h1 hy hc⟩
  · rw [if_neg (by rw [hcc]; exact hc), if_neg hc]
    have r1 := room_at (t := t) rf
    have r2 := room_at (t := t) rg
    rw [if_neg (by omega), if_neg (by omega)]
    exact ⟨rfl, apart_push h1 hy (by simpa using hc)⟩
theorem apart_in {x : Fl} {sf sg : St} {h : Hd} {t : Int} (ha : Apart x sf sg) (of : StOk sf) (og : StOk sg) (ho : h.flow = x ∨ h.flow = revF x) (t0 : 0 ≤ t) :
    (inS sf h t).1 = (inS sg h t).1 ∧ Apart x (inS sf h t).2 (inS sg h t).2 := by
  unfold inS
  by_cases ht : 4611686018427387904 ≤ t
  · rw [if_pos ht, if_pos ht]; exact ⟨rfl, ha⟩
  rw [if_neg ht, if_neg ht]
  have h1 := apart_at ha of og t
  have hcc := apart_contains h1 ho
  rw [ha.rules]
  by_cases hm : matchB sg.rules h = true
  · rw [if_pos hm, if_pos hm]; exact ⟨rfl, h1⟩
  rw [if_neg hm, if_neg hm]
  by_cases hc : (keys (atS sg t).ls).contains h.flow = true
  · rw [if_pos (by rw [hcc]; exact hc), if_pos hc]
    exact ⟨rfl, apart_again h1 ho hc⟩
  · rw [if_neg (by rw [hcc]; exact hc), if_neg hc]
    exact ⟨rfl, h1⟩
/-- the second one's time goes on, by a flow that is none of x's -/
theorem tick_eq {x : Fl} {sf sg : St} {h : Hd} {t : Int} (ha : Apart x sf sg) (og : StOk sg) (ho : ¬ (h.flow = x ∨ h.flow = revF x)) (ht : ¬ 4611686018427387904 ≤ t) : (inS sg h t).2 = atS sg t := by
  unfold inS
  rw [if_neg ht]
  split
  · rfl
  · split
    · rename_i hc
      exact absurd (ha.only _ (keys_filter hc)) ho
    · rfl
theorem apart_other_out {x : Fl} {sf sg : St} {h h' : Hd} {t : Int} (ha : Apart x sf sg) (of : StOk sf) (og : StOk sg) (ho : ¬ (h.flow = x ∨ h.flow = revF x)) (ho' : ¬ (h'.flow = x ∨ h'.flow = revF x)) (t0 : 0 ≤ t) :
    Apart x (outS sf h t).2 (inS sg h' t).2 := by
  by_cases ht : 4611686018427387904 ≤ t
  · unfold outS inS
    rw [if_pos ht, if_pos ht]; exact ha
  rw [tick_eq ha og ho' ht]
  unfold outS
  rw [if_neg ht]
  have h1 := apart_at ha of og t
  have hy := own_rev' ho
  split
  · exact apart_again_other h1 hy
  · rename_i hc
    split
    · exact h1
    · exact apart_push_other h1 hy (by simpa using hc)
theorem apart_other_in {x : Fl} {sf sg : St} {h h' : Hd} {t : Int} (ha : Apart x sf sg) (of : StOk sf) (og : StOk sg) (ho : ¬ (h.flow = x ∨ h.flow = revF x)) (ho' : ¬ (h'.flow = x ∨ h'.flow = revF x)) (t0 : 0 ≤ t) :
    Apart x (inS sf h t).2 (inS sg h' t).2 := by
  by_cases ht : 4611686018427387904 ≤ t
  · unfold inS
    rw [if_pos ht, if_pos ht]; exact ha
  rw [tick_eq ha og ho' ht]
  unfold inS
  rw [if_neg ht]
  have h1 := apart_at ha of og t
  split
  · exact h1
  · split
    · exact apart_again_other h1 ho
    · exact h1
theorem apart_set {x : Fl} {sf sg : St} (ha : Apart x sf sg) (rs : List Ru) : Apart x (setS sf rs) (setS sg rs) := ⟨ha.now, ha.life, rfl, ha.own, ha.only⟩
theorem apart_new (x : Fl) (rs : List Ru) (most life : Int) : Apart x (newS rs most life) (newS rs most life) := ⟨rfl, rfl, rfl, fun _ _ => rfl, fun z hz => by simp [newS, keys] at hz⟩
end Go.Proofs.YtlfeckimhaegbaaDoor
