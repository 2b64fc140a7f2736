/- FilterApart: the plain law. -/
import Derived.Test.YtlfeckimhaegbaaDoorFil17
namespace Go.Proofs.YtlfeckimhaegbaaDoor
open Go Eng
set_option maxRecDepth 20000

theorem rev_rev (f : Fl) : revF (revF f) = f := rfl
theorem getA_cons (z : Fl) (p : Fl × Int) (r : List (Fl × Int)) : getA z (p :: r) = if p.1 = z then some p.2 else getA z r := by
  have key : ∀ (m : List (Fl × Int)) (i j : Nat), (lookI z m i).map Prod.snd = (lookI z m j).map Prod.snd := by
    intro m
    induction m with
    | nil => intro i j; rfl
    | cons q m ih =>
      intro i j
      unfold lookI
      by_cases hq : q.1 = z
      · simp [hq]
      · simp only [if_neg hq]; exact ih _ _
  have e : lookI z (p :: r) 0 = if p.1 = z then some (0, p.2) else lookI z r 1 := rfl
  unfold getA
  rw [e]
  by_cases h : p.1 = z
  · simp [h]
  · simp only [if_neg h]; exact key r 1 0
theorem getA_nil (z : Fl) : getA z ([] : List (Fl × Int)) = none := rfl
theorem getA_none {z : Fl} : ∀ {m : List (Fl × Int)}, z ∉ keys m → getA z m = none
  | [], _ => rfl
  | p :: r, h => by
    simp [keys] at h
    rw [getA_cons, if_neg (fun e => h.1 e.symm)]
    exact getA_none (by simpa [keys] using h.2)
theorem getA_filter (z : Fl) (now : Int) : ∀ (m : List (Fl × Int)), (keys m).Nodup → getA z (m.filter (live now)) = (getA z m).filter fun u => decide (now < u)
  | [], _ => rfl
  | p :: r, h => by
    simp only [keys, List.map_cons, List.nodup_cons] at h
    have ih := getA_filter z now r h.2
    rw [getA_cons]
    by_cases hp : p.1 = z
    · rw [if_pos hp]
      by_cases hl : now < p.2
      · rw [List.filter_cons, if_pos (by simpa [live] using hl), getA_cons, if_pos hp]; simp [Option.filter, hl]
      · rw [List.filter_cons, if_neg (by simpa [live] using hl), ih, getA_none (by rw [← hp]; exact h.1)]; simp [Option.filter, hl]
    · rw [if_neg hp, List.filter_cons]
      split
      · rw [getA_cons, if_neg hp, ih]
      · exact ih
theorem getA_put (y z : Fl) (b : Int) : ∀ (m : List (Fl × Int)), (keys m).contains y = true → getA z (putA y b m) = if y = z then some b else getA z m
  | [], h => by simp [keys] at h
  | p :: r, h => by
    unfold putA
    by_cases hp : p.1 = y
    · rw [if_pos hp, getA_cons, getA_cons]
      by_cases hz : y = z
      · simp [hz]
      · simp only [if_neg hz]
        rw [if_neg (by rw [hp]; exact hz)]
    · rw [if_neg hp, getA_cons, getA_cons]
      have hp' : ¬ y = p.1 := fun e => hp e.symm
      have h' : (keys r).contains y = true := by
        simp [keys, hp'] at h ⊢
        exact h
      rw [getA_put y z b r h']
      by_cases hz : y = z
      · subst hz; simp [hp]
      · simp [hz]
theorem getA_push (y z : Fl) (b : Int) : ∀ (m : List (Fl × Int)), (keys m).contains y = false → getA z (m ++ [(y, b)]) = if y = z then some b else getA z m
  | [], _ => by rw [List.nil_append, getA_cons]
  | p :: r, h => by
    simp [keys] at h
    rw [List.cons_append, getA_cons, getA_cons, getA_push y z b r (by simpa [keys] using h.2)]
    by_cases hz : y = z
    · subst hz; rw [if_neg (fun e : p.1 = y => h.1 e.symm)]; simp
    · simp [hz]

/-- two filters that agree on x's own flows; the second one has no others -/
structure Apart (x : Fl) (sf sg : St) : Prop where
  now : sf.now = sg.now
  life : sf.life = sg.life
  rules : sf.rules = sg.rules
  own : ∀ z, z = x ∨ z = revF x → getA z sf.ls = getA z sg.ls
  only : ∀ z, (keys sg.ls).contains z = true → z = x ∨ z = revF x
theorem contains_get (z : Fl) (m : List (Fl × Int)) : (keys m).contains z = (getA z m).isSome := (get_some z m).symm
theorem keys_filter {now : Int} {m : List (Fl × Int)} {z : Fl} (h : (keys (m.filter (live now))).contains z = true) : (keys m).contains z = true := by
  simp only [keys, List.contains_iff_mem, List.mem_map, List.mem_filter] at h ⊢
  obtain ⟨p, ⟨hp, _⟩, e⟩ := h
  exact ⟨p, hp, e⟩
theorem apart_at {x : Fl} {sf sg : St} (h : Apart x sf sg) (of : StOk sf) (og : StOk sg) (t : Int) : Apart x (atS sf t) (atS sg t) := by
  refine ⟨?_, h.life, h.rules, fun z hz => ?_, fun z hz => h.only z (keys_filter hz)⟩
  · show maxI sf.now t = maxI sg.now t
    rw [h.now]
  · show getA z (sf.ls.filter (live (maxI sf.now t))) = getA z (sg.ls.filter (live (maxI sg.now t)))
    rw [getA_filter z _ _ of.nodup, getA_filter z _ _ og.nodup, h.own z hz, h.now]

theorem apart_contains {x : Fl} {sf sg : St} (h : Apart x sf sg) {z : Fl} (hz : z = x ∨ z = revF x) : (keys sf.ls).contains z = (keys sg.ls).contains z := by
  rw [contains_get, contains_get, h.own z hz]
theorem again_eq {s : St} {y : Fl} (h : (keys s.ls).contains y = true) : againS s y = { s with ls := putA y (s.now + s.life) s.ls } := by unfold againS; rw [if_pos h]
/-- an own flow counts anew in both -/
theorem apart_again {x : Fl} {sf sg : St} (h : Apart x sf sg) {y : Fl} (hy : y = x ∨ y = revF x) (hc : (keys sg.ls).contains y = true) : Apart x (againS sf y) (againS sg y) := by
  have hf : (keys sf.ls).contains y = true := by rw [apart_contains h hy]; exact hc
  rw [again_eq hf, again_eq hc]
  refine ⟨h.now, h.life, h.rules, fun z hz => ?_, fun z hz => ?_⟩
  · show getA z (putA y (sf.now + sf.life) sf.ls) = getA z (putA y (sg.now + sg.life) sg.ls)
    rw [getA_put y z _ _ hf, getA_put y z _ _ hc, h.own z hz, h.now, h.life]
  · have : (keys (putA y (sg.now + sg.life) sg.ls)).contains z = true := hz
    rw [put_keys y _ _ hc] at this
    exact h.only z this
/-- an own flow comes to both -/
theorem apart_push {x : Fl} {sf sg : St} (h : Apart x sf sg) {y : Fl} (hy : y = x ∨ y = revF x) (hc : (keys sg.ls).contains y = false) :
    Apart x { sf with ls := sf.ls ++ [(y, sf.now + sf.life)] } { sg with ls := sg.ls ++ [(y, sg.now + sg.life)] } := by
  have hf : (keys sf.ls).contains y = false := by rw [apart_contains h hy]; exact hc
  refine ⟨h.now, h.life, h.rules, fun z hz => ?_, fun z hz => ?_⟩
  · show getA z (sf.ls ++ [(y, sf.now + sf.life)]) = getA z (sg.ls ++ [(y, sg.now + sg.life)])
    rw [getA_push y z _ _ hf, getA_push y z _ _ hc, h.own z hz, h.now, h.life]
  · have : (keys (sg.ls ++ [(y, sg.now + sg.life)])).contains z = true := hz
    simp only [keys, List.map_append, List.map_cons, List.map_nil, List.contains_iff_mem, List.mem_append, List.mem_singleton] at this
    rcases this with h1 | h1
    · exact h.only z (by simp only [keys, List.contains_iff_mem]; exact h1)
    · rw [h1]; exact hy
/-- another flow counts anew in the first one -/
theorem apart_again_other {x : Fl} {sf sg : St} (h : Apart x sf sg) {y : Fl} (hy : ¬ (y = x ∨ y = revF x)) : Apart x (againS sf y) sg := by
  by_cases hf : (keys sf.ls).contains y = true
  · rw [again_eq hf]
    refine ⟨h.now, h.life, h.rules, fun z hz => ?_, h.only⟩
    show getA z (putA y (sf.now + sf.life) sf.ls) = _
    rw [getA_put y z _ _ hf, if_neg (fun e => hy (by rw [e]; exact hz)), h.own z hz]
  · have : againS sf y = sf := by unfold againS; rw [if_neg hf]
    rw [this]; exact h
theorem apart_push_other {x : Fl} {sf sg : St} (h : Apart x sf sg) {y : Fl} (hy : ¬ (y = x ∨ y = revF x)) (hf : (keys sf.ls).contains y = false) : Apart x { sf with ls := sf.ls ++ [(y, sf.now + sf.life)] } sg := by
  refine ⟨h.now, h.life, h.rules, fun z hz => ?_, h.only⟩
  show getA z (sf.ls ++ [(y, sf.now + sf.life)]) = _
  rw [getA_push y z _ _ hf, if_neg (fun e => hy (by rw [e]; exact hz)), h.own z hz]
end Go.Proofs.YtlfeckimhaegbaaDoor
