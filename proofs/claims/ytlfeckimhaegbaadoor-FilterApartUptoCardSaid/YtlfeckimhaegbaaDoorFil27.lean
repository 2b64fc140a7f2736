/- FilterApart: the walk through the law. -/
import Derived.Test.YtlfeckimhaegbaaDoorFil26
namespace Go.Proofs.YtlfeckimhaegbaaDoor
open Go Eng
set_option maxRecDepth 20000

/-- two filters side by side in memory, and boxes that stay -/
structure Env2 (w0 w : World) (fb gb : Nat) (X : List (Nat × Obj)) (sf sg : St) (Vf Sf Vg Sg : List Nat) : Prop where
  k : Keep [] w0 w
  f : FRep w fb Vf Sf sf
  g : FRep w gb Vg Sg sg
  d : ∀ k ∈ Vf, k ∉ Vg
  df : ∀ k ∈ Sf, k ∉ Vg
  dg : ∀ k ∈ Sg, k ∉ Vf
  hf : ∀ k ∈ Vf, w0.heap.size ≤ k
  hg : ∀ k ∈ Vg, w0.heap.size ≤ k
  x : ∀ p ∈ X, w.heap[p.1]? = some p.2 ∧ p.1 ∉ Vf ∧ p.1 ∉ Vg
section
variable {w0 w w' : World} {fb gb : Nat} {X : List (Nat × Obj)} {sf sg s' : St} {Vf Sf Vg Sg : List Nat}
theorem Env2.postF (h : Env2 w0 w fb gb X sf sg Vf Sf Vg Sg) (p : Post w Vf Sf fb s' w') : ∃ V S, Env2 w0 w' fb gb X s' sg V S Vg Sg := by
  obtain ⟨V, S, r, k, hV, hS⟩ := p
  have lg := h.g.lt
  have hw := h.k.size
  refine ⟨V, S, h.k.trans k (fun y hy hm => by have := h.hf y hm; omega), r, h.g.keep k (fun y hy hm => h.d y hm hy) (fun y hy hm => h.dg y hy hm), fun y hy hm => ?_, fun y hy hm => ?_, fun y hy hm => ?_, fun y hy => ?_, h.hg, fun q hq => ?_⟩
  · rcases hV y hy with h1 | h1
    · exact h.d y h1 hm
    · have := lg y (by simp [hm]); omega
  · rcases hS y hy with h1 | h1
    · exact h.df y h1 hm
    · have := lg y (by simp [hm]); omega
  · rcases hV y hm with h1 | h1
    · exact h.dg y hy h1
    · have := lg y (by simp [hy]); omega
  · rcases hV y hy with h1 | h1
    · exact h.hf y h1
    · omega
  · obtain ⟨h1, h2, h3⟩ := h.x q hq
    refine ⟨k.get h1 h2, fun hc => ?_, h3⟩
    rcases hV _ hc with h4 | h4
    · exact h2 h4
    · have := lt_of_get h1; omega
theorem Env2.swap (h : Env2 w0 w fb gb X sf sg Vf Sf Vg Sg) : Env2 w0 w gb fb X sg sf Vg Sg Vf Sf :=
  ⟨h.k, h.g, h.f, fun y hy hm => h.d y hm hy, h.dg, h.df, h.hg, h.hf, fun q hq => let z := h.x q hq; ⟨z.1, z.2.2, z.2.1⟩⟩
theorem Env2.postG (h : Env2 w0 w fb gb X sf sg Vf Sf Vg Sg) (p : Post w Vg Sg gb s' w') : ∃ V S, Env2 w0 w' fb gb X sf s' Vf Sf V S := by
  obtain ⟨V, S, e⟩ := h.swap.postF p
  exact ⟨V, S, e.swap⟩
theorem Env2.keep0 (h : Env2 w0 w fb gb X sf sg Vf Sf Vg Sg) (k : Keep [] w w') : Env2 w0 w' fb gb X sf sg Vf Sf Vg Sg :=
  ⟨h.k.trans k (by simp), h.f.keep0 k, h.g.keep0 k, h.d, h.df, h.dg, h.hf, h.hg, fun q hq => let z := h.x q hq; ⟨k.get z.1 (by simp), z.2⟩⟩
theorem Env2.box (h : Env2 w0 w fb gb X sf sg Vf Sf Vg Sg) (k : Keep [] w w') {b : Nat} {o : Obj} (hb : w.heap.size ≤ b) (g : w'.heap[b]? = some o) : Env2 w0 w' fb gb ((b, o) :: X) sf sg Vf Sf Vg Sg := by
  have lf := h.f.lt
  have lg := h.g.lt
  have h' := h.keep0 k
  refine ⟨h'.k, h'.f, h'.g, h.d, h.df, h.dg, h.hf, h.hg, fun q hq => ?_⟩
  rcases List.mem_cons.1 hq with rfl | hq
  · exact ⟨g, fun hc => by have := lf b (by simp at hc; simp [hc]); omega, fun hc => by have := lg b (by simp at hc; simp [hc]); omega⟩
  · exact h'.x q hq
theorem Env2.drop {q : Nat × Obj} (h : Env2 w0 w fb gb (q :: X) sf sg Vf Sf Vg Sg) : Env2 w0 w fb gb X sf sg Vf Sf Vg Sg :=
  ⟨h.k, h.f, h.g, h.d, h.df, h.dg, h.hf, h.hg, fun q hq => h.x q (List.mem_cons_of_mem _ hq)⟩
theorem Env2.get (h : Env2 w0 w fb gb X sf sg Vf Sf Vg Sg) {b : Nat} {o : Obj} (hm : (b, o) ∈ X) : w.heap[b]? = some o := (h.x _ hm).1
end
end Go.Proofs.YtlfeckimhaegbaaDoor
