/- FilterAnswers, FilterApart: a filter's methods: at, In, Out, Set, Flows; New. -/
import Derived.Test.YtlfeckimhaegbaaDoorFil9
namespace Go.Proofs.YtlfeckimhaegbaaDoor
open Go Eng
set_option maxRecDepth 20000

def maxI (x y : Int) : Int := if y > x then y else x
/-- the time goes on; flows go -/
def atS (s : St) (t : Int) : St := { s with now := maxI s.now t, ls := s.ls.filter (live (maxI s.now t)) }
theorem atS_ok {s : St} {t : Int} (h : StOk s) (h0 : 0 ≤ t) (h1 : t < 4611686018427387904) : StOk (atS s t) := by
  obtain ⟨a, b, c, d, e, f, g, i⟩ := h
  have hl := List.length_filter_le (live (maxI s.now t)) s.ls
  refine ⟨?_, ?_, ?_, d, e, f, g, ?_⟩
  · exact (List.filter_sublist.map _).nodup a
  · simp only [atS, maxI]; split <;> omega
  · simp only [atS, maxI]; split <;> omega
  · simp only [atS]; omega

theorem k18 (s : St) (t : Int) (fb : Nat) (V S : List Nat) (w : World) (hs : StOk s) (hr : FRep w fb V S s) :
    Calls Tryd.prog 18 #[.pointer (some ⟨fb, 0, none⟩), .int .u64 t] w fun e w' => ∃ u, e = .returned u ∧ Keep V w w' ∧
      ((4611686018427387904 ≤ t ∧ u = .int .i64 2 ∧ FRep w' fb V S s) ∨ (t < 4611686018427387904 ∧ u = .int .i64 0 ∧ FRep w' fb V S (atS s t))) := by
  obtain ⟨mb, es, ck, rv, ov, B, h1, h2, h3, h4, h5, h6, h7, h8, rfl, h10, h11⟩ := hr
  have lfb := lt_of_get h1
  have lmb := lt_of_get h2
  have lB := h4.lt
  refine c18 _ _ _ _ ?_
  unfold m18
  refine eBox_of fun bx w1 hb k1 g1 => ?_
  have h1 := k1.get h1 (by simp)
  have h2 := k1.get h2 (by simp)
  have h4 := h4.keep k1 (by simp)
  have h5 := h5.keep k1 (by simp)
  have h11 : ∀ k ∈ S, k < w1.heap.size := fun y hy => by have := h11 y hy; have := k1.size; omega
  have kV : Keep (fb :: mb :: B) w w1 := k1.mono (by simp)
  simp only [Value.cells] at g1
  simp only [pFld_eq, nilC_ptr', condF_bool, pBin_int, binI, pNil_ptr, ld1_drew, List.getElem?_toArray, List.getElem?_cons_zero, Nat.zero_add, ld1_eq g1, Option.isNone_some, ge_iff_le, decide_eq_true_eq, decide_eq_false_iff_not, Bool.false_eq_true, false_implies, true_and, forall_const]
  refine ⟨fun h => ⟨kV, .inl ⟨h, ⟨mb, es, ck, rv, ov, B, h1, h2, h3, h4, h5, h6, h7, h8, rfl, h10, h11⟩⟩⟩, fun h => ?_⟩
  simp only [fC] at h1
  simp only [List.getElem?_toArray, List.getElem?_cons_succ, List.getElem?_cons_zero, ite_true, ld1_eq h1, pMax_int]
  refine eSt1_of h1 (by simp) rfl (by simp) fun w2 k2 g2 => ?_
  have k2 : Keep [fb] w1 w2 := Keep.of_drew k2
  have hbx : bx ≠ fb := by omega
  have gx := k2.get g1 (by simpa using hbx)
  have h2 := k2.get h2 (by simp; exact fun e => h6 e.symm)
  have h4 := h4.keep k2 (by intro y hy hm; simp at hm; rw [hm] at hy; exact h7 hy)
  have h5 := h5.keep k2 (by intro y hy hm; simp at hm; exact h10 y hy (by simp [hm]))
  have g2' : w2.heap[fb]? = some (.cells (fC rv ov mb s.most s.life (maxI s.now t)) 56) := by rw [g2]; rfl
  have g2s : w2.heap[fb]? = some (.cells #[rv, ov, .map (some mb), .int .i64 s.most, .int .u64 s.life, .int .u64 (maxI s.now t)] 56) := g2'
  simp only [pFld_eq, nilC_ptr', List.getElem?_toArray, List.getElem?_cons_succ, List.getElem?_cons_zero, Nat.zero_add, ld1_eq g2s, ld1_eq gx]
  have hm1 := hs.m1
  have hle := hs.len
  refine call_of (k27 s.ls ov B bx fb mb _ (maxI s.now t) w2.drew (by omega) hs.nodup h4 ⟨gx, g2', rfl, rfl, es, ck, h2, h3⟩ (by omega) h6 h8 (by intro hc; have := lB bx hc; omega) h7) fun v w3 ⟨k3, ha, ho⟩ => ?_
  have k3 := Keep.of_drew k3
  have k13 : Keep (fb :: mb :: B) w w3 := (kV.trans k2 (fun y _ hy => by simp at hy; simp [hy])).trans k3 (fun y _ hy => by simp at hy; rcases hy with h | h <;> simp [h])
  obtain ⟨gx3, gf3, _, _, es', ck', gm3, hm3⟩ := ha
  have gf3s : w3.heap[fb]? = some (.cells #[rv, ov, .map (some mb), .int .i64 s.most, .int .u64 s.life, .int .u64 (maxI s.now t)] 56) := gf3
  simp only [List.getElem?_toArray, List.getElem?_cons_zero, ld1_eq gx3]
  refine ⟨trivial, ?_⟩
  refine eSt1_of gf3s (by simp) ?_ (by simp) fun w4 k4 g4 => ?_
  · obtain ⟨a, c, e⟩ := ho.rd.slice
    rw [e]; rfl
  have hB : ∀ y ∈ B, y ∉ [fb] := by intro y hy hm; simp at hm; rw [hm] at hy; exact h7 hy
  refine ⟨k13.trans k4 (fun y _ hy => by simp at hy; simp [hy]), .inr ⟨by omega, mb, es', ck', rv, v, B, ?_, k4.get gm3 (by simp; exact fun e => h6 e.symm), hm3, ho.keep k4 hB, ?_, h6, h7, h8, rfl, h10, ?_⟩⟩
  · rw [g4]; rfl
  · refine (h5.keep k3 fun y hy hm => ?_).keep k4 fun y hy hm => ?_
    · exact h10 y hy (by simp at hm; rcases hm with h | h <;> simp [h])
    · exact h10 y hy (by simp at hm; simp [hm])
  · intro y hy
    have := h11 y hy; have := k2.size; have := k3.size; have := k4.size
    omega
end Go.Proofs.YtlfeckimhaegbaaDoor
