/- FilterAnswers, FilterApart: a filter in memory; what 'again' does. -/
import Derived.Test.YtlfeckimhaegbaaDoorFil7
namespace Go.Proofs.YtlfeckimhaegbaaDoor
open Go Eng
set_option maxRecDepth 20000

instance : DecidableEq Ad := fun a b => decidable_of_iff (a.v6 = b.v6 ∧ a.hi = b.hi ∧ a.lo = b.lo) (by cases a; cases b; simp)
instance : DecidableEq Fl := fun a b => decidable_of_iff (a.proto = b.proto ∧ a.src = b.src ∧ a.dst = b.dst ∧ a.fr = b.fr ∧ a.to = b.to) (by cases a; cases b; simp)

def flK : List CK := [.i .u8, .b, .i .u64, .i .u64, .b, .i .u64, .i .u64, .i .u16, .i .u16]
theorem flT : flatT Tryd.prog 10 37 = some flK := by kernel_rfl
theorem flStruct : (match Tryd.prog.underlying 37 with | some (.struct _) => true | _ => false) = true := by kernel_rfl
theorem flAgg : isAggP Tryd.prog 37 = some true := by kernel_rfl
theorem fl_inj (a b : Fl) (h : flC a = flC b) : a = b := by
  obtain ⟨p, ⟨v, h1, l1⟩, ⟨v', h2, l2⟩, f, t⟩ := a
  obtain ⟨p', ⟨w, h3, l3⟩, ⟨w', h4, l4⟩, f', t'⟩ := b
  simp [flC] at h
  simp [h]
theorem FK : FlatKey Tryd.prog 37 flC where
  ks := ⟨10, flK, by decide, flT, fun a => rfl⟩
  strct := by
    have h := flStruct
    cases hu : Tryd.prog.underlying 37 with
    | none => rw [hu] at h; cases h
    | some d => cases d <;> (first | exact ⟨_, rfl⟩ | (rw [hu] at h; cases h))
  inj := fl_inj
theorem flOf (f : Fl) : vOf Tryd.prog 37 (flC f) = flV f := by unfold vOf; rw [if_pos flAgg]; rfl
theorem m53t : Tryd.prog.underlying 53 = some (.map 37 32) := by kernel_rfl
theorem z32 : (Tryd.prog.info? 32).bind (·.zero) = some (.int .u64 0) := by kernel_rfl
def u64V (x : Int) : Value := .int .u64 x

/-- the flows that are remembered, and until when, in their order; the rules; the bounds; the time -/
structure St where
  rules : List Ru
  ls : List (Fl × Int)
  most : Int
  life : Int
  now : Int
/-- the cells of the flows -/
def kc (l : List (Fl × Int)) : List Value := l.flatMap fun p => flC p.1
theorem kc_append (a b : List (Fl × Int)) : kc (a ++ b) = kc a ++ kc b := by simp [kc]
theorem kc_len (l : List (Fl × Int)) : (kc l).length = l.length * 9 := flat_len (enc := fun p : Fl × Int => flC p.1) (sz := 9) (fun _ => rfl) l
def keys (l : List (Fl × Int)) : List Fl := l.map Prod.fst
structure StOk (s : St) : Prop where
  nodup : (keys s.ls).Nodup
  n0 : 0 ≤ s.now
  n1 : s.now < 4611686018427387904
  l0 : 0 < s.life
  l1 : s.life ≤ 4294967296
  m0 : 0 < s.most
  m1 : s.most ≤ 1024
  len : (s.ls.length : Int) ≤ s.most
abbrev flen (m : List (Fl × Int)) : Nat := m.length
/-- a filter's block -/
def fC (rv ov : Value) (mb : Nat) (most life now : Int) : Array Value := #[rv, ov, .map (some mb), .int .i64 most, .int .u64 life, .int .u64 now]
def FRep (w : World) (fb : Nat) (V S : List Nat) (s : St) : Prop :=
  ∃ mb es ck rv ov B, w.heap[fb]? = some (.cells (fC rv ov mb s.most s.life s.now) 56) ∧ w.heap[mb]? = some (.map es ck) ∧ MapRel Tryd.prog 37 flC u64V es s.ls ∧
    OwnS w ov 37 9 s.ls.length (kc s.ls) B ∧ RulesAt w rv s.rules S ∧ fb ≠ mb ∧ fb ∉ B ∧ mb ∉ B ∧ V = fb :: mb :: B ∧ (∀ k ∈ S, k ∉ V) ∧ (∀ k ∈ S, k < w.heap.size)
theorem FRep.keep {w w' : World} {fb : Nat} {V S : List Nat} {s : St} (h : FRep w fb V S s) {M : List Nat} (k : Keep M w w') (hV : ∀ x ∈ V, x ∉ M) (hS : ∀ x ∈ S, x ∉ M) : FRep w' fb V S s := by
  obtain ⟨mb, es, ck, rv, ov, B, h1, h2, h3, h4, h5, h6, h7, h8, rfl, h10, h11⟩ := h
  exact ⟨mb, es, ck, rv, ov, B, k.get h1 (hV _ (by simp)), k.get h2 (hV _ (by simp)), h3, h4.keep k fun x hx => hV x (by simp [hx]), h5.keep k hS, h6, h7, h8, rfl, h10, fun x hx => Nat.lt_of_lt_of_le (h11 x hx) k.size⟩
theorem FRep.keep0 {w w' : World} {fb : Nat} {V S : List Nat} {s : St} (h : FRep w fb V S s) (k : Keep [] w w') : FRep w' fb V S s := h.keep k (by simp) (by simp)
theorem FRep.lt {w : World} {fb : Nat} {V S : List Nat} {s : St} (h : FRep w fb V S s) : ∀ k ∈ V ++ S, k < w.heap.size := by
  obtain ⟨mb, es, ck, rv, ov, B, h1, h2, h3, h4, h5, h6, h7, h8, rfl, h10, h11⟩ := h
  intro k hk
  simp only [List.mem_append, List.mem_cons] at hk
  rcases hk with (rfl | rfl | h) | h
  · exact lt_of_get h1
  · exact lt_of_get h2
  · exact h4.lt k h
  · exact h11 k h

theorem look_keys (x : Fl) : ∀ (m : List (Fl × Int)) (i : Nat), (lookI x m i).isSome = (keys m).contains x
  | [], _ => rfl
  | p :: r, i => by
    unfold lookI keys
    by_cases h : p.1 = x
    · simp [h]
    · have h' : ¬ x = p.1 := fun e => h e.symm
      rw [if_neg h, look_keys x r (i + 1)]
      simp [keys, h']
theorem get_some (x : Fl) (m : List (Fl × Int)) : (getA x m).isSome = (keys m).contains x := by
  unfold getA
  rw [Option.isSome_map, look_keys]
theorem put_keys (x : Fl) (b : Int) : ∀ (m : List (Fl × Int)), (keys m).contains x = true → keys (putA x b m) = keys m
  | [], h => by simp [keys] at h
  | p :: r, h => by
    unfold putA
    by_cases hp : p.1 = x
    · rw [if_pos hp]; simp [keys, hp]
    · have hp' : ¬ x = p.1 := fun e => hp e.symm
      rw [if_neg hp]
      have h' : (keys r).contains x = true := by
        simp [keys, hp'] at h ⊢
        exact h
      have := put_keys x b r h'
      simp only [keys, List.map_cons] at this ⊢
      rw [this]
theorem put_new (x : Fl) (b : Int) (m : List (Fl × Int)) (h : (keys m).contains x = false) : putA x b m = m ++ [(x, b)] := by
  have h2 := look_keys x m 0
  rw [h] at h2
  exact put_none (by simpa using h2)
theorem kc_keys (m : List (Fl × Int)) : kc m = (keys m).flatMap flC := by simp [kc, keys, List.flatMap_map]
theorem keys_len (m : List (Fl × Int)) : (keys m).length = m.length := by simp [keys]

/-- a flow that is there counts anew -/
def againS (s : St) (x : Fl) : St := if (keys s.ls).contains x then { s with ls := putA x (s.now + s.life) s.ls } else s

theorem k20 (s : St) (x : Fl) (fb : Nat) (V S : List Nat) (w : World) (hs : StOk s) (hr : FRep w fb V S s) :
    Calls Tryd.prog 20 #[.pointer (some ⟨fb, 0, none⟩), flV x] w fun e w' => ∃ u, e = .returned u ∧ u = .bool ((keys s.ls).contains x) ∧ FRep w' fb V S (againS s x) ∧ Keep V w w' := by
  obtain ⟨mb, es, ck, rv, ov, B, h1, h2, h3, h4, h5, h6, h7, h8, rfl, h10, h11⟩ := hr
  refine c20 _ _ _ _ ?_
  unfold m20
  refine eBox_of fun b w1 hb k1 g1 => ?_
  have h1 := k1.get h1 (by simp)
  have h2 := k1.get h2 (by simp)
  have h4 := h4.keep k1 (by simp)
  have h5 := h5.keep k1 (by simp)
  have g0 : w1.heap[b]? = some (.cells (flC x).toArray 37) := g1
  have hsz := k1.size
  simp only [fC] at h1
  simp only [pFld_eq, nilC_ptr', ld1_drew, ldN_drew, List.getElem?_toArray, List.getElem?_cons_succ, List.getElem?_cons_zero, Nat.zero_add, ld1_eq h1]
  refine ldN_all g0 rfl ?_
  show rd Tryd.prog (Instr.lookup 53 (.map (some mb)) (flV x) true) w1.drew _
  rw [← flOf]
  refine FK.lookup (w := w1.drew) m53t z32 h2 h3 x true ?_
  simp only [if_true, pExt_eq, List.getElem?_toArray, List.getElem?_cons_zero, List.getElem?_cons_succ, get_some]
  refine joinP_of (fun _ w' => FRep w' fb (fb :: mb :: B) S (againS s x) ∧ Keep (fb :: mb :: B) w w') ?_ ?_
  · unfold m20_1
    refine condF_of (fun h => ?_) (fun h => ?_)
    · simp only [pFld_eq, nilC_ptr', pBin_int, binI, ld1_drew, ldN_drew, List.getElem?_toArray, List.getElem?_cons_succ, List.getElem?_cons_zero, Nat.zero_add, ld1_eq h1]
      refine ldN_all g0 rfl ?_
      have n0 := hs.n0; have n1 := hs.n1; have l0 := hs.l0; have l1 := hs.l1
      rw [wrap_in_u64 (by omega) (by omega)]
      show ef Tryd.prog (Instr.mapUpdate 53 (.map (some mb)) (flV x) (u64V (s.now + s.life))) w1.drew.drew _
      rw [← flOf]
      refine FK.update (w := w1.drew.drew) m53t h2 h3 x (s.now + s.life) fun w2 es' ck' k2 g2 hm => ?_
      have k2 : Keep [mb] w1 w2 := k2.of_drew.of_drew
      refine ⟨?_, (k1.mono (M' := fb :: mb :: B) (by simp)).trans k2 fun y _ hy => by simp at hy; simp [hy]⟩
      have ha : againS s x = { s with ls := putA x (s.now + s.life) s.ls } := by unfold againS; rw [if_pos h]
      rw [ha]
      have hk := put_keys x (s.now + s.life) s.ls h
      have hl : (putA x (s.now + s.life) s.ls).length = s.ls.length := by rw [← keys_len, hk, keys_len]
      refine ⟨mb, es', ck', rv, ov, B, k2.get h1 (by simpa using h6), g2, hm, ?_, h5.keep k2 fun y hy hym => ?_, h6, h7, h8, rfl, h10, fun y hy => ?_⟩
      · simp only [hl, kc_keys, hk]
        rw [← kc_keys]
        exact h4.keep k2 fun y hy hym => h8 (by simp at hym; rwa [hym] at hy)
      · exact h10 y hy (by simp at hym; simp [hym])
      · have := h11 y hy; have := k2.size; omega
    · have ha : againS s x = s := by unfold againS; rw [if_neg (by rw [h]; exact Bool.false_ne_true)]
      rw [ha]
      have hf : FRep w1 fb (fb :: mb :: B) S s := ⟨mb, es, ck, rv, ov, B, h1, h2, h3, h4, h5, h6, h7, h8, rfl, h10, fun y hy => by have := h11 y hy; omega⟩
      exact ⟨hf.keep0 (Keep.refl _ _).drew, k1.drew.mono (by simp)⟩
  · rintro vs w' ⟨h, k⟩
    exact ⟨trivial, h, k⟩
end Go.Proofs.YtlfeckimhaegbaaDoor
