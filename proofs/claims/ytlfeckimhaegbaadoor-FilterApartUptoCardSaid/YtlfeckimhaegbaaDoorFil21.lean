/- FilterAnswers, FilterApart: the arguments, as the kit's reader tells them. -/
import Derived.Test.YtlfeckimhaegbaaDoorFil20
import Derived.Test.YtlfeckimhaegbaaDoorEng13
import Derived.Test.YtlfeckimhaegbaaDoorCards
namespace Go.Proofs.YtlfeckimhaegbaaDoor
open Go Eng
set_option maxRecDepth 20000

section
variable {H : Type} {enc : TypeId × Value → H} {w : World}
theorem ex_cons {l : List Value} {n : Nat} (h : l.length = n + 1) : ∃ a r, l = a :: r ∧ r.length = n := by
  cases l with
  | nil => simp at h
  | cons a r => exact ⟨a, r, rfl, by simpa using h⟩
theorem ex1 {l : List Value} (h : l.length = 1) : ∃ a, l = [a] := List.length_eq_one_iff.1 h
theorem ex2 {l : List Value} (h : l.length = 2) : ∃ a b, l = [a, b] := by
  obtain ⟨a, r, rfl, h2⟩ := ex_cons h
  obtain ⟨b, rfl⟩ := ex1 h2
  exact ⟨a, b, rfl⟩
theorem ex3 {l : List Value} (h : l.length = 3) : ∃ a b c, l = [a, b, c] := by
  obtain ⟨a, r, rfl, h2⟩ := ex_cons h
  obtain ⟨b, c, rfl⟩ := ex2 h2
  exact ⟨a, b, c, rfl⟩
theorem ex4 {l : List Value} (h : l.length = 4) : ∃ a b c d, l = [a, b, c, d] := by
  obtain ⟨a, r, rfl, h2⟩ := ex_cons h
  obtain ⟨b, c, d, rfl⟩ := ex3 h2
  exact ⟨a, b, c, d, rfl⟩
/-- field i of a struct that is read -/
theorem op_field {fs : Array Field} {cs : List Value} {ds : List (DataW H)} (hf : ∀ (i : Nat) (f : Field), fs[i]? = some f → ∃ y, y ∈ ds ∧ Trd enc Tryd.prog w f.type ((cs.drop f.offset).take (Tryd.prog.cellsOf f.type)) y)
    (i o : Nat) {t n : Nat} (h2 : Tryd.prog.cellsOf t = n) (h1 : (fs[i]?).map (fun f => (f.type, f.offset)) = some (t, o)) : ∃ y, y ∈ ds ∧ Trd enc Tryd.prog w t ((cs.drop o).take n) y := by
  cases hi : fs[i]? with
  | none => rw [hi] at h1; simp at h1
  | some f =>
    rw [hi] at h1
    simp only [Option.map_some, Option.some.injEq, Prod.mk.injEq] at h1
    obtain ⟨rfl, rfl⟩ := h1
    rw [← h2]
    exact hf i f hi
theorem co4 : Tryd.prog.cellsOf 4 = 1 := by kernel_rfl
theorem co32 : Tryd.prog.cellsOf 32 = 1 := by kernel_rfl
theorem co23 : Tryd.prog.cellsOf 23 = 1 := by kernel_rfl
theorem co5 : Tryd.prog.cellsOf 5 = 1 := by kernel_rfl
theorem co3 : Tryd.prog.cellsOf 3 = 1 := by kernel_rfl
theorem co35 : Tryd.prog.cellsOf 35 = 3 := by kernel_rfl
theorem co37 : Tryd.prog.cellsOf 37 = 9 := by kernel_rfl
theorem co39 : Tryd.prog.cellsOf 39 = 13 := by kernel_rfl
theorem co57 : Tryd.prog.cellsOf 57 = 1 := by kernel_rfl
theorem co58 : Tryd.prog.cellsOf 58 = 1 := by kernel_rfl
theorem co59 : Tryd.prog.cellsOf 59 = 1 := by kernel_rfl
theorem co22 : Tryd.prog.cellsOf 22 = 1 := by kernel_rfl
theorem co71 : Tryd.prog.cellsOf 71 = 2 := by kernel_rfl
theorem co68 : Tryd.prog.cellsOf 68 = 6 := by kernel_rfl
theorem co61 : Tryd.prog.cellsOf 61 = 4 := by kernel_rfl
theorem co41 : Tryd.prog.cellsOf 41 = 16 := by kernel_rfl

theorem op_ad {cs : List Value} {d : DataW H} (h : Trd enc Tryd.prog w 35 cs d) : ∃ a, cs = adC a ∧ wfU a := by
  obtain ⟨hl, ds, rfl, _, hf⟩ := op_struct Tryd.underlying35 h
  obtain ⟨a, b, c, rfl⟩ := ex3 (hl.trans co35)
  obtain ⟨_, _, h0⟩ := op_field hf 0 0 co4 rfl
  obtain ⟨_, _, h1⟩ := op_field hf 1 1 co32 rfl
  obtain ⟨_, _, h2⟩ := op_field hf 2 2 co32 rfl
  obtain ⟨v6, e0⟩ := op_bool Tryd.underlying4 h0
  obtain ⟨hi, e1, h10, h11⟩ := op_int Tryd.underlying32 h1
  obtain ⟨lo, e2, h20, h21⟩ := op_int Tryd.underlying32 h2
  simp at e0 e1 e2
  subst e0 e1 e2
  have m0 : IntKind.u64.min = 0 := by decide
  have m1 : IntKind.u64.max = 18446744073709551615 := by decide
  refine ⟨⟨v6, hi, lo⟩, rfl, ⟨?_, ?_⟩, ?_, ?_⟩ <;> simp only <;> omega
theorem op_sp {cs : List Value} {d : DataW H} (h : Trd enc Tryd.prog w 68 cs d) : ∃ s, cs = spC s ∧ wfU s.lo ∧ wfU s.hi := by
  obtain ⟨hl, ds, rfl, _, hf⟩ := op_struct Tryd.underlying68 h
  obtain ⟨_, _, h0⟩ := op_field hf 0 0 co35 rfl
  obtain ⟨_, _, h1⟩ := op_field hf 1 3 co35 rfl
  have hl : cs.length = 6 := hl.trans co68
  obtain ⟨a, e0, w0⟩ := op_ad h0
  obtain ⟨b, e1, w1⟩ := op_ad h1
  refine ⟨⟨a, b⟩, ?_, w0, w1⟩
  rw [spC, ← e0, ← e1, List.drop_zero, List.take_of_length_le (l := cs.drop 3) (by simp; omega), List.take_append_drop]
theorem op_po {cs : List Value} {d : DataW H} (h : Trd enc Tryd.prog w 71 cs d) : ∃ p, cs = poC p := by
  obtain ⟨hl, ds, rfl, _, hf⟩ := op_struct Tryd.underlying71 h
  obtain ⟨_, _, h0⟩ := op_field hf 0 0 co23 rfl
  obtain ⟨_, _, h1⟩ := op_field hf 1 1 co23 rfl
  obtain ⟨a, b, rfl⟩ := ex2 (hl.trans co71)
  obtain ⟨x, e0, _⟩ := op_int Tryd.underlying23 h0
  obtain ⟨y, e1, _⟩ := op_int Tryd.underlying23 h1
  simp at e0 e1
  subst e0 e1
  exact ⟨⟨x, y⟩, rfl⟩
theorem op_u8 {cs : List Value} {d : DataW H} (h : Trd enc Tryd.prog w 5 cs d) : ∃ x, cs = u8C x := by
  obtain ⟨x, e, _⟩ := op_int Tryd.underlying5 h
  exact ⟨x, e⟩
theorem op_fl {cs : List Value} {d : DataW H} (h : Trd enc Tryd.prog w 37 cs d) : ∃ f, cs = flC f ∧ wfU f.src ∧ wfU f.dst := by
  obtain ⟨hl, ds, rfl, _, hf⟩ := op_struct Tryd.underlying37 h
  obtain ⟨_, _, h0⟩ := op_field hf 0 0 co5 rfl
  obtain ⟨_, _, h1⟩ := op_field hf 1 1 co35 rfl
  obtain ⟨_, _, h2⟩ := op_field hf 2 4 co35 rfl
  obtain ⟨_, _, h3⟩ := op_field hf 3 7 co23 rfl
  obtain ⟨_, _, h4⟩ := op_field hf 4 8 co23 rfl
  have hl : cs.length = 9 := hl.trans co37
  obtain ⟨p, e0⟩ := op_u8 h0
  obtain ⟨a, e1, w1⟩ := op_ad h1
  obtain ⟨b, e2, w2⟩ := op_ad h2
  obtain ⟨x, e3, _⟩ := op_int Tryd.underlying23 h3
  obtain ⟨y, e4, _⟩ := op_int Tryd.underlying23 h4
  refine ⟨⟨p, a, b, x, y⟩, ?_, w1, w2⟩
  have hs : cs = (cs.drop 0).take 1 ++ ((cs.drop 1).take 3 ++ ((cs.drop 4).take 3 ++ ((cs.drop 7).take 1 ++ (cs.drop 8).take 1))) := by
    have step : ∀ (i n : Nat), i + n ≤ cs.length → (cs.drop i).take n ++ cs.drop (i + n) = cs.drop i := fun i n _ => by rw [← List.drop_drop, List.take_append_drop]
    rw [List.take_of_length_le (l := cs.drop 8) (by simp; omega), step 7 1 (by omega), step 4 3 (by omega), step 1 3 (by omega), step 0 1 (by omega), List.drop_zero]
  rw [hs, e0, e1, e2, e3, e4]
  rfl
theorem op_hd {cs : List Value} {d : DataW H} (h : Trd enc Tryd.prog w 39 cs d) : ∃ x, cs = hdC x ∧ HdOk x := by
  obtain ⟨hl, ds, rfl, _, hf⟩ := op_struct Tryd.underlying39 h
  obtain ⟨_, _, h0⟩ := op_field hf 0 0 co37 rfl
  obtain ⟨_, _, h1⟩ := op_field hf 1 9 co5 rfl
  obtain ⟨_, _, h2⟩ := op_field hf 2 10 co5 rfl
  obtain ⟨_, _, h3⟩ := op_field hf 3 11 co5 rfl
  obtain ⟨_, _, h4⟩ := op_field hf 4 12 co3 rfl
  have hl : cs.length = 13 := hl.trans co39
  obtain ⟨f, e0, w1, w2⟩ := op_fl h0
  obtain ⟨p, e1⟩ := op_u8 h1
  obtain ⟨q, e2⟩ := op_u8 h2
  obtain ⟨r, e3⟩ := op_u8 h3
  obtain ⟨s, e4, _⟩ := op_int Tryd.underlying3 h4
  refine ⟨⟨f, p, q, r, s⟩, ?_, w1, w2⟩
  have hs : cs = (cs.drop 0).take 9 ++ ((cs.drop 9).take 1 ++ ((cs.drop 10).take 1 ++ ((cs.drop 11).take 1 ++ (cs.drop 12).take 1))) := by
    have step : ∀ (i n : Nat), i + n ≤ cs.length → (cs.drop i).take n ++ cs.drop (i + n) = cs.drop i := fun i n _ => by rw [← List.drop_drop, List.take_append_drop]
    rw [List.take_of_length_le (l := cs.drop 12) (by simp; omega), step 11 1 (by omega), step 10 1 (by omega), step 9 1 (by omega), step 0 9 (by omega), List.drop_zero]
  rw [hs, e0, e1, e2, e3, e4]
  rfl

/-! ### lists -/
/-- a datum's weight, as the statement's bound reckons -/
theorem bulk_mem {ds : List (DataW H)} {d : DataW H} (h : d ∈ ds) : Rows.uptoBulk d ≤ Rows.uptoBulkAll ds := by
  induction ds with
  | nil => cases h
  | cons x r ih =>
    simp only [Rows.uptoBulkAll]
    rcases List.mem_cons.1 h with rfl | h
    · omega
    · have := ih h; omega
theorem bulk_pos (d : DataW H) : 1 ≤ Rows.uptoBulk d := by
  cases d with
  | lit l => cases l <;> (unfold Rows.uptoBulk; omega)
  | _ => unfold Rows.uptoBulk; omega
theorem bulk_len (ds : List (DataW H)) : ds.length ≤ Rows.uptoBulkAll ds := by
  induction ds with
  | nil => simp
  | cons x r ih =>
    have := bulk_pos x
    simp only [Rows.uptoBulkAll, List.length_cons]
    omega
theorem choose_list {γ : Type} {p : Nat → γ → Prop} : ∀ (m : Nat), (∀ i, i < m → ∃ x, p i x) → ∃ xs : List γ, xs.length = m ∧ ∀ i (h : i < xs.length), p i xs[i]
  | 0, _ => ⟨[], rfl, fun i h => by simp at h⟩
  | m + 1, h => by
    obtain ⟨xs, hl, hx⟩ := choose_list m fun i hi => h i (by omega)
    obtain ⟨x, hx2⟩ := h m (by omega)
    refine ⟨xs ++ [x], by simp [hl], fun i hi => ?_⟩
    by_cases h1 : i < xs.length
    · rw [List.getElem_append_left h1]; exact hx i h1
    · have : i = m := by simp at hi; omega
      subst this
      rw [List.getElem_append_right (by omega)]
      simp [hl]
      exact hx2
/-- cells by pieces -/
theorem flat_of {γ : Type} {encg : γ → List Value} {sz : Nat} : ∀ (xs : List γ) (ys : List Value), ys.length = xs.length * sz → (∀ i (h : i < xs.length), (ys.drop (i * sz)).take sz = encg xs[i]) → ys = xs.flatMap encg
  | [], ys, h, _ => by simpa using h
  | x :: xs, ys, h, he => by
    have h0 := he 0 (by simp)
    simp only [Nat.zero_mul, List.drop_zero, List.getElem_cons_zero] at h0
    have hr := flat_of (encg := encg) (sz := sz) xs (ys.drop sz) (by simp [h, Nat.add_mul]) fun i hi => by
      have := he (i + 1) (by simpa using hi)
      simp only [List.getElem_cons_succ] at this
      rw [← this, List.drop_drop, Nat.add_mul, Nat.one_mul, Nat.add_comm]
    rw [List.flatMap_cons, ← h0, ← hr, List.take_append_drop]
/-- a list of flat things -/
theorem op_list {γ : Type} {encg : γ → List Value} {ok : γ → Prop} {t e sz : Nat} {cs : List Value} {d : DataW H} (ht : Tryd.prog.underlying t = some (.slice e)) (hsz : Tryd.prog.cellsOf e = sz) (h0 : 0 < sz)
    (hel : ∀ (cs : List Value) (d : DataW H), Trd enc Tryd.prog w e cs d → Rows.uptoBulk d ≤ 1048576 → ∃ x, cs = encg x ∧ ok x) (h : Trd enc Tryd.prog w t cs d) (hb : Rows.uptoBulk d ≤ 1048576) :
    ∃ v xs, cs = [v] ∧ SlOf w v sz encg xs ∧ xs.length < 1048576 ∧ ∀ x ∈ xs, ok x := by
  obtain ⟨v, m, ys, rfl, hr, ⟨rfl, rfl, rfl⟩ | ⟨D, rest, rfl, hD⟩⟩ := op_slice ht hsz h0 h
  · exact ⟨_, [], rfl, SlOf.nil _ _ _ _ _, by simp, by simp⟩
  · obtain ⟨xs, hl, hx⟩ := choose_list m fun i hi => hel _ _ (hD i hi) (by
      have h1 : D i ∈ (List.range m).map D := List.mem_map.2 ⟨i, by simpa using hi, rfl⟩
      have h2 := bulk_mem h1
      simp only [Rows.uptoBulk] at hb
      omega)
    refine ⟨v, xs, rfl, ?_, ?_, fun x hm => ?_⟩
    · have := flat_of (encg := encg) (sz := sz) xs ys (by rw [hl]; exact hr.1) fun i hi => (hx i hi).1
      rw [SlOf, hl, ← this]
      exact hr
    · have := bulk_len ((List.range m).map D)
      simp only [Rows.uptoBulk, List.length_map, List.length_range] at hb this
      omega
    · obtain ⟨i, hi, rfl⟩ := List.getElem_of_mem hm
      exact (hx i hi).2


theorem op_rule {cs : List Value} {d : DataW H} (h : Trd enc Tryd.prog w 61 cs d) (hb : Rows.uptoBulk d ≤ 1048576) : ∃ q : RV × Ru × List Nat, cs = rvC q.1 ∧ RuleAt w q.1 q.2.1 q.2.2 := by
  obtain ⟨hl, ds, rfl, _, hf⟩ := op_struct Tryd.underlying61 h
  obtain ⟨a, b, c, e, rfl⟩ := ex4 (hl.trans co61)
  obtain ⟨y0, i0, h0⟩ := op_field hf 0 0 co57 rfl
  obtain ⟨y1, i1, h1⟩ := op_field hf 1 1 co58 rfl
  obtain ⟨y2, i2, h2⟩ := op_field hf 2 2 co58 rfl
  obtain ⟨y3, i3, h3⟩ := op_field hf 3 3 co59 rfl
  have hall : Rows.uptoBulkAll ds ≤ 1048576 := by simp only [Rows.uptoBulk] at hb; omega
  obtain ⟨v0, x0, e0, s0, l0, _⟩ := op_list (ok := fun _ => True) t57.hst co5 (by decide) (fun cs d h _ => by obtain ⟨x, e⟩ := op_u8 h; exact ⟨x, e, trivial⟩) h0 (Nat.le_trans (bulk_mem i0) hall)
  obtain ⟨v1, x1, e1, s1, l1, w1⟩ := op_list (ok := fun s : Sp => wfU s.lo ∧ wfU s.hi) t58.hst co68 (by decide) (fun cs d h _ => op_sp h) h1 (Nat.le_trans (bulk_mem i1) hall)
  obtain ⟨v2, x2, e2, s2, l2, w2⟩ := op_list (ok := fun s : Sp => wfU s.lo ∧ wfU s.hi) t58.hst co68 (by decide) (fun cs d h _ => op_sp h) h2 (Nat.le_trans (bulk_mem i2) hall)
  obtain ⟨v3, x3, e3, s3, l3, _⟩ := op_list (ok := fun _ => True) t59.hst co71 (by decide) (fun cs d h _ => by obtain ⟨x, e⟩ := op_po h; exact ⟨x, e, trivial⟩) h3 (Nat.le_trans (bulk_mem i3) hall)
  simp at e0 e1 e2 e3
  subst e0 e1 e2 e3
  exact ⟨⟨⟨a, b, c, e⟩, ⟨x0, x1, x2, x3⟩, blk a ++ (blk b ++ (blk c ++ blk e))⟩, rfl, s0, s1, s2, s3, fun k hk => by simp at hk ⊢; simp [hk], fun k hk => by simp at hk ⊢; simp [hk], fun k hk => by simp at hk ⊢; simp [hk], fun k hk => by simp at hk ⊢; simp [hk], ⟨l0, l1, l2, l3, w1, w2⟩⟩
theorem op_rules {cs : List Value} {d : DataW H} (h : Trd enc Tryd.prog w 22 cs d) (hb : Rows.uptoBulk d ≤ 1048576) : ∃ v rs S, cs = [v] ∧ RulesAt w v rs S := by
  obtain ⟨v, xs, rfl, hs, hl, hok⟩ := op_list (encg := fun q : RV × Ru × List Nat => rvC q.1) (ok := fun q => RuleAt w q.1 q.2.1 q.2.2) t22.hst co61 (by decide) (fun cs d h hb => op_rule h hb) h hb
  refine ⟨v, xs.map (fun q => q.2.1), blk v ++ xs.flatMap (fun q => q.2.2), rfl, xs.map Prod.fst, by simp, ?_, fun k hk => List.mem_append.2 (.inl hk), by simpa using hl, fun i hi hi' => ?_⟩
  · have : (xs.map Prod.fst).flatMap rvC = xs.flatMap (fun q => rvC q.1) := by rw [List.flatMap_map]
    rw [SlOf, this, List.length_map]
    exact hs
  · have hi2 : i < xs.length := by simpa using hi
    simp only [List.getElem_map]
    refine (hok xs[i] (List.getElem_mem hi2)).mono fun k hk => List.mem_append.2 (.inr (List.mem_flatMap.2 ⟨xs[i], List.getElem_mem hi2, hk⟩))
theorem op_step {cs : List Value} {d : DataW H} (h : Trd enc Tryd.prog w 41 cs d) (hb : Rows.uptoBulk d ≤ 1048576) : ∃ q : Sx × Sc × List Nat, cs = sxC q.1 ∧ StepAt w q.1 q.2.1 q.2.2 := by
  obtain ⟨hl, ds, rfl, _, hf⟩ := op_struct Tryd.underlying41 h
  have hl : cs.length = 16 := hl.trans co41
  obtain ⟨y0, i0, h0⟩ := op_field hf 0 0 co3 rfl
  obtain ⟨y1, i1, h1⟩ := op_field hf 1 1 co39 rfl
  obtain ⟨y2, i2, h2⟩ := op_field hf 2 14 co32 rfl
  obtain ⟨y3, i3, h3⟩ := op_field hf 3 15 co22 rfl
  have hall : Rows.uptoBulkAll ds ≤ 1048576 := by simp only [Rows.uptoBulk] at hb; omega
  obtain ⟨op, e0, _⟩ := op_int Tryd.underlying3 h0
  obtain ⟨hd, e1, ok⟩ := op_hd h1
  obtain ⟨now, e2, n0, n1⟩ := op_int Tryd.underlying32 h2
  obtain ⟨rv, rs, S, e3, hr⟩ := op_rules h3 (Nat.le_trans (bulk_mem i3) hall)
  refine ⟨⟨⟨op, hd, now, rv⟩, ⟨op, hd, now, rs⟩, S⟩, ?_, rfl, rfl, rfl, hr, ok, n0⟩
  have hs : cs = (cs.drop 0).take 1 ++ ((cs.drop 1).take 13 ++ ((cs.drop 14).take 1 ++ (cs.drop 15).take 1)) := by
    have step : ∀ (i n : Nat), i + n ≤ cs.length → (cs.drop i).take n ++ cs.drop (i + n) = cs.drop i := fun i n _ => by rw [← List.drop_drop, List.take_append_drop]
    rw [List.take_of_length_le (l := cs.drop 15) (by simp; omega), step 14 1 (by omega), step 1 13 (by omega), step 0 1 (by omega), List.drop_zero]
  rw [hs, e0, e1, e2, e3]
  rfl
theorem op_steps {cs : List Value} {d : DataW H} (h : Trd enc Tryd.prog w 24 cs d) (hb : Rows.uptoBulk d ≤ 1048576) : ∃ v ss S, cs = [v] ∧ StepsAt w v ss S := by
  obtain ⟨v, xs, rfl, hs, hl, hok⟩ := op_list (encg := fun q : Sx × Sc × List Nat => sxC q.1) (ok := fun q => StepAt w q.1 q.2.1 q.2.2) (by kernel_rfl : Tryd.prog.underlying 24 = some (.slice 41)) co41 (by decide) (fun cs d h hb => op_step h hb) h hb
  refine ⟨v, xs.map (fun q => q.2.1), blk v ++ xs.flatMap (fun q => q.2.2), rfl, xs.map Prod.fst, by simp, ?_, fun k hk => List.mem_append.2 (.inl hk), by simpa using hl, fun i hi hi' => ?_⟩
  · have : (xs.map Prod.fst).flatMap sxC = xs.flatMap (fun q => sxC q.1) := by rw [List.flatMap_map]
    rw [SlOf, this, List.length_map]
    exact hs
  · have hi2 : i < xs.length := by simpa using hi
    simp only [List.getElem_map]
    have q := hok xs[i] (List.getElem_mem hi2)
    exact ⟨q.op, q.h, q.now, q.rules.mono fun k hk => List.mem_append.2 (.inr (List.mem_flatMap.2 ⟨xs[i], List.getElem_mem hi2, hk⟩)), q.ok, q.n0⟩
end
end Go.Proofs.YtlfeckimhaegbaaDoor
