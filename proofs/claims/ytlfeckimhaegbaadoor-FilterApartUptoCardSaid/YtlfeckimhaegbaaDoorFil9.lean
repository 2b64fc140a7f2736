/- FilterAnswers, FilterApart: the time goes on ('at'): flows go. -/
import Derived.Test.YtlfeckimhaegbaaDoorFil8
namespace Go.Proofs.YtlfeckimhaegbaaDoor
open Go Eng
set_option maxRecDepth 20000

theorem look_here (x : Fl) (u : Int) : ∀ (a r : List (Fl × Int)) (i : Nat), x ∉ keys a → lookI x (a ++ (x, u) :: r) i = some (i + a.length, u)
  | [], r, i, _ => by simp [lookI]
  | p :: a, r, i, h => by
    simp [keys] at h
    have hp : ¬ p.1 = x := fun e => h.1 e.symm
    simp only [List.cons_append, lookI, if_neg hp]
    rw [look_here x u a r (i + 1) (by simpa [keys] using h.2)]
    simp; omega
theorem get_here (x : Fl) (u : Int) (a r : List (Fl × Int)) (h : x ∉ keys a) : getA x (a ++ (x, u) :: r) = some u := by simp [getA, look_here x u a r 0 h]
theorem del_here (x : Fl) (u : Int) : ∀ (a r : List (Fl × Int)), x ∉ keys a → delA x (a ++ (x, u) :: r) = a ++ r
  | [], r, _ => by simp [delA]
  | p :: a, r, h => by
    simp [keys] at h
    have hp : ¬ p.1 = x := fun e => h.1 e.symm
    simp only [List.cons_append, delA, if_neg hp]
    rw [del_here x u a r (by simpa [keys] using h.2)]

/-- what the function inside of 'at' looks at -/
structure AtW (w : World) (bx fb mb : Nat) (fz : Array Value) (now : Int) (m : List (Fl × Int)) : Prop where
  x : w.heap[bx]? = some (.cells #[.pointer (some ⟨fb, 0, none⟩)] 27)
  f : w.heap[fb]? = some (.cells fz 56)
  fm : fz[2]? = some (.map (some mb))
  fn : fz[5]? = some (.int .u64 now)
  m : ∃ es ck, w.heap[mb]? = some (.map es ck) ∧ MapRel Tryd.prog 37 flC u64V es m
theorem AtW.keep {w w' : World} {bx fb mb : Nat} {fz : Array Value} {now : Int} {m : List (Fl × Int)} (h : AtW w bx fb mb fz now m) {M : List Nat} (k : Keep M w w') (h1 : bx ∉ M) (h2 : fb ∉ M) (h3 : mb ∉ M) : AtW w' bx fb mb fz now m := by
  obtain ⟨x, f, fm, fn, es, ck, g, hm⟩ := h
  exact ⟨k.get x h1, k.get f h2, fm, fn, es, ck, k.get g h3, hm⟩

theorem k28 (x : Fl) (u : Int) (a r : List (Fl × Int)) (bx fb mb : Nat) (fz : Array Value) (now : Int) (w : World) (ha : AtW w bx fb mb fz now (a ++ (x, u) :: r)) (hx : x ∉ keys a) (d1 : bx ≠ mb) (d2 : fb ≠ mb) :
    Calls Tryd.prog 28 #[flV x, .pointer (some ⟨bx, 0, none⟩)] w fun e w' => ∃ v, e = .returned v ∧ v = .bool (decide (u ≤ now)) ∧ Keep [mb] w w' ∧ AtW w' bx fb mb fz now (if u ≤ now then a ++ r else a ++ (x, u) :: r) := by
  refine c28 _ _ _ _ ?_
  unfold m28
  refine eBox_of fun b w1 hb k1 g1 => ?_
  have ha1 := ha.keep k1 (by simp) (by simp) (by simp)
  obtain ⟨gx, gf, fm, fn, es, ck, gm, hm⟩ := ha1
  have g0 : w1.heap[b]? = some (.cells (flC x).toArray 37) := g1
  simp only [pFld_eq, nilC_ptr', ld1_drew, ldN_drew, List.getElem?_toArray, List.getElem?_cons_zero, Nat.zero_add, ld1_eq gx, ld1_eq gf, fm, fn]
  refine ldN_all g0 rfl ?_
  show rd Tryd.prog (Instr.lookup 53 (.map (some mb)) (flV x) false) w1.drew _
  rw [← flOf]
  refine FK.lookup (w := w1.drew) m53t z32 gm hm x false ?_
  rw [get_here x u a r hx]
  simp only [Bool.false_eq_true, if_false, Option.map_some, Option.getD_some, pBin_int, binI, u64V]
  have k1' : Keep [mb] w w1 := k1.mono (by simp)
  refine joinP_of (fun _ w' => Keep [mb] w w' ∧ AtW w' bx fb mb fz now (if u ≤ now then a ++ r else a ++ (x, u) :: r)) ?_ ?_
  · unfold m28_1
    refine condF_of (fun h => ?_) (fun h => ?_)
    · have h' : u ≤ now := by simpa using h
      simp only [pFld_eq, nilC_ptr', ld1_drew, ldN_drew, List.getElem?_toArray, List.getElem?_cons_zero, Nat.zero_add, ld1_eq gx, ld1_eq gf, fm]
      refine ldN_all g0 rfl ?_
      show ef Tryd.prog (Builtin.delete_ #[53, 37] 0 #[.map (some mb), flV x]) w1.drew.drew _
      rw [← flOf]
      refine FK.delete (w := w1.drew.drew) m53t gm hm x fun w2 es' ck' k2 g2 hm2 => ?_
      have k2 : Keep [mb] w1 w2 := k2.of_drew.of_drew
      refine ⟨k1'.trans k2 (fun _ _ h => h), k2.get gx (by simpa using d1), k2.get gf (by simpa using d2), fm, fn, es', ck', g2, ?_⟩
      rw [if_pos h']
      rw [del_here x u a r hx] at hm2
      exact hm2
    · have h' : ¬ u ≤ now := by simpa using h
      refine ⟨k1'.drew, ?_⟩
      rw [if_neg h']
      exact ⟨gx, gf, fm, fn, es, ck, gm, hm⟩
  · rintro vs w' ⟨h, k⟩
    exact ⟨trivial, h, k⟩

/-- at place (X's length) of a block -/
theorem el_mid {w : World} {b : Nat} {X l Y : List Value} {t : TypeId} {fz : Nat × Nat} (h : w.heap[b]? = some (.cells (X ++ l ++ Y).toArray t fz)) : ElAt w b X.length l := by
  refine ⟨_, t, fz, h, by simp, ?_⟩
  apply Array.ext'
  simp

/-- the flow is still there at that time -/
def live (now : Int) (p : Fl × Int) : Bool := decide (now < p.2)
theorem live_iff (now : Int) (p : Fl × Int) : live now p = !decide (p.2 ≤ now) := by
  unfold live; rw [Bool.eq_iff_iff]; simp; 

theorem k41 (m : List (Fl × Int)) (ov : Value) (B : List Nat) (bx fb mb : Nat) (fz : Array Value) (now : Int) (w : World) (hn : m.length < 1048576) (hnd : (keys m).Nodup)
    (ho : OwnS w ov 37 9 m.length (kc m) B) (ha : AtW w bx fb mb fz now m) (d1 : bx ≠ mb) (d2 : fb ≠ mb) (d3 : mb ∉ B) :
    Calls Tryd.prog 41 #[ov, .func (.func 28) #[] #[.pointer (some ⟨bx, 0, none⟩)]] w fun e w' => ∃ v, e = .returned v ∧ ∃ r : Int, v = .int .i64 r ∧ Keep [mb] w w' ∧
      ((r = -1 ∧ m.filter (live now) = m ∧ AtW w' bx fb mb fz now m) ∨ ∃ i : Nat, r = i ∧ i < m.length ∧ (m.take (i + 1)).filter (live now) = m.take i ∧ AtW w' bx fb mb fz now (m.take i ++ m.drop (i + 1))) := by
  refine c41 _ _ _ _ ?_
  unfold m41
  have hv : SlOf w ov 9 (fun p : Fl × Int => flC p.1) m := ho.rd
  obtain ⟨aa, cap, hvv⟩ := hv.slice
  have lv : ∀ K, pLenT 2 ov K = K (.int .i64 m.length) := fun K => by rw [hvv, pLenT_sl]
  simp only [lv]
  refine loopP_of (fun vs w' => ∃ i : Nat, vs = [.int .i64 i] ∧ i ≤ m.length ∧ Keep [mb] w w' ∧ (m.take i).filter (live now) = m.take i ∧ AtW w' bx fb mb fz now m) (mu0 m.length)
    ⟨0, rfl, by omega, Keep.refl _ _, rfl, ha⟩ ?_
  rintro vs w' ⟨i, rfl, hi, k, he, ha⟩
  have hv := hv.keepB k (by rw [ho.blk]; intro b hb hm; simp at hm; rw [hm] at hb; exact d3 hb)
  unfold m41_1
  simp only [List.getD_cons_zero, pBin_int, binI]
  refine condF_of (fun h => ?_) (fun h => ?_)
  · have hi' : i < m.length := by simpa using h
    refine hv.el (fun _ => rfl) hi' fun eb off hb el => ?_
    rw [el.ldN0 9 (by simp [flC]), List.take_of_length_le (by simp [flC])]
    have hsplit : m = m.take i ++ (m[i].1, m[i].2) :: m.drop (i + 1) := by
      conv => lhs; rw [← List.take_append_drop i m, List.drop_eq_getElem_cons hi']
    have hx : m[i].1 ∉ keys (m.take i) := by
      intro hc
      rw [hsplit] at hnd
      simp only [keys, List.map_append, List.map_cons, List.nodup_append] at hnd
      exact hnd.2.2 _ hc _ (by simp) rfl
    rw [hsplit] at ha
    refine callV_of fn28 (k28 m[i].1 m[i].2 (m.take i) (m.drop (i + 1)) bx fb mb fz now w' ha hx d1 d2) fun v2 w2 ⟨e2, k2, ha2⟩ => ?_
    subst e2
    have k2 := k.trans k2 (fun _ _ h => h)
    have htk : m.take (i + 1) = m.take i ++ [m[i]] := by rw [List.take_add_one, List.getElem?_eq_getElem hi']; rfl
    refine condF_of (fun h2 => ?_) (fun h2 => ?_)
    · refine ⟨i, rfl, k2, .inr ⟨i, rfl, hi', ?_, ?_⟩⟩
      · rw [htk, List.filter_append, he]; simp [live_iff, h2]
      · rw [if_pos (by simpa using h2)] at ha2; exact ha2
    · refine ⟨⟨i + 1, by rw [wrap_succ hi' (by omega)], hi', k2, ?_, ?_⟩, ?_⟩
      · rw [htk, List.filter_append, he]; simp [live_iff, h2]
      · rw [if_neg (by simpa using h2), ← hsplit] at ha2; exact ha2
      · rw [wrap_succ hi' (by omega), mu0_eq, mu0_eq]; omega
  · have hi' : m.length ≤ i := by simpa using h
    rw [List.take_of_length_le hi'] at he
    exact ⟨-1, rfl, k, .inl ⟨rfl, he, ha⟩⟩

theorem zeros_len (z : Value) (n : Nat) : (Builtin.zeroCells z.cells n).toList.length = n * z.cells.size := by simp [Builtin.zeroCells]
theorem clear_of {st e sz n b o cap ty : Nat} {z : Value} {w : World} {c : List Value} {tt : TypeId} {K : Value → World → Prop} (hst : Tryd.prog.underlying st = some (.slice e)) (hz : (Tryd.prog.info? e).bind (·.zero) = some z) (hzs : z.cells.size = sz)
    (hone : ∀ v ∈ (Builtin.zeroCells z.cells n).toList, v.oneCell' = true) (h : w.heap[b]? = some (.cells c.toArray tt (0, 0))) (hle : o + n * sz ≤ c.length) (hn : 0 < n)
    (hk : ∀ w', Keep [b] w w' → w'.heap[b]? = some (.cells (setRow c o (Builtin.zeroCells z.cells n).toList).toArray tt (0, 0)) → K (.tuple #[]) w') :
    ef Tryd.prog (Builtin.clear_ #[st] ty #[.slice (some ⟨b, o, none⟩) n cap]) w K := by
  obtain ⟨w', h1, h2, h3⟩ := storeCells_run (P := Tryd.prog) b o tt (0, 0) (Builtin.zeroCells z.cells n).toList [] w c h (by rw [zeros_len, hzs]; simpa using hle) (by simp) hone
  refine ef_ok (w' := w') (v := .tuple #[]) ?_ (hk w' h2 (by simpa using h3))
  unfold Builtin.clear_
  cases n with
  | zero => omega
  | succ n =>
    simp only [List.getElem?_toArray, List.getElem?_cons_zero, Sem.run_bind, und_run hst, Result.andThen_ok, zero_run hz]
    simp only [List.length_nil] at h1
    rw [h1]
    rfl

theorem zeros37_one (n : Nat) : ∀ v ∈ (Builtin.zeroCells (Value.cells (.agg #[.int .u8 0, .bool false, .int .u64 0, .int .u64 0, .bool false, .int .u64 0, .int .u64 0, .int .u16 0, .int .u16 0])) n).toList, v.oneCell' = true := by
  intro v hv
  simp only [Builtin.zeroCells, Array.toList_map, List.mem_map] at hv
  obtain ⟨i, _, rfl⟩ := hv
  have key : ∀ k, k < 9 → ((Value.cells (.agg #[.int .u8 0, .bool false, .int .u64 0, .int .u64 0, .bool false, .int .u64 0, .int .u64 0, .int .u16 0, .int .u16 0]))[k]!).oneCell' = true := by
    intro k hk
    match k, hk with
    | 0, _ => rfl
    | 1, _ => rfl
    | 2, _ => rfl
    | 3, _ => rfl
    | 4, _ => rfl
    | 5, _ => rfl
    | 6, _ => rfl
    | 7, _ => rfl
    | 8, _ => rfl
  exact key _ (Nat.mod_lt _ (by decide))
theorem kc_cons (p : Fl × Int) (r : List (Fl × Int)) : kc (p :: r) = flC p.1 ++ kc r := by simp [kc]
theorem kc_split (m : List (Fl × Int)) (i : Nat) (h : i < m.length) : kc m = kc (m.take i) ++ flC m[i].1 ++ kc (m.drop (i + 1)) := by
  have e : m.take i ++ m[i] :: m.drop (i + 1) = m := by rw [← List.drop_eq_getElem_cons, List.take_append_drop]
  rw [List.append_assoc, ← kc_cons, ← kc_append, e]
theorem setRow_mid {A G F Y vs : List Value} (h : vs.length ≤ G.length) : setRow (A ++ G ++ F ++ Y) A.length vs = A ++ vs ++ (G.drop vs.length ++ F ++ Y) := by
  unfold setRow
  simp [List.drop_append]
  have h1 : vs.length - G.length = 0 := by omega
  have h2 : List.drop (A.length + vs.length) A = [] := List.drop_eq_nil_of_le (by omega)
  simp [h1, h2]
theorem k27 (m : List (Fl × Int)) (ov : Value) (B : List Nat) (bx fb mb : Nat) (fz : Array Value) (now : Int) (w : World) (hn : m.length < 1048576) (hnd : (keys m).Nodup)
    (ho : OwnS w ov 37 9 m.length (kc m) B) (ha : AtW w bx fb mb fz now m) (d1 : bx ≠ mb) (d2 : fb ≠ mb) (d3 : mb ∉ B) (d4 : bx ∉ B) (d5 : fb ∉ B) :
    Calls Tryd.prog 27 #[ov, .func (.func 28) #[] #[.pointer (some ⟨bx, 0, none⟩)]] w fun e w' => ∃ v, e = .returned v ∧ Keep (mb :: B) w w' ∧ AtW w' bx fb mb fz now (m.filter (live now)) ∧
      OwnS w' v 37 9 (m.filter (live now)).length (kc (m.filter (live now))) B := by
  refine c27 _ _ _ _ ?_
  unfold m27
  refine call_of (k41 m ov B bx fb mb fz now w hn hnd ho ha d1 d2 d3) fun v1 w1 ⟨r, e1, k1, hcase⟩ => ?_
  subst e1
  have ho := ho.keep k1 (by intro b hb hm; simp at hm; rw [hm] at hb; exact d3 hb)
  rcases hcase with ⟨rfl, hf, ha⟩ | ⟨i0, rfl, hi0, hf, ha⟩
  · simp only [pBin_int, binI]
    exact ⟨k1.mono (fun k _ h => by simp at h; simp [h]), by rw [hf]; exact ha, by rw [hf]; exact ho⟩
  · have hne : ((i0 : Int) == -1) = false := by rw [beq_eq_false_iff_ne]; omega
    simp only [pBin_int, binI, hne]
    refine condF_of (fun h => by cases h) (fun _ => ?_)
    rw [wrap_succ hi0 (by omega)]
    obtain ⟨hlc, ⟨_, h0, _⟩ | ⟨b, cap, rest, rfl, gb, hcap, rfl⟩⟩ := ho
    · omega
    simp only [List.mem_singleton] at d3 d4 d5
    refine loopP_of (fun vs w' => ∃ (i j : Nat) (G : List Value), vs = [.int .i64 i, .int .i64 j] ∧ j ≤ m.length ∧ i < j ∧ ((m.take j).filter (live now)).length = i ∧ Keep (mb :: [b]) w w' ∧ G.length = (j - i) * 9 ∧
      w'.heap[b]? = some (.cells ((kc ((m.take j).filter (live now)) ++ G) ++ (kc (m.drop j) ++ rest)).toArray 37) ∧ AtW w' bx fb mb fz now ((m.take j).filter (live now) ++ m.drop j)) (mu1 m.length) ?_ ?_
    · refine ⟨i0, i0 + 1, flC m[i0].1, rfl, hi0, by omega, by rw [hf]; simp; omega, k1.mono (fun k _ h => by simp at h; simp [h]), by simp [flC], ?_, by rw [hf]; exact ha⟩
      rw [gb, hf]
      rw [kc_split m i0 hi0]; simp only [List.append_assoc]
    rintro vs w' ⟨i, j, G, rfl, hj, hij, hfi, k, hG, gb, ha⟩
    unfold m27_3
    simp only [pLenT_sl, List.getD_cons_zero, List.getD_cons_succ, pBin_int, binI]
    refine condF_of (fun h => ?_) (fun h => ?_)
    · have hj' : j < m.length := by simpa using h
      have hA : (kc ((m.take j).filter (live now))).length = i * 9 := by rw [kc_len, hfi]
      have hX : (kc ((m.take j).filter (live now)) ++ G).length = j * 9 := by rw [List.length_append, hA, hG, ← Nat.add_mul]; congr 1; omega
      have htk : m.take (j + 1) = m.take j ++ [m[j]] := by rw [List.take_add_one, List.getElem?_eq_getElem hj']; rfl
      have hdk : m.drop j = m[j] :: m.drop (j + 1) := List.drop_eq_getElem_cons hj'
      refine joinP_of (fun vs w'' => ∃ (i' : Nat) (G' : List Value), vs = [.int .i64 i'] ∧ i' < j + 1 ∧ ((m.take (j + 1)).filter (live now)).length = i' ∧ Keep (mb :: [b]) w w'' ∧ G'.length = (j + 1 - i') * 9 ∧
        w''.heap[b]? = some (.cells ((kc ((m.take (j + 1)).filter (live now)) ++ G') ++ (kc (m.drop (j + 1)) ++ rest)).toArray 37) ∧ AtW w'' bx fb mb fz now ((m.take (j + 1)).filter (live now) ++ m.drop (j + 1))) ?_ ?_
      · unfold m27_2
        simp only [List.getD_cons_zero, List.getD_cons_succ]
        rw [pIxS_eq _ _ _ _ _ _ _ _ (by omega) (by omega), Int.toNat_natCast, Nat.zero_add, ← hX]
        have gb2 : w'.heap[b]? = some (.cells ((kc ((m.take j).filter (live now)) ++ G) ++ flC m[j].1 ++ (kc (m.drop (j + 1)) ++ rest)).toArray 37) := by rw [gb, hdk, kc_cons]; simp only [List.append_assoc]
        rw [(el_mid gb2).ldN0 9 (by simp [flC]), List.take_of_length_le (by simp [flC])]
        refine eBox_of fun b7 w2 hb7 k2 g2 => ?_
        refine eStAll_of (vs := flC m[j].1) (sz37 _) g2 (by simp [flC, Value.cells]) (fl_one _) fun w3 k3 g3 => ?_
        have k3 : Keep [] w' w3 := k2.trans k3 (fun k hk hm => by simp only [List.mem_singleton] at hm; omega)
        refine ldN_all g3 rfl ?_
        have ha := ha.keep k3 (by simp) (by simp) (by simp)
        have gb3 := k3.get gb2 (by simp)
        rw [hdk] at ha
        have hx : m[j].1 ∉ keys ((m.take j).filter (live now)) := by
          intro hc
          have hsplit : m = m.take j ++ m[j] :: m.drop (j + 1) := by rw [← hdk, List.take_append_drop]
          rw [hsplit] at hnd
          simp only [keys, List.map_append, List.map_cons, List.nodup_append] at hnd
          obtain ⟨q, hq, hq2⟩ := List.mem_map.1 hc
          exact hnd.2.2 _ (List.mem_map.2 ⟨q, (List.mem_filter.1 hq).1, hq2⟩) _ (by simp) rfl
        have hlt := lt_of_get gb2
        have hne7 : b7 ≠ mb := by obtain ⟨_, _, _, _, es, ck, gm, _⟩ := ha; have := k.size; intro hc; obtain ⟨_, _, _, _, _, _, gm', _⟩ := ‹AtW w' bx fb mb fz now _›; have := lt_of_get gm'; omega
        refine callV_of fn28 (k28 m[j].1 m[j].2 _ (m.drop (j + 1)) bx fb mb fz now w3 ha hx d1 d2) fun v4 w4 ⟨e4, k4, ha4⟩ => ?_
        subst e4
        have gb4 := k4.get gb3 (by simp; exact fun e => d3 e.symm)
        have g7 := k4.get g3 (by simpa using hne7)
        have kk : Keep (mb :: [b]) w w4 := k.trans ((k3.mono (M' := [mb]) (by simp)).trans k4 (fun _ _ h => h)) (fun y _ hy => by simp at hy; simp [hy])
        unfold m27_1
        simp only [pNot_bool, List.getD_cons_zero]
        have hft : ∀ q : Bool, live now m[j] = q → (m.take (j + 1)).filter (live now) = (m.take j).filter (live now) ++ (if q then [m[j]] else []) := by
          intro q hq
          rw [htk, List.filter_append, List.filter_cons, hq]; simp
        refine condF_of (fun h2 => ?_) (fun h2 => ?_)
        · have hl : live now m[j] = true := by rw [live_iff]; exact h2
          have hnl : ¬ m[j].2 ≤ now := by simpa using h2
          rw [if_neg hnl] at ha4
          refine ldN_all g7 rfl ?_
          rw [pIxS_eq _ _ _ _ _ _ _ _ (by omega) (by omega), Int.toNat_natCast, Nat.zero_add]
          refine eStN_of (vs := flC m[j].1) (sz37 _) gb4 (by simp [hA, hG, flC]; omega) (by simp) (fl_one _) fun w5 k5 g5 => ?_
          have ha5 := ha4.keep k5 (by simpa using d4) (by simpa using d5) (by simpa using d3)
          rw [pBin_int, binI, wrap_succ (n := m.length) (by omega) (by omega)]
          refine ⟨i + 1, G.drop 9 ++ flC m[j].1, rfl, by omega, by rw [hft _ hl]; simp [hfi], kk.trans k5 (fun y _ hy => by simp at hy; simp [hy]), by simp [hG, flC]; omega, ?_, ?_⟩
          · rw [g5]
            simp only
            rw [← hA, setRow_mid (by simp [hG, flC]; omega), hft _ hl]
            simp [kc, flC]
          · rw [hft _ hl]
            simp only [if_true, List.append_assoc, List.cons_append, List.nil_append]
            exact ha5
        · have hl : live now m[j] = false := by rw [live_iff]; exact h2
          have hnl : m[j].2 ≤ now := by simpa using h2
          rw [if_pos hnl] at ha4
          refine ⟨i, G ++ flC m[j].1, rfl, by omega, by rw [hft _ hl]; simp [hfi], kk, by simp [hG, flC]; omega, ?_, ?_⟩
          · rw [gb4, hft _ hl]; simp
          · rw [hft _ hl]; simpa using ha4
      · rintro _ w'' ⟨i', G', rfl, hij', hfi', k', hG', gb', ha'⟩
        simp only [List.getD_cons_zero]
        refine ⟨⟨i', j + 1, G', by rw [wrap_succ hj' (by omega)], hj', hij', hfi', k', hG', gb', ha'⟩, ?_⟩
        rw [wrap_succ hj' (by omega), mu1_eq, mu1_eq]; omega
    · have hj' : j = m.length := by have : m.length ≤ j := by simpa using h
                                    omega
      subst hj'
      rw [List.take_of_length_le (Nat.le_refl _)] at hfi gb ha
      rw [List.drop_length] at gb ha
      simp only [List.append_nil] at ha
      have hA : (kc (m.filter (live now))).length = i * 9 := by rw [kc_len, hfi]
      have hcap1 : m.length ≤ cap := by have : m.length * 9 ≤ cap * 9 := by omega
                                        omega
      have hci : ¬ cap = i := by omega
      simp only [pCut, bndO, bnd, Int.toNat_natCast, Option.map_some, add_none, Nat.zero_add, hci, if_false]
      refine ⟨by omega, by omega, ?_⟩
      refine clear_of (tt := 37) (c := kc (m.filter (live now)) ++ G ++ (kc [] ++ rest)) t54.hst t54.zr t54.zs ?_ gb ?_ (by omega) fun w5 k5 g5 => ?_
      · exact zeros37_one _
      · simp only [List.length_append, hA, hG]
        have := Nat.sub_mul m.length i 9
        omega
      · refine ⟨by omega, by omega, ?_⟩
        have ha := ha.keep k5 (by simpa using d4) (by simpa using d5) (by simpa using d3)
        refine ⟨k.trans k5 (fun y _ hy => by simp at hy; simp [hy]), ha, by simp [hA, hfi], .inr ⟨b, cap, (Builtin.zeroCells (Value.cells (.agg #[.int .u8 0, .bool false, .int .u64 0, .int .u64 0, .bool false, .int .u64 0, .int .u64 0, .int .u16 0, .int .u16 0])) (m.length - i)).toList ++ rest, ?_, ?_, ?_, rfl⟩⟩
        · simp [hfi]
        · rw [g5, ← hA]
          have hz := zeros_len (.agg #[.int .u8 0, .bool false, .int .u64 0, .int .u64 0, .bool false, .int .u64 0, .int .u64 0, .int .u16 0, .int .u16 0]) (m.length - i)
          have := setRow_mid (A := kc (m.filter (live now))) (G := G) (F := []) (Y := kc [] ++ rest) (vs := (Builtin.zeroCells (Value.cells (.agg #[.int .u8 0, .bool false, .int .u64 0, .int .u64 0, .bool false, .int .u64 0, .int .u64 0, .int .u16 0, .int .u16 0])) (m.length - i)).toList) (by rw [hz, hG]; exact Nat.le_refl _)
          rw [List.append_nil] at this
          rw [this, List.drop_eq_nil_of_le (by rw [hz, hG]; exact Nat.le_refl _)]
          simp [kc]
        · simp only [List.length_append, zeros_len, hfi]
          have := Nat.sub_mul m.length i 9
          show i * 9 + ((m.length - i) * 9 + rest.length) = cap * 9
          omega
end Go.Proofs.YtlfeckimhaegbaaDoor
