/- ip.Text, second part: what it answers. -/
import Derived.Test.YtlfeckimhaegbaaDoorFil18
import Derived.Lib.ItoaLen
namespace Go.Proofs.YtlfeckimhaegbaaDoor
open Go Eng
set_option maxRecDepth 20000

theorem keep_of_below {w w' : World} (h : RowKit.Below w.heap.size w w') : Keep [] w w' := ⟨h.os, h.tape, h.output, h.size, fun k hk _ => h.block k hk⟩
theorem Tab.keep {w w' : World} (h : Tab w) (k : Keep [] w w') : Tab w' := by
  refine ⟨?_, ?_⟩
  · have h1 := h.pow10
    unfold Lib.TabIs World.var? at h1 ⊢
    cases hg : Tryd.prog.globalNamed "internal/strconv.uint64pow10" with
    | none => rw [hg] at h1; simp at h1
    | some g =>
      rw [hg] at h1
      simp only [Option.bind_some] at h1 ⊢
      cases hq : w.heap[g]? with
      | none => rw [hq] at h1; simp at h1
      | some o =>
        rw [k.get hq (by simp)]
        rw [hq] at h1
        exact h1
  obtain ⟨c, t, fz, g, hc⟩ := h.bruijn
  exact ⟨c, t, fz, k.get g (by simp), hc⟩
theorem t87 : SlT 87 9 16 1 (.string { data := #[] }) := ⟨by kernel_rfl, by kernel_rfl, by kernel_rfl, rfl, by kernel_rfl, by decide, by decide⟩

/-! ### strings.Join -/
theorem tail_len (sep : List UInt8) : ∀ (r : List (List UInt8)), (Lib.joinTail sep r).length = r.length * sep.length + (r.map List.length).sum
  | [] => by simp [Lib.joinTail]
  | x :: r => by
    have := tail_len sep r
    simp only [Lib.joinTail, List.map_cons, List.flatten_cons, List.length_append, List.length_cons, List.sum_cons] at this ⊢
    rw [this, Nat.add_mul]
    omega
theorem join_len (b : UInt8) (n : Nat) (xs : List (List UInt8)) (h : ∀ x ∈ xs, x.length ≤ n) : (Lib.join xs [b]).length ≤ xs.length * (n + 1) ∧ xs.length ≤ (Lib.join xs [b]).length + 1 := by
  cases xs with
  | nil => simp [Lib.join_nil]
  | cons x r =>
    rw [Lib.join_cons, List.length_append, tail_len]
    have h1 := h x (by simp)
    have h2 := sum_bound List.length n r fun y hy => h y (by simp [hy])
    simp only [List.length_cons, List.length_nil, Nat.zero_add, Nat.mul_one, Nat.add_mul, Nat.mul_add, Nat.one_mul]
    omega
def stV (s : ByteArray) : Value := .string s
theorem k50 (strs : List ByteArray) (v : Value) (b : UInt8) (B : List Nat) (w : World) (ho : OwnS w v 9 1 strs.length (strs.map stV) B) (hn : strs.length ≤ 8) (hs : ∀ s ∈ strs, s.size ≤ 65) :
    Calls Tryd.prog 50 #[v, .string { data := #[b] }] w fun e w' => ∃ u, e = .returned u ∧ ∃ s : ByteArray, u = .string s ∧ s.size ≤ 528 ∧ strs.length ≤ s.size + 1 ∧ Keep [] w w' := by
  obtain ⟨hl, ⟨rfl, h0, _⟩ | ⟨bb, cap, rest, rfl, gb, hc, rfl⟩⟩ := ho
  · rw [h0]
    refine (Tryd.strings_Join_none none 0 _ w).mono fun e w' ⟨he, hw⟩ => ⟨_, he, _, rfl, by show 0 ≤ 528; omega, by omega, by rw [hw]; exact Keep.refl _ _⟩
  · have hle : ∀ x ∈ strs.map (fun x => x.data.toList), x.length ≤ 65 := by
      intro x hx
      obtain ⟨s, hs', rfl⟩ := List.mem_map.1 hx
      have := hs s hs'
      simpa using this
    have hj := join_len b 65 (strs.map (fun x => x.data.toList)) hle
    rw [List.length_map] at hj
    have hm := Nat.mul_le_mul_right (65 + 1) hn
    refine (Tryd.strings_Join bb 0 cap strs { data := #[b] } w ?_ (lt_of_get gb) (by omega) ?_ ?_).mono fun e w' ⟨he, hw⟩ => ?_
    · intro j x hx
      rw [cell_at gb]
      have hjl := (List.getElem?_eq_some_iff.1 hx).1
      have h2 : (strs.map stV)[j]? = some (stV x) := by simp [hx]
      simp only [Nat.zero_add, List.getElem?_toArray]
      rw [List.getElem?_append_left (by simpa using hjl), h2]; rfl
    · simp only [List.length_map] at hl
      omega
    · show (Lib.join _ [b]).length ≤ _
      omega
    · refine ⟨_, he, _, rfl, ?_, ?_, keep_of_below hw⟩
      · show (Lib.join _ [b]).toArray.size ≤ 528
        simp only [List.size_toArray]
        omega
      · show strs.length ≤ (Lib.join _ [b]).toArray.size + 1
        simp only [List.size_toArray]
        omega

/-- one text more -/
theorem push_str {w0 w : World} {strs : List ByteArray} {out : Value} {B : List Nat} {s : ByteArray} {K : Value → World → Prop} (ho : OwnS w out 9 1 strs.length (strs.map stV) B) (hn : strs.length ≤ 100) (kw : Keep [] w0 w) (hB : ∀ k ∈ B, w0.heap.size ≤ k)
    (hK : ∀ out' w' B', OwnS w' out' 9 1 (strs ++ [s]).length ((strs ++ [s]).map stV) B' → Keep [] w0 w' → (∀ k ∈ B', w0.heap.size ≤ k) → K out' w') :
    ef Tryd.prog (Instr.buildSlice 87 1 ([(0, .string s)]).toArray) w fun t16 w3 => ef Tryd.prog (Builtin.append_ #[87, 87] 87 #[out, t16]) w3 fun t17 w4 => K t17 w4 := by
  refine build1_of (n := 1) t87.hst t87.hsz t87.zr rfl (by decide) (by decide) fun b9 w7 hb9 k7 g7 => ?_
  refine t87.append (ho.keep k7 (by simp)) (m := 1) (ys := [stV s]) ⟨rfl, .inr ⟨b9, 0, 1, _, _, _, rfl, g7, by simp [Value.cells], by simp [Value.cells, stV]⟩⟩ (by simp [stV, Value.oneCell']) (by omega) fun v8 w8 B' ho8 k8 hB' _ => ?_
  have h0 := kw.size
  have h7 := k7.size
  refine hK v8 w8 B' (by simpa using ho8) ((kw.trans k7 (by simp)).trans k8 (fun y hy hm => by have := hB y hm; omega)) fun y hy => ?_
  rcases hB' y hy with h | h
  · exact hB y h
  · omega

def u16C (x : Int) : List Value := [.int .u16 x]
theorem u16C_len (x : Int) : (u16C x).length = 1 := rfl
theorem k52 (ps : List Int) (v : Value) (w : World) (hT : Tab w) (hv : SlOf w v 1 u16C ps) (hn : ps.length ≤ 8) (hp : ∀ x ∈ ps, 0 ≤ x ∧ x < 65536) :
    Calls Tryd.prog 52 #[v] w fun e w' => ∃ u, e = .returned u ∧ ∃ s : ByteArray, u = .string s ∧ s.size ≤ 528 ∧ ps.length ≤ s.size + 1 ∧ Keep [] w w' := by
  refine c52 _ _ _ ?_
  unfold m52
  obtain ⟨aa, cap, hvv⟩ := hv.slice
  have lv : ∀ K, pLenT 2 v K = K (.int .i64 ps.length) := fun K => by rw [hvv, pLenT_sl]
  simp only [lv]
  refine loopP_of (fun vs w' => ∃ (i : Nat) (out : Value) (strs : List ByteArray) (B : List Nat), vs = [out, .int .i64 i] ∧ i ≤ ps.length ∧ strs.length = i ∧ OwnS w' out 9 1 strs.length (strs.map stV) B ∧ (∀ s ∈ strs, s.size ≤ 65) ∧ (∀ k ∈ B, w.heap.size ≤ k) ∧ Keep [] w w') (mu1 ps.length)
    ⟨0, _, [], [], rfl, by omega, rfl, OwnS.nil _ _ _, by simp, by simp, Keep.refl _ _⟩ ?_
  rintro vs w' ⟨i, out, strs, B, rfl, hi, hl, ho, hs, hB, k⟩
  have hv := hv.keep0 k
  unfold m52_2
  simp only [List.getD_cons_zero, List.getD_cons_succ, pBin_int, binI]
  refine condF_of (fun h => ?_) (fun h => ?_)
  · have hi' : i < ps.length := by simpa using h
    refine hv.el u16C_len hi' fun eb off hb el => ?_
    simp only [u16C] at el
    have hx := hp ps[i] (List.getElem_mem hi')
    simp only [List.getElem?_cons_zero, Nat.zero_add, List.length_cons, List.length_nil, el.ld10, Nat.reduceLT, pConv_int]
    rw [wrap_in_u64 (by omega) (by omega)]
    refine call_of (k53 ps[i] hx.1 hx.2 w' (hT.keep k).bruijn) fun v2 w2 ⟨s, e2, hs2, k2⟩ => ?_
    subst e2
    unfold m52_1
    simp only [List.getD_cons_zero, List.getD_cons_succ, pBin_int, binI]
    refine push_str (ho.keep k2 (by simp)) (by omega) (k.trans k2 (by simp)) hB fun out' w4 B' ho' k4 hB' => ?_
    refine ⟨⟨i + 1, out', strs ++ [s], B', by rw [wrap_succ hi' (by omega)], hi', by simp [hl], ho', ?_, hB', k4⟩, ?_⟩
    · intro x hx
      rcases List.mem_append.1 hx with h | h
      · exact hs x h
      · simp only [List.mem_singleton] at h; subst h; exact hs2
    · rw [wrap_succ hi' (by omega), mu1_eq, mu1_eq]; omega
  · have hi' : i = ps.length := by have : ps.length ≤ i := by simpa using h
                                   omega
    subst hi'
    refine call_of (k50 strs out 58 B w' ho (by omega) hs) fun v2 w2 ⟨s, e2, h2, h3, k2⟩ => ?_
    subst e2
    exact ⟨s, rfl, h2, by omega, k.trans k2 (by simp)⟩

theorem i64_range (x : Int) : -9223372036854775808 ≤ IntKind.i64.wrap x ∧ IntKind.i64.wrap x ≤ 9223372036854775807 := by
  unfold IntKind.wrap
  simp [IntKind.bits, IntKind.signed]
  constructor <;> (split <;> omega)
theorem u16_range (x : Int) : 0 ≤ IntKind.u16.wrap x ∧ IntKind.u16.wrap x < 65536 := by
  unfold IntKind.wrap
  simp [IntKind.bits, IntKind.signed]
  omega
theorem k49 (n : Int) (h0 : -9223372036854775808 ≤ n) (h1 : n ≤ 9223372036854775807) (w : World) (hT : Tab w) :
    Calls Tryd.prog 49 #[.int .i64 n] w fun e w' => ∃ u, e = .returned u ∧ AnsT 65 w u w' := by
  refine (Tryd.strconv_Itoa n h0 h1 w hT.pow10).mono fun e w' ⟨he, k, os, hw⟩ => ⟨_, he, _, rfl, ?_, ?_⟩
  · show (Lib.itoa n).toArray.size ≤ 65
    have := Lib.itoa_length_le n h0 h1
    simp only [List.size_toArray]
    omega
  · subst hw
    refine ⟨rfl, rfl, rfl, ?_, fun y hy _ => ?_⟩
    · show w.heap.size ≤ (w.heap ++ os).size
      simp
    · show (w.heap ++ os)[y]? = w.heap[y]?
      rw [Array.getElem?_append_left hy]
end Go.Proofs.YtlfeckimhaegbaaDoor
