/- An engine of this session's own, twelfth part: one element of a slice as a thing by itself; calls of function values; loops that count. -/
import Derived.Test.YtlfeckimhaegbaaDoorEng11
namespace Go.Proofs.YtlfeckimhaegbaaDoor.Eng
open Go
section
variable {P : Program}

/-- at place off of block b stand the cells l -/
def ElAt (w : World) (b off : Nat) (l : List Value) : Prop := ∃ c t fz, w.heap[b]? = some (.cells c t fz) ∧ off + l.length ≤ c.size ∧ c.extract off (off + l.length) = l.toArray
theorem ElAt.keep {w w' : World} {b off : Nat} {l : List Value} (h : ElAt w b off l) {M : List Nat} (k : Keep M w w') (hd : b ∉ M) : ElAt w' b off l := by
  obtain ⟨c, t, fz, hb, hle, he⟩ := h
  exact ⟨c, t, fz, k.get hb hd, hle, he⟩
theorem ElAt.lt {w : World} {b off : Nat} {l : List Value} (h : ElAt w b off l) : b < w.heap.size := by
  obtain ⟨c, t, fz, hb, _⟩ := h
  exact lt_of_get hb
theorem ElAt.ld1 {w : World} {b off : Nat} {l : List Value} (h : ElAt w b off l) (o : Nat) (ho : o < l.length) (K : Value → Prop) :
    ld1 (.pointer (some ⟨b, off + o, none⟩)) w K = (match l[o]? with | some u => K u | none => False) := by
  obtain ⟨c, t, fz, hb, hle, he⟩ := h
  rw [ld1_eq hb]
  have : c[off + o]? = l[o]? := by
    have h2 := congrArg (fun a => a[o]?) he
    simp only [List.getElem?_toArray] at h2
    rw [← h2, Array.getElem?_extract]
    simp; omega
  rw [this]
  cases l[o]? <;> rfl
theorem ElAt.ld10 {w : World} {b off : Nat} {l : List Value} (h : ElAt w b off l) (ho : 0 < l.length) (K : Value → Prop) :
    Eng.ld1 (.pointer (some ⟨b, off, none⟩)) w K = (match l[0]? with | some u => K u | none => False) := h.ld1 0 ho K
theorem ElAt.ldN {w : World} {b off : Nat} {l : List Value} (h : ElAt w b off l) (o n : Nat) (ho : o + n ≤ l.length) (K : Value → Prop) :
    ldN n (.pointer (some ⟨b, off + o, none⟩)) w K = K (.agg ((l.drop o).take n).toArray) := by
  obtain ⟨c, t, fz, hb, hle, he⟩ := h
  have h1 : off + o + n ≤ c.size := by omega
  have h2 : c.extract (off + o) (off + o + n) = ((l.drop o).take n).toArray := by
    have h3 := congrArg (fun a => (a.extract o (o + n))) he
    simp only [Array.extract_extract] at h3
    rw [show min (off + (o + n)) (off + l.length) = off + o + n by omega] at h3
    rw [h3]
    apply Array.ext'
    simp []
  simp only [Eng.ldN, rowAt, hb, if_pos h1, h2]
theorem ElAt.ldN0 {w : World} {b off : Nat} {l : List Value} (h : ElAt w b off l) (n : Nat) (ho : n ≤ l.length) (K : Value → Prop) :
    Eng.ldN n (.pointer (some ⟨b, off, none⟩)) w K = K (.agg (l.take n).toArray) := h.ldN 0 n (by omega) K

/-- the block that a slice looks at -/
def blk : Value → List Nat
  | .slice (some a) _ _ => [a.block]
  | _ => []
theorem RdS.keepB {w w' : World} {v : Value} {sz m : Nat} {ys : List Value} (h : RdS w v sz m ys) {M : List Nat} (k : Keep M w w') (hd : ∀ b ∈ blk v, b ∉ M) : RdS w' v sz m ys :=
  h.keep k fun b o n c hv => hd b (by subst hv; simp [blk])
theorem RdS.keep0 {w w' : World} {v : Value} {sz m : Nat} {ys : List Value} (h : RdS w v sz m ys) (k : Keep [] w w') : RdS w' v sz m ys := h.keepB k (by simp)
theorem SlOf.keepB {γ : Type} {w w' : World} {v : Value} {sz : Nat} {enc : γ → List Value} {xs : List γ} (h : SlOf w v sz enc xs) {M : List Nat} (k : Keep M w w') (hd : ∀ b ∈ blk v, b ∉ M) : SlOf w' v sz enc xs := RdS.keepB h k hd
theorem SlOf.keep0 {γ : Type} {w w' : World} {v : Value} {sz : Nat} {enc : γ → List Value} {xs : List γ} (h : SlOf w v sz enc xs) (k : Keep [] w w') : SlOf w' v sz enc xs := RdS.keep0 h k
theorem SlOf.slice {γ : Type} {w : World} {v : Value} {sz : Nat} {enc : γ → List Value} {xs : List γ} (h : SlOf w v sz enc xs) : ∃ a cap, v = .slice a xs.length cap := RdS.slice h
theorem OwnS.blk {w : World} {v : Value} {e : TypeId} {sz n : Nat} {cs : List Value} {B : List Nat} (h : OwnS w v e sz n cs B) : blk v = B := by
  obtain ⟨_, ⟨rfl, _, rfl⟩ | ⟨b, cap, rest, rfl, _, _, rfl⟩⟩ := h <;> rfl

theorem SlOf.el {γ : Type} {w : World} {v : Value} {sz : Nat} {enc : γ → List Value} {xs : List γ} (h : SlOf w v sz enc xs) (hsz : ∀ x, (enc x).length = sz) {k : IntKind} {i : Nat} (h1 : i < xs.length)
    {K : Value → Prop} (hk : ∀ b off, b ∈ Eng.blk v → ElAt w b off (enc xs[i]) → K (.pointer (some ⟨b, off, none⟩))) : pIxS sz v (.int k i) K := by
  obtain ⟨b, a, cap, c, t, fz, rfl, hb, hle, _, _, he⟩ := RdS.at h (by omega)
  rw [pIxS_eq _ _ _ _ _ _ _ _ (by omega) (by omega)]
  have hlen := hsz xs[i]
  have hmul : i * sz + sz ≤ xs.length * sz := by rw [← Nat.succ_mul]; exact Nat.mul_le_mul_right _ h1
  refine hk b _ (by simp [Eng.blk]) ⟨c, t, fz, hb, ?_, ?_⟩
  · rw [hlen, Int.toNat_natCast]; omega
  · have h3 := flat_get hsz xs i h1 0 sz (by omega)
    simp only [Nat.add_zero, List.drop_zero] at h3
    rw [List.take_of_length_le (l := enc xs[i]) (by omega)] at h3
    rw [hlen, Int.toNat_natCast, he (i * sz) sz (by omega), h3]

theorem SlOf.nil {γ : Type} (w : World) (sz : Nat) (enc : γ → List Value) (a : Option Addr) (c : Nat) : SlOf w (.slice a 0 c) sz enc [] := RdS.nil w sz a c

/-! ### loops that count -/
def mu0 (n : Nat) : List Value → World → Nat := fun vs _ => match vs with | (.int _ i) :: _ => n - i.toNat | _ => 0
def mu1 (n : Nat) : List Value → World → Nat := fun vs _ => match vs with | _ :: (.int _ i) :: _ => n - i.toNat | _ => 0
theorem mu0_eq (n : Nat) (k : IntKind) (i : Int) (r : List Value) (w : World) : mu0 n (.int k i :: r) w = n - i.toNat := rfl
theorem mu1_eq (n : Nat) (k : IntKind) (i : Int) (v : Value) (r : List Value) (w : World) : mu1 n (v :: .int k i :: r) w = n - i.toNat := rfl
theorem wrap_succ {i n : Nat} (h : i < n) (hn : n < 4294967296) : IntKind.i64.wrap ((i : Int) + 1) = ((i + 1 : Nat) : Int) := by
  rw [wrap_in_i64 (by omega) (by omega)]; omega
theorem any_step {γ : Type} (p : γ → Bool) {l : List γ} {i : Nat} (h : i < l.length) : (l.drop i).any p = (p l[i] || (l.drop (i + 1)).any p) := by
  rw [List.drop_eq_getElem_cons h, List.any_cons]
theorem any_end {γ : Type} (p : γ → Bool) {l : List γ} {i : Nat} (h : l.length ≤ i) : (l.drop i).any p = false := by
  rw [List.drop_eq_nil_of_le h]; rfl

/-- the call of a function value that is a function of the program's -/
theorem callV_of {g : FuncId} {first captured args : Array Value} {w : World} {K : Value → World → Prop} {R : Value → World → Prop} (hf : ∃ fn, P.funcs[g]? = some fn ∧ fn.body.isSome = true ∧ (fn.name == "runtime.NumGoroutine") = false)
    (hc : Calls P g (first ++ args ++ captured) w fun e w' => ∃ v, e = .returned v ∧ R v w') (h : ∀ v w', R v w' → K v w') : callV P (.func (.func g) first captured) args w K :=
  ⟨hf, call_of hc h⟩
/-- how slices.IndexFunc, printed as a formula, runs, for a function that changes nothing -/
theorem index_of {γ : Type} {w : World} {v fv : Value} {sz : Nat} {enc : γ → List Value} {xs : List γ} {p : γ → Bool} {R : Value → World → Prop} (hsz : ∀ x, (enc x).length = sz) (hv : SlOf w v sz enc xs) (hn : xs.length < 4294967296)
    (hp : ∀ x ∈ xs, ∀ w', Keep [] w w' → ∀ K : Value → World → Prop, (∀ w'', Keep [] w' w'' → K (.bool (p x)) w'') → callV P fv #[.agg (enc x).toArray] w' K)
    (hR : ∀ w' r, Keep [] w w' → decide (0 ≤ r) = xs.any p → R (.int .i64 r) w') :
    loopP [.int .i64 0] w (fun vs w' again => pBin .lss (vs.getD 0 undef) (.int .i64 xs.length) fun t9 => condF t9
      (pIxS sz v (vs.getD 0 undef) fun t14 => Eng.ldN sz t14 w' fun t15 => callV P fv #[t15] w' fun t16 w'' => condF t16 (R (vs.getD 0 undef) w'') (pBin .add (vs.getD 0 undef) (.int .i64 1) fun t18 => again [t18] w''))
      (R (.int .i64 (-1)) w')) := by
  refine loopP_of (fun vs w' => ∃ i : Nat, vs = [.int .i64 i] ∧ i ≤ xs.length ∧ Keep [] w w' ∧ xs.any p = (xs.drop i).any p) (mu0 xs.length) ⟨0, rfl, by omega, Keep.refl _ _, by simp⟩ ?_
  rintro vs w' ⟨i, rfl, hi, k, he⟩
  simp only [List.getD_cons_zero, pBin_int, binI]
  refine condF_of (fun h => ?_) (fun h => ?_)
  · have hi' : i < xs.length := by simpa using h
    refine (hv.keep0 k).el hsz hi' fun b off hb el => ?_
    rw [el.ldN0 sz (by rw [hsz]; omega), List.take_of_length_le (by rw [hsz]; omega)]
    refine hp _ (List.getElem_mem hi') w' k _ fun w'' k2 => ?_
    have k2 := k.trans k2 (fun _ _ h => h)
    refine condF_of (fun h2 => ?_) (fun h2 => ?_)
    · refine hR _ _ k2 ?_
      rw [he, any_step p hi', h2]; simp
    · refine ⟨⟨i + 1, by rw [wrap_succ hi' hn], hi', k2, ?_⟩, ?_⟩
      · rw [he, any_step p hi', h2, Bool.false_or]
      · rw [wrap_succ hi' hn, mu0_eq, mu0_eq]; omega
  · have hi' : xs.length ≤ i := by simpa using h
    refine hR _ _ k ?_
    rw [he, any_end p hi']; rfl
end
end Go.Proofs.YtlfeckimhaegbaaDoor.Eng
