/- An engine of this session's own, eleventh part: the words of the formulas as equations. -/
import Derived.Test.YtlfeckimhaegbaaDoorEng10
namespace Go.Proofs.YtlfeckimhaegbaaDoor.Eng
open Go
section
variable {P : Program}
theorem nilC_ptr' (a : Addr) (K : Value → Prop) : nilC (.pointer (some a)) K = K (.pointer (some a)) := rfl
theorem pExt_eq (i : Nat) (vs : Array Value) (K : Value → Prop) : pExt i (.tuple vs) K = (match vs[i]? with | some u => K u | none => False) := rfl
theorem pBin_int (op : BinOp) (k : IntKind) (x y : Int) (K : Value → Prop) : pBin op (.int k x) (.int k y) K = binI op k x y K := by simp [pBin]
theorem pBin_str (op : BinOp) (x y : ByteArray) (K : Value → Prop) : pBin op (.string x) (.string y) K = binS op x y K := rfl
theorem pBoolEq_bool (op : BinOp) (x y : Bool) (K : Value → Prop) : pBoolEq op (.bool x) (.bool y) K = (match op with | .eql => K (.bool (x == y)) | .neq => K (.bool !(x == y)) | _ => False) := rfl
theorem pNot_bool (b : Bool) (K : Value → Prop) : pNot (.bool b) K = K (.bool !b) := rfl
theorem pLenT_sl (a : Option Addr) (n c : Nat) (K : Value → Prop) : pLenT 2 (.slice a n c) K = K (.int .i64 n) := by simp [pLenT, goInt]
theorem pLenT_str (s : ByteArray) (K : Value → Prop) : pLenT 1 (.string s) K = K (.int .i64 s.size) := by simp [pLenT, goInt]
theorem pCap_sl (a : Option Addr) (n c : Nat) (K : Value → Prop) : pCap (.slice a n c) K = K (.int .i64 c) := rfl
theorem pNil_ptr (op : BinOp) (a : Option Addr) (K : Value → Prop) : pNil op (.pointer none) (.pointer a) K = (match op with | .eql => K (.bool a.isNone) | .neq => K (.bool !a.isNone) | _ => False) := rfl
theorem pNil_sl (op : BinOp) (n m : Nat) (a : Option Addr) (l c : Nat) (K : Value → Prop) : pNil op (.slice none n m) (.slice a l c) K = (match op with | .eql => K (.bool a.isNone) | .neq => K (.bool !a.isNone) | _ => False) := rfl
theorem pConv_int (k k' : IntKind) (x : Int) (K : Value → Prop) : pConv k (.int k' x) K = K (.int k (k.wrap x)) := rfl
theorem pMax_int (m : Bool) (k k' : IntKind) (x y : Int) (K : Value → Prop) : pMax m (.int k x) (.int k' y) K = K (.int k (if m then (if y > x then y else x) else (if y < x then y else x))) := rfl
theorem ldN_all {w : World} {n b : Nat} {c : Array Value} {t : TypeId} {fz : Nat × Nat} {K : Value → Prop} (h : w.heap[b]? = some (.cells c t fz)) (hn : c.size = n) (hk : K (.agg c)) : ldN n (.pointer (some ⟨b, 0, none⟩)) w K :=
  ldN_of' h (by omega) (by rw [Nat.zero_add]; apply Array.ext'; simp [← hn]) hk
theorem ldN_eq {w : World} {b o : Nat} {l : List Value} {t : TypeId} {fz : Nat × Nat} (h : w.heap[b]? = some (.cells l.toArray t fz)) (n : Nat) (K : Value → Prop) :
    ldN n (.pointer (some ⟨b, o, none⟩)) w K = if o + n ≤ l.length then K (.agg ((l.drop o).take n).toArray) else False := by
  simp only [ldN, rowAt, h, List.size_toArray]
  split
  · rename_i cs hcs
    split at hcs
    · rename_i hle
      injection hcs with hcs
      rw [if_pos hle, ← hcs]
      congr 2
      apply Array.ext'
      simp []
    · cases hcs
  · rename_i hcs
    split at hcs
    · cases hcs
    · rename_i hle; rw [if_neg hle]
theorem pBuild_of {zero : Array Value} {places : Array (Nat × Nat)} {parts : List (Nat × Value)} {cs : Array Value} {K : Value → Prop} (h : Instr.fill (places[·]?) zero parts = some cs) (hk : K (.agg cs)) : pBuild zero places parts K := by
  unfold pBuild; rw [h]; exact hk
theorem eStAll_of {t b : Nat} {w : World} {c : Array Value} {tt : TypeId} {vs : List Value} {K : Unit → World → Prop} (hn : sizeP P t = some vs.length)
    (h : w.heap[b]? = some (.cells c tt (0, 0))) (hc : c.size = vs.length) (hone : ∀ v ∈ vs, v.oneCell' = true)
    (hk : ∀ w', Keep [b] w w' → w'.heap[b]? = some (.cells vs.toArray tt (0, 0)) → K () w') : ef P (Instr.storeAt t (.pointer (some ⟨b, 0, none⟩)) (.agg vs.toArray)) w K :=
  eStN_of hn h (by omega) (by simp) hone fun w' k g => hk w' k (by rw [setRow_all (by simpa using hc)] at g; exact g)
theorem wrap_in_u64 {x : Int} (h0 : 0 ≤ x) (h1 : x < 18446744073709551616) : IntKind.u64.wrap x = x := by
  unfold IntKind.wrap
  simp [IntKind.bits, IntKind.signed]
  omega
theorem wrap_in_i64 {x : Int} (h0 : -9223372036854775808 ≤ x) (h1 : x < 9223372036854775808) : IntKind.i64.wrap x = x := by
  unfold IntKind.wrap
  simp [IntKind.bits, IntKind.signed]
  omega

/-! ### a slice that is written out with one element -/
theorem fill_one (zero : Array Value) (v : Value) (h : v.cells.size = zero.size) (f : Nat → Option (Nat × Nat)) (hf : f 0 = some (0, zero.size)) : Instr.fill f zero [(0, v)] = some v.cells := by
  have key : ∀ (xs pre rest : List Value), rest.length = xs.length → ((xs.zipIdx pre.length).foldl (fun (cs : Array Value) p => cs.setIfInBounds (0 + p.2) p.1) (pre ++ rest).toArray) = (pre ++ xs).toArray := by
    intro xs
    induction xs with
    | nil => intro pre rest hl; simp at hl; subst hl; rfl
    | cons x xs ih =>
      intro pre rest hl
      cases rest with
      | nil => simp at hl
      | cons r rest =>
        simp only [List.zipIdx_cons, List.foldl_cons, Nat.zero_add]
        have h2 := ih (pre ++ [x]) rest (by simpa using hl)
        have h3 : ((pre ++ r :: rest).toArray.setIfInBounds pre.length x) = (pre ++ [x] ++ rest).toArray := by
          apply Array.ext'
          simp
        rw [h3]
        simpa using h2
  unfold Instr.fill
  simp only [hf]
  rw [if_neg (by simp [h])]
  unfold Instr.fill
  have h4 := key v.cells.toList [] zero.toList (by simp [h])
  simp only [List.nil_append, List.length_nil] at h4
  congr 1
  rw [← Array.foldl_toList]
  simpa using h4
theorem build1_of {t e n : Nat} {v z : Value} {w : World} {K : Value → World → Prop} (ht : P.underlying t = some (.slice e)) (hn : sizeP P e = some n) (hz : (P.info? e).bind (·.zero) = some z)
    (hv : v.cells.size = n) (h0 : 0 < n) (hbig : n ≤ 2 ^ 24)
    (hk : ∀ b w', b = w.heap.size → Keep [] w w' → w'.heap[b]? = some (.cells v.cells e) → K (.slice (some ⟨b, 0, none⟩) 1 1) w') : ef P (Instr.buildSlice t 1 ([(0, v)]).toArray) w K := by
  refine ef_ok (w' := w.alloc (.cells v.cells e)) (v := .slice (some ⟨w.heap.size, 0, none⟩) 1 1) ?_ (hk _ _ rfl (keep_alloc w _) (alloc_get w _))
  unfold Instr.buildSlice
  have h1 : ¬ (1 * n > 2 ^ 24) := by omega
  have h2 : ¬ (1 * n = 0) := by omega
  simp only [Sem.run_bind, und_run ht, Result.andThen_ok, size_run hn, if_neg h1, if_neg h2, zero_run hz, Sem.run_pure]
  have hf := fill_one ((Array.range (1 * n)).map (z.cells[· % z.cells.size]!)) v (by simp [hv]) (fun i => some (i * n, n)) (by simp)
  rw [hf]
  simp [newRow, ← World.alloc_eq]
theorem build0_of {t e n : Nat} {w : World} {K : Value → World → Prop} (ht : P.underlying t = some (.slice e)) (hn : sizeP P e = some n)
    (hk : ∀ b w', b = w.heap.size → Keep [] w w' → w'.heap[b]? = some (.cells #[] e) → K (.slice (some ⟨b, 0, none⟩) 0 0) w') : ef P (Instr.buildSlice t 0 ([]).toArray) w K := by
  refine ef_ok (w' := w.alloc (.cells #[] e)) (v := .slice (some ⟨w.heap.size, 0, none⟩) 0 0) ?_ (hk _ _ rfl (keep_alloc w _) (alloc_get w _))
  unfold Instr.buildSlice
  simp [und_run ht, size_run hn, Instr.fill, newRow, ← World.alloc_eq]
  congr 2
  apply Array.ext'
  simp
end
end Go.Proofs.YtlfeckimhaegbaaDoor.Eng
