/- ip.Text, first part: strconv.FormatUint in base 16 answers some text of at most 65 letters. -/
import Derived.Test.YtlfeckimhaegbaaDoorFil17
import Derived.Laws.IdiomStrings
import Derived.Test.YtlfeckimhaegbaaDoorShelf
namespace Go.Proofs.YtlfeckimhaegbaaDoor
open Go Eng
set_option maxRecDepth 20000

theorem and15 {y : Int} (h0 : 0 ≤ y) (h1 : y < 18446744073709551616) : IntKind.u64.wrap ((BitVec.ofInt IntKind.u64.bits y &&& BitVec.ofInt IntKind.u64.bits 15).toNat : Int) = y % 16 := by
  have e : (BitVec.ofInt IntKind.u64.bits y &&& BitVec.ofInt IntKind.u64.bits 15).toNat = y.toNat % 16 := by
    rw [BitVec.toNat_and]
    have a1 : (BitVec.ofInt IntKind.u64.bits y).toNat = y.toNat := by
      rw [BitVec.toNat_ofInt]
      have : y % ((2 ^ IntKind.u64.bits : Nat) : Int) = y := Int.emod_eq_of_lt h0 h1
      rw [this]
    have a2 : (BitVec.ofInt IntKind.u64.bits 15).toNat = 15 := by decide +kernel
    rw [a1, a2]
    exact Nat.and_two_pow_sub_one_eq_mod y.toNat 4
  rw [e, wrap_in_u64 (by omega) (by omega)]
  omega

/-- the tables that the texts of numbers look up -/
structure Tab (w : World) : Prop where
  pow10 : Lib.TabIs Tryd.prog w "internal/strconv.uint64pow10" .u64 Lib.pow10Tab
  bruijn : ∃ c t fz, w.heap[3]? = some (.cells c t fz) ∧ c[15]? = some (.int .u8 4)
theorem k76 (w : World) (hb : ∃ c t fz, w.heap[3]? = some (.cells c t fz) ∧ c[15]? = some (.int .u8 4)) :
    Calls Tryd.prog 76 #[.int .u64 16] w fun e w' => ∃ v, e = .returned v ∧ Ans (.int .i64 4) w v w' := by
  obtain ⟨c, t, fz, g, hc⟩ := hb
  refine c76 _ _ _ ?_
  unfold m76
  have e1 : IntKind.u64.wrap (0 - 16) = 18446744073709551600 := by decide +kernel
  have e2 : IntKind.u64.wrap ((BitVec.ofInt IntKind.u64.bits 16 &&& BitVec.ofInt IntKind.u64.bits 18446744073709551600).toNat : Int) = 16 := by decide +kernel
  have e3 : IntKind.u64.wrap (16 * 285870213051353865) = 4573923408821661840 := by decide +kernel
  have e4 : Int.fdiv 4573923408821661840 (2 ^ (min (Int.toNat 58) IntKind.u64.bits)) = 15 := by decide +kernel
  simp only [pBin_int, binI, pNeg, e1, e2, e3, pShift, shI, e4, pIxA, add_none]
  refine condF_of (fun h => absurd h (by decide)) (fun _ => ⟨by decide, by decide, by decide, ?_⟩)
  refine ld1_of g (u := .int .u8 4) (by simpa using hc) ?_
  simp only [pConv_int]
  exact ⟨by rfl, Keep.refl _ _⟩
theorem k74 (w : World) (hb : ∃ c t fz, w.heap[3]? = some (.cells c t fz) ∧ c[15]? = some (.int .u8 4)) :
    Calls Tryd.prog 74 #[.int .u64 16] w fun e w' => ∃ v, e = .returned v ∧ Ans (.int .i64 4) w v w' := by
  refine c74 _ _ _ ?_
  unfold m74
  exact call_of (k76 w hb) fun v w' h => h
theorem k73 (w : World) : Calls Tryd.prog 73 #[.int .i64 16] w fun e w' => ∃ v, e = .returned v ∧ Ans (.bool true) w v w' := by
  refine c73 _ _ _ ?_
  unfold m73
  have e1 : IntKind.i64.wrap (16 - 1) = 15 := by decide +kernel
  have e2 : IntKind.i64.wrap ((BitVec.ofInt IntKind.i64.bits 16 &&& BitVec.ofInt IntKind.i64.bits 15).toNat : Int) = 0 := by decide +kernel
  simp only [pBin_int, binI, e1, e2]
  exact ⟨by rfl, Keep.refl _ _⟩

def byV (b : UInt8) : Value := .int .u8 b.toNat
def digs : ByteArray := { data := #[48, 49, 50, 51, 52, 53, 54, 55, 56, 57, 97, 98, 99, 100, 101, 102, 103, 104, 105, 106, 107, 108, 109, 110, 111, 112, 113, 114, 115, 116, 117, 118, 119, 120, 121, 122] }
theorem dig_of {k : IntKind} {j : Int} {K : Value → Prop} (h0 : 0 ≤ j) (h1 : j < 36) (hk : ∀ b : UInt8, K (byV b)) : pIxStr (.string digs) (.int k j) K := by
  refine ⟨h0, ?_⟩
  have hs : digs.size = 36 := rfl
  have hlt : j.toNat < digs.size := by omega
  rw [getElem?_pos digs j.toNat hlt]
  exact hk _

theorem k67 (x : Int) (h0 : 0 ≤ x) (h1 : x < 65536) (w : World) (hb : ∃ c t fz, w.heap[3]? = some (.cells c t fz) ∧ c[15]? = some (.int .u8 4)) :
    Calls Tryd.prog 67 #[.slice none 0 0, .int .u64 x, .int .i64 16, .bool false, .bool false] w fun e w' => ∃ v, e = .returned v ∧ ∃ s : ByteArray, v = .tuple #[.slice none 0 0, .string s] ∧ s.size ≤ 65 ∧ Keep [] w w' := by
  refine c67 _ _ _ _ _ _ _ ?_
  unfold m67
  refine joinP_of (fun _ w' => w' = w) ?_ ?_
  · unfold m67_1
    refine joinP_of (fun vs w' => vs = [.bool false] ∧ w' = w) ?_ ?_
    · simp only [pBin_int, binI]
      exact condF_of (fun h => absurd h (by decide)) (fun _ => condF_of (fun h => absurd h (by decide)) (fun _ => ⟨by rfl, trivial⟩))
    · rintro _ w' ⟨rfl, rfl⟩
      simp only [List.getD_cons_zero]
      exact condF_of (fun h => by cases h) (fun _ => trivial)
  rintro _ w' rfl
  unfold m67_8
  refine eBox_of fun b w1 hb1 k1 g1 => ?_
  have hb : ∃ c t fz, w1.heap[3]? = some (.cells c t fz) ∧ c[15]? = some (.int .u8 4) := by
    obtain ⟨c, t, fz, g, hc⟩ := hb
    exact ⟨c, t, fz, k1.get g (by simp), hc⟩
  have hlt3 : 3 < w'.heap.size := by
    obtain ⟨c, t, fz, g, hc⟩ := ‹∃ c t fz, w'.heap[3]? = some (.cells c t fz) ∧ c[15]? = some (.int .u8 4)›
    exact lt_of_get g
  have g1 : ∃ bs : List UInt8, bs.length = 65 ∧ w1.heap[b]? = some (.cells (bs.map byV).toArray 121) := ⟨List.replicate 65 0, by simp, by rw [g1]; rfl⟩
  refine joinP_of (fun vs w' => vs = [.int .u64 x] ∧ w' = w1) ?_ ?_
  · exact condF_of (fun h => by cases h) (fun _ => ⟨rfl, rfl⟩)
  rintro _ w2 ⟨rfl, rfl⟩
  have nil_b : ∀ y, y < w'.heap.size → y ∈ [b] → y ∈ ([] : List Nat) := fun y hy hm => by simp at hm; omega
  refine joinP_of (fun vs w3 => ∃ i : Nat, vs = [.int .i64 i] ∧ i ≤ 64 ∧ Keep [] w' w3 ∧ ∃ bs : List UInt8, bs.length = 65 ∧ w3.heap[b]? = some (.cells (bs.map byV).toArray 121)) ?_ ?_
  · refine call_of (k73 w2) fun v3 w3 ⟨e3, k3⟩ => ?_
    subst e3
    have kk3 := k1.trans k3 (by simp)
    unfold m67_5
    refine condF_of (fun _ => ?_) (fun h => by cases h)
    have e1 : IntKind.u64.wrap 16 = 16 := by decide +kernel
    simp only [pConv_int, e1]
    have hb3 : ∃ c t fz, w3.heap[3]? = some (.cells c t fz) ∧ c[15]? = some (.int .u8 4) := by
      obtain ⟨c, t, fz, g, hc⟩ := hb
      exact ⟨c, t, fz, k3.get g (by simp), hc⟩
    refine call_of (k74 w3 hb3) fun v4 w4 ⟨e4, k4⟩ => ?_
    subst e4
    have kk4 := kk3.trans k4 (by simp)
    unfold m67_3
    have e2 : IntKind.u64.wrap 4 = 4 := by decide +kernel
    have e3 : IntKind.u64.wrap (16 - 1) = 15 := by decide +kernel
    simp only [pConv_int, e1, e2, e3, pBin_int, binI, List.getD_cons_zero]
    obtain ⟨bs, hbs, gb⟩ := g1
    refine loopP_of (fun vs w5 => ∃ (j : Nat) (y : Int), vs = [.int .i64 ((65 - j : Nat) : Int), .int .u64 y] ∧ 0 ≤ y ∧ ((j = 0 ∧ y < 65536) ∨ (j = 1 ∧ y < 4096) ∨ (j = 2 ∧ y < 256) ∨ (j = 3 ∧ y < 16)) ∧ Keep [] w' w5 ∧
        ∃ bs : List UInt8, bs.length = 65 ∧ w5.heap[b]? = some (.cells (bs.map byV).toArray 121))
      (fun vs _ => match vs with | (.int _ i) :: _ => i.toNat | _ => 0) ⟨0, x, rfl, h0, by omega, kk4, bs, hbs, k4.get (k3.get gb (by simp)) (by simp)⟩ ?_
    rintro vs w5 ⟨j, y, rfl, y0, hy, kw, bs, hbs, gb⟩
    unfold m67_2
    have ew : IntKind.i64.wrap (((65 - j : Nat) : Int) - 1) = ((65 - (j + 1) : Nat) : Int) := by rw [wrap_in_i64 (by omega) (by omega)]; omega
    simp only [List.getD_cons_zero, List.getD_cons_succ, pBin_int, binI, ew]
    have store : ∀ (bt : UInt8) (K : World → Prop), (∀ w6, Keep [] w' w6 → (∃ bs : List UInt8, bs.length = 65 ∧ w6.heap[b]? = some (.cells (bs.map byV).toArray 121)) → K w6) →
        pIxA 1 65 (.pointer (some ⟨b, 0, none⟩)) (.int .i64 ((65 - (j + 1) : Nat) : Int)) fun t54 => eSt1 t54 (byV bt) w5 fun w6 => K w6 := by
      intro bt K hK
      refine ⟨by omega, by omega, ?_⟩
      rw [add_none]
      refine eSt1_of gb (by simp [hbs]; omega) rfl (by simp) fun w6 k6 g6 => hK w6 (kw.trans k6 nil_b) ⟨bs.set (65 - (j + 1)) bt, by simp [hbs], ?_⟩
      rw [g6]
      congr 2
      simp [byV, List.map_set]
    refine condF_of (fun hge => ?_) (fun hlt => ?_)
    · have hge : y ≥ 16 := of_decide_eq_true hge
      rw [and15 y0 (by omega)]
      refine dig_of (by omega) (by omega) fun bt => ?_
      refine store bt _ fun w6 k6 hb6 => ?_
      have es : y.fdiv (2 ^ (min (Int.toNat 4) IntKind.u64.bits)) = y / 16 := by
        have e0 : ((2 : Int) ^ (min (Int.toNat 4) IntKind.u64.bits)) = 16 := by decide +kernel
        rw [e0, Int.fdiv_eq_ediv_of_nonneg _ (by decide)]
      refine ⟨by decide, ?_⟩
      rw [es]
      refine ⟨⟨j + 1, y / 16, rfl, by omega, by omega, k6, hb6⟩, ?_⟩
      simp only [Int.toNat_natCast]
      omega
    · have hlt : ¬ y ≥ 16 := of_decide_eq_false hlt
      refine dig_of (by omega) (by omega) fun bt => ?_
      refine store bt _ fun w6 k6 hb6 => ?_
      exact ⟨65 - (j + 1), rfl, by omega, k6, hb6⟩
  · rintro _ w5 ⟨i, rfl, hi, kw, bs, hbs, gb⟩
    unfold m67_7
    refine joinP_of (fun vs w6 => vs = [.int .i64 i] ∧ w6 = w5) ?_ ?_
    · exact condF_of (fun h => by cases h) (fun _ => ⟨rfl, rfl⟩)
    rintro _ w6 ⟨rfl, rfl⟩
    unfold m67_6
    refine condF_of (fun h => by cases h) (fun _ => ?_)
    simp only [List.getD_cons_zero, pCutArr, bndO, bnd, Int.toNat_natCast, add_none, Nat.zero_add, Nat.mul_one]
    refine ⟨by omega, by omega, ?_⟩
    have hd : (bs.drop i).length = 65 - i := by simp [hbs]
    have hif : (some (if 65 = i then (⟨b, 0, none⟩ : Addr) else ⟨b, i, none⟩)) = some (⟨b, i, none⟩ : Addr) := by
      rw [if_neg (by omega)]
    rw [hif, ← hd]
    refine rd_ok (run_convert_bytes_back w6 57 9 5 ⟨b, i, none⟩ _ (bs.drop i) t57.hst (by kernel_rfl) (by kernel_rfl) fun k hk => ?_) ?_
    · rw [add_none, cell_at gb]
      have hk' : i + k < bs.length := by simp at hk; omega
      simp [byV, hk']
    · exact ⟨_, rfl, by show (bs.drop i).toArray.size ≤ 65; simp [hbs], kw⟩

/-- a call that answers some text, not great -/
abbrev AnsT (n : Nat) (w : World) : Value → World → Prop := fun u w' => ∃ s : ByteArray, u = .string s ∧ s.size ≤ n ∧ Keep [] w w'
theorem k60 (x : Int) (h0 : 0 ≤ x) (h1 : x < 65536) (w : World) (hb : ∃ c t fz, w.heap[3]? = some (.cells c t fz) ∧ c[15]? = some (.int .u8 4)) :
    Calls Tryd.prog 60 #[.int .u64 x, .int .i64 16] w fun e w' => ∃ v, e = .returned v ∧ AnsT 65 w v w' := by
  refine c60 _ _ _ _ ?_
  unfold m60
  simp only [pBin_int, binI]
  refine condF_of (fun h => absurd h (by decide)) (fun _ => ?_)
  refine call_of (k67 x h0 h1 w hb) fun v w' ⟨s, e, hs, k⟩ => ?_
  subst e
  simp only [pExt_eq, List.getElem?_toArray, List.getElem?_cons_zero, List.getElem?_cons_succ]
  exact ⟨s, rfl, hs, k⟩
theorem k53 (x : Int) (h0 : 0 ≤ x) (h1 : x < 65536) (w : World) (hb : ∃ c t fz, w.heap[3]? = some (.cells c t fz) ∧ c[15]? = some (.int .u8 4)) :
    Calls Tryd.prog 53 #[.int .u64 x, .int .i64 16] w fun e w' => ∃ v, e = .returned v ∧ AnsT 65 w v w' := by
  refine c53 _ _ _ _ ?_
  unfold m53
  exact call_of (k60 x h0 h1 w hb) fun v w' h => h
end Go.Proofs.YtlfeckimhaegbaaDoor
