/- FilterAnswers, FilterApart: which rule lets in, by the program (rules.by and its helpers). -/
import Derived.Test.YtlfeckimhaegbaaDoorFil4
namespace Go.Proofs.YtlfeckimhaegbaaDoor
open Go Eng
set_option maxRecDepth 20000

theorem fn46 : ∃ fn, Tryd.prog.funcs[46]? = some fn ∧ fn.body.isSome = true ∧ (fn.name == "runtime.NumGoroutine") = false := ⟨Tryd.f46, Tryd.func46, by rw [bd46]; rfl, by kernel_rfl⟩
theorem fn35 : ∃ fn, Tryd.prog.funcs[35]? = some fn ∧ fn.body.isSome = true ∧ (fn.name == "runtime.NumGoroutine") = false := ⟨Tryd.f35, Tryd.func35, by rw [bd35]; rfl, by kernel_rfl⟩
theorem fn32 : ∃ fn, Tryd.prog.funcs[32]? = some fn ∧ fn.body.isSome = true ∧ (fn.name == "runtime.NumGoroutine") = false := ⟨Tryd.f32, Tryd.func32, by rw [bd32]; rfl, by kernel_rfl⟩
theorem fn39 : ∃ fn, Tryd.prog.funcs[39]? = some fn ∧ fn.body.isSome = true ∧ (fn.name == "runtime.NumGoroutine") = false := ⟨Tryd.f39, Tryd.func39, by rw [bd39]; rfl, by kernel_rfl⟩
theorem fn28 : ∃ fn, Tryd.prog.funcs[28]? = some fn ∧ fn.body.isSome = true ∧ (fn.name == "runtime.NumGoroutine") = false := ⟨Tryd.f28, Tryd.func28, by rw [bd28]; rfl, by kernel_rfl⟩
theorem fn10 : ∃ fn, Tryd.prog.funcs[10]? = some fn ∧ fn.body.isSome = true ∧ (fn.name == "runtime.NumGoroutine") = false := ⟨Tryd.f10, Tryd.func10, by rw [bd10]; rfl, by kernel_rfl⟩

theorem k55 (ps : List Int) (x : Int) (v : Value) (w : World) (hv : SlOf w v 1 u8C ps) (hn : ps.length < 1048576) :
    Calls Tryd.prog 55 #[v, .int .u8 x] w fun e w' => ∃ u, e = .returned u ∧ AnsIx (ps.any (· == x)) w u w' := by
  refine c55 _ _ _ _ ?_
  unfold m55
  obtain ⟨aa, cap, hvv⟩ := hv.slice
  have lv : ∀ K, pLenT 2 v K = K (.int .i64 ps.length) := fun K => by rw [hvv, pLenT_sl]
  simp only [lv]
  refine loopP_of (fun vs w' => ∃ i : Nat, vs = [.int .i64 i] ∧ i ≤ ps.length ∧ Keep [] w w' ∧ ps.any (· == x) = (ps.drop i).any (· == x)) (mu0 ps.length) ⟨0, rfl, by omega, Keep.refl _ _, by simp⟩ ?_
  rintro vs w' ⟨i, rfl, hi, k, he⟩
  have hv := hv.keep0 k
  unfold m55_1
  simp only [List.getD_cons_zero, pBin_int, binI]
  refine condF_of (fun h => ?_) (fun h => ?_)
  · have hi' : i < ps.length := by simpa using h
    refine hv.el u8C_len hi' fun eb off hb el => ?_
    simp only [u8C] at el
    simp only [condF_bool, pBin_int, binI, List.getElem?_cons_zero, Nat.zero_add, List.length_cons, List.length_nil, el.ld10, Nat.reduceLT]
    have hc : (x == ps[i]) = (ps[i] == x) := by rw [Bool.eq_iff_iff]; simp; exact eq_comm
    rw [hc]
    refine ⟨fun h2 => ?_, fun h2 => ⟨⟨i + 1, by rw [wrap_succ hi' (by omega)], hi', k, ?_⟩, ?_⟩⟩
    · exact ⟨i, rfl, by rw [he, any_step _ hi', h2]; simp, k⟩
    · rw [he, any_step _ hi', h2, Bool.false_or]
    · rw [wrap_succ hi' (by omega), mu0_eq, mu0_eq]; omega
  · have hi' : ps.length ≤ i := by simpa using h
    exact ⟨-1, rfl, by rw [he, any_end _ hi']; rfl, k⟩

theorem k47 (ps : List Int) (x : Int) (v : Value) (w : World) (hv : SlOf w v 1 u8C ps) (hn : ps.length < 1048576) :
    Calls Tryd.prog 47 #[v, .int .u8 x] w fun e w' => ∃ u, e = .returned u ∧ Ans (.bool (ps.any (· == x))) w u w' := by
  refine c47 _ _ _ _ ?_
  unfold m47
  refine call_of (k55 ps x v w hv hn) fun u w2 ⟨r, e2, hr, k2⟩ => ?_
  subst e2
  simp only [pBin_int, binI]
  exact ⟨by rw [← hr], k2⟩

theorem k46 (p : Po) (f : Fl) (c : Bool) (bc bf : Nat) (w : World) (gc : w.heap[bc]? = some (.cells #[.bool c] 4)) (gf : w.heap[bf]? = some (.cells (flC f).toArray 37)) :
    Calls Tryd.prog 46 #[poV p, .pointer (some ⟨bc, 0, none⟩), .pointer (some ⟨bf, 0, none⟩)] w fun e w' => ∃ u, e = .returned u ∧ Ans (.bool (c && decide (p.fr ≤ f.to) && decide (f.to ≤ p.to))) w u w' := by
  refine c46 _ _ _ _ _ ?_
  unfold m46
  refine eBox_of fun b w1 _ k1 g1 => ?_
  have gc := k1.get gc (by simp)
  have gf := k1.get gf (by simp)
  simp only [poV, poC, Value.cells] at g1
  simp only [flC] at gf
  refine joinP_of (fun vs w' => vs = [.bool (c && decide (p.fr ≤ f.to) && decide (f.to ≤ p.to))] ∧ Keep [] w w') ?_ ?_
  · unfold m46_1
    simp only [pFld_eq, condF_bool, pBin_int, binI, List.getElem?_toArray, List.getElem?_cons_succ, List.getElem?_cons_zero, Nat.zero_add, Nat.add_zero, ld1_eq g1, ld1_eq gc, ld1_eq gf]
    refine ⟨fun h => ⟨fun h2 => ?_, fun h2 => ?_⟩, fun h => ?_⟩
    · have h3 : decide (p.fr ≤ f.to) = true := h2
      exact ⟨by rw [h, h3]; rfl, k1⟩
    · have h3 : decide (p.fr ≤ f.to) = false := h2
      exact ⟨by rw [h, h3]; rfl, k1⟩
    · exact ⟨by rw [h]; rfl, k1⟩
  · rintro _ w' ⟨rfl, hk⟩
    exact ⟨rfl, hk⟩

theorem k54 (l : List Po) (p : Po → Bool) (v fv : Value) (w : World) (hv : SlOf w v 2 poC l) (hn : l.length < 1048576)
    (hp : ∀ x ∈ l, ∀ w', Keep [] w w' → ∀ K : Value → World → Prop, (∀ w'', Keep [] w' w'' → K (.bool (p x)) w'') → callV Tryd.prog fv #[poV x] w' K) :
    Calls Tryd.prog 54 #[v, fv] w fun e w' => ∃ u, e = .returned u ∧ AnsIx (l.any p) w u w' := by
  refine c54 _ _ _ _ ?_
  unfold m54
  obtain ⟨aa, cap, hvv⟩ := hv.slice
  have lv : ∀ K, pLenT 2 v K = K (.int .i64 l.length) := fun K => by rw [hvv, pLenT_sl]
  simp only [lv, m54_1]
  exact index_of poC_len hv (by omega) hp fun w' r k hr => ⟨r, rfl, hr, k⟩
theorem k45 (l : List Po) (p : Po → Bool) (v fv : Value) (w : World) (hv : SlOf w v 2 poC l) (hn : l.length < 1048576)
    (hp : ∀ x ∈ l, ∀ w', Keep [] w w' → ∀ K : Value → World → Prop, (∀ w'', Keep [] w' w'' → K (.bool (p x)) w'') → callV Tryd.prog fv #[poV x] w' K) :
    Calls Tryd.prog 45 #[v, fv] w fun e w' => ∃ u, e = .returned u ∧ Ans (.bool (l.any p)) w u w' := by
  refine c45 _ _ _ _ ?_
  unfold m45
  refine call_of (k54 l p v fv w hv hn hp) fun u w2 ⟨r, e2, hr, k2⟩ => ?_
  subst e2
  simp only [pBin_int, binI]
  exact ⟨by rw [← hr], k2⟩

theorem k40 (ps : List Int) (l : List Po) (f : Fl) (v u : Value) (w : World) (hv : SlOf w v 1 u8C ps) (hu : SlOf w u 2 poC l) (hn : ps.length < 1048576) (hm : l.length < 1048576) :
    Calls Tryd.prog 40 #[v, u, flV f] w fun e w' => ∃ x, e = .returned x ∧ Ans (.bool (byB ps l f)) w x w' := by
  refine c40 _ _ _ _ _ ?_
  unfold m40
  refine eBox_of fun b w1 hb1 k1 g1 => ?_
  have hv := hv.keep0 k1
  have hu := hu.keep0 k1
  have g0 := g1
  simp only [flV, Value.cells] at g0
  simp only [flV, flC, Value.cells] at g1
  obtain ⟨aa, cap, hvv⟩ := hv.slice
  obtain ⟨ab, cap2, huv⟩ := hu.slice
  have lv : ∀ K, pLenT 2 v K = K (.int .i64 ps.length) := fun K => by rw [hvv, pLenT_sl]
  have lu : ∀ K, pLenT 2 u K = K (.int .i64 l.length) := fun K => by rw [huv, pLenT_sl]
  refine joinP_of (fun vs w' => ∃ bc, vs = [.pointer (some ⟨bc, 0, none⟩)] ∧ w'.heap[bc]? = some (.cells #[.bool (f.proto == 6 || f.proto == 17)] 4) ∧ Keep [] w1 w') ?_ ?_
  · unfold m40_1
    simp only [pFld_eq, condF_bool, pBin_int, binI, List.getElem?_toArray, List.getElem?_cons_zero, Nat.add_zero, ld1_eq g1]
    refine ⟨fun h => ?_, fun h => ?_⟩
    · refine eBox_of fun b2 w2 hb2 k2 g2 => ?_
      refine eSt1_of g2 (by simp [Value.cells]) rfl (by simp) fun w3 k3 g3 => ?_
      refine ⟨b2, rfl, ?_, k2.trans k3 (fun k hk hm => by simp only [List.mem_singleton] at hm; omega)⟩
      rw [g3, h]; rfl
    · refine eBox_of fun b2 w2 hb2 k2 g2 => ?_
      refine eSt1_of g2 (by simp [Value.cells]) rfl (by simp) fun w3 k3 g3 => ?_
      refine ⟨b2, rfl, ?_, k2.trans k3 (fun k hk hm => by simp only [List.mem_singleton] at hm; omega)⟩
      rw [g3, h]; rfl
  · rintro _ w2 ⟨bc, rfl, gc, k2⟩
    have hv := hv.keep0 k2
    have hu := hu.keep0 k2
    have g0 := k2.get g0 (by simp)
    simp only [List.getD_cons_zero]
    refine call_of (k45 l (poB f) u _ w2 hu hm fun x hx w' k K hK => ?_) fun u3 w3 ⟨e3, k3⟩ => ?_
    · exact callV_of fn46 (k46 x f _ bc b w' (k.get gc (by simp)) (k.get g0 (by simp))) fun v w'' ⟨e, k4⟩ => by subst e; exact hK _ k4
    · subst e3
      have hv := hv.keep0 k3
      have g0 := k3.get g0 (by simp)
      have kk := (k1.trans k2 (fun _ _ h => h)).trans k3 (fun _ _ h => h)
      simp only [flC] at g0
      refine joinP_of (fun vs w' => vs = [.bool (byB ps l f)] ∧ Keep [] w3 w') ?_ ?_
      · unfold m40_2
        simp only [lv, lu, pBin_int, binI]
        have z1 : ((ps.length : Int) == 0) = ps.isEmpty := by cases ps <;> simp <;> omega
        have z2 : ((l.length : Int) == 0) = l.isEmpty := by cases l <;> simp <;> omega
        simp only [z1, z2]
        refine condF_of (fun h => ?_) (fun h => ?_)
        · refine condF_of (fun h2 => ⟨by simp [byB, h, h2], Keep.refl _ _⟩) (fun h2 => ⟨by simp [byB, h, h2], Keep.refl _ _⟩)
        · simp only [pFld_eq, condF_bool, List.getElem?_toArray, List.getElem?_cons_zero, Nat.add_zero, ld1_eq g0]
          refine call_of (k47 ps f.proto v w3 hv hn) fun u4 w4 ⟨e4, k4⟩ => ?_
          subst e4
          refine condF_of (fun h3 => ?_) (fun h3 => ⟨by simp [byB, h, h3], k4⟩)
          exact ⟨fun h2 => ⟨by simp [byB, h, h2, h3], k4⟩, fun h2 => ⟨by simp [byB, h, h2, h3], k4⟩⟩
      · rintro _ w4 ⟨rfl, k4⟩
        exact ⟨rfl, kk.trans k4 (fun _ _ h => h)⟩
end Go.Proofs.YtlfeckimhaegbaaDoor
