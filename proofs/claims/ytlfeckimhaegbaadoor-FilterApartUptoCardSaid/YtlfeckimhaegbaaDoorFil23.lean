/- The tables that the rows list; the world of the witness. -/
import Derived.Test.YtlfeckimhaegbaaDoorFil22
namespace Go.Proofs.YtlfeckimhaegbaaDoor
open Go Eng Go.ChangeShapes Go.WideShapes Go.ChangeAt Go.RowKit
set_option maxRecDepth 100000

def tab32 : List Int := [0, 1, 28, 2, 29, 14, 24, 3, 30, 22, 20, 15, 25, 17, 4, 8, 31, 27, 13, 23, 21, 19, 16, 7, 26, 12, 18, 6, 11, 5, 10, 9]
def tab64 : List Int := [0, 1, 56, 2, 57, 49, 28, 3, 61, 58, 42, 50, 38, 29, 17, 4, 62, 47, 59, 36, 45, 43, 51, 22, 53, 39, 33, 30, 24, 18, 12, 5, 63, 55, 48, 27, 60, 41, 37, 16, 46, 35, 44, 21, 52, 32, 23, 11, 54, 26, 40, 15, 34, 20, 31, 10, 25, 14, 19, 9, 13, 8, 7, 6]
def tabP : List Int := [1, 10, 100, 1000, 10000, 100000, 1000000, 10000000, 100000000, 1000000000, 10000000000, 100000000000, 1000000000000, 10000000000000, 100000000000000, 1000000000000000, 10000000000000000, 100000000000000000, 1000000000000000000, 10000000000000000000]
theorem tabP_eq : tabP = Lib.pow10Tab := by kernel_rfl
theorem gPow : Tryd.prog.globalNamed "internal/strconv.uint64pow10" = some 0 := by kernel_rfl
theorem gPowType : (Tryd.prog.globals[0]?).map (·.type) = some 119 := by kernel_rfl
theorem g64 : Tryd.prog.globalNamed "math/bits.deBruijn64tab" = some 3 := by kernel_rfl
theorem g64Type : (Tryd.prog.globals[3]?).map (·.type) = some 126 := by kernel_rfl
theorem co119 : Tryd.prog.cellsOf 119 = 20 := by kernel_rfl
theorem co126 : Tryd.prog.cellsOf 126 = 64 := by kernel_rfl
theorem laid_tail {x : String × DataW Unit} {rest : List (String × DataW Unit)} {W : World} (h : laidMet Tryd.prog (x :: rest) W) : laidMet Tryd.prog rest W := by
  obtain ⟨ps, ⟨g, t, cs, fuel, p, q, h1, h2, h3, h4, h5, rfl⟩, hn, hc⟩ := h
  exact ⟨q, h5, (List.nodup_append.1 hn).2.1, fun b off hm => hc b off (List.mem_append.2 (.inr hm))⟩
def rowLaid : List (String × DataW Unit) := [("math/bits.deBruijn32tab", Lib.tabData .u8 tab32), ("math/bits.deBruijn64tab", Lib.tabData .u8 tab64), ("internal/strconv.uint64pow10", Lib.tabData .u64 tabP)]
theorem tabs {W : World} (h : laidMetH Tryd.prog rowLaid W) : Tab W := by
  have h1 : laidMet Tryd.prog rowLaid W := h
  have h2 := laid_tail h1
  have h3 := laid_tail h2
  refine ⟨?_, ?_⟩
  · rw [← tabP_eq]
    exact Lib.tabIs_of_head (rest := []) gPow gPowType Tryd.underlying119 Tryd.underlying32 co32 co119 h3
  · have hT := Lib.tabIs_of_head (rest := [("internal/strconv.uint64pow10", Lib.tabData .u64 tabP)]) g64 g64Type Tryd.underlying126 Tryd.underlying5 co5 co126 h2
    have hcell := hT.cell g64 15 (by decide)
    unfold World.cell? at hcell
    simp only at hcell
    split at hcell
    · rename_i c tt fz hbk
      refine ⟨c, tt, fz, hbk, ?_⟩
      have e : tab64.getD 15 0 = 4 := by decide
      rw [e] at hcell
      simpa using hcell
    · cases hcell

/-- a world for the witness: the tables hold what their initialisers lay -/
def putRow (vs : List Value) : Obj → Obj
  | .cells _ t frozen => .cells vs.toArray t frozen
  | o => o
noncomputable def laidWorld (os : Os) : World :=
  { World.holding Tryd.prog os ⟨#[], #[], []⟩ with
    heap := (((World.holding Tryd.prog os ⟨#[], #[], []⟩).heap.modify 0 (putRow (tabP.map fun z => Value.int .u64 z))).modify 2 (putRow (tab32.map fun z => Value.int .u8 z))).modify 3 (putRow (tab64.map fun z => Value.int .u8 z)) }
end Go.Proofs.YtlfeckimhaegbaaDoor
