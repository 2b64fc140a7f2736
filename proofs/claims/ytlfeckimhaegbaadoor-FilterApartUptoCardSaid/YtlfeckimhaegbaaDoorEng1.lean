/- An engine of this session's own: frames as functions, what an operation does as a formula ('opF'), and that it is sound for the kit's 'Oper.wp'. -/
import Derived.Orders
import Derived.Tactics
import Derived.KernelRfl
import Derived.WideLaws
namespace Go.Proofs.YtlfeckimhaegbaaDoor.Eng
open Go

/-! ### frames -/
abbrev Fr := Nat → Value
def setF (n : Nat) (f : Fr) (d : Nat) (v : Value) : Fr := fun i => bif Nat.beq i d && Nat.blt d n then v else f i
def setD (n : Nat) (f : Fr) (d : Option Tmp) (v : Value) : Fr := match d with | some d => setF n f d v | none => f
def evF (f : Fr) : Operand → Value
  | .tmp t => f t
  | .const v => v
  | .global g => .pointer (some ⟨g, 0, none⟩)
  | .func g => .func (.func g) #[] #[]

structure Fits (n L : Nat) (a : Act) (f : Fr) : Prop where
  defers : a.defers = []
  size : a.tmps.size = n
  get : ∀ i, Nat.testBit L i = true → a.tmps.getD i undef = f i

def addL (L : Nat) (d : Option Tmp) : Nat := match d with | some d => L ||| 2 ^ d | none => L

theorem beq_false {i d : Nat} (h : i ≠ d) : Nat.beq i d = false := by
  cases hc : Nat.beq i d
  · rfl
  · exact absurd (Nat.eq_of_beq_eq_true hc) h

theorem Fits.put {n L : Nat} {a : Act} {f : Fr} (h : Fits n L a f) (d : Option Tmp) (hd : ∀ x, d = some x → x < n) (v : Value) : Fits n (addL L d) (a.put d v) (setD n f d v) := by
  cases d with
  | none => exact h
  | some d =>
    have hd := hd d rfl
    refine ⟨h.defers, by simp [Act.put, h.size], fun i hi => ?_⟩
    simp only [Act.put, setD, setF]
    by_cases he : i = d
    · subst he
      have h2 : Nat.blt i n = true := by rw [Nat.blt_eq]; exact hd
      simp [h2, h.size, hd]
    · have hL : Nat.testBit L i = true := by
        simp only [addL, Nat.testBit_or, Nat.testBit_two_pow, Bool.or_eq_true, decide_eq_true_eq] at hi
        rcases hi with hi | hi
        · exact hi
        · exact absurd hi.symm he
      simp only [beq_false he, Bool.false_and, cond_false]
      rw [← h.get i hL]
      simp [Array.getElem?_setIfInBounds_ne (Ne.symm he)]

/-! ### what an operation does, as a formula -/
/-- a computation that leaves the world alone -/
def rd {α : Type} (P : Program) (s : Sem α) (w : World) (K : α → Prop) : Prop :=
  match s.run P w with | .ok v w' => w' = w ∧ K v | _ => False
/-- any computation -/
def ef {α : Type} (P : Program) (s : Sem α) (w : World) (K : α → World → Prop) : Prop :=
  match s.run P w with | .ok v w' => K v w' | _ => False

/-- one cell -/
def ld1 (v : Value) (w : World) (K : Value → Prop) : Prop :=
  match v with | .pointer (some a) => (match w.cell? a with | some u => K u | none => False) | _ => False
/-- n cells -/
def rowAt (w : World) (b o n : Nat) : Option (Array Value) :=
  match w.heap[b]? with | some (.cells c _ _) => if o + n ≤ c.size then some (c.extract o (o + n)) else none | _ => none
def ldN (n : Nat) (v : Value) (w : World) (K : Value → Prop) : Prop :=
  match v with
  | .pointer (some ⟨b, o, none⟩) => (match rowAt w b o n with | some cs => K (.agg cs) | none => False)
  | _ => False
def nilC (v : Value) (K : Value → Prop) : Prop :=
  match v with
  | .pointer none | .nilIface | .nilFunc => False
  | .func (.method _) _ _ => False
  | x => K x
def pFld (off : Nat) (v : Value) (K : Value → Prop) : Prop :=
  match v with | .pointer (some a) => K (.pointer (some (a.add off))) | _ => False
def pPart (off : Nat) (v : Value) (K : Value → Prop) : Prop :=
  match v with | .agg cs => (match cs[off]? with | some u => K u | none => False) | _ => False
def pPartN (off n : Nat) (v : Value) (K : Value → Prop) : Prop :=
  match v with | .agg cs => K (.agg (cs.extract off (off + n))) | _ => False
def pExt (i : Nat) (v : Value) (K : Value → Prop) : Prop :=
  match v with | .tuple vs => (match vs[i]? with | some u => K u | none => False) | _ => False
def pPick (c x y : Value) (K : Value → Prop) : Prop :=
  match c with | .bool true => K x | .bool false => K y | _ => False
theorem pPick_bool (b : Bool) (x y : Value) (K : Value → Prop) : pPick (.bool b) x y K = K (if b then x else y) := by cases b <;> rfl
/-- the address of an element of a slice -/
def pIxS (size : Nat) (v i : Value) (K : Value → Prop) : Prop :=
  match v, i with
  | .slice (some a) len _, .int _ j => 0 ≤ j ∧ j < (len : Int) ∧ K (.pointer (some (a.add (j.toNat * size))))
  | _, _ => False
/-- .. of an array -/
def pIxA (size len : Nat) (v i : Value) (K : Value → Prop) : Prop :=
  match v, i with
  | .pointer (some a), .int _ j => 0 ≤ j ∧ j < (len : Int) ∧ K (.pointer (some (a.add (j.toNat * size))))
  | _, _ => False
def pIxStr (v i : Value) (K : Value → Prop) : Prop :=
  match v, i with
  | .string s, .int _ j => 0 ≤ j ∧ (match s[j.toNat]? with | some b => K (.int .u8 b.toNat) | none => False)
  | _, _ => False
def pIxV (len : Nat) (v i : Value) (K : Value → Prop) : Prop :=
  match v, i with
  | .agg cs, .int _ j => 0 ≤ j ∧ j < (len : Int) ∧ (match cs[j.toNat * 1]? with | some u => K u | none => False)
  | _, _ => False
def pStr (v : Value) (K : Value → Prop) : Prop := match v with | .string b => K (.string b) | _ => False
def pConv (k : IntKind) (v : Value) (K : Value → Prop) : Prop :=
  match v with | .int _ x => K (.int k (k.wrap x)) | _ => False
def pLenT (kind : Nat) (v : Value) (K : Value → Prop) : Prop :=
  match v with | .slice _ n _ => kind = 2 ∧ K (goInt n) | .string s => kind = 1 ∧ K (goInt s.size) | _ => False
def pCap (v : Value) (K : Value → Prop) : Prop :=
  match v with | .slice _ _ n => K (goInt n) | _ => False
def binI (op : BinOp) (k : IntKind) (x y : Int) (K : Value → Prop) : Prop :=
  match op with
  | .add => K (.int k (k.wrap (x + y)))
  | .sub => K (.int k (k.wrap (x - y)))
  | .mul => K (.int k (k.wrap (x * y)))
  | .quo => y ≠ 0 ∧ K (.int k (k.wrap (x.tdiv y)))
  | .rem => y ≠ 0 ∧ K (.int k (x.tmod y))
  | .and => K (.int k (k.wrap (BitVec.ofInt k.bits x &&& BitVec.ofInt k.bits y).toNat))
  | .or => K (.int k (k.wrap (BitVec.ofInt k.bits x ||| BitVec.ofInt k.bits y).toNat))
  | .xor => K (.int k (k.wrap (BitVec.ofInt k.bits x ^^^ BitVec.ofInt k.bits y).toNat))
  | .andNot => K (.int k (k.wrap (BitVec.ofInt k.bits x &&& ~~~BitVec.ofInt k.bits y).toNat))
  | .eql => K (.bool (x == y))
  | .neq => K (.bool (x != y))
  | .lss => K (.bool (x < y))
  | .leq => K (.bool (x ≤ y))
  | .gtr => K (.bool (x > y))
  | .geq => K (.bool (x ≥ y))
  | .shl | .shr => False
def shI (op : BinOp) (k : IntKind) (x y : Int) (K : Value → Prop) : Prop :=
  match op with
  | .shl => 0 ≤ y ∧ K (.int k (k.wrap (x * 2 ^ (min y.toNat k.bits))))
  | .shr => 0 ≤ y ∧ K (.int k (x.fdiv (2 ^ (min y.toNat k.bits))))
  | _ => False
def binS (op : BinOp) (x y : ByteArray) (K : Value → Prop) : Prop :=
  match op with
  | .add => ((x.size + y.size : Nat) : Int) ≤ IntKind.i64.max ∧ K (.string (x ++ y))
  | .eql => K (.bool (x.toList == y.toList))
  | .neq => K (.bool !(x.toList == y.toList))
  | .lss => K (.bool (Op.bytesLess x.toList y.toList))
  | .leq => K (.bool (Op.bytesLess x.toList y.toList || (x.toList == y.toList)))
  | .gtr => K (.bool !(Op.bytesLess x.toList y.toList || (x.toList == y.toList)))
  | .geq => K (.bool !(Op.bytesLess x.toList y.toList))
  | _ => False
/-- a binary operator on integers (or strings) -/
def pBin (op : BinOp) (v u : Value) (K : Value → Prop) : Prop :=
  match v, u with
  | .int k x, .int k' y => k = k' ∧ binI op k x y K
  | .string x, .string y => binS op x y K
  | _, _ => False
def pShift (op : BinOp) (v u : Value) (K : Value → Prop) : Prop :=
  match v, u with | .int k x, .int _ y => shI op k x y K | _, _ => False
def pBoolEq (op : BinOp) (v u : Value) (K : Value → Prop) : Prop :=
  match v, u with
  | .bool x, .bool y => (match op with | .eql => K (.bool (x == y)) | .neq => K (.bool !(x == y)) | _ => False)
  | _, _ => False
/-- a value against nil; c: the nil that stands there -/
def pNil (op : BinOp) (c v : Value) (K : Value → Prop) : Prop :=
  let out (b : Bool) : Prop := match op with | .eql => K (.bool b) | .neq => K (.bool !b) | _ => False
  match c, v with
  | .pointer none, .pointer a => out a.isNone
  | .slice none _ _, .slice a _ _ => out a.isNone
  | .map none, .map a => out a.isNone
  | .nilFunc, .nilFunc => out true
  | .nilFunc, .func _ _ _ => out false
  | _, _ => False
def pNot (v : Value) (K : Value → Prop) : Prop := match v with | .bool b => K (.bool !b) | _ => False
def pNeg (v : Value) (K : Value → Prop) : Prop := match v with | .int k n => K (.int k (k.wrap (0 - n))) | _ => False
def pXorU (v : Value) (K : Value → Prop) : Prop :=
  match v with | .int k n => K (.int k (k.wrap (BitVec.ofInt k.bits (if k.signed then -1 else k.max) ^^^ BitVec.ofInt k.bits n).toNat)) | _ => False
def bnd (v : Value) (y : Nat) (K : Nat → Prop) : Prop := match v with | .int _ i => 0 ≤ i ∧ i ≤ (y : Int) ∧ K i.toNat | _ => False
def bndO (v : Option Value) (d y : Nat) (K : Nat → Prop) : Prop := match v with | some v => bnd v y K | none => K d
/-- a cut of a string; of a slice; of an array -/
def pCutStr (v : Value) (lo hi : Option Value) (K : Value → Prop) : Prop :=
  match v with
  | .string s => bndO hi s.size s.size fun h => bndO lo 0 h fun l => K (.string (s.extract l h))
  | _ => False
def pCut (size : Nat) (v : Value) (lo hi mx : Option Value) (K : Value → Prop) : Prop :=
  match v with
  | .slice a len cap => bndO mx cap cap fun m => bndO hi len m fun h => bndO lo 0 h fun l =>
      K (.slice (if m = l then a else a.map (·.add (l * size))) (h - l) (m - l))
  | _ => False
def pCutArr (size n : Nat) (v : Value) (lo hi mx : Option Value) (K : Value → Prop) : Prop :=
  match v with
  | .pointer (some a) => bndO mx n n fun m => bndO hi n m fun h => bndO lo 0 h fun l =>
      K (.slice (some (if m = l then a else a.add (l * size))) (h - l) (m - l))
  | _ => False
def pMax (isMax : Bool) (v u : Value) (K : Value → Prop) : Prop :=
  match v, u with
  | .int k x, .int _ y => K (.int k (if isMax then (if y > x then y else x) else (if y < x then y else x)))
  | _, _ => False
def pBuild (zero : Array Value) (places : Array (Nat × Nat)) (parts : List (Nat × Value)) (K : Value → Prop) : Prop :=
  match Instr.fill (places[·]?) zero parts with | some cs => K (.agg cs) | none => False

/-- what makes or changes memory -/
def eBox (t : TypeId) (v : Value) (w : World) (K : Value → World → Prop) : Prop :=
  K (.pointer (some ⟨w.heap.size, 0, none⟩)) (w.alloc (.cells v.cells t))
def eMap (w : World) (K : Value → World → Prop) : Prop := K (.map (some w.heap.size)) (w.alloc (.map #[] 0))
def eSt1 (p v : Value) (w : World) (K : World → Prop) : Prop :=
  v.oneCell' = true ∧ match p with
  | .pointer (some a) => (w.cell? a).isSome = true ∧ w.frozen? a = false ∧ K (w.setCell a v)
  | _ => False
def callF (P : Program) (g : FuncId) (args : Array Value) (w : World) (K : Value → World → Prop) : Prop :=
  Calls P g args w fun e w' => ∃ v, e = .returned v ∧ K v w'
def callV (P : Program) (fv : Value) (args : Array Value) (w : World) (K : Value → World → Prop) : Prop :=
  match fv with
  | .func (.func g) first captured => (∃ fn, P.funcs[g]? = some fn ∧ fn.body.isSome = true ∧ (fn.name == "runtime.NumGoroutine") = false) ∧ callF P g (first ++ args ++ captured) w K
  | _ => False

/-- any operation, as the model runs it -/
def rawF (P : Program) (o : Oper) (ev : Operand → Value) (w : World) (K : Value → World → Prop) : Prop :=
  match (execOp ev o).run P w with
  | .ok (.value v) w' => K v w'
  | .ok .skip w' => K undef w'
  | .ok (.enter g args) w' => callF P g args w' K
  | _ => False

/-! ### the formula of an operation -/
def mapA (ev : Operand → Value) (xs : Array Operand) : Array Value := (xs.toList.map ev).toArray
theorem mapA_eq (ev : Operand → Value) (xs : Array Operand) : xs.map ev = mapA ev xs := by
  apply Array.ext'
  simp [mapA]

inductive Form where
  | pure (F : (Value → Prop) → Prop)
  | read (F : World → (Value → Prop) → Prop)
  | eff (F : World → (Value → World → Prop) → Prop)

def bodied (P : Program) (g : FuncId) : Bool :=
  match P.funcs[g]? with | some fn => fn.body.isSome && !(fn.name == "runtime.NumGoroutine") | none => false
def sizeP (P : Program) (t : TypeId) : Option Nat := (P.info? t).map (·.size)
def isAggP (P : Program) (t : TypeId) : Option Bool :=
  match P.underlying t with | some (.struct _) | some (.array _ _) => some true | some _ => some false | none => none
def nilConst : TypeDesc → Value → Bool
  | .pointer _, .pointer none => true
  | .slice _, .slice none _ _ => true
  | .map _ _, .map none => true
  | .func _ _ _, .nilFunc => true
  | _, _ => false
def isShift : BinOp → Bool | .shl | .shr => true | _ => false

def formBin (P : Program) (op : BinOp) (t : TypeId) (x y : Operand) (ev : Operand → Value) : Option Form :=
  match P.underlying t with
  | some (.int _) => some (.pure (if isShift op then pShift op (ev x) (ev y) else pBin op (ev x) (ev y)))
  | some .string => if isShift op then none else some (.pure (pBin op (ev x) (ev y)))
  | some .bool => some (.pure (pBoolEq op (ev x) (ev y)))
  | some d =>
    match x, y with
    | _, .const c => if nilConst d c then some (.pure (pNil op c (ev x))) else none
    | .const c, _ => if nilConst d c then some (.pure (pNil op c (ev y))) else none
    | _, _ => none
  | none => none
def formConv (P : Program) (s d : TypeId) (x : Operand) (ev : Operand → Value) : Form :=
  match P.underlying s, P.underlying d with
  | some (.int _), some (.int k) => .pure (pConv k (ev x))
  | some .string, some .string => .pure (pStr (ev x))
  | some (.slice _), some .string => .read fun w K => rd P (convert s d (ev x)) w K
  | _, _ => .eff fun w K => ef P (convert s d (ev x)) w K
def formCut (P : Program) (t : TypeId) (x : Operand) (lo hi mx : Option Operand) (ev : Operand → Value) : Option Form :=
  if mx.isSome && hi.isNone then none else
  match P.underlying t with
  | some .string => if mx.isSome then none else some (.pure (pCutStr (ev x) (lo.map ev) (hi.map ev)))
  | some (.slice e) => (sizeP P e).map fun n => .pure (pCut n (ev x) (lo.map ev) (hi.map ev) (mx.map ev))
  | some (.array len e) => (sizeP P e).map fun n => .pure (pCutArr n len (ev x) (lo.map ev) (hi.map ev) (mx.map ev))
  | _ => none
def formField (P : Program) (t : TypeId) (i : Nat) (x : Value) : Option Form :=
  match P.underlying t with
  | some (.struct fs) => (match fs[i]? with
    | some f => (match isAggP P f.type, sizeP P f.type with
      | some true, some n => some (.pure (pPartN f.offset n x))
      | some false, some _ => some (.pure (pPart f.offset x))
      | _, _ => none)
    | none => none)
  | _ => none
def formFld (P : Program) (t : TypeId) (i : Nat) (x : Value) : Option Form :=
  match P.underlying t with
  | some (.struct fs) => (match fs[i]? with
    | some f => (match sizeP P f.type with | some (_ + 1) => some (.pure (pFld f.offset x)) | _ => none)
    | none => none)
  | _ => none
def formIxA (P : Program) (t : TypeId) (x i : Value) : Option Form :=
  match P.underlying t with
  | some (.slice e) => (sizeP P e).map fun n => .pure (pIxS n x i)
  | some (.array len e) => (sizeP P e).map fun n => .pure (pIxA n len x i)
  | _ => none
def formIx (P : Program) (t : TypeId) (x i : Value) : Option Form :=
  match P.underlying t with
  | some .string => some (.pure (pIxStr x i))
  | some (.array len e) => (match isAggP P e, sizeP P e with | some false, some 1 => some (.pure (pIxV len x i)) | _, _ => none)
  | _ => none
def placesOf (P : Program) (fs : List Field) : Option (List (Nat × Nat)) :=
  match fs with
  | [] => some []
  | f :: r => match sizeP P f.type, placesOf P r with | some n, some l => some ((f.offset, n) :: l) | _, _ => none
def formBuild (P : Program) (t : TypeId) (parts : List (Nat × Value)) : Option Form :=
  match P.underlying t, (P.info? t).bind (·.zero) with
  | some (.struct fs), some z => (placesOf P fs.toList).map fun pl => .pure (pBuild z.cells pl.toArray parts)
  | _, _ => none
def kindOf (P : Program) (t : TypeId) : Nat :=
  match P.underlying t with | some .string => 1 | some (.slice _) => 2 | some (.map _ _) => 3 | some (.int _) => 4 | _ => 0
def formCall (P : Program) (c : Call) (ty : TypeId) (ev : Operand → Value) : Option Form :=
  match c.callee with
  | .value (.func g) => if bodied P g then some (.eff fun w K => callF P g (mapA ev c.args) w K) else none
  | .value x => some (.eff fun w K => callV P (ev x) (mapA ev c.args) w K)
  | .invoke _ _ => none
  | .builtin .len => (match c.argTypes.toList, c.args.toList with
    | [t], [x] => if kindOf P t = 1 || kindOf P t = 2 then some (.pure (pLenT (kindOf P t) (ev x)))
        else some (.read fun w K => rd P (Builtin.len_ c.argTypes ty (mapA ev c.args)) w K)
    | _, _ => none)
  | .builtin .cap => (match c.argTypes.toList, c.args.toList with
    | [t], [x] => if kindOf P t = 2 then some (.pure (pCap (ev x)))
        else some (.read fun w K => rd P (Builtin.cap_ c.argTypes ty (mapA ev c.args)) w K)
    | _, _ => none)
  | .builtin .max => (match c.args.toList with
    | [x, y] => if kindOf P (c.argTypes.getD 0 0) = 4 then some (.pure (pMax true (ev x) (ev y))) else some (.read fun w K => rd P (Builtin.max_ c.argTypes ty (mapA ev c.args)) w K)
    | _ => some (.read fun w K => rd P (Builtin.max_ c.argTypes ty (mapA ev c.args)) w K))
  | .builtin .min => (match c.args.toList with
    | [x, y] => if kindOf P (c.argTypes.getD 0 0) = 4 then some (.pure (pMax false (ev x) (ev y))) else some (.read fun w K => rd P (Builtin.min_ c.argTypes ty (mapA ev c.args)) w K)
    | _ => some (.read fun w K => rd P (Builtin.min_ c.argTypes ty (mapA ev c.args)) w K))
  | .builtin .append => some (.eff fun w K => ef P (Builtin.append_ c.argTypes ty (mapA ev c.args)) w K)
  | .builtin .copy => some (.eff fun w K => ef P (Builtin.copy_ c.argTypes ty (mapA ev c.args)) w K)
  | .builtin .delete => some (.eff fun w K => ef P (Builtin.delete_ c.argTypes ty (mapA ev c.args)) w K)
  | .builtin .clear => some (.eff fun w K => ef P (Builtin.clear_ c.argTypes ty (mapA ev c.args)) w K)
  | .builtin _ => none

def formO (P : Program) (o : Oper) (ev : Operand → Value) : Option Form :=
  match o.op with
  | .move x | .assign x => some (.pure fun K => K (ev x))
  | .pick c a b => some (.pure (pPick (ev c) (ev a) (ev b)))
  | .nilCheck x => some (.pure (nilC (ev x)))
  | .extract t i => some (.pure (pExt i (ev t)))
  | .makeFunc fn fs cs => some (.pure fun K => K (.func fn (mapA ev fs) (mapA ev cs)))
  | .makeInterface t x => (match P.underlying t with | some (.interface _) => none | some _ => some (.pure fun K => K (.iface t (ev x))) | none => none)
  | .binOp op t x y _ => (match formBin P op t x y ev with
    | some f => some f
    | none => some (.read fun w K => rd P (do eqGuard op t x y (ev x) (ev y); binOp op t (ev x) (ev y)) w K))
  | .unOp .not _ x => some (.pure (pNot (ev x)))
  | .unOp .neg t x => if kindOf P t = 4 then some (.pure (pNeg (ev x))) else none
  | .unOp .xor t x => if kindOf P t = 4 then some (.pure (pXorU (ev x))) else none
  | .convert s d x => some (formConv P s d x ev)
  | .box t x => some (.eff fun w K => eBox t (ev x) w K)
  | .alloc t => (match (P.info? t).bind (·.zero) with | some z => some (.eff fun w K => eBox t z w K) | none => none)
  | .load t a => (match isAggP P t, sizeP P t with
    | some true, some n => some (.read fun w K => ldN n (ev a) w K)
    | some false, some _ => some (.read fun w K => ld1 (ev a) w K)
    | _, _ => none)
  | .store t a x => (match isAggP P t, sizeP P t with
    | some false, some 1 => some (.eff fun w K => eSt1 (ev a) (ev x) w (K undef))
    | _, _ => some (.eff fun w K => ef P (Instr.storeAt t (ev a) (ev x)) w fun _ => K undef))
  | .slice t x lo hi mx => (match formCut P t x lo hi mx ev with
    | some f => some f
    | none => some (.read fun w K => rd P (Instr.sliceAt t (ev x) (lo.map ev) (hi.map ev) (mx.map ev)) w K))
  | .fieldAddr t x i => (match formFld P t i (ev x) with | some f => some f | none => some (.read fun w K => rd P (Instr.fieldAt t (ev x) i) w K))
  | .field t x i => formField P t i (ev x)
  | .indexAddr t x i => formIxA P t (ev x) (ev i)
  | .index t x i => (match formIx P t (ev x) (ev i) with | some f => some f | none => some (.read fun w K => rd P (Instr.index t (ev x) (ev i)) w K))
  | .lookup t x i ok => some (.read fun w K => rd P (Instr.lookup t (ev x) (ev i) ok) w K)
  | .entry x => some (.read fun w K => rd P (Instr.entry (ev x)) w K)
  | .typeAssert x t u ok => some (.read fun w K => rd P (Instr.typeAssert (ev x) t u ok) w K)
  | .mapUpdate t m k x | .insert t m k x => some (.eff fun w K => ef P (Instr.mapUpdate t (ev m) (ev k) (ev x)) w fun _ => K undef)
  | .mapEntry t m k => some (.eff fun w K => ef P (Instr.mapEntry t (ev m) (ev k)) w K)
  | .entryStore t m s x => some (.eff fun w K => ef P (Instr.entryStore t (ev m) (ev s) (ev x)) w fun _ => K undef)
  | .makeMap _ none => some (.eff eMap)
  | .makeMap t (some r) => some (.eff fun w K => ef P (Instr.makeMap t (some (ev r))) w K)
  | .makeSlice t l c => some (.eff fun w K => ef P (Instr.makeSlice t (ev l) (ev c)) w K)
  | .build t parts => (match formBuild P t (parts.toList.map fun p => (p.1, ev p.2)) with
    | some f => some f
    | none => some (.read fun w K => rd P (Instr.build t (parts.toList.map fun p => (p.1, ev p.2)).toArray) w K))
  | .buildSlice t n parts => some (.eff fun w K => ef P (Instr.buildSlice t n (parts.toList.map fun p => (p.1, ev p.2)).toArray) w K)
  | .range t x => some (.eff fun w K => ef P (Instr.range t (ev x)) w K)
  | .next x s => some (.eff fun w K => ef P (Instr.next (ev x) s o.type) w K)
  | .call c => formCall P c o.type ev
  | .panic _ => some (.eff fun _ _ => False)
  | _ => none
def form (P : Program) (o : Oper) (ev : Operand → Value) : Form :=
  match formO P o ev with | some f => f | none => .eff (rawF P o ev)

end Go.Proofs.YtlfeckimhaegbaaDoor.Eng
