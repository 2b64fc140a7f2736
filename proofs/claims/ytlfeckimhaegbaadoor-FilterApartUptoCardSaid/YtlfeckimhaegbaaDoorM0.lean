/- The formulas of Go functions, printed by this session's own wpm.py. -/
import Derived.Test.YtlfeckimhaegbaaDoorEng6
import Derived.Test.YtlfeckimhaegbaaDoorProg
namespace Go.Proofs.YtlfeckimhaegbaaDoor
open Go Eng
set_option maxRecDepth 100000
theorem mixed : Tryd.prog.follows .mixedOrders = true := by kernel_rfl
/-! 3: isthmus/isthmuslaw21.FilterAnswers | join vs'': t108 | join vs_4: t152 | join vs_3: t147 | join vs_5:  | join vs_6: t12 | loop vs': t12, t15 | join vs: t47 -/
theorem bd3 : Tryd.f3.body = some (bd Tryd.f3) := rfl
def m3_1 (J_3 : List Value → World → Prop) (t92 : Value) (t86 : Value) (t40 : Value) (t31 : Value) (w_20 : World) : Prop :=
  pBin .neq t92 (.int .i64 0) fun t94 =>
  condF t94
  (pBin .neq t92 (.int .i64 6) fun t97 =>
    condF t97
    (J_3 [(.bool true)] w_20)
    (condF t86
      (J_3 [(.bool true)] w_20)
      (callF Tryd.prog 13 #[t40] w_20 fun t103 w_21 =>
        pLenT 2 t103 fun t104 =>
        pBin .neq t104 t31 fun t106 =>
        J_3 [t106] w_21)))
  (J_3 [(.bool false)] w_20)
def m3_2 (R : Value → World → Prop) (J'' : List Value → World → Prop) (vs'' : List Value) (t92 : Value) (t14 : Value) (t18 : Value) (t13 : Value) (w_22 : World) : Prop :=
  condF (vs''.getD 0 undef)
  (R (.bool false) w_22)
  (pBin .eql t92 (.int .i64 0) fun t110 =>
    condF t110
    (ld1 t14 w_22 fun t111 =>
      ldN 9 t18 w_22 fun t112 =>
      ld1 t13 w_22 fun t113 =>
      pBuild #[(.int .u8 0), (.bool false), (.int .u64 0), (.int .u64 0), (.bool false), (.int .u64 0), (.int .u64 0), (.int .u16 0), (.int .u16 0), (.int .u64 0)] #[(0, 9), (9, 1)] [(0, t112), (1, t113)] fun t114 =>
      ef Tryd.prog (Instr.buildSlice 33 1 ([(0, t114)]).toArray) w_22 fun t115 w_23 =>
      ef Tryd.prog (Builtin.append_ #[33, 33] 33 #[t111, t115]) w_23 fun t116 w_24 =>
      eSt1 t14 t116 w_24 fun w_25 =>
      J'' [] w_25)
    (J'' [] w_22))
def m3_3 (R : Value → World → Prop) (J'' : List Value → World → Prop) (t16 : Value) (t40 : Value) (t86 : Value) (t31 : Value) (t14 : Value) (t18 : Value) (t13 : Value) (w_19 : World) : Prop :=
  pFld 1 t16 fun t88 =>
  ldN 13 t88 w_19 fun t89 =>
  pFld 14 t16 fun t90 =>
  ld1 t90 w_19 fun t91 =>
  callF Tryd.prog 12 #[t40, t89, t91] w_19 fun t92 w_20 =>
  joinP (fun J_3 =>
    m3_1 J_3 t92 t86 t40 t31 w_20)
  (fun vs'' w_22 =>
    m3_2 R J'' vs'' t92 t14 t18 t13 w_22)
def m3_4 (R : Value → World → Prop) (J'' : List Value → World → Prop) (t83 : Value) (t14 : Value) (t6 : Value) (t13 : Value) (t16 : Value) (t40 : Value) (t31 : Value) (w_16 : World) : Prop :=
  eBox 37 (.agg #[(.int .u8 0), (.bool false), (.int .u64 0), (.int .u64 0), (.bool false), (.int .u64 0), (.int .u64 0), (.int .u16 0), (.int .u16 0)]) w_16 fun t18 w_17 =>
  ef Tryd.prog (Instr.storeAt 37 t18 t83) w_17 fun _ w_18 =>
  ldN 9 t18 w_18 fun t85 =>
  callV Tryd.prog (.func (.func 10) #[] #[t14, t6, t13]) #[t85] w_18 fun t86 w_19 =>
  m3_3 R J'' t16 t40 t86 t31 t14 t18 t13 w_19
def m3_5 (J_4 : List Value → World → Prop) (t132 : Value) (t121 : Value) (t126 : Value) (w_28 : World) : Prop :=
  pBin .eql t132 (.int .i64 0) fun t134 =>
  condF t121
  (pBoolEq .neq t134 (.bool true) fun t139 =>
    condF t139
    (J_4 [(.bool true)] w_28)
    (pBin .neq t132 (.int .i64 0) fun t142 =>
      condF t142
      (pBin .neq t132 (.int .i64 210) fun t145 =>
        J_4 [t145] w_28)
      (J_4 [(.bool false)] w_28)))
  (pBoolEq .neq t134 t126 fun t139' =>
    condF t139'
    (J_4 [(.bool true)] w_28)
    (pBin .neq t132 (.int .i64 0) fun t142' =>
      condF t142'
      (pBin .neq t132 (.int .i64 210) fun t145' =>
        J_4 [t145'] w_28)
      (J_4 [(.bool false)] w_28)))
def m3_6 (J'' : List Value → World → Prop) (vs_4 : List Value) (t14 : Value) (t16 : Value) (t13 : Value) (w_30 : World) : Prop :=
  condF (vs_4.getD 0 undef)
  (ld1 t14 w_30 fun t153 =>
    pFld 1 t16 fun t154 =>
    pFld 0 t154 fun t155 =>
    ldN 9 t155 w_30 fun t156 =>
    ld1 t13 w_30 fun t157 =>
    pBuild #[(.int .u8 0), (.bool false), (.int .u64 0), (.int .u64 0), (.bool false), (.int .u64 0), (.int .u64 0), (.int .u16 0), (.int .u16 0), (.int .u64 0)] #[(0, 9), (9, 1)] [(0, t156), (1, t157)] fun t158 =>
    ef Tryd.prog (Instr.buildSlice 33 1 ([(0, t158)]).toArray) w_30 fun t159 w_31 =>
    ef Tryd.prog (Builtin.append_ #[33, 33] 33 #[t153, t159]) w_31 fun t160 w_32 =>
    eSt1 t14 t160 w_32 fun w_33 =>
    J'' [] w_33)
  (J'' [] w_30)
def m3_7 (R : Value → World → Prop) (J'' : List Value → World → Prop) (t132 : Value) (t121 : Value) (t126 : Value) (t14 : Value) (t16 : Value) (t13 : Value) (w_28 : World) : Prop :=
  joinP (fun J_4 =>
    m3_5 J_4 t132 t121 t126 w_28)
  (fun vs_3 w_29 =>
    condF (vs_3.getD 0 undef)
    (R (.bool false) w_29)
    (joinP (fun J_5 =>
        pNot t121 fun t149 =>
        condF t149
        (J_5 [t126] w_29)
        (J_5 [(.bool false)] w_29))
      (fun vs_4 w_30 =>
        m3_6 J'' vs_4 t14 t16 t13 w_30)))
def m3_8 (R : Value → World → Prop) (J'' : List Value → World → Prop) (t16 : Value) (t40 : Value) (t121 : Value) (t126 : Value) (t14 : Value) (t13 : Value) (w_27 : World) : Prop :=
  pFld 1 t16 fun t128 =>
  ldN 13 t128 w_27 fun t129 =>
  pFld 14 t16 fun t130 =>
  ld1 t130 w_27 fun t131 =>
  callF Tryd.prog 15 #[t40, t129, t131] w_27 fun t132 w_28 =>
  m3_7 R J'' t132 t121 t126 t14 t16 t13 w_28
def m3_9 (R : Value → World → Prop) (J'' : List Value → World → Prop) (t120 : Value) (t16 : Value) (t14 : Value) (t6 : Value) (t13 : Value) (t40 : Value) (w_26 : World) : Prop :=
  pBin .geq t120 (.int .i64 0) fun t121 =>
  pFld 1 t16 fun t123 =>
  pFld 0 t123 fun t124 =>
  ldN 9 t124 w_26 fun t125 =>
  callV Tryd.prog (.func (.func 10) #[] #[t14, t6, t13]) #[t125] w_26 fun t126 w_27 =>
  m3_8 R J'' t16 t40 t121 t126 t14 t13 w_27
def m3_10 (R : Value → World → Prop) (J'' : List Value → World → Prop) (vs' : List Value) (t16 : Value) (t14 : Value) (t6 : Value) (t13 : Value) (t40 : Value) (t31 : Value) (w_15 : World) : Prop :=
  pFld 0 t16 fun t77 =>
  ld1 t77 w_15 fun t78 =>
  pBin .eql t78 (.int .i64 0) fun t79 =>
  condF t79
  (pFld 1 t16 fun t80 =>
    pFld 0 t80 fun t81 =>
    ldN 9 t81 w_15 fun t82 =>
    callF Tryd.prog 11 #[t82] w_15 fun t83 w_16 =>
    m3_4 R J'' t83 t14 t6 t13 t16 t40 t31 w_16)
  (pFld 1 t16 fun t118 =>
    ldN 13 t118 w_15 fun t119 =>
    callF Tryd.prog 14 #[(vs'.getD 0 undef), t119] w_15 fun t120 w_26 =>
    m3_9 R J'' t120 t16 t14 t6 t13 t40 w_26)
def m3_11 (R : Value → World → Prop) (J' : List Value → World → Prop) (vs' : List Value) (t3 : Value) (t40 : Value) (t13 : Value) (t14 : Value) (t6 : Value) (t31 : Value) (w_10 : World) : Prop :=
  pIxS 16 t3 (vs'.getD 1 undef) fun t57 =>
  ldN 16 t57 w_10 fun t58 =>
  eBox 41 (.agg #[(.int .i64 0), (.int .u8 0), (.bool false), (.int .u64 0), (.int .u64 0), (.bool false), (.int .u64 0), (.int .u64 0), (.int .u16 0), (.int .u16 0), (.int .u8 0), (.int .u8 0), (.int .u8 0), (.int .i64 0), (.int .u64 0), (.slice none 0 0)]) w_10 fun t16 w_11 =>
  ef Tryd.prog (Instr.storeAt 41 t16 t58) w_11 fun _ w_12 =>
  pFld 14 t16 fun t59 =>
  ld1 t59 w_12 fun t60 =>
  pBin .geq t60 (.int .u64 4611686018427387904) fun t61 =>
  condF t61
  (J' [(vs'.getD 0 undef)] w_12)
  (pFld 0 t16 fun t62 =>
    ld1 t62 w_12 fun t63 =>
    pBin .eql t63 (.int .i64 2) fun t64 =>
    condF t64
    (pFld 15 t16 fun t66 =>
      ld1 t66 w_12 fun t67 =>
      callF Tryd.prog 8 #[t67] w_12 fun t68 w_13 =>
      callF Tryd.prog 9 #[t40, t68] w_13 fun _ w_14 =>
      pFld 15 t16 fun t70 =>
      ld1 t70 w_14 fun t71 =>
      J' [t71] w_14)
    (ld1 t13 w_12 fun t72 =>
      pFld 14 t16 fun t73 =>
      ld1 t73 w_12 fun t74 =>
      pMax true t72 t74 fun t75 =>
      eSt1 t13 t75 w_12 fun w_15 =>
      joinP (fun J'' =>
        m3_10 R J'' vs' t16 t14 t6 t13 t40 t31 w_15)
      (fun _ w_34 =>
        callF Tryd.prog 13 #[t40] w_34 fun t162 w_35 =>
        pLenT 2 t162 fun t163 =>
        pBin .gtr t163 t31 fun t165 =>
        condF t165
        (R (.bool false) w_35)
        (J' [(vs'.getD 0 undef)] w_35))))
def m3_12 (R : Value → World → Prop) (again : List Value → World → Prop) (vs' : List Value) (t3 : Value) (t40 : Value) (t13 : Value) (t14 : Value) (t6 : Value) (t31 : Value) (w_10 : World) : Prop :=
  pLenT 2 t3 fun t51 =>
  pBin .lss (vs'.getD 1 undef) t51 fun t52 =>
  condF t52
  (joinP (fun J' =>
      m3_11 R J' vs' t3 t40 t13 t14 t6 t31 w_10)
    (fun vs_6 w_36 =>
      pBin .add (vs'.getD 1 undef) (.int .i64 1) fun t54 =>
      again [(vs_6.getD 0 undef), t54] w_36))
  (callF Tryd.prog 6 #[] w_10 fun t166 w_37 =>
    R t166 w_37)
def m3_13 (R : Value → World → Prop) (vs : List Value) (t0 : Value) (t3 : Value) (t40 : Value) (t6 : Value) (t31 : Value) (w_6 : World) : Prop :=
  condF (vs.getD 0 undef)
  (R (.bool false) w_6)
  (eBox 32 (.int .u64 0) w_6 fun t13 w_7 =>
    eSt1 t13 (.int .u64 0) w_7 fun w_8 =>
    eBox 33 (.slice none 0 0) w_8 fun t14 w_9 =>
    loopP [t0, (.int .i64 0)] w_9 (fun vs' w_10 again =>
      m3_12 R again vs' t3 t40 t13 t14 t6 t31 w_10))
def m3_14 (R : Value → World → Prop) (t39 : Value) (t0 : Value) (t3 : Value) (t6 : Value) (t31 : Value) (w_5 : World) : Prop :=
  pExt 0 t39 fun t40 =>
  pExt 1 t39 fun t41 =>
  joinP (fun J =>
    pBin .neq t41 (.int .i64 0) fun t43 =>
    condF t43
    (J [(.bool true)] w_5)
    (pNil .eql (.pointer none) t40 fun t46 =>
      J [t46] w_5))
  (fun vs w_6 =>
    m3_13 R vs t0 t3 t40 t6 t31 w_6)
def m3_15 (R : Value → World → Prop) (t26 : Value) (t1 : Value) (t6 : Value) (t0 : Value) (t3 : Value) (w'' : World) : Prop :=
  condF t26
  (callF Tryd.prog 6 #[] w'' fun t27 w_3 =>
    R t27 w_3)
  (pConv .i64 t1 fun t29 =>
    pBin .rem t29 (.int .i64 20) fun t30 =>
    pBin .add t30 (.int .i64 1) fun t31 =>
    ld1 t6 w''.drew fun t36 =>
    pConv .u64 t36 fun t37 =>
    pBin .add t37 (.int .u64 1) fun t38 =>
    callF Tryd.prog 8 #[t0] w''.drew fun t34 w_4 =>
    ld1 t6 w_4 (fun u => u = t36) ∧
    callF Tryd.prog 7 #[t34, t31, t38] w_4 fun t39 w_5 =>
    m3_14 R t39 t0 t3 t6 t31 w_5)
def m3 (R : Value → World → Prop) (t0 t1 t2 t3 : Value) (w : World) : Prop :=
  eBox 23 t2 w fun t6 w' =>
  callF Tryd.prog 5 #[t0, t3] w' fun t26 w'' =>
  m3_15 R t26 t1 t6 t0 t3 w''
theorem e3 (R : Value → World → Prop) (t0 t1 t2 t3 : Value) (w : World) : bodyF Tryd.prog Tryd.f3 (bd Tryd.f3) [t0, t1, t2, t3] w R = m3 R t0 t1 t2 t3 w := by kernel_rfl
theorem c3 (R : Value → World → Prop) (t0 t1 t2 t3 : Value) (w : World) (h : m3 R t0 t1 t2 t3 w) : Calls Tryd.prog 3 #[t0, t1, t2, t3] w fun e w' => ∃ v, e = .returned v ∧ R v w' :=
  calls_of_F mixed Tryd.func3 bd3 (Nat.le_of_ble_eq_true rfl) (by rw [e3]; exact h)
/-! 4: isthmus/isthmuslaw21.FilterApart | join vs_4: t144 | join vs_3: t17, t18 | join vs'': t16 | loop vs': t14 | join vs: t54 -/
theorem bd4 : Tryd.f4.body = some (bd Tryd.f4) := rfl
def m4_1 (J : List Value → World → Prop) (t31 : Value) (t40 : Value) (t30 : Value) (t39 : Value) (w_7 : World) : Prop :=
  pBin .neq t31 (.int .i64 0) fun t42 =>
  condF t42
  (J [(.bool true)] w_7)
  (pBin .neq t40 (.int .i64 0) fun t45 =>
    condF t45
    (J [(.bool true)] w_7)
    (pNil .eql (.pointer none) t30 fun t49 =>
      condF t49
      (J [(.bool true)] w_7)
      (pNil .eql (.pointer none) t39 fun t53 =>
        J [t53] w_7)))
def m4_2 (J' : List Value → World → Prop) (t15 : Value) (t7 : Value) (t13 : Value) (w_14 : World) : Prop :=
  pFld 1 t15 fun t67 =>
  pFld 0 t67 fun t68 =>
  ldN 9 t68 w_14 fun t69 =>
  ldN 9 t7 w_14 fun t70 =>
  rd Tryd.prog (do eqGuard .eql 37 (.tmp 69) (.tmp 70) t69 t70; binOp .eql 37 t69 t70) w_14 fun t71 =>
  condF t71
  (J' [(.bool true)] w_14)
  (pFld 1 t15 fun t73 =>
    pFld 0 t73 fun t74 =>
    ldN 9 t74 w_14 fun t75 =>
    ldN 9 t13 w_14 fun t76 =>
    rd Tryd.prog (do eqGuard .eql 37 (.tmp 75) (.tmp 76) t75 t76; binOp .eql 37 t75 t76) w_14 fun t77 =>
    J' [t77] w_14)
def m4_3 (J'' : List Value → World → Prop) (t30 : Value) (t108 : Value) (t15 : Value) (t39 : Value) (w_16 : World) : Prop :=
  callF Tryd.prog 9 #[t30, t108] w_16 fun _ w_17 =>
  pFld 15 t15 fun t111 =>
  ld1 t111 w_17 fun t112 =>
  callF Tryd.prog 8 #[t112] w_17 fun t113 w_18 =>
  callF Tryd.prog 9 #[t39, t113] w_18 fun _ w_19 =>
  J'' [(.int .i64 0), (.int .i64 0)] w_19
def m4_4 (J'' : List Value → World → Prop) (vs'' : List Value) (t15 : Value) (t39 : Value) (t122 : Value) (t7 : Value) (w_20 : World) : Prop :=
  condF (vs''.getD 0 undef)
  (pFld 1 t15 fun t125 =>
    ldN 13 t125 w_20 fun t126 =>
    pFld 14 t15 fun t127 =>
    ld1 t127 w_20 fun t128 =>
    callF Tryd.prog 12 #[t39, t126, t128] w_20 fun t129 w_21 =>
    J'' [t122, t129] w_21)
  (pFld 0 t7 fun t131 =>
    ld1 t131 w_20 fun t132 =>
    pBin .xor t132 (.int .u8 1) fun t133 =>
    pBuild #[(.int .u8 0), (.bool false), (.int .u64 0), (.int .u64 0), (.bool false), (.int .u64 0), (.int .u64 0), (.int .u16 0), (.int .u16 0)] #[(0, 1), (1, 3), (4, 3), (7, 1), (8, 1)] [(0, t133)] fun t134 =>
    pBuild #[(.int .u8 0), (.bool false), (.int .u64 0), (.int .u64 0), (.bool false), (.int .u64 0), (.int .u64 0), (.int .u16 0), (.int .u16 0), (.int .u8 0), (.int .u8 0), (.int .u8 0), (.int .i64 0)] #[(0, 9), (9, 1), (10, 1), (11, 1), (12, 1)] [(0, t134)] fun t135 =>
    pFld 14 t15 fun t136 =>
    ld1 t136 w_20 fun t137 =>
    callF Tryd.prog 15 #[t39, t135, t137] w_20 fun _ w_22 =>
    J'' [t122, (.int .i64 0)] w_22)
def m4_5 (J'' : List Value → World → Prop) (vs'' : List Value) (t15 : Value) (t39 : Value) (t86 : Value) (t7 : Value) (w_23 : World) : Prop :=
  condF (vs''.getD 0 undef)
  (pFld 1 t15 fun t89 =>
    ldN 13 t89 w_23 fun t90 =>
    pFld 14 t15 fun t91 =>
    ld1 t91 w_23 fun t92 =>
    callF Tryd.prog 15 #[t39, t90, t92] w_23 fun t93 w_24 =>
    J'' [t86, t93] w_24)
  (pFld 0 t7 fun t95 =>
    ld1 t95 w_23 fun t96 =>
    pBin .xor t96 (.int .u8 1) fun t97 =>
    pBuild #[(.int .u8 0), (.bool false), (.int .u64 0), (.int .u64 0), (.bool false), (.int .u64 0), (.int .u64 0), (.int .u16 0), (.int .u16 0)] #[(0, 1), (1, 3), (4, 3), (7, 1), (8, 1)] [(0, t97)] fun t98 =>
    pBuild #[(.int .u8 0), (.bool false), (.int .u64 0), (.int .u64 0), (.bool false), (.int .u64 0), (.int .u64 0), (.int .u16 0), (.int .u16 0), (.int .u8 0), (.int .u8 0), (.int .u8 0), (.int .i64 0)] #[(0, 9), (9, 1), (10, 1), (11, 1), (12, 1)] [(0, t98)] fun t99 =>
    pFld 14 t15 fun t100 =>
    ld1 t100 w_23 fun t101 =>
    callF Tryd.prog 15 #[t39, t99, t101] w_23 fun _ w_25 =>
    J'' [t86, (.int .i64 0)] w_25)
def m4_6 (J'' : List Value → World → Prop) (vs'' : List Value) (t15 : Value) (t30 : Value) (t39 : Value) (t7 : Value) (w_15 : World) : Prop :=
  pFld 0 t15 fun t79 =>
  ld1 t79 w_15 fun t80 =>
  pBin .eql t80 (.int .i64 2) fun t104 =>
  condF t104
  (pFld 15 t15 fun t106 =>
    ld1 t106 w_15 fun t107 =>
    callF Tryd.prog 8 #[t107] w_15 fun t108 w_16 =>
    m4_3 J'' t30 t108 t15 t39 w_16)
  (pBin .eql t80 (.int .i64 0) fun t116 =>
    condF t116
    (pFld 1 t15 fun t118 =>
      ldN 13 t118 w_15 fun t119 =>
      pFld 14 t15 fun t120 =>
      ld1 t120 w_15 fun t121 =>
      callF Tryd.prog 12 #[t30, t119, t121] w_15 fun t122 w_20 =>
      m4_4 J'' vs'' t15 t39 t122 t7 w_20)
    (pFld 1 t15 fun t82 =>
      ldN 13 t82 w_15 fun t83 =>
      pFld 14 t15 fun t84 =>
      ld1 t84 w_15 fun t85 =>
      callF Tryd.prog 15 #[t30, t83, t85] w_15 fun t86 w_23 =>
      m4_5 J'' vs'' t15 t39 t86 t7 w_23))
def m4_7 (R : Value → World → Prop) (again : List Value → World → Prop) (vs'' : List Value) (vs_3 : List Value) (vs' : List Value) (w_26 : World) : Prop :=
  joinP (fun J_3 =>
    condF (vs''.getD 0 undef)
    (pBin .neq (vs_3.getD 0 undef) (vs_3.getD 1 undef) fun t143 =>
      J_3 [t143] w_26)
    (J_3 [(.bool false)] w_26))
  (fun vs_4 w_27 =>
    condF (vs_4.getD 0 undef)
    (R (.bool false) w_27)
    (pBin .add (vs'.getD 0 undef) (.int .i64 1) fun t62 =>
      again [t62] w_27))
def m4_8 (R : Value → World → Prop) (again : List Value → World → Prop) (vs' : List Value) (t2 : Value) (t7 : Value) (t13 : Value) (t30 : Value) (t39 : Value) (w_12 : World) : Prop :=
  pLenT 2 t2 fun t59 =>
  pBin .lss (vs'.getD 0 undef) t59 fun t60 =>
  condF t60
  (pIxS 16 t2 (vs'.getD 0 undef) fun t65 =>
    ldN 16 t65 w_12 fun t66 =>
    eBox 41 (.agg #[(.int .i64 0), (.int .u8 0), (.bool false), (.int .u64 0), (.int .u64 0), (.bool false), (.int .u64 0), (.int .u64 0), (.int .u16 0), (.int .u16 0), (.int .u8 0), (.int .u8 0), (.int .u8 0), (.int .i64 0), (.int .u64 0), (.slice none 0 0)]) w_12 fun t15 w_13 =>
    ef Tryd.prog (Instr.storeAt 41 t15 t66) w_13 fun _ w_14 =>
    joinP (fun J' =>
      m4_2 J' t15 t7 t13 w_14)
    (fun vs'' w_15 =>
      joinP (fun J'' =>
        m4_6 J'' vs'' t15 t30 t39 t7 w_15)
      (fun vs_3 w_26 =>
        m4_7 R again vs'' vs_3 vs' w_26)))
  (callF Tryd.prog 6 #[] w_12 fun t145 w_28 =>
    R t145 w_28)
def m4_9 (R : Value → World → Prop) (t56 : Value) (t2 : Value) (t7 : Value) (t30 : Value) (t39 : Value) (w_9 : World) : Prop :=
  eBox 37 (.agg #[(.int .u8 0), (.bool false), (.int .u64 0), (.int .u64 0), (.bool false), (.int .u64 0), (.int .u64 0), (.int .u16 0), (.int .u16 0)]) w_9 fun t13 w_10 =>
  ef Tryd.prog (Instr.storeAt 37 t13 t56) w_10 fun _ w_11 =>
  loopP [(.int .i64 0)] w_11 (fun vs' w_12 again =>
    m4_8 R again vs' t2 t7 t13 t30 t39 w_12)
def m4_10 (R : Value → World → Prop) (t38 : Value) (t31 : Value) (t30 : Value) (t7 : Value) (t2 : Value) (w_7 : World) : Prop :=
  pExt 0 t38 fun t39 =>
  pExt 1 t38 fun t40 =>
  joinP (fun J =>
    m4_1 J t31 t40 t30 t39 w_7)
  (fun vs w_8 =>
    condF (vs.getD 0 undef)
    (R (.bool false) w_8)
    (ldN 9 t7 w_8 fun t55 =>
      callF Tryd.prog 11 #[t55] w_8 fun t56 w_9 =>
      m4_9 R t56 t2 t7 t30 t39 w_9))
def m4_11 (R : Value → World → Prop) (t29 : Value) (t0 : Value) (t1 : Value) (t7 : Value) (t2 : Value) (w_5 : World) : Prop :=
  pExt 0 t29 fun t30 =>
  pExt 1 t29 fun t31 =>
  callF Tryd.prog 8 #[t0] w_5 fun t34 w_6 =>
  pConv .u64 t1 fun t36 =>
  pBin .add t36 (.int .u64 1) fun t37 =>
  callF Tryd.prog 7 #[t34, (.int .i64 1024), t37] w_6 fun t38 w_7 =>
  m4_10 R t38 t31 t30 t7 t2 w_7
def m4_12 (R : Value → World → Prop) (t21 : Value) (t0 : Value) (t1 : Value) (t7 : Value) (t2 : Value) (w'' : World) : Prop :=
  condF t21
  (callF Tryd.prog 6 #[] w'' fun t22 w_3 =>
    R t22 w_3)
  (callF Tryd.prog 8 #[t0] w'' fun t25 w_4 =>
    pConv .u64 t1 fun t27 =>
    pBin .add t27 (.int .u64 1) fun t28 =>
    callF Tryd.prog 7 #[t25, (.int .i64 1024), t28] w_4 fun t29 w_5 =>
    m4_11 R t29 t0 t1 t7 t2 w_5)
def m4 (R : Value → World → Prop) (t0 t1 t2 t3 : Value) (w : World) : Prop :=
  eBox 37 t3 w fun t7 w' =>
  callF Tryd.prog 5 #[t0, t2] w' fun t21 w'' =>
  m4_12 R t21 t0 t1 t7 t2 w''
theorem e4 (R : Value → World → Prop) (t0 t1 t2 t3 : Value) (w : World) : bodyF Tryd.prog Tryd.f4 (bd Tryd.f4) [t0, t1, t2, t3] w R = m4 R t0 t1 t2 t3 w := by kernel_rfl
theorem c4 (R : Value → World → Prop) (t0 t1 t2 t3 : Value) (w : World) (h : m4 R t0 t1 t2 t3 w) : Calls Tryd.prog 4 #[t0, t1, t2, t3] w fun e w' => ∃ v, e = .returned v ∧ R v w' :=
  calls_of_F mixed Tryd.func4 bd4 (Nat.le_of_ble_eq_true rfl) (by rw [e4]; exact h)
/-! 5: isthmus/isthmuslaw21.heavy | join vs'': t4 | join vs': t16 | loop vs: t5, t6 -/
theorem bd5 : Tryd.f5.body = some (bd Tryd.f5) := rfl
def m5_1 (R : Value → World → Prop) (again : List Value → World → Prop) (vs' : List Value) (vs : List Value) (t1 : Value) (w_3 : World) : Prop :=
  condF (vs'.getD 0 undef)
  (pIxS 16 t1 (vs.getD 1 undef) fun t22 =>
    pFld 15 t22 fun t23 =>
    ld1 t23 w_3 fun t24 =>
    callF Tryd.prog 16 #[t24] w_3 fun t25 w_4 =>
    pBin .add (vs.getD 0 undef) t25 fun t26 =>
    pBin .add (vs.getD 1 undef) (.int .i64 1) fun t18 =>
    again [t26, t18] w_4)
  (joinP (fun J' =>
      pBin .gtr (vs.getD 0 undef) (.int .i64 600) fun t28 =>
      condF t28
      (J' [(.bool true)] w_3)
      (pLenT 2 t1 fun t31 =>
        pBin .gtr t31 (.int .i64 200) fun t32 =>
        J' [t32] w_3))
    (fun vs'' w_5 =>
      R (vs''.getD 0 undef) w_5))
def m5_2 (R : Value → World → Prop) (again : List Value → World → Prop) (vs : List Value) (t1 : Value) (w'' : World) : Prop :=
  joinP (fun J =>
    pLenT 2 t1 fun t11 =>
    pBin .lss (vs.getD 1 undef) t11 fun t12 =>
    condF t12
    (pBin .lss (vs.getD 1 undef) (.int .i64 300) fun t15 =>
      J [t15] w'')
    (J [(.bool false)] w''))
  (fun vs' w_3 =>
    m5_1 R again vs' vs t1 w_3)
def m5 (R : Value → World → Prop) (t0 t1 : Value) (w : World) : Prop :=
  callF Tryd.prog 16 #[t0] w fun t8 w' =>
  loopP [t8, (.int .i64 0)] w' (fun vs w'' again =>
    m5_2 R again vs t1 w'')
theorem e5 (R : Value → World → Prop) (t0 t1 : Value) (w : World) : bodyF Tryd.prog Tryd.f5 (bd Tryd.f5) [t0, t1] w R = m5 R t0 t1 w := by kernel_rfl
theorem c5 (R : Value → World → Prop) (t0 t1 : Value) (w : World) (h : m5 R t0 t1 w) : Calls Tryd.prog 5 #[t0, t1] w fun e w' => ∃ v, e = .returned v ∧ R v w' :=
  calls_of_F mixed Tryd.func5 bd5 (Nat.le_of_ble_eq_true rfl) (by rw [e5]; exact h)
/-! 6: isthmus/isthmuslaw21.works | join vs': t0 | join vs: t20 -/
theorem bd6 : Tryd.f6.body = some (bd Tryd.f6) := rfl
def m6_1 (J' : List Value → World → Prop) (t24 : Value) (t29 : Value) (t33 : Value) (t37 : Value) (t10 : Value) (w_9 : World) : Prop :=
  pBin .eql t24 (.int .i64 210) fun t39 =>
  condF t39
  (pBin .eql t29 (.int .i64 0) fun t42 =>
    condF t42
    (pBin .eql t33 (.int .i64 0) fun t46 =>
      condF t46
      (pBin .eql t37 (.int .i64 210) fun t50 =>
        condF t50
        (callF Tryd.prog 13 #[t10] w_9 fun t54 w_10 =>
          pLenT 2 t54 fun t55 =>
          pBin .eql t55 (.int .i64 0) fun t56 =>
          J' [t56] w_10)
        (J' [(.bool false)] w_9))
      (J' [(.bool false)] w_9))
    (J' [(.bool false)] w_9))
  (J' [(.bool false)] w_9)
def m6_2 (R : Value → World → Prop) (t3 : Value) (t10 : Value) (t24 : Value) (t29 : Value) (t33 : Value) (w_8 : World) : Prop :=
  ldN 9 t3 w_8 fun t35 =>
  pBuild #[(.int .u8 0), (.bool false), (.int .u64 0), (.int .u64 0), (.bool false), (.int .u64 0), (.int .u64 0), (.int .u16 0), (.int .u16 0), (.int .u8 0), (.int .u8 0), (.int .u8 0), (.int .i64 0)] #[(0, 9), (9, 1), (10, 1), (11, 1), (12, 1)] [(0, t35)] fun t36 =>
  callF Tryd.prog 15 #[t10, t36, (.int .u64 24)] w_8 fun t37 w_9 =>
  joinP (fun J' =>
    m6_1 J' t24 t29 t33 t37 t10 w_9)
  (fun vs' w_11 =>
    R (vs'.getD 0 undef) w_11)
def m6_3 (R : Value → World → Prop) (t3 : Value) (t10 : Value) (t24 : Value) (t29 : Value) (w_7 : World) : Prop :=
  ldN 9 t3 w_7 fun t31 =>
  pBuild #[(.int .u8 0), (.bool false), (.int .u64 0), (.int .u64 0), (.bool false), (.int .u64 0), (.int .u64 0), (.int .u16 0), (.int .u16 0), (.int .u8 0), (.int .u8 0), (.int .u8 0), (.int .i64 0)] #[(0, 9), (9, 1), (10, 1), (11, 1), (12, 1)] [(0, t31)] fun t32 =>
  callF Tryd.prog 15 #[t10, t32, (.int .u64 5)] w_7 fun t33 w_8 =>
  m6_2 R t3 t10 t24 t29 t33 w_8
def m6_4 (R : Value → World → Prop) (t27 : Value) (t10 : Value) (t3 : Value) (t24 : Value) (w_6 : World) : Prop :=
  pBuild #[(.int .u8 0), (.bool false), (.int .u64 0), (.int .u64 0), (.bool false), (.int .u64 0), (.int .u64 0), (.int .u16 0), (.int .u16 0), (.int .u8 0), (.int .u8 0), (.int .u8 0), (.int .i64 0)] #[(0, 9), (9, 1), (10, 1), (11, 1), (12, 1)] [(0, t27)] fun t28 =>
  callF Tryd.prog 12 #[t10, t28, (.int .u64 1)] w_6 fun t29 w_7 =>
  m6_3 R t3 t10 t24 t29 w_7
def m6_5 (R : Value → World → Prop) (vs : List Value) (t3 : Value) (t10 : Value) (w_4 : World) : Prop :=
  condF (vs.getD 0 undef)
  (R (.bool false) w_4)
  (ldN 9 t3 w_4 fun t22 =>
    pBuild #[(.int .u8 0), (.bool false), (.int .u64 0), (.int .u64 0), (.bool false), (.int .u64 0), (.int .u64 0), (.int .u16 0), (.int .u16 0), (.int .u8 0), (.int .u8 0), (.int .u8 0), (.int .i64 0)] #[(0, 9), (9, 1), (10, 1), (11, 1), (12, 1)] [(0, t22)] fun t23 =>
    callF Tryd.prog 15 #[t10, t23, (.int .u64 1)] w_4 fun t24 w_5 =>
    ldN 9 t3 w_5 fun t26 =>
    callF Tryd.prog 11 #[t26] w_5 fun t27 w_6 =>
    m6_4 R t27 t10 t3 t24 w_6)
def m6_6 (R : Value → World → Prop) (t9 : Value) (w' : World) : Prop :=
  pExt 0 t9 fun t10 =>
  pExt 1 t9 fun t11 =>
  pBuild #[(.bool false), (.int .u64 0), (.int .u64 0)] #[(0, 1), (1, 1), (2, 1)] [(2, (.int .u64 1))] fun t12 =>
  pBuild #[(.bool false), (.int .u64 0), (.int .u64 0)] #[(0, 1), (1, 1), (2, 1)] [(2, (.int .u64 2))] fun t13 =>
  pBuild #[(.int .u8 0), (.bool false), (.int .u64 0), (.int .u64 0), (.bool false), (.int .u64 0), (.int .u64 0), (.int .u16 0), (.int .u16 0)] #[(0, 1), (1, 3), (4, 3), (7, 1), (8, 1)] [(0, (.int .u8 17)), (1, t12), (2, t13), (3, (.int .u16 5)), (4, (.int .u16 6))] fun t14 =>
  eBox 37 (.agg #[(.int .u8 0), (.bool false), (.int .u64 0), (.int .u64 0), (.bool false), (.int .u64 0), (.int .u64 0), (.int .u16 0), (.int .u16 0)]) w' fun t3 w'' =>
  ef Tryd.prog (Instr.storeAt 37 t3 t14) w'' fun _ w_3 =>
  joinP (fun J =>
    pBin .neq t11 (.int .i64 0) fun t16 =>
    condF t16
    (J [(.bool true)] w_3)
    (pNil .eql (.pointer none) t10 fun t19 =>
      J [t19] w_3))
  (fun vs w_4 =>
    m6_5 R vs t3 t10 w_4)
def m6 (R : Value → World → Prop) (w : World) : Prop :=
  callF Tryd.prog 7 #[(.slice none 0 0), (.int .i64 1), (.int .u64 10)] w fun t9 w' =>
  m6_6 R t9 w'
theorem e6 (R : Value → World → Prop) (w : World) : bodyF Tryd.prog Tryd.f6 (bd Tryd.f6) [] w R = m6 R w := by kernel_rfl
theorem c6 (R : Value → World → Prop) (w : World) (h : m6 R w) : Calls Tryd.prog 6 #[] w fun e w' => ∃ v, e = .returned v ∧ R v w' :=
  calls_of_F mixed Tryd.func6 bd6 (Nat.le_of_ble_eq_true rfl) (by rw [e6]; exact h)
/-! 7: isthmus/filter.New | join vs: t21 -/
theorem bd7 : Tryd.f7.body = some (bd Tryd.f7) := rfl
def m7_1 (J : List Value → World → Prop) (t1 : Value) (t2 : Value) (w : World) : Prop :=
  pBin .lss t1 (.int .i64 1) fun t9 =>
  condF t9
  (J [(.bool true)] w)
  (pBin .gtr t1 (.int .i64 1024) fun t12 =>
    condF t12
    (J [(.bool true)] w)
    (pBin .lss t2 (.int .u64 1) fun t16 =>
      condF t16
      (J [(.bool true)] w)
      (pBin .gtr t2 (.int .u64 4294967296) fun t20 =>
        J [t20] w)))
def m7_2 (R : Value → World → Prop) (t23 : Value) (t1 : Value) (t2 : Value) (w'' : World) : Prop :=
  eMap w'' fun t24 w_3 =>
  pBuild #[(.slice none 0 0), (.slice none 0 0), (.map none), (.int .i64 0), (.int .u64 0), (.int .u64 0)] #[(0, 1), (1, 1), (2, 1), (3, 1), (4, 1), (5, 1)] [(0, t23), (2, t24), (3, t1), (4, t2)] fun t27 =>
  eBox 56 t27 w_3 fun t28 w_4 =>
  R (.tuple #[t28, (.int .i64 0)]) w_4
def m7 (R : Value → World → Prop) (t0 t1 t2 : Value) (w : World) : Prop :=
  joinP (fun J =>
    m7_1 J t1 t2 w)
  (fun vs w' =>
    condF (vs.getD 0 undef)
    (R (.tuple #[(.pointer none), (.int .i64 2)]) w')
    (callF Tryd.prog 17 #[t0] w' fun t23 w'' =>
      m7_2 R t23 t1 t2 w''))
theorem e7 (R : Value → World → Prop) (t0 t1 t2 : Value) (w : World) : bodyF Tryd.prog Tryd.f7 (bd Tryd.f7) [t0, t1, t2] w R = m7 R t0 t1 t2 w := by kernel_rfl
theorem c7 (R : Value → World → Prop) (t0 t1 t2 : Value) (w : World) (h : m7 R t0 t1 t2 w) : Calls Tryd.prog 7 #[t0, t1, t2] w fun e w' => ∃ v, e = .returned v ∧ R v w' :=
  calls_of_F mixed Tryd.func7 bd7 (Nat.le_of_ble_eq_true rfl) (by rw [e7]; exact h)
/-! 8: isthmus/isthmuslaw21.copied | loop vs: t3, t4 -/
theorem bd8 : Tryd.f8.body = some (bd Tryd.f8) := rfl
def m8_1 (R : Value → World → Prop) (again : List Value → World → Prop) (vs : List Value) (t0 : Value) (w' : World) : Prop :=
  pLenT 2 t0 fun t8 =>
  pBin .lss (vs.getD 1 undef) t8 fun t9 =>
  condF t9
  (pIxS 4 t0 (vs.getD 1 undef) fun t14 =>
    ldN 4 t14 w' fun t15 =>
    eBox 61 (.agg #[(.slice none 0 0), (.slice none 0 0), (.slice none 0 0), (.slice none 0 0)]) w' fun t5 w'' =>
    ef Tryd.prog (Instr.storeAt 61 t5 t15) w'' fun _ w_3 =>
    pFld 0 t5 fun t17 =>
    ld1 t17 w_3.drew fun t18 =>
    pFld 1 t5 fun t20 =>
    ld1 t20 w_3.drew fun t21 =>
    pFld 2 t5 fun t23 =>
    ld1 t23 w_3.drew fun t24 =>
    pFld 3 t5 fun t26 =>
    ld1 t26 w_3.drew fun t27 =>
    ef Tryd.prog (Builtin.append_ #[57, 57] 57 #[(.slice none 0 0), t18]) w_3.drew fun t19 w_4 =>
    ld1 t26 w_4 (fun u => u = t27) ∧
    ld1 t23 w_4 (fun u => u = t24) ∧
    ld1 t20 w_4 (fun u => u = t21) ∧
    ef Tryd.prog (Builtin.append_ #[58, 58] 58 #[(.slice none 0 0), t21]) w_4 fun t22 w_5 =>
    ld1 t26 w_5 (fun u => u = t27) ∧
    ld1 t23 w_5 (fun u => u = t24) ∧
    ef Tryd.prog (Builtin.append_ #[58, 58] 58 #[(.slice none 0 0), t24]) w_5 fun t25 w_6 =>
    ld1 t26 w_6 (fun u => u = t27) ∧
    ef Tryd.prog (Builtin.append_ #[59, 59] 59 #[(.slice none 0 0), t27]) w_6 fun t28 w_7 =>
    pBuild #[(.slice none 0 0), (.slice none 0 0), (.slice none 0 0), (.slice none 0 0)] #[(0, 1), (1, 1), (2, 1), (3, 1)] [(0, t19), (1, t22), (2, t25), (3, t28)] fun t29 =>
    ef Tryd.prog (Instr.buildSlice 22 1 ([(0, t29)]).toArray) w_7 fun t30 w_8 =>
    ef Tryd.prog (Builtin.append_ #[22, 22] 22 #[(vs.getD 0 undef), t30]) w_8 fun t31 w_9 =>
    pBin .add (vs.getD 1 undef) (.int .i64 1) fun t11 =>
    again [t31, t11] w_9)
  (R (vs.getD 0 undef) w')
def m8 (R : Value → World → Prop) (t0 : Value) (w : World) : Prop :=
  loopP [(.slice none 0 0), (.int .i64 0)] w (fun vs w' again =>
    m8_1 R again vs t0 w')
theorem e8 (R : Value → World → Prop) (t0 : Value) (w : World) : bodyF Tryd.prog Tryd.f8 (bd Tryd.f8) [t0] w R = m8 R t0 w := by kernel_rfl
theorem c8 (R : Value → World → Prop) (t0 : Value) (w : World) (h : m8 R t0 w) : Calls Tryd.prog 8 #[t0] w fun e w' => ∃ v, e = .returned v ∧ R v w' :=
  calls_of_F mixed Tryd.func8 bd8 (Nat.le_of_ble_eq_true rfl) (by rw [e8]; exact h)
/-! 9: (*isthmus/filter.Filter).Set -/
theorem bd9 : Tryd.f9.body = some (bd Tryd.f9) := rfl
def m9 (R : Value → World → Prop) (t0 t1 : Value) (w : World) : Prop :=
  pNil .eql (.pointer none) t0 fun t6 =>
  condF t6
  (R (.int .i64 1) w)
  (callF Tryd.prog 17 #[t1] w fun t9 w' =>
    nilC t0 fun t10 =>
    pFld 0 t10 fun t11 =>
    eSt1 t11 t9 w' fun w'' =>
    R (.int .i64 0) w'')
theorem e9 (R : Value → World → Prop) (t0 t1 : Value) (w : World) : bodyF Tryd.prog Tryd.f9 (bd Tryd.f9) [t0, t1] w R = m9 R t0 t1 w := by kernel_rfl
theorem c9 (R : Value → World → Prop) (t0 t1 : Value) (w : World) (h : m9 R t0 t1 w) : Calls Tryd.prog 9 #[t0, t1] w fun e w' => ∃ v, e = .returned v ∧ R v w' :=
  calls_of_F mixed Tryd.func9 bd9 (Nat.le_of_ble_eq_true rfl) (by rw [e9]; exact h)
/-! 10: isthmus/isthmuslaw21.FilterAnswers$1 | join vs': t32 | loop vs: t6 -/
theorem bd10 : Tryd.f10.body = some (bd Tryd.f10) := rfl
def m10_1 (J : List Value → World → Prop) (vs : List Value) (t1 : Value) (t4 : Value) (t2 : Value) (t3 : Value) (w'' : World) : Prop :=
  ld1 t1 w''.drew fun t13 =>
  pIxS 10 t13 (vs.getD 0 undef) fun t15 =>
  pFld 0 t15 fun t16 =>
  ldN 9 t16 w''.drew fun t17 =>
  ldN 9 t4 w''.drew fun t18 =>
  rd Tryd.prog (do eqGuard .eql 37 (.tmp 17) (.tmp 18) t17 t18; binOp .eql 37 t17 t18) w''.drew fun t19 =>
  condF t19
  (ld1 t1 w''.drew fun t21 =>
    pIxS 10 t21 (vs.getD 0 undef) fun t23 =>
    pFld 9 t23 fun t24 =>
    ld1 t24 w''.drew fun t25 =>
    ld1 t2 w''.drew fun t26 =>
    pConv .u64 t26 fun t27 =>
    pBin .add t25 t27 fun t28 =>
    pBin .add t28 (.int .u64 1) fun t29 =>
    ld1 t3 w''.drew fun t30 =>
    pBin .gtr t29 t30 fun t31 =>
    J [t31] w''.drew)
  (J [(.bool false)] w''.drew)
def m10_2 (R : Value → World → Prop) (again : List Value → World → Prop) (vs : List Value) (t1 : Value) (t4 : Value) (t2 : Value) (t3 : Value) (w'' : World) : Prop :=
  ld1 t1 w'' fun t8 =>
  pLenT 2 t8 fun t9 =>
  pBin .lss (vs.getD 0 undef) t9 fun t10 =>
  condF t10
  (joinP (fun J =>
      m10_1 J vs t1 t4 t2 t3 w'')
    (fun vs' w_3 =>
      condF (vs'.getD 0 undef)
      (R (.bool true) w_3)
      (pBin .add (vs.getD 0 undef) (.int .i64 1) fun t12 =>
        again [t12] w_3)))
  (R (.bool false) w'')
def m10 (R : Value → World → Prop) (t0 t1 t2 t3 : Value) (w : World) : Prop :=
  eBox 37 t0 w fun t4 w' =>
  loopP [(.int .i64 0)] w' (fun vs w'' again =>
    m10_2 R again vs t1 t4 t2 t3 w'')
theorem e10 (R : Value → World → Prop) (t0 t1 t2 t3 : Value) (w : World) : bodyF Tryd.prog Tryd.f10 (bd Tryd.f10) [t0, t1, t2, t3] w R = m10 R t0 t1 t2 t3 w := by kernel_rfl
theorem c10 (R : Value → World → Prop) (t0 t1 t2 t3 : Value) (w : World) (h : m10 R t0 t1 t2 t3 w) : Calls Tryd.prog 10 #[t0, t1, t2, t3] w fun e w' => ∃ v, e = .returned v ∧ R v w' :=
  calls_of_F mixed Tryd.func10 bd10 (Nat.le_of_ble_eq_true rfl) (by rw [e10]; exact h)
/-! 11: isthmus/isthmusref14.Reverse -/
theorem bd11 : Tryd.f11.body = some (bd Tryd.f11) := rfl
def m11 (R : Value → World → Prop) (t0 : Value) (w : World) : Prop :=
  eBox 37 t0 w fun t1 w' =>
  eBox 37 (.agg #[(.int .u8 0), (.bool false), (.int .u64 0), (.int .u64 0), (.bool false), (.int .u64 0), (.int .u64 0), (.int .u16 0), (.int .u16 0)]) w' fun t2 w'' =>
  pFld 0 t1 fun t3 =>
  ld1 t3 w'' fun t4 =>
  pFld 4 t1 fun t5 =>
  ldN 3 t5 w'' fun t6 =>
  pFld 1 t1 fun t7 =>
  ldN 3 t7 w'' fun t8 =>
  pFld 8 t1 fun t9 =>
  ld1 t9 w'' fun t10 =>
  pFld 7 t1 fun t11 =>
  ld1 t11 w'' fun t12 =>
  pBuild #[(.int .u8 0), (.bool false), (.int .u64 0), (.int .u64 0), (.bool false), (.int .u64 0), (.int .u64 0), (.int .u16 0), (.int .u16 0)] #[(0, 1), (1, 3), (4, 3), (7, 1), (8, 1)] [(0, t4), (1, t6), (2, t8), (3, t10), (4, t12)] fun t13 =>
  ef Tryd.prog (Instr.storeAt 37 t2 t13) w'' fun _ w_3 =>
  ldN 9 t2 w_3 fun r0 =>
  R r0 w_3
theorem e11 (R : Value → World → Prop) (t0 : Value) (w : World) : bodyF Tryd.prog Tryd.f11 (bd Tryd.f11) [t0] w R = m11 R t0 w := by kernel_rfl
theorem c11 (R : Value → World → Prop) (t0 : Value) (w : World) (h : m11 R t0 w) : Calls Tryd.prog 11 #[t0] w fun e w' => ∃ v, e = .returned v ∧ R v w' :=
  calls_of_F mixed Tryd.func11 bd11 (Nat.le_of_ble_eq_true rfl) (by rw [e11]; exact h)
/-! 12: (*isthmus/filter.Filter).Out -/
theorem bd12 : Tryd.f12.body = some (bd Tryd.f12) := rfl
def m12_1 (R : Value → World → Prop) (t21 : Value) (t0 : Value) (t8 : Value) (w_6 : World) : Prop :=
  condF t21
  (R (.int .i64 0) w_6)
  (nilC t0 fun t24 =>
    pFld 1 t24 fun t25 =>
    ld1 t25 w_6.drew fun t26 =>
    pLenT 2 t26 fun t27 =>
    nilC t0 fun t29 =>
    pFld 3 t29 fun t30 =>
    ld1 t30 w_6.drew fun t31 =>
    pBin .geq t27 t31 fun t32 =>
    condF t32
    (R (.int .i64 6) w_6.drew)
    (nilC t0 fun t35 =>
      pFld 1 t35 fun t36 =>
      ld1 t36 w_6.drew.drew fun t37 =>
      ldN 9 t8 w_6.drew.drew fun t38 =>
      ef Tryd.prog (Instr.buildSlice 54 1 ([(0, t38)]).toArray) w_6.drew.drew fun t39 w_7 =>
      ld1 t36 w_7 (fun u => u = t37) ∧
      ef Tryd.prog (Builtin.append_ #[54, 54] 54 #[t37, t39]) w_7 fun t40 w_8 =>
      nilC t0 fun t41 =>
      pFld 1 t41 fun t42 =>
      eSt1 t42 t40 w_8 fun w_9 =>
      nilC t0 fun t44 =>
      pFld 2 t44 fun t45 =>
      ld1 t45 w_9.drew fun t46 =>
      ldN 9 t8 w_9.drew fun t47 =>
      nilC t0 fun t49 =>
      pFld 5 t49 fun t50 =>
      ld1 t50 w_9.drew fun t51 =>
      nilC t0 fun t53 =>
      pFld 4 t53 fun t54 =>
      ld1 t54 w_9.drew fun t55 =>
      pBin .add t51 t55 fun t56 =>
      ef Tryd.prog (Instr.mapUpdate 53 t46 t47 t56) w_9.drew fun _ w_10 =>
      R (.int .i64 0) w_10))
def m12_2 (R : Value → World → Prop) (t17 : Value) (t0 : Value) (w_3 : World) : Prop :=
  eBox 37 (.agg #[(.int .u8 0), (.bool false), (.int .u64 0), (.int .u64 0), (.bool false), (.int .u64 0), (.int .u64 0), (.int .u16 0), (.int .u16 0)]) w_3 fun t8 w_4 =>
  ef Tryd.prog (Instr.storeAt 37 t8 t17) w_4 fun _ w_5 =>
  ldN 9 t8 w_5 fun t20 =>
  callF Tryd.prog 20 #[t0, t20] w_5 fun t21 w_6 =>
  m12_1 R t21 t0 t8 w_6
def m12 (R : Value → World → Prop) (t0 t1 t2 : Value) (w : World) : Prop :=
  eBox 39 t1 w fun t4 w' =>
  callF Tryd.prog 18 #[t0, t2] w' fun t11 w'' =>
  pBin .neq t11 (.int .i64 0) fun t13 =>
  condF t13
  (R t11 w'')
  (pFld 0 t4 fun t15 =>
    ldN 9 t15 w'' fun t16 =>
    callF Tryd.prog 19 #[t16] w'' fun t17 w_3 =>
    m12_2 R t17 t0 w_3)
theorem e12 (R : Value → World → Prop) (t0 t1 t2 : Value) (w : World) : bodyF Tryd.prog Tryd.f12 (bd Tryd.f12) [t0, t1, t2] w R = m12 R t0 t1 t2 w := by kernel_rfl
theorem c12 (R : Value → World → Prop) (t0 t1 t2 : Value) (w : World) (h : m12 R t0 t1 t2 w) : Calls Tryd.prog 12 #[t0, t1, t2] w fun e w' => ∃ v, e = .returned v ∧ R v w' :=
  calls_of_F mixed Tryd.func12 bd12 (Nat.le_of_ble_eq_true rfl) (by rw [e12]; exact h)
/-! 13: (*isthmus/filter.Filter).Flows | loop vs: t3, t13 -/
theorem bd13 : Tryd.f13.body = some (bd Tryd.f13) := rfl
def m13_1 (R : Value → World → Prop) (again : List Value → World → Prop) (vs : List Value) (t12 : Value) (t11 : Value) (t0 : Value) (w' : World) : Prop :=
  pBin .lss (vs.getD 1 undef) t12 fun t14 =>
  condF t14
  (pIxS 9 t11 (vs.getD 1 undef) fun t15 =>
    ldN 9 t15 w' fun t16 =>
    eBox 37 (.agg #[(.int .u8 0), (.bool false), (.int .u64 0), (.int .u64 0), (.bool false), (.int .u64 0), (.int .u64 0), (.int .u16 0), (.int .u16 0)]) w' fun t5 w'' =>
    ef Tryd.prog (Instr.storeAt 37 t5 t16) w'' fun _ w_3 =>
    ldN 9 t5 w_3.drew fun t18 =>
    nilC t0 fun t20 =>
    pFld 2 t20 fun t21 =>
    ld1 t21 w_3.drew fun t22 =>
    ldN 9 t5 w_3.drew fun t23 =>
    rd Tryd.prog (Instr.lookup 53 t22 t23 false) w_3.drew fun t24 =>
    pBuild #[(.int .u8 0), (.bool false), (.int .u64 0), (.int .u64 0), (.bool false), (.int .u64 0), (.int .u64 0), (.int .u16 0), (.int .u16 0), (.int .u64 0)] #[(0, 9), (9, 1)] [(0, t18), (1, t24)] fun t25 =>
    ef Tryd.prog (Instr.buildSlice 33 1 ([(0, t25)]).toArray) w_3.drew fun t26 w_4 =>
    ef Tryd.prog (Builtin.append_ #[33, 33] 33 #[(vs.getD 0 undef), t26]) w_4 fun t27 w_5 =>
    pBin .add (vs.getD 1 undef) (.int .i64 1) fun t28 =>
    again [t27, t28] w_5)
  (R (vs.getD 0 undef) w')
def m13 (R : Value → World → Prop) (t0 : Value) (w : World) : Prop :=
  pNil .eql (.pointer none) t0 fun t7 =>
  condF t7
  (R (.slice none 0 0) w)
  (nilC t0 fun t9 =>
    pFld 1 t9 fun t10 =>
    ld1 t10 w fun t11 =>
    pLenT 2 t11 fun t12 =>
    loopP [(.slice none 0 0), (.int .i64 0)] w (fun vs w' again =>
      m13_1 R again vs t12 t11 t0 w'))
theorem e13 (R : Value → World → Prop) (t0 : Value) (w : World) : bodyF Tryd.prog Tryd.f13 (bd Tryd.f13) [t0] w R = m13 R t0 w := by kernel_rfl
theorem c13 (R : Value → World → Prop) (t0 : Value) (w : World) (h : m13 R t0 w) : Calls Tryd.prog 13 #[t0] w fun e w' => ∃ v, e = .returned v ∧ R v w' :=
  calls_of_F mixed Tryd.func13 bd13 (Nat.le_of_ble_eq_true rfl) (by rw [e13]; exact h)
/-! 14: isthmus/isthmusref20.Match | join vs': t46 | loop vs: t5 -/
theorem bd14 : Tryd.f14.body = some (bd Tryd.f14) := rfl
def m14_1 (J : List Value → World → Prop) (vs : List Value) (t34 : Value) (t0 : Value) (t3 : Value) (w_4 : World) : Prop :=
  condF t34
  (pIxS 4 t0 (vs.getD 0 undef) fun t39 =>
    pFld 2 t39 fun t40 =>
    ld1 t40 w_4 fun t41 =>
    pFld 0 t3 fun t42 =>
    pFld 4 t42 fun t43 =>
    ldN 3 t43 w_4 fun t44 =>
    callF Tryd.prog 22 #[t41, t44] w_4 fun t45 w_5 =>
    J [t45] w_5)
  (J [(.bool false)] w_4)
def m14_2 (J : List Value → World → Prop) (vs : List Value) (t24 : Value) (t0 : Value) (t3 : Value) (w_3 : World) : Prop :=
  condF t24
  (pIxS 4 t0 (vs.getD 0 undef) fun t28 =>
    pFld 1 t28 fun t29 =>
    ld1 t29 w_3 fun t30 =>
    pFld 0 t3 fun t31 =>
    pFld 1 t31 fun t32 =>
    ldN 3 t32 w_3 fun t33 =>
    callF Tryd.prog 22 #[t30, t33] w_3 fun t34 w_4 =>
    m14_1 J vs t34 t0 t3 w_4)
  (J [(.bool false)] w_3)
def m14_3 (J : List Value → World → Prop) (vs : List Value) (t0 : Value) (t3 : Value) (w'' : World) : Prop :=
  pIxS 4 t0 (vs.getD 0 undef) fun t14 =>
  pFld 0 t14 fun t15 =>
  ld1 t15 w''.drew fun t16 =>
  pIxS 4 t0 (vs.getD 0 undef) fun t19 =>
  pFld 3 t19 fun t20 =>
  ld1 t20 w''.drew fun t21 =>
  pFld 0 t3 fun t22 =>
  ldN 9 t22 w''.drew fun t23 =>
  callF Tryd.prog 21 #[t16, t21, t23] w''.drew fun t24 w_3 =>
  m14_2 J vs t24 t0 t3 w_3
def m14_4 (R : Value → World → Prop) (again : List Value → World → Prop) (vs : List Value) (t0 : Value) (t3 : Value) (w'' : World) : Prop :=
  pLenT 2 t0 fun t8 =>
  pBin .lss (vs.getD 0 undef) t8 fun t9 =>
  condF t9
  (joinP (fun J =>
      m14_3 J vs t0 t3 w'')
    (fun vs' w_6 =>
      condF (vs'.getD 0 undef)
      (R (vs.getD 0 undef) w_6)
      (pBin .add (vs.getD 0 undef) (.int .i64 1) fun t11 =>
        again [t11] w_6)))
  (R (.int .i64 (-1)) w'')
def m14 (R : Value → World → Prop) (t0 t1 : Value) (w : World) : Prop :=
  eBox 39 t1 w fun t3 w' =>
  loopP [(.int .i64 0)] w' (fun vs w'' again =>
    m14_4 R again vs t0 t3 w'')
theorem e14 (R : Value → World → Prop) (t0 t1 : Value) (w : World) : bodyF Tryd.prog Tryd.f14 (bd Tryd.f14) [t0, t1] w R = m14 R t0 t1 w := by kernel_rfl
theorem c14 (R : Value → World → Prop) (t0 t1 : Value) (w : World) (h : m14 R t0 t1 w) : Calls Tryd.prog 14 #[t0, t1] w fun e w' => ∃ v, e = .returned v ∧ R v w' :=
  calls_of_F mixed Tryd.func14 bd14 (Nat.le_of_ble_eq_true rfl) (by rw [e14]; exact h)
/-! 15: (*isthmus/filter.Filter).In | join vs: t26 -/
theorem bd15 : Tryd.f15.body = some (bd Tryd.f15) := rfl
def m15_1 (J : List Value → World → Prop) (t0 : Value) (t4 : Value) (w'' : World) : Prop :=
  nilC t0 fun t15 =>
  pFld 0 t15 fun t16 =>
  ld1 t16 w''.drew fun t17 =>
  ldN 13 t4 w''.drew fun t18 =>
  callF Tryd.prog 23 #[t17, t18] w''.drew fun t19 w_3 =>
  pBin .geq t19 (.int .i64 0) fun t20 =>
  condF t20
  (J [(.bool true)] w_3)
  (pFld 0 t4 fun t23 =>
    ldN 9 t23 w_3 fun t24 =>
    callF Tryd.prog 20 #[t0, t24] w_3 fun t25 w_4 =>
    J [t25] w_4)
def m15 (R : Value → World → Prop) (t0 t1 t2 : Value) (w : World) : Prop :=
  eBox 39 t1 w fun t4 w' =>
  callF Tryd.prog 18 #[t0, t2] w' fun t10 w'' =>
  pBin .neq t10 (.int .i64 0) fun t12 =>
  condF t12
  (R t10 w'')
  (joinP (fun J =>
      m15_1 J t0 t4 w'')
    (fun vs w_5 =>
      condF (vs.getD 0 undef)
      (R (.int .i64 0) w_5)
      (R (.int .i64 210) w_5)))
theorem e15 (R : Value → World → Prop) (t0 t1 t2 : Value) (w : World) : bodyF Tryd.prog Tryd.f15 (bd Tryd.f15) [t0, t1, t2] w R = m15 R t0 t1 t2 w := by kernel_rfl
theorem c15 (R : Value → World → Prop) (t0 t1 t2 : Value) (w : World) (h : m15 R t0 t1 t2 w) : Calls Tryd.prog 15 #[t0, t1, t2] w fun e w' => ∃ v, e = .returned v ∧ R v w' :=
  calls_of_F mixed Tryd.func15 bd15 (Nat.le_of_ble_eq_true rfl) (by rw [e15]; exact h)
/-! 16: isthmus/isthmuslaw21.size | join vs': t14 | loop vs: t3, t4 -/
theorem bd16 : Tryd.f16.body = some (bd Tryd.f16) := rfl
def m16_1 (R : Value → World → Prop) (again : List Value → World → Prop) (vs' : List Value) (vs : List Value) (t0 : Value) (w'' : World) : Prop :=
  condF (vs'.getD 0 undef)
  (pIxS 4 t0 (vs.getD 1 undef) fun t20 =>
    pFld 0 t20 fun t21 =>
    ld1 t21 w''.drew fun t22 =>
    pLenT 2 t22 fun t23 =>
    pBin .add (vs.getD 0 undef) t23 fun t24 =>
    pIxS 4 t0 (vs.getD 1 undef) fun t27 =>
    pFld 1 t27 fun t28 =>
    ld1 t28 w''.drew fun t29 =>
    pLenT 2 t29 fun t30 =>
    pBin .add t24 t30 fun t31 =>
    pIxS 4 t0 (vs.getD 1 undef) fun t34 =>
    pFld 2 t34 fun t35 =>
    ld1 t35 w''.drew fun t36 =>
    pLenT 2 t36 fun t37 =>
    pBin .add t31 t37 fun t38 =>
    pIxS 4 t0 (vs.getD 1 undef) fun t41 =>
    pFld 3 t41 fun t42 =>
    ld1 t42 w''.drew fun t43 =>
    pLenT 2 t43 fun t44 =>
    pBin .add t38 t44 fun t45 =>
    pBin .add (vs.getD 1 undef) (.int .i64 1) fun t16 =>
    again [t45, t16] w''.drew)
  (R (vs.getD 0 undef) w'')
def m16_2 (R : Value → World → Prop) (again : List Value → World → Prop) (vs : List Value) (t0 : Value) (w' : World) : Prop :=
  joinP (fun J =>
    pLenT 2 t0 fun t9 =>
    pBin .lss (vs.getD 1 undef) t9 fun t10 =>
    condF t10
    (pBin .lss (vs.getD 1 undef) (.int .i64 100) fun t13 =>
      J [t13] w')
    (J [(.bool false)] w'))
  (fun vs' w'' =>
    m16_1 R again vs' vs t0 w'')
def m16 (R : Value → World → Prop) (t0 : Value) (w : World) : Prop :=
  pLenT 2 t0 fun t6 =>
  loopP [t6, (.int .i64 0)] w (fun vs w' again =>
    m16_2 R again vs t0 w')
theorem e16 (R : Value → World → Prop) (t0 : Value) (w : World) : bodyF Tryd.prog Tryd.f16 (bd Tryd.f16) [t0] w R = m16 R t0 w := by kernel_rfl
theorem c16 (R : Value → World → Prop) (t0 : Value) (w : World) (h : m16 R t0 w) : Calls Tryd.prog 16 #[t0] w fun e w' => ∃ v, e = .returned v ∧ R v w' :=
  calls_of_F mixed Tryd.func16 bd16 (Nat.le_of_ble_eq_true rfl) (by rw [e16]; exact h)
/-! 17: isthmus/filter.copied | loop vs: t3, t8 -/
theorem bd17 : Tryd.f17.body = some (bd Tryd.f17) := rfl
def m17_1 (again : List Value → World → Prop) (vs : List Value) (t15 : Value) (t18 : Value) (t21 : Value) (t24 : Value) (w_7 : World) : Prop :=
  pBuild #[(.slice none 0 0), (.slice none 0 0), (.slice none 0 0), (.slice none 0 0)] #[(0, 1), (1, 1), (2, 1), (3, 1)] [(0, t15), (1, t18), (2, t21), (3, t24)] fun t25 =>
  ef Tryd.prog (Instr.buildSlice 22 1 ([(0, t25)]).toArray) w_7 fun t26 w_8 =>
  ef Tryd.prog (Builtin.append_ #[22, 22] 22 #[(vs.getD 0 undef), t26]) w_8 fun t27 w_9 =>
  pBin .add (vs.getD 1 undef) (.int .i64 1) fun t28 =>
  again [t27, t28] w_9
def m17_2 (again : List Value → World → Prop) (vs : List Value) (t22 : Value) (t23 : Value) (t19 : Value) (t20 : Value) (t15 : Value) (t18 : Value) (w_5 : World) : Prop :=
  ld1 t22 w_5 (fun u => u = t23) ∧
  ld1 t19 w_5 (fun u => u = t20) ∧
  callF Tryd.prog 25 #[t20] w_5 fun t21 w_6 =>
  ld1 t22 w_6 (fun u => u = t23) ∧
  callF Tryd.prog 26 #[t23] w_6 fun t24 w_7 =>
  m17_1 again vs t15 t18 t21 t24 w_7
def m17_3 (R : Value → World → Prop) (again : List Value → World → Prop) (vs : List Value) (t7 : Value) (t0 : Value) (w' : World) : Prop :=
  pBin .lss (vs.getD 1 undef) t7 fun t9 =>
  condF t9
  (pIxS 4 t0 (vs.getD 1 undef) fun t10 =>
    ldN 4 t10 w' fun t11 =>
    eBox 61 (.agg #[(.slice none 0 0), (.slice none 0 0), (.slice none 0 0), (.slice none 0 0)]) w' fun t5 w'' =>
    ef Tryd.prog (Instr.storeAt 61 t5 t11) w'' fun _ w_3 =>
    pFld 0 t5 fun t13 =>
    ld1 t13 w_3.drew fun t14 =>
    pFld 1 t5 fun t16 =>
    ld1 t16 w_3.drew fun t17 =>
    pFld 2 t5 fun t19 =>
    ld1 t19 w_3.drew fun t20 =>
    pFld 3 t5 fun t22 =>
    ld1 t22 w_3.drew fun t23 =>
    callF Tryd.prog 24 #[t14] w_3.drew fun t15 w_4 =>
    ld1 t22 w_4 (fun u => u = t23) ∧
    ld1 t19 w_4 (fun u => u = t20) ∧
    ld1 t16 w_4 (fun u => u = t17) ∧
    callF Tryd.prog 25 #[t17] w_4 fun t18 w_5 =>
    m17_2 again vs t22 t23 t19 t20 t15 t18 w_5)
  (R (vs.getD 0 undef) w')
def m17 (R : Value → World → Prop) (t0 : Value) (w : World) : Prop :=
  pLenT 2 t0 fun t7 =>
  loopP [(.slice none 0 0), (.int .i64 0)] w (fun vs w' again =>
    m17_3 R again vs t7 t0 w')
theorem e17 (R : Value → World → Prop) (t0 : Value) (w : World) : bodyF Tryd.prog Tryd.f17 (bd Tryd.f17) [t0] w R = m17 R t0 w := by kernel_rfl
theorem c17 (R : Value → World → Prop) (t0 : Value) (w : World) (h : m17 R t0 w) : Calls Tryd.prog 17 #[t0] w fun e w' => ∃ v, e = .returned v ∧ R v w' :=
  calls_of_F mixed Tryd.func17 bd17 (Nat.le_of_ble_eq_true rfl) (by rw [e17]; exact h)
/-! 18: (*isthmus/filter.Filter).at -/
theorem bd18 : Tryd.f18.body = some (bd Tryd.f18) := rfl
def m18 (R : Value → World → Prop) (t0 t1 : Value) (w : World) : Prop :=
  eBox 27 t0 w fun t2 w' =>
  ld1 t2 w' fun t6 =>
  pNil .eql (.pointer none) t6 fun t7 =>
  condF t7
  (R (.int .i64 1) w')
  (pBin .geq t1 (.int .u64 4611686018427387904) fun t10 =>
    condF t10
    (R (.int .i64 2) w')
    (ld1 t2 w'.drew fun t11 =>
      ld1 t2 w'.drew fun t12 =>
      nilC t12 fun t13 =>
      pFld 5 t13 fun t14 =>
      ld1 t14 w'.drew fun t15 =>
      pMax true t15 t1 fun t17 =>
      nilC t11 fun t18 =>
      pFld 5 t18 fun t19 =>
      eSt1 t19 t17 w'.drew fun w'' =>
      ld1 t2 w''.drew fun t20 =>
      ld1 t2 w''.drew fun t21 =>
      nilC t21 fun t22 =>
      pFld 1 t22 fun t23 =>
      ld1 t23 w''.drew fun t24 =>
      callF Tryd.prog 27 #[t24, (.func (.func 28) #[] #[t2])] w''.drew fun t26 w_3 =>
      ld1 t2 w_3 (fun u => u = t20) ∧
      nilC t20 fun t27 =>
      pFld 1 t27 fun t28 =>
      eSt1 t28 t26 w_3 fun w_4 =>
      R (.int .i64 0) w_4))
theorem e18 (R : Value → World → Prop) (t0 t1 : Value) (w : World) : bodyF Tryd.prog Tryd.f18 (bd Tryd.f18) [t0, t1] w R = m18 R t0 t1 w := by kernel_rfl
theorem c18 (R : Value → World → Prop) (t0 t1 : Value) (w : World) (h : m18 R t0 t1 w) : Calls Tryd.prog 18 #[t0, t1] w fun e w' => ∃ v, e = .returned v ∧ R v w' :=
  calls_of_F mixed Tryd.func18 bd18 (Nat.le_of_ble_eq_true rfl) (by rw [e18]; exact h)
/-! 19: isthmus/port.Reverse -/
theorem bd19 : Tryd.f19.body = some (bd Tryd.f19) := rfl
def m19 (R : Value → World → Prop) (t0 : Value) (w : World) : Prop :=
  eBox 37 t0 w fun t1 w' =>
  eBox 37 (.agg #[(.int .u8 0), (.bool false), (.int .u64 0), (.int .u64 0), (.bool false), (.int .u64 0), (.int .u64 0), (.int .u16 0), (.int .u16 0)]) w' fun t2 w'' =>
  pFld 4 t1 fun t3 =>
  ldN 3 t3 w'' fun t4 =>
  pFld 1 t1 fun t5 =>
  ldN 3 t5 w'' fun t6 =>
  pFld 1 t1 fun t7 =>
  ef Tryd.prog (Instr.storeAt 35 t7 t4) w'' fun _ w_3 =>
  pFld 4 t1 fun t8 =>
  ef Tryd.prog (Instr.storeAt 35 t8 t6) w_3 fun _ w_4 =>
  pFld 8 t1 fun t9 =>
  ld1 t9 w_4 fun t10 =>
  pFld 7 t1 fun t11 =>
  ld1 t11 w_4 fun t12 =>
  pFld 7 t1 fun t13 =>
  eSt1 t13 t10 w_4 fun w_5 =>
  pFld 8 t1 fun t14 =>
  eSt1 t14 t12 w_5 fun w_6 =>
  ldN 9 t1 w_6 fun t15 =>
  ef Tryd.prog (Instr.storeAt 37 t2 t15) w_6 fun _ w_7 =>
  ldN 9 t2 w_7 fun r0 =>
  R r0 w_7
theorem e19 (R : Value → World → Prop) (t0 : Value) (w : World) : bodyF Tryd.prog Tryd.f19 (bd Tryd.f19) [t0] w R = m19 R t0 w := by kernel_rfl
theorem c19 (R : Value → World → Prop) (t0 : Value) (w : World) (h : m19 R t0 w) : Calls Tryd.prog 19 #[t0] w fun e w' => ∃ v, e = .returned v ∧ R v w' :=
  calls_of_F mixed Tryd.func19 bd19 (Nat.le_of_ble_eq_true rfl) (by rw [e19]; exact h)
/-! 20: (*isthmus/filter.Filter).again | join vs:  -/
theorem bd20 : Tryd.f20.body = some (bd Tryd.f20) := rfl
def m20_1 (J : List Value → World → Prop) (t15 : Value) (t0 : Value) (t3 : Value) (w' : World) : Prop :=
  condF t15
  (nilC t0 fun t18 =>
    pFld 2 t18 fun t19 =>
    ld1 t19 w'.drew.drew fun t20 =>
    ldN 9 t3 w'.drew.drew fun t21 =>
    nilC t0 fun t23 =>
    pFld 5 t23 fun t24 =>
    ld1 t24 w'.drew.drew fun t25 =>
    nilC t0 fun t27 =>
    pFld 4 t27 fun t28 =>
    ld1 t28 w'.drew.drew fun t29 =>
    pBin .add t25 t29 fun t30 =>
    ef Tryd.prog (Instr.mapUpdate 53 t20 t21 t30) w'.drew.drew fun _ w'' =>
    J [] w'')
  (J [] w'.drew)
def m20 (R : Value → World → Prop) (t0 t1 : Value) (w : World) : Prop :=
  eBox 37 t1 w fun t3 w' =>
  nilC t0 fun t9 =>
  pFld 2 t9 fun t10 =>
  ld1 t10 w'.drew fun t11 =>
  ldN 9 t3 w'.drew fun t12 =>
  rd Tryd.prog (Instr.lookup 53 t11 t12 true) w'.drew fun t13 =>
  pExt 0 t13 fun _ =>
  pExt 1 t13 fun t15 =>
  joinP (fun J =>
    m20_1 J t15 t0 t3 w')
  (fun _ w_3 =>
    R t15 w_3)
theorem e20 (R : Value → World → Prop) (t0 t1 : Value) (w : World) : bodyF Tryd.prog Tryd.f20 (bd Tryd.f20) [t0, t1] w R = m20 R t0 t1 w := by kernel_rfl
theorem c20 (R : Value → World → Prop) (t0 t1 : Value) (w : World) (h : m20 R t0 t1 w) : Calls Tryd.prog 20 #[t0, t1] w fun e w' => ∃ v, e = .returned v ∧ R v w' :=
  calls_of_F mixed Tryd.func20 bd20 (Nat.le_of_ble_eq_true rfl) (by rw [e20]; exact h)
/-! 21: isthmus/isthmusref20.by | join vs': t7 | join vs_3: t9 | join vs_4: t6 | loop vs'': t9, t10 | loop vs: t7, t8 -/
theorem bd21 : Tryd.f21.body = some (bd Tryd.f21) := rfl
def m21_1 (J : List Value → World → Prop) (vs : List Value) (t0 : Value) (t5 : Value) (w'' : World) : Prop :=
  condF (vs.getD 0 undef)
  (J [(.bool true)] w''.drew)
  (pIxS 1 t0 (vs.getD 1 undef) fun t24 =>
    ld1 t24 w''.drew fun t25 =>
    pFld 0 t5 fun t26 =>
    ld1 t26 w''.drew fun t27 =>
    pBin .eql t25 t27 fun t28 =>
    J [t28] w''.drew)
def m21_2 (J' : List Value → World → Prop) (vs'' : List Value) (t5 : Value) (t1 : Value) (w_4 : World) : Prop :=
  condF (vs''.getD 0 undef)
  (J' [(.bool true)] w_4.drew)
  (pFld 0 t5 fun t41 =>
    ld1 t41 w_4.drew fun t42 =>
    pBin .eql t42 (.int .u8 6) fun t43 =>
    condF t43
    (pFld 8 t5 fun t50 =>
      ld1 t50 w_4.drew fun t51 =>
      pIxS 2 t1 (vs''.getD 1 undef) fun t54 =>
      pFld 0 t54 fun t55 =>
      ld1 t55 w_4.drew fun t56 =>
      pBin .geq t51 t56 fun t57 =>
      condF t57
      (pFld 8 t5 fun t60 =>
        ld1 t60 w_4.drew fun t61 =>
        pIxS 2 t1 (vs''.getD 1 undef) fun t64 =>
        pFld 1 t64 fun t65 =>
        ld1 t65 w_4.drew fun t66 =>
        pBin .leq t61 t66 fun t67 =>
        J' [t67] w_4.drew)
      (J' [(.bool false)] w_4.drew))
    (pFld 0 t5 fun t45 =>
      ld1 t45 w_4.drew fun t46 =>
      pBin .eql t46 (.int .u8 17) fun t47 =>
      condF t47
      (pFld 8 t5 fun t50' =>
        ld1 t50' w_4.drew fun t51' =>
        pIxS 2 t1 (vs''.getD 1 undef) fun t54' =>
        pFld 0 t54' fun t55' =>
        ld1 t55' w_4.drew fun t56' =>
        pBin .geq t51' t56' fun t57' =>
        condF t57'
        (pFld 8 t5 fun t60' =>
          ld1 t60' w_4.drew fun t61' =>
          pIxS 2 t1 (vs''.getD 1 undef) fun t64' =>
          pFld 1 t64' fun t65' =>
          ld1 t65' w_4.drew fun t66' =>
          pBin .leq t61' t66' fun t67' =>
          J' [t67'] w_4.drew)
        (J' [(.bool false)] w_4.drew))
      (J' [(.bool false)] w_4.drew)))
def m21_3 (R : Value → World → Prop) (again' : List Value → World → Prop) (vs'' : List Value) (vs : List Value) (t1 : Value) (t5 : Value) (w_4 : World) : Prop :=
  pLenT 2 t1 fun t35 =>
  pBin .lss (vs''.getD 1 undef) t35 fun t36 =>
  condF t36
  (joinP (fun J' =>
      m21_2 J' vs'' t5 t1 w_4)
    (fun vs_3 w_5 =>
      pBin .add (vs''.getD 1 undef) (.int .i64 1) fun t38 =>
      again' [(vs_3.getD 0 undef), t38] w_5))
  (joinP (fun J'' =>
      condF (vs.getD 0 undef)
      (J'' [(vs''.getD 0 undef)] w_4)
      (J'' [(.bool false)] w_4))
    (fun vs_4 w_6 =>
      R (vs_4.getD 0 undef) w_6))
def m21_4 (R : Value → World → Prop) (again : List Value → World → Prop) (vs : List Value) (t0 : Value) (t5 : Value) (t1 : Value) (w'' : World) : Prop :=
  pLenT 2 t0 fun t16 =>
  pBin .lss (vs.getD 1 undef) t16 fun t17 =>
  condF t17
  (joinP (fun J =>
      m21_1 J vs t0 t5 w'')
    (fun vs' w_3 =>
      pBin .add (vs.getD 1 undef) (.int .i64 1) fun t19 =>
      again [(vs'.getD 0 undef), t19] w_3))
  (pLenT 2 t1 fun t31 =>
    pBin .eql t31 (.int .i64 0) fun t32 =>
    loopP [t32, (.int .i64 0)] w'' (fun vs'' w_4 again' =>
      m21_3 R again' vs'' vs t1 t5 w_4))
def m21 (R : Value → World → Prop) (t0 t1 t2 : Value) (w : World) : Prop :=
  eBox 37 t2 w fun t5 w' =>
  pLenT 2 t0 fun t12 =>
  pBin .eql t12 (.int .i64 0) fun t13 =>
  loopP [t13, (.int .i64 0)] w' (fun vs w'' again =>
    m21_4 R again vs t0 t5 t1 w'')
theorem e21 (R : Value → World → Prop) (t0 t1 t2 : Value) (w : World) : bodyF Tryd.prog Tryd.f21 (bd Tryd.f21) [t0, t1, t2] w R = m21 R t0 t1 t2 w := by kernel_rfl
theorem c21 (R : Value → World → Prop) (t0 t1 t2 : Value) (w : World) (h : m21 R t0 t1 t2 w) : Calls Tryd.prog 21 #[t0, t1, t2] w fun e w' => ∃ v, e = .returned v ∧ R v w' :=
  calls_of_F mixed Tryd.func21 bd21 (Nat.le_of_ble_eq_true rfl) (by rw [e21]; exact h)
/-! 22: isthmus/isthmusref20.In | join vs': t51 | loop vs: t5 -/
theorem bd22 : Tryd.f22.body = some (bd Tryd.f22) := rfl
def m22_1 (J : List Value → World → Prop) (vs : List Value) (t39 : Value) (t0 : Value) (t3 : Value) (w_5 : World) : Prop :=
  pNot t39 fun t40 =>
  condF t40
  (pIxS 6 t0 (vs.getD 0 undef) fun t45 =>
    pFld 3 t45 fun t46 =>
    ldN 3 t46 w_5 fun t47 =>
    ldN 3 t3 w_5 fun t48 =>
    callF Tryd.prog 31 #[t47, t48] w_5 fun t49 w_6 =>
    pNot t49 fun t50 =>
    J [t50] w_6)
  (J [(.bool false)] w_5)
def m22_2 (J : List Value → World → Prop) (vs : List Value) (t19 : Value) (t0 : Value) (t3 : Value) (w_4 : World) : Prop :=
  condF t19
  (pIxS 6 t0 (vs.getD 0 undef) fun t24 =>
    pFld 0 t24 fun t25 =>
    pFld 0 t25 fun t26 =>
    ld1 t26 w_4 fun t27 =>
    pFld 0 t3 fun t28 =>
    ld1 t28 w_4 fun t29 =>
    pBoolEq .eql t27 t29 fun t30 =>
    condF t30
    (ldN 3 t3 w_4 fun t33 =>
      pIxS 6 t0 (vs.getD 0 undef) fun t36 =>
      pFld 0 t36 fun t37 =>
      ldN 3 t37 w_4 fun t38 =>
      callF Tryd.prog 31 #[t33, t38] w_4 fun t39 w_5 =>
      m22_1 J vs t39 t0 t3 w_5)
    (J [(.bool false)] w_4))
  (J [(.bool false)] w_4)
def m22_3 (J : List Value → World → Prop) (vs : List Value) (t0 : Value) (t3 : Value) (w'' : World) : Prop :=
  pIxS 6 t0 (vs.getD 0 undef) fun t14 =>
  ldN 6 t14 w''.drew fun t15 =>
  callF Tryd.prog 29 #[t15] w''.drew fun t16 w_3 =>
  condF t16
  (ldN 3 t3 w_3 fun t18 =>
    callF Tryd.prog 30 #[t18] w_3 fun t19 w_4 =>
    m22_2 J vs t19 t0 t3 w_4)
  (J [(.bool false)] w_3)
def m22_4 (R : Value → World → Prop) (again : List Value → World → Prop) (vs : List Value) (t0 : Value) (t3 : Value) (w'' : World) : Prop :=
  pLenT 2 t0 fun t8 =>
  pBin .lss (vs.getD 0 undef) t8 fun t9 =>
  condF t9
  (joinP (fun J =>
      m22_3 J vs t0 t3 w'')
    (fun vs' w_7 =>
      condF (vs'.getD 0 undef)
      (R (.bool true) w_7)
      (pBin .add (vs.getD 0 undef) (.int .i64 1) fun t11 =>
        again [t11] w_7)))
  (R (.bool false) w'')
def m22 (R : Value → World → Prop) (t0 t1 : Value) (w : World) : Prop :=
  eBox 35 t1 w fun t3 w' =>
  loopP [(.int .i64 0)] w' (fun vs w'' again =>
    m22_4 R again vs t0 t3 w'')
theorem e22 (R : Value → World → Prop) (t0 t1 : Value) (w : World) : bodyF Tryd.prog Tryd.f22 (bd Tryd.f22) [t0, t1] w R = m22 R t0 t1 w := by kernel_rfl
theorem c22 (R : Value → World → Prop) (t0 t1 : Value) (w : World) (h : m22 R t0 t1 w) : Calls Tryd.prog 22 #[t0, t1] w fun e w' => ∃ v, e = .returned v ∧ R v w' :=
  calls_of_F mixed Tryd.func22 bd22 (Nat.le_of_ble_eq_true rfl) (by rw [e22]; exact h)
/-! 23: isthmus/rules.Match -/
theorem bd23 : Tryd.f23.body = some (bd Tryd.f23) := rfl
def m23 (R : Value → World → Prop) (t0 t1 : Value) (w : World) : Prop :=
  eBox 39 t1 w fun t3 w' =>
  eBox 64 .nilFunc w' fun t5 w'' =>
  eSt1 t5 (.func (.func 32) #[] #[]) w'' fun w_3 =>
  callF Tryd.prog 38 #[t0, (.func (.func 39) #[] #[t3, t5])] w_3 fun t8 w_4 =>
  R t8 w_4
theorem e23 (R : Value → World → Prop) (t0 t1 : Value) (w : World) : bodyF Tryd.prog Tryd.f23 (bd Tryd.f23) [t0, t1] w R = m23 R t0 t1 w := by kernel_rfl
theorem c23 (R : Value → World → Prop) (t0 t1 : Value) (w : World) (h : m23 R t0 t1 w) : Calls Tryd.prog 23 #[t0, t1] w fun e w' => ∃ v, e = .returned v ∧ R v w' :=
  calls_of_F mixed Tryd.func23 bd23 (Nat.le_of_ble_eq_true rfl) (by rw [e23]; exact h)
/-! 24: slices.Clone[[]uint8,uint8] -/
theorem bd24 : Tryd.f24.body = some (bd Tryd.f24) := rfl
def m24 (R : Value → World → Prop) (t0 : Value) (w : World) : Prop :=
  pNil .eql (.slice none 0 0) t0 fun t4 =>
  condF t4
  (R (.slice none 0 0) w)
  (ef Tryd.prog (Instr.buildSlice 57 0 ([]).toArray) w fun t5 w' =>
    ef Tryd.prog (Builtin.append_ #[57, 57] 57 #[t5, t0]) w' fun t7 w'' =>
    R t7 w'')
theorem e24 (R : Value → World → Prop) (t0 : Value) (w : World) : bodyF Tryd.prog Tryd.f24 (bd Tryd.f24) [t0] w R = m24 R t0 w := by kernel_rfl
theorem c24 (R : Value → World → Prop) (t0 : Value) (w : World) (h : m24 R t0 w) : Calls Tryd.prog 24 #[t0] w fun e w' => ∃ v, e = .returned v ∧ R v w' :=
  calls_of_F mixed Tryd.func24 bd24 (Nat.le_of_ble_eq_true rfl) (by rw [e24]; exact h)
/-! 25: slices.Clone[[]isthmus/api.AddrSpan,isthmus/api.AddrSpan] -/
theorem bd25 : Tryd.f25.body = some (bd Tryd.f25) := rfl
def m25 (R : Value → World → Prop) (t0 : Value) (w : World) : Prop :=
  pNil .eql (.slice none 0 0) t0 fun t4 =>
  condF t4
  (R (.slice none 0 0) w)
  (ef Tryd.prog (Instr.buildSlice 58 0 ([]).toArray) w fun t5 w' =>
    ef Tryd.prog (Builtin.append_ #[58, 58] 58 #[t5, t0]) w' fun t7 w'' =>
    R t7 w'')
theorem e25 (R : Value → World → Prop) (t0 : Value) (w : World) : bodyF Tryd.prog Tryd.f25 (bd Tryd.f25) [t0] w R = m25 R t0 w := by kernel_rfl
theorem c25 (R : Value → World → Prop) (t0 : Value) (w : World) (h : m25 R t0 w) : Calls Tryd.prog 25 #[t0] w fun e w' => ∃ v, e = .returned v ∧ R v w' :=
  calls_of_F mixed Tryd.func25 bd25 (Nat.le_of_ble_eq_true rfl) (by rw [e25]; exact h)
/-! 26: slices.Clone[[]isthmus/api.Ports,isthmus/api.Ports] -/
theorem bd26 : Tryd.f26.body = some (bd Tryd.f26) := rfl
def m26 (R : Value → World → Prop) (t0 : Value) (w : World) : Prop :=
  pNil .eql (.slice none 0 0) t0 fun t4 =>
  condF t4
  (R (.slice none 0 0) w)
  (ef Tryd.prog (Instr.buildSlice 59 0 ([]).toArray) w fun t5 w' =>
    ef Tryd.prog (Builtin.append_ #[59, 59] 59 #[t5, t0]) w' fun t7 w'' =>
    R t7 w'')
theorem e26 (R : Value → World → Prop) (t0 : Value) (w : World) : bodyF Tryd.prog Tryd.f26 (bd Tryd.f26) [t0] w R = m26 R t0 w := by kernel_rfl
theorem c26 (R : Value → World → Prop) (t0 : Value) (w : World) (h : m26 R t0 w) : Calls Tryd.prog 26 #[t0] w fun e w' => ∃ v, e = .returned v ∧ R v w' :=
  calls_of_F mixed Tryd.func26 bd26 (Nat.le_of_ble_eq_true rfl) (by rw [e26]; exact h)
/-! 27: slices.DeleteFunc[[]isthmus/api.Flow,isthmus/api.Flow] | join vs': t5 | loop vs: t5, t6 -/
theorem bd27 : Tryd.f27.body = some (bd Tryd.f27) := rfl
def m27_1 (J : List Value → World → Prop) (vs : List Value) (t28 : Value) (t7 : Value) (t0 : Value) (w_5 : World) : Prop :=
  pNot t28 fun t29 =>
  condF t29
  (ldN 9 t7 w_5 fun t32 =>
    pIxS 9 t0 (vs.getD 0 undef) fun t33 =>
    ef Tryd.prog (Instr.storeAt 37 t33 t32) w_5 fun _ w_6 =>
    pBin .add (vs.getD 0 undef) (.int .i64 1) fun t35 =>
    J [t35] w_6)
  (J [(vs.getD 0 undef)] w_5)
def m27_2 (J : List Value → World → Prop) (vs : List Value) (t0 : Value) (t1 : Value) (w'' : World) : Prop :=
  pIxS 9 t0 (vs.getD 1 undef) fun t24 =>
  ldN 9 t24 w'' fun t25 =>
  eBox 37 (.agg #[(.int .u8 0), (.bool false), (.int .u64 0), (.int .u64 0), (.bool false), (.int .u64 0), (.int .u64 0), (.int .u16 0), (.int .u16 0)]) w'' fun t7 w_3 =>
  ef Tryd.prog (Instr.storeAt 37 t7 t25) w_3 fun _ w_4 =>
  ldN 9 t7 w_4 fun t27 =>
  callV Tryd.prog t1 #[t27] w_4 fun t28 w_5 =>
  m27_1 J vs t28 t7 t0 w_5
def m27_3 (R : Value → World → Prop) (again : List Value → World → Prop) (vs : List Value) (t0 : Value) (t1 : Value) (w'' : World) : Prop :=
  pLenT 2 t0 fun t18 =>
  pBin .lss (vs.getD 1 undef) t18 fun t19 =>
  condF t19
  (joinP (fun J =>
      m27_2 J vs t0 t1 w'')
    (fun vs' w_7 =>
      pBin .add (vs.getD 1 undef) (.int .i64 1) fun t21 =>
      again [(vs'.getD 0 undef), t21] w_7))
  (pCut 9 t0 (some (vs.getD 0 undef)) none none fun t38 =>
    ef Tryd.prog (Builtin.clear_ #[54] 0 #[t38]) w'' fun _ w_8 =>
    pCut 9 t0 none (some (vs.getD 0 undef)) none fun t41 =>
    R t41 w_8)
def m27 (R : Value → World → Prop) (t0 t1 : Value) (w : World) : Prop :=
  callF Tryd.prog 41 #[t0, t1] w fun t10 w' =>
  pBin .eql t10 (.int .i64 (-1)) fun t12 =>
  condF t12
  (R t0 w')
  (pBin .add t10 (.int .i64 1) fun t15 =>
    loopP [t10, t15] w' (fun vs w'' again =>
      m27_3 R again vs t0 t1 w''))
theorem e27 (R : Value → World → Prop) (t0 t1 : Value) (w : World) : bodyF Tryd.prog Tryd.f27 (bd Tryd.f27) [t0, t1] w R = m27 R t0 t1 w := by kernel_rfl
theorem c27 (R : Value → World → Prop) (t0 t1 : Value) (w : World) (h : m27 R t0 t1 w) : Calls Tryd.prog 27 #[t0, t1] w fun e w' => ∃ v, e = .returned v ∧ R v w' :=
  calls_of_F mixed Tryd.func27 bd27 (Nat.le_of_ble_eq_true rfl) (by rw [e27]; exact h)
/-! 28: (*isthmus/filter.Filter).at$1 | join vs:  -/
theorem bd28 : Tryd.f28.body = some (bd Tryd.f28) := rfl
def m28_1 (J : List Value → World → Prop) (t15 : Value) (t1 : Value) (t2 : Value) (w' : World) : Prop :=
  condF t15
  (ld1 t1 w'.drew.drew fun t17 =>
    nilC t17 fun t18 =>
    pFld 2 t18 fun t19 =>
    ld1 t19 w'.drew.drew fun t20 =>
    ldN 9 t2 w'.drew.drew fun t21 =>
    ef Tryd.prog (Builtin.delete_ #[53, 37] 0 #[t20, t21]) w'.drew.drew fun _ w'' =>
    J [] w'')
  (J [] w'.drew)
def m28 (R : Value → World → Prop) (t0 t1 : Value) (w : World) : Prop :=
  eBox 37 t0 w fun t2 w' =>
  ld1 t1 w'.drew fun t5 =>
  nilC t5 fun t6 =>
  pFld 2 t6 fun t7 =>
  ld1 t7 w'.drew fun t8 =>
  ldN 9 t2 w'.drew fun t9 =>
  rd Tryd.prog (Instr.lookup 53 t8 t9 false) w'.drew fun t10 =>
  ld1 t1 w'.drew fun t11 =>
  nilC t11 fun t12 =>
  pFld 5 t12 fun t13 =>
  ld1 t13 w'.drew fun t14 =>
  pBin .leq t10 t14 fun t15 =>
  joinP (fun J =>
    m28_1 J t15 t1 t2 w')
  (fun _ w_3 =>
    R t15 w_3)
theorem e28 (R : Value → World → Prop) (t0 t1 : Value) (w : World) : bodyF Tryd.prog Tryd.f28 (bd Tryd.f28) [t0, t1] w R = m28 R t0 t1 w := by kernel_rfl
theorem c28 (R : Value → World → Prop) (t0 t1 : Value) (w : World) (h : m28 R t0 t1 w) : Calls Tryd.prog 28 #[t0, t1] w fun e w' => ∃ v, e = .returned v ∧ R v w' :=
  calls_of_F mixed Tryd.func28 bd28 (Nat.le_of_ble_eq_true rfl) (by rw [e28]; exact h)
/-! 29: isthmus/isthmusref20.MaySpan | join vs: t2 -/
theorem bd29 : Tryd.f29.body = some (bd Tryd.f29) := rfl
def m29_1 (J : List Value → World → Prop) (t9 : Value) (t1 : Value) (w_3 : World) : Prop :=
  condF t9
  (pFld 0 t1 fun t12 =>
    pFld 0 t12 fun t13 =>
    ld1 t13 w_3 fun t14 =>
    pFld 3 t1 fun t15 =>
    pFld 0 t15 fun t16 =>
    ld1 t16 w_3 fun t17 =>
    pBoolEq .eql t14 t17 fun t18 =>
    condF t18
    (pFld 3 t1 fun t21 =>
      ldN 3 t21 w_3 fun t22 =>
      pFld 0 t1 fun t23 =>
      ldN 3 t23 w_3 fun t24 =>
      callF Tryd.prog 31 #[t22, t24] w_3 fun t25 w_4 =>
      pNot t25 fun t26 =>
      J [t26] w_4)
    (J [(.bool false)] w_3))
  (J [(.bool false)] w_3)
def m29_2 (J : List Value → World → Prop) (t1 : Value) (w' : World) : Prop :=
  pFld 0 t1 fun t3 =>
  ldN 3 t3 w' fun t4 =>
  callF Tryd.prog 30 #[t4] w' fun t5 w'' =>
  condF t5
  (pFld 3 t1 fun t7 =>
    ldN 3 t7 w'' fun t8 =>
    callF Tryd.prog 30 #[t8] w'' fun t9 w_3 =>
    m29_1 J t9 t1 w_3)
  (J [(.bool false)] w'')
def m29 (R : Value → World → Prop) (t0 : Value) (w : World) : Prop :=
  eBox 68 t0 w fun t1 w' =>
  joinP (fun J =>
    m29_2 J t1 w')
  (fun vs w_5 =>
    R (vs.getD 0 undef) w_5)
theorem e29 (R : Value → World → Prop) (t0 : Value) (w : World) : bodyF Tryd.prog Tryd.f29 (bd Tryd.f29) [t0] w R = m29 R t0 w := by kernel_rfl
theorem c29 (R : Value → World → Prop) (t0 : Value) (w : World) (h : m29 R t0 w) : Calls Tryd.prog 29 #[t0] w fun e w' => ∃ v, e = .returned v ∧ R v w' :=
  calls_of_F mixed Tryd.func29 bd29 (Nat.le_of_ble_eq_true rfl) (by rw [e29]; exact h)
/-! 30: isthmus/isthmusref13.MayAddr | join vs: t2 -/
theorem bd30 : Tryd.f30.body = some (bd Tryd.f30) := rfl
def m30_1 (J : List Value → World → Prop) (t1 : Value) (w' : World) : Prop :=
  pFld 0 t1 fun t3 =>
  ld1 t3 w' fun t4 =>
  condF t4
  (J [(.bool true)] w')
  (pFld 1 t1 fun t6 =>
    ld1 t6 w' fun t7 =>
    pBin .eql t7 (.int .u64 0) fun t8 =>
    condF t8
    (pFld 2 t1 fun t10 =>
      ld1 t10 w' fun t11 =>
      pBin .lss t11 (.int .u64 4294967296) fun t12 =>
      J [t12] w')
    (J [(.bool false)] w'))
def m30 (R : Value → World → Prop) (t0 : Value) (w : World) : Prop :=
  eBox 35 t0 w fun t1 w' =>
  joinP (fun J =>
    m30_1 J t1 w')
  (fun vs w'' =>
    R (vs.getD 0 undef) w'')
theorem e30 (R : Value → World → Prop) (t0 : Value) (w : World) : bodyF Tryd.prog Tryd.f30 (bd Tryd.f30) [t0] w R = m30 R t0 w := by kernel_rfl
theorem c30 (R : Value → World → Prop) (t0 : Value) (w : World) (h : m30 R t0 w) : Calls Tryd.prog 30 #[t0] w fun e w' => ∃ v, e = .returned v ∧ R v w' :=
  calls_of_F mixed Tryd.func30 bd30 (Nat.le_of_ble_eq_true rfl) (by rw [e30]; exact h)
/-! 31: isthmus/isthmusref13.Less | join vs: t4 -/
theorem bd31 : Tryd.f31.body = some (bd Tryd.f31) := rfl
def m31_1 (J : List Value → World → Prop) (t2 : Value) (t3 : Value) (w'' : World) : Prop :=
  pFld 1 t2 fun t12 =>
  ld1 t12 w'' fun t13 =>
  pFld 1 t3 fun t14 =>
  ld1 t14 w'' fun t15 =>
  pBin .lss t13 t15 fun t16 =>
  condF t16
  (J [(.bool true)] w'')
  (pFld 1 t2 fun t18 =>
    ld1 t18 w'' fun t19 =>
    pFld 1 t3 fun t20 =>
    ld1 t20 w'' fun t21 =>
    pBin .eql t19 t21 fun t22 =>
    condF t22
    (pFld 2 t2 fun t24 =>
      ld1 t24 w'' fun t25 =>
      pFld 2 t3 fun t26 =>
      ld1 t26 w'' fun t27 =>
      pBin .lss t25 t27 fun t28 =>
      J [t28] w'')
    (J [(.bool false)] w''))
def m31 (R : Value → World → Prop) (t0 t1 : Value) (w : World) : Prop :=
  eBox 35 t0 w fun t2 w' =>
  eBox 35 t1 w' fun t3 w'' =>
  pFld 0 t2 fun t5 =>
  ld1 t5 w'' fun t6 =>
  pFld 0 t3 fun t7 =>
  ld1 t7 w'' fun t8 =>
  pBoolEq .neq t6 t8 fun t9 =>
  condF t9
  (pFld 0 t3 fun t10 =>
    ld1 t10 w'' fun t11 =>
    R t11 w'')
  (joinP (fun J =>
      m31_1 J t2 t3 w'')
    (fun vs w_3 =>
      R (vs.getD 0 undef) w_3))
theorem e31 (R : Value → World → Prop) (t0 t1 : Value) (w : World) : bodyF Tryd.prog Tryd.f31 (bd Tryd.f31) [t0, t1] w R = m31 R t0 t1 w := by kernel_rfl
theorem c31 (R : Value → World → Prop) (t0 t1 : Value) (w : World) (h : m31 R t0 t1 w) : Calls Tryd.prog 31 #[t0, t1] w fun e w' => ∃ v, e = .returned v ∧ R v w' :=
  calls_of_F mixed Tryd.func31 bd31 (Nat.le_of_ble_eq_true rfl) (by rw [e31]; exact h)
/-! 32: isthmus/rules.Match$1 | join vs: t4 -/
theorem bd32 : Tryd.f32.body = some (bd Tryd.f32) := rfl
def m32 (R : Value → World → Prop) (t0 t1 : Value) (w : World) : Prop :=
  eBox 35 t1 w fun t3 w' =>
  joinP (fun J =>
    ldN 3 t3 w' fun t5 =>
    callF Tryd.prog 33 #[t5] w' fun t6 w'' =>
    condF t6
    (callF Tryd.prog 34 #[t0, (.func (.func 35) #[] #[t3])] w'' fun t10 w_3 =>
      J [t10] w_3)
    (J [(.bool false)] w''))
  (fun vs w_4 =>
    R (vs.getD 0 undef) w_4)
theorem e32 (R : Value → World → Prop) (t0 t1 : Value) (w : World) : bodyF Tryd.prog Tryd.f32 (bd Tryd.f32) [t0, t1] w R = m32 R t0 t1 w := by kernel_rfl
theorem c32 (R : Value → World → Prop) (t0 t1 : Value) (w : World) (h : m32 R t0 t1 w) : Calls Tryd.prog 32 #[t0, t1] w fun e w' => ∃ v, e = .returned v ∧ R v w' :=
  calls_of_F mixed Tryd.func32 bd32 (Nat.le_of_ble_eq_true rfl) (by rw [e32]; exact h)
/-! 33: isthmus/rules.may -/
theorem bd33 : Tryd.f33.body = some (bd Tryd.f33) := rfl
def m33 (R : Value → World → Prop) (t0 : Value) (w : World) : Prop :=
  eBox 35 t0 w fun t1 w' =>
  ldN 3 t1 w' fun t3 =>
  callF Tryd.prog 42 #[t3] w' fun t4 w'' =>
  pBin .neq t4 (.string ({ data := #[] })) fun t5 =>
  R t5 w''
theorem e33 (R : Value → World → Prop) (t0 : Value) (w : World) : bodyF Tryd.prog Tryd.f33 (bd Tryd.f33) [t0] w R = m33 R t0 w := by kernel_rfl
theorem c33 (R : Value → World → Prop) (t0 : Value) (w : World) (h : m33 R t0 w) : Calls Tryd.prog 33 #[t0] w fun e w' => ∃ v, e = .returned v ∧ R v w' :=
  calls_of_F mixed Tryd.func33 bd33 (Nat.le_of_ble_eq_true rfl) (by rw [e33]; exact h)
/-! 34: slices.ContainsFunc[[]isthmus/api.AddrSpan,isthmus/api.AddrSpan] -/
theorem bd34 : Tryd.f34.body = some (bd Tryd.f34) := rfl
def m34 (R : Value → World → Prop) (t0 t1 : Value) (w : World) : Prop :=
  callF Tryd.prog 43 #[t0, t1] w fun t7 w' =>
  pBin .geq t7 (.int .i64 0) fun t8 =>
  R t8 w'
theorem e34 (R : Value → World → Prop) (t0 t1 : Value) (w : World) : bodyF Tryd.prog Tryd.f34 (bd Tryd.f34) [t0, t1] w R = m34 R t0 t1 w := by kernel_rfl
theorem c34 (R : Value → World → Prop) (t0 t1 : Value) (w : World) (h : m34 R t0 t1 w) : Calls Tryd.prog 34 #[t0, t1] w fun e w' => ∃ v, e = .returned v ∧ R v w' :=
  calls_of_F mixed Tryd.func34 bd34 (Nat.le_of_ble_eq_true rfl) (by rw [e34]; exact h)
/-! 35: isthmus/rules.Match$1$1 | join vs: t3 -/
theorem bd35 : Tryd.f35.body = some (bd Tryd.f35) := rfl
def m35_1 (J : List Value → World → Prop) (t18 : Value) (t1 : Value) (t2 : Value) (w_3 : World) : Prop :=
  pBin .leq t18 (.int .i64 0) fun t19 =>
  condF t19
  (ldN 3 t1 w_3 fun t22 =>
    pFld 3 t2 fun t23 =>
    ldN 3 t23 w_3 fun t24 =>
    callF Tryd.prog 37 #[t22, t24] w_3 fun t25 w_4 =>
    pBin .leq t25 (.int .i64 0) fun t26 =>
    J [t26] w_4)
  (J [(.bool false)] w_3)
def m35_2 (J : List Value → World → Prop) (t5 : Value) (t2 : Value) (t1 : Value) (w'' : World) : Prop :=
  condF t5
  (pFld 0 t2 fun t7 =>
    pFld 0 t7 fun t8 =>
    ld1 t8 w'' fun t9 =>
    pFld 0 t1 fun t10 =>
    ld1 t10 w'' fun t11 =>
    pBoolEq .eql t9 t11 fun t12 =>
    condF t12
    (pFld 0 t2 fun t15 =>
      ldN 3 t15 w'' fun t16 =>
      ldN 3 t1 w'' fun t17 =>
      callF Tryd.prog 37 #[t16, t17] w'' fun t18 w_3 =>
      m35_1 J t18 t1 t2 w_3)
    (J [(.bool false)] w''))
  (J [(.bool false)] w'')
def m35 (R : Value → World → Prop) (t0 t1 : Value) (w : World) : Prop :=
  eBox 68 t0 w fun t2 w' =>
  joinP (fun J =>
    ldN 6 t2 w' fun t4 =>
    callF Tryd.prog 36 #[t4] w' fun t5 w'' =>
    m35_2 J t5 t2 t1 w'')
  (fun vs w_5 =>
    R (vs.getD 0 undef) w_5)
theorem e35 (R : Value → World → Prop) (t0 t1 : Value) (w : World) : bodyF Tryd.prog Tryd.f35 (bd Tryd.f35) [t0, t1] w R = m35 R t0 t1 w := by kernel_rfl
theorem c35 (R : Value → World → Prop) (t0 t1 : Value) (w : World) (h : m35 R t0 t1 w) : Calls Tryd.prog 35 #[t0, t1] w fun e w' => ∃ v, e = .returned v ∧ R v w' :=
  calls_of_F mixed Tryd.func35 bd35 (Nat.le_of_ble_eq_true rfl) (by rw [e35]; exact h)
/-! 36: isthmus/rules.maySpan | join vs: t2 -/
theorem bd36 : Tryd.f36.body = some (bd Tryd.f36) := rfl
def m36_1 (J : List Value → World → Prop) (t9 : Value) (t1 : Value) (w_3 : World) : Prop :=
  condF t9
  (pFld 0 t1 fun t12 =>
    pFld 0 t12 fun t13 =>
    ld1 t13 w_3 fun t14 =>
    pFld 3 t1 fun t15 =>
    pFld 0 t15 fun t16 =>
    ld1 t16 w_3 fun t17 =>
    pBoolEq .eql t14 t17 fun t18 =>
    condF t18
    (pFld 0 t1 fun t21 =>
      ldN 3 t21 w_3 fun t22 =>
      pFld 3 t1 fun t23 =>
      ldN 3 t23 w_3 fun t24 =>
      callF Tryd.prog 37 #[t22, t24] w_3 fun t25 w_4 =>
      pBin .leq t25 (.int .i64 0) fun t26 =>
      J [t26] w_4)
    (J [(.bool false)] w_3))
  (J [(.bool false)] w_3)
def m36_2 (J : List Value → World → Prop) (t1 : Value) (w' : World) : Prop :=
  pFld 0 t1 fun t3 =>
  ldN 3 t3 w' fun t4 =>
  callF Tryd.prog 33 #[t4] w' fun t5 w'' =>
  condF t5
  (pFld 3 t1 fun t7 =>
    ldN 3 t7 w'' fun t8 =>
    callF Tryd.prog 33 #[t8] w'' fun t9 w_3 =>
    m36_1 J t9 t1 w_3)
  (J [(.bool false)] w'')
def m36 (R : Value → World → Prop) (t0 : Value) (w : World) : Prop :=
  eBox 68 t0 w fun t1 w' =>
  joinP (fun J =>
    m36_2 J t1 w')
  (fun vs w_5 =>
    R (vs.getD 0 undef) w_5)
theorem e36 (R : Value → World → Prop) (t0 : Value) (w : World) : bodyF Tryd.prog Tryd.f36 (bd Tryd.f36) [t0] w R = m36 R t0 w := by kernel_rfl
theorem c36 (R : Value → World → Prop) (t0 : Value) (w : World) (h : m36 R t0 w) : Calls Tryd.prog 36 #[t0] w fun e w' => ∃ v, e = .returned v ∧ R v w' :=
  calls_of_F mixed Tryd.func36 bd36 (Nat.le_of_ble_eq_true rfl) (by rw [e36]; exact h)
/-! 37: isthmus/rules.compare -/
theorem bd37 : Tryd.f37.body = some (bd Tryd.f37) := rfl
def m37 (R : Value → World → Prop) (t0 t1 : Value) (w : World) : Prop :=
  eBox 35 t0 w fun t2 w' =>
  eBox 35 t1 w' fun t3 w'' =>
  ldN 3 t2 w'' fun t6 =>
  ldN 3 t3 w'' fun t7 =>
  callF Tryd.prog 44 #[t6, t7] w'' fun t8 w_3 =>
  condF t8
  (R (.int .i64 (-1)) w_3)
  (ldN 3 t3 w_3 fun t10 =>
    ldN 3 t2 w_3 fun t11 =>
    callF Tryd.prog 44 #[t10, t11] w_3 fun t12 w_4 =>
    condF t12
    (R (.int .i64 1) w_4)
    (R (.int .i64 0) w_4))
theorem e37 (R : Value → World → Prop) (t0 t1 : Value) (w : World) : bodyF Tryd.prog Tryd.f37 (bd Tryd.f37) [t0, t1] w R = m37 R t0 t1 w := by kernel_rfl
theorem c37 (R : Value → World → Prop) (t0 t1 : Value) (w : World) (h : m37 R t0 t1 w) : Calls Tryd.prog 37 #[t0, t1] w fun e w' => ∃ v, e = .returned v ∧ R v w' :=
  calls_of_F mixed Tryd.func37 bd37 (Nat.le_of_ble_eq_true rfl) (by rw [e37]; exact h)
/-! 38: slices.IndexFunc[[]isthmus/api.Rule,isthmus/api.Rule] | loop vs: t8 -/
theorem bd38 : Tryd.f38.body = some (bd Tryd.f38) := rfl
def m38_1 (R : Value → World → Prop) (again : List Value → World → Prop) (vs : List Value) (t7 : Value) (t0 : Value) (t1 : Value) (w' : World) : Prop :=
  pBin .lss (vs.getD 0 undef) t7 fun t9 =>
  condF t9
  (pIxS 4 t0 (vs.getD 0 undef) fun t14 =>
    ldN 4 t14 w' fun t15 =>
    callV Tryd.prog t1 #[t15] w' fun t16 w'' =>
    condF t16
    (R (vs.getD 0 undef) w'')
    (pBin .add (vs.getD 0 undef) (.int .i64 1) fun t18 =>
      again [t18] w''))
  (R (.int .i64 (-1)) w')
def m38 (R : Value → World → Prop) (t0 t1 : Value) (w : World) : Prop :=
  pLenT 2 t0 fun t7 =>
  loopP [(.int .i64 0)] w (fun vs w' again =>
    m38_1 R again vs t7 t0 t1 w')
theorem e38 (R : Value → World → Prop) (t0 t1 : Value) (w : World) : bodyF Tryd.prog Tryd.f38 (bd Tryd.f38) [t0, t1] w R = m38 R t0 t1 w := by kernel_rfl
theorem c38 (R : Value → World → Prop) (t0 t1 : Value) (w : World) (h : m38 R t0 t1 w) : Calls Tryd.prog 38 #[t0, t1] w fun e w' => ∃ v, e = .returned v ∧ R v w' :=
  calls_of_F mixed Tryd.func38 bd38 (Nat.le_of_ble_eq_true rfl) (by rw [e38]; exact h)
/-! 39: isthmus/rules.Match$2 | join vs: t4 -/
theorem bd39 : Tryd.f39.body = some (bd Tryd.f39) := rfl
def m39_1 (J : List Value → World → Prop) (t19 : Value) (t2 : Value) (t3 : Value) (t1 : Value) (w_3 : World) : Prop :=
  condF t19
  (ld1 t2 w_3 fun t22 =>
    pFld 2 t3 fun t23 =>
    ld1 t23 w_3 fun t24 =>
    pFld 0 t1 fun t25 =>
    pFld 4 t25 fun t26 =>
    ldN 3 t26 w_3 fun t27 =>
    callV Tryd.prog t22 #[t24, t27] w_3 fun t28 w_4 =>
    J [t28] w_4)
  (J [(.bool false)] w_3)
def m39_2 (J : List Value → World → Prop) (t11 : Value) (t2 : Value) (t3 : Value) (t1 : Value) (w'' : World) : Prop :=
  condF t11
  (ld1 t2 w'' fun t13 =>
    pFld 1 t3 fun t14 =>
    ld1 t14 w'' fun t15 =>
    pFld 0 t1 fun t16 =>
    pFld 1 t16 fun t17 =>
    ldN 3 t17 w'' fun t18 =>
    callV Tryd.prog t13 #[t15, t18] w'' fun t19 w_3 =>
    m39_1 J t19 t2 t3 t1 w_3)
  (J [(.bool false)] w'')
def m39 (R : Value → World → Prop) (t0 t1 t2 : Value) (w : World) : Prop :=
  eBox 61 t0 w fun t3 w' =>
  joinP (fun J =>
    pFld 0 t3 fun t5 =>
    ld1 t5 w' fun t6 =>
    pFld 3 t3 fun t7 =>
    ld1 t7 w' fun t8 =>
    pFld 0 t1 fun t9 =>
    ldN 9 t9 w' fun t10 =>
    callF Tryd.prog 40 #[t6, t8, t10] w' fun t11 w'' =>
    m39_2 J t11 t2 t3 t1 w'')
  (fun vs w_5 =>
    R (vs.getD 0 undef) w_5)
theorem e39 (R : Value → World → Prop) (t0 t1 t2 : Value) (w : World) : bodyF Tryd.prog Tryd.f39 (bd Tryd.f39) [t0, t1, t2] w R = m39 R t0 t1 t2 w := by kernel_rfl
theorem c39 (R : Value → World → Prop) (t0 t1 t2 : Value) (w : World) (h : m39 R t0 t1 t2 w) : Calls Tryd.prog 39 #[t0, t1, t2] w fun e w' => ∃ v, e = .returned v ∧ R v w' :=
  calls_of_F mixed Tryd.func39 bd39 (Nat.le_of_ble_eq_true rfl) (by rw [e39]; exact h)
/-! 40: isthmus/rules.by | join vs': t6 | join vs: t7 -/
theorem bd40 : Tryd.f40.body = some (bd Tryd.f40) := rfl
def m40_1 (J : List Value → World → Prop) (t5 : Value) (w' : World) : Prop :=
  pFld 0 t5 fun t9 =>
  ld1 t9 w' fun t10 =>
  pBin .eql t10 (.int .u8 6) fun t11 =>
  condF t11
  (eBox 4 (.bool false) w' fun t7 w'' =>
    eSt1 t7 (.bool true) w'' fun w_3 =>
    J [t7] w_3)
  (pFld 0 t5 fun t13 =>
    ld1 t13 w' fun t14 =>
    pBin .eql t14 (.int .u8 17) fun t15 =>
    eBox 4 (.bool false) w' fun t7' w_4 =>
    eSt1 t7' t15 w_4 fun w_5 =>
    J [t7'] w_5)
def m40_2 (J' : List Value → World → Prop) (t0 : Value) (t1 : Value) (t19 : Value) (t5 : Value) (w_7 : World) : Prop :=
  pLenT 2 t0 fun t21 =>
  pBin .eql t21 (.int .i64 0) fun t22 =>
  condF t22
  (pLenT 2 t1 fun t31 =>
    pBin .eql t31 (.int .i64 0) fun t32 =>
    condF t32
    (J' [(.bool true)] w_7)
    (J' [t19] w_7))
  (pFld 0 t5 fun t25 =>
    ld1 t25 w_7 fun t26 =>
    callF Tryd.prog 47 #[t0, t26] w_7 fun t27 w_8 =>
    condF t27
    (pLenT 2 t1 fun t31' =>
      pBin .eql t31' (.int .i64 0) fun t32' =>
      condF t32'
      (J' [(.bool true)] w_8)
      (J' [t19] w_8))
    (J' [(.bool false)] w_8))
def m40 (R : Value → World → Prop) (t0 t1 t2 : Value) (w : World) : Prop :=
  eBox 37 t2 w fun t5 w' =>
  joinP (fun J =>
    m40_1 J t5 w')
  (fun vs w_6 =>
    callF Tryd.prog 45 #[t1, (.func (.func 46) #[] #[(vs.getD 0 undef), t5])] w_6 fun t19 w_7 =>
    joinP (fun J' =>
      m40_2 J' t0 t1 t19 t5 w_7)
    (fun vs' w_9 =>
      R (vs'.getD 0 undef) w_9))
theorem e40 (R : Value → World → Prop) (t0 t1 t2 : Value) (w : World) : bodyF Tryd.prog Tryd.f40 (bd Tryd.f40) [t0, t1, t2] w R = m40 R t0 t1 t2 w := by kernel_rfl
theorem c40 (R : Value → World → Prop) (t0 t1 t2 : Value) (w : World) (h : m40 R t0 t1 t2 w) : Calls Tryd.prog 40 #[t0, t1, t2] w fun e w' => ∃ v, e = .returned v ∧ R v w' :=
  calls_of_F mixed Tryd.func40 bd40 (Nat.le_of_ble_eq_true rfl) (by rw [e40]; exact h)
/-! 41: slices.IndexFunc[[]isthmus/api.Flow,isthmus/api.Flow] | loop vs: t8 -/
theorem bd41 : Tryd.f41.body = some (bd Tryd.f41) := rfl
def m41_1 (R : Value → World → Prop) (again : List Value → World → Prop) (vs : List Value) (t7 : Value) (t0 : Value) (t1 : Value) (w' : World) : Prop :=
  pBin .lss (vs.getD 0 undef) t7 fun t9 =>
  condF t9
  (pIxS 9 t0 (vs.getD 0 undef) fun t14 =>
    ldN 9 t14 w' fun t15 =>
    callV Tryd.prog t1 #[t15] w' fun t16 w'' =>
    condF t16
    (R (vs.getD 0 undef) w'')
    (pBin .add (vs.getD 0 undef) (.int .i64 1) fun t18 =>
      again [t18] w''))
  (R (.int .i64 (-1)) w')
def m41 (R : Value → World → Prop) (t0 t1 : Value) (w : World) : Prop :=
  pLenT 2 t0 fun t7 =>
  loopP [(.int .i64 0)] w (fun vs w' again =>
    m41_1 R again vs t7 t0 t1 w')
theorem e41 (R : Value → World → Prop) (t0 t1 : Value) (w : World) : bodyF Tryd.prog Tryd.f41 (bd Tryd.f41) [t0, t1] w R = m41 R t0 t1 w := by kernel_rfl
theorem c41 (R : Value → World → Prop) (t0 t1 : Value) (w : World) (h : m41 R t0 t1 w) : Calls Tryd.prog 41 #[t0, t1] w fun e w' => ∃ v, e = .returned v ∧ R v w' :=
  calls_of_F mixed Tryd.func41 bd41 (Nat.le_of_ble_eq_true rfl) (by rw [e41]; exact h)
/-! 42: isthmus/ip.Text | loop vs: t3, t19 | join vs_3: t53 | loop vs'': t9 | join vs_4: t6, t7 | loop vs': t6, t7, t39 -/
theorem bd42 : Tryd.f42.body = some (bd Tryd.f42) := rfl
def m42_1 (again : List Value → World → Prop) (vs : List Value) (t31 : Value) (w_4 : World) : Prop :=
  ef Tryd.prog (Instr.buildSlice 87 1 ([(0, t31)]).toArray) w_4 fun t32 w_5 =>
  ef Tryd.prog (Builtin.append_ #[87, 87] 87 #[(vs.getD 0 undef), t32]) w_5 fun t33 w_6 =>
  pBin .add (vs.getD 1 undef) (.int .i64 1) fun t34 =>
  again [t33, t34] w_6
def m42_2 (R : Value → World → Prop) (again : List Value → World → Prop) (vs : List Value) (t1 : Value) (w_3 : World) : Prop :=
  pBin .lss (vs.getD 1 undef) (.int .i64 4) fun t20 =>
  condF t20
  (pFld 2 t1 fun t23 =>
    ld1 t23 w_3 fun t24 =>
    pBin .mul (.int .i64 8) (vs.getD 1 undef) fun t26 =>
    pBin .sub (.int .i64 24) t26 fun t27 =>
    pShift .shr t24 t27 fun t28 =>
    pBin .and t28 (.int .u64 255) fun t29 =>
    pConv .i64 t29 fun t30 =>
    callF Tryd.prog 49 #[t30] w_3 fun t31 w_4 =>
    m42_1 again vs t31 w_4)
  (callF Tryd.prog 50 #[(vs.getD 0 undef), (.string ({ data := #[46] }))] w_3 fun t36 w_7 =>
    R t36 w_7)
def m42_3 (J' : List Value → World → Prop) (vs' : List Value) (vs'' : List Value) (t5 : Value) (w_12 : World) : Prop :=
  pBin .add (vs'.getD 2 undef) (vs''.getD 0 undef) fun t44 =>
  pBin .lss t44 (.int .i64 8) fun t45 =>
  condF t45
  (pBin .add (vs'.getD 2 undef) (vs''.getD 0 undef) fun t49 =>
    pIxA 1 8 t5 t49 fun t50 =>
    ld1 t50 w_12 fun t51 =>
    pBin .eql t51 (.int .u16 0) fun t52 =>
    J' [t52] w_12)
  (J' [(.bool false)] w_12)
def m42_4 (again'' : List Value → World → Prop) (J : List Value → World → Prop) (vs_3 : List Value) (vs'' : List Value) (vs' : List Value) (w_13 : World) : Prop :=
  condF (vs_3.getD 0 undef)
  (pBin .add (vs''.getD 0 undef) (.int .i64 1) fun t55 =>
    again'' [t55] w_13)
  (pBin .gtr (vs''.getD 0 undef) (vs'.getD 1 undef) fun t58 =>
    condF t58
    (J [(vs'.getD 2 undef), (vs''.getD 0 undef)] w_13)
    (J [(vs'.getD 0 undef), (vs'.getD 1 undef)] w_13))
def m42_5 (R : Value → World → Prop) (again' : List Value → World → Prop) (vs' : List Value) (t5 : Value) (w_11 : World) : Prop :=
  pBin .lss (vs'.getD 2 undef) (.int .i64 8) fun t40 =>
  condF t40
  (joinP (fun J =>
      loopP [(.int .i64 0)] w_11 (fun vs'' w_12 again'' =>
        joinP (fun J' =>
          m42_3 J' vs' vs'' t5 w_12)
        (fun vs_3 w_13 =>
          m42_4 again'' J vs_3 vs'' vs' w_13)))
    (fun vs_4 w_14 =>
      pBin .add (vs'.getD 2 undef) (.int .i64 1) fun t61 =>
      again' [(vs_4.getD 0 undef), (vs_4.getD 1 undef), t61] w_14))
  (pBin .lss (vs'.getD 0 undef) (.int .i64 0) fun t63 =>
    condF t63
    (pCutArr 1 8 t5 none none none fun t65 =>
      callV Tryd.prog (.func (.func 52) #[] #[]) #[t65] w_11 fun t66 w_15 =>
      R t66 w_15)
    (pCutArr 1 8 t5 none (some (vs'.getD 0 undef)) none fun t69 =>
      pBin .add (vs'.getD 0 undef) (vs'.getD 1 undef) fun t75 =>
      pCutArr 1 8 t5 (some t75) none none fun t76 =>
      callV Tryd.prog (.func (.func 52) #[] #[]) #[t69] w_11.drew fun t70 w_16 =>
      pBin .add t70 (.string ({ data := #[58, 58] })) fun t71 =>
      callV Tryd.prog (.func (.func 52) #[] #[]) #[t76] w_16 fun t77 w_17 =>
      pBin .add t71 t77 fun t78 =>
      R t78 w_17))
def m42_6 (R : Value → World → Prop) (t38 : Value) (w_8 : World) : Prop :=
  eBox 90 (.agg #[(.int .u16 0), (.int .u16 0), (.int .u16 0), (.int .u16 0), (.int .u16 0), (.int .u16 0), (.int .u16 0), (.int .u16 0)]) w_8 fun t5 w_9 =>
  ef Tryd.prog (Instr.storeAt 90 t5 t38) w_9 fun _ w_10 =>
  loopP [(.int .i64 (-1)), (.int .i64 1), (.int .i64 0)] w_10 (fun vs' w_11 again' =>
    m42_5 R again' vs' t5 w_11)
def m42_7 (R : Value → World → Prop) (t13 : Value) (t1 : Value) (w'' : World) : Prop :=
  pNot t13 fun t14 =>
  condF t14
  (R (.string ({ data := #[] })) w'')
  (pFld 0 t1 fun t16 =>
    ld1 t16 w'' fun t17 =>
    pNot t17 fun t18 =>
    condF t18
    (loopP [(.slice none 0 0), (.int .i64 0)] w'' (fun vs w_3 again =>
        m42_2 R again vs t1 w_3))
    (ldN 3 t1 w'' fun t37 =>
      callF Tryd.prog 51 #[t37] w'' fun t38 w_8 =>
      m42_6 R t38 w_8))
def m42 (R : Value → World → Prop) (t0 : Value) (w : World) : Prop :=
  eBox 35 t0 w fun t1 w' =>
  ldN 3 t1 w' fun t12 =>
  callF Tryd.prog 48 #[t12] w' fun t13 w'' =>
  m42_7 R t13 t1 w''
theorem e42 (R : Value → World → Prop) (t0 : Value) (w : World) : bodyF Tryd.prog Tryd.f42 (bd Tryd.f42) [t0] w R = m42 R t0 w := by kernel_rfl
theorem c42 (R : Value → World → Prop) (t0 : Value) (w : World) (h : m42 R t0 w) : Calls Tryd.prog 42 #[t0] w fun e w' => ∃ v, e = .returned v ∧ R v w' :=
  calls_of_F mixed Tryd.func42 bd42 (Nat.le_of_ble_eq_true rfl) (by rw [e42]; exact h)
/-! 43: slices.IndexFunc[[]isthmus/api.AddrSpan,isthmus/api.AddrSpan] | loop vs: t8 -/
theorem bd43 : Tryd.f43.body = some (bd Tryd.f43) := rfl
def m43_1 (R : Value → World → Prop) (again : List Value → World → Prop) (vs : List Value) (t7 : Value) (t0 : Value) (t1 : Value) (w' : World) : Prop :=
  pBin .lss (vs.getD 0 undef) t7 fun t9 =>
  condF t9
  (pIxS 6 t0 (vs.getD 0 undef) fun t14 =>
    ldN 6 t14 w' fun t15 =>
    callV Tryd.prog t1 #[t15] w' fun t16 w'' =>
    condF t16
    (R (vs.getD 0 undef) w'')
    (pBin .add (vs.getD 0 undef) (.int .i64 1) fun t18 =>
      again [t18] w''))
  (R (.int .i64 (-1)) w')
def m43 (R : Value → World → Prop) (t0 t1 : Value) (w : World) : Prop :=
  pLenT 2 t0 fun t7 =>
  loopP [(.int .i64 0)] w (fun vs w' again =>
    m43_1 R again vs t7 t0 t1 w')
theorem e43 (R : Value → World → Prop) (t0 t1 : Value) (w : World) : bodyF Tryd.prog Tryd.f43 (bd Tryd.f43) [t0, t1] w R = m43 R t0 t1 w := by kernel_rfl
theorem c43 (R : Value → World → Prop) (t0 t1 : Value) (w : World) (h : m43 R t0 t1 w) : Calls Tryd.prog 43 #[t0, t1] w fun e w' => ∃ v, e = .returned v ∧ R v w' :=
  calls_of_F mixed Tryd.func43 bd43 (Nat.le_of_ble_eq_true rfl) (by rw [e43]; exact h)
/-! 44: isthmus/ip.Less -/
theorem bd44 : Tryd.f44.body = some (bd Tryd.f44) := rfl
def m44 (R : Value → World → Prop) (t0 t1 : Value) (w : World) : Prop :=
  eBox 35 t0 w fun t2 w' =>
  eBox 35 t1 w' fun t3 w'' =>
  pFld 0 t2 fun t6 =>
  ld1 t6 w'' fun t7 =>
  pFld 0 t3 fun t8 =>
  ld1 t8 w'' fun t9 =>
  pBoolEq .neq t7 t9 fun t10 =>
  condF t10
  (pFld 0 t3 fun t11 =>
    ld1 t11 w'' fun t12 =>
    R t12 w'')
  (pFld 1 t2 fun t14 =>
    ld1 t14 w'' fun t15 =>
    pFld 1 t3 fun t16 =>
    ld1 t16 w'' fun t17 =>
    pBin .neq t15 t17 fun t18 =>
    condF t18
    (pFld 1 t2 fun t19 =>
      ld1 t19 w'' fun t20 =>
      pFld 1 t3 fun t21 =>
      ld1 t21 w'' fun t22 =>
      pBin .lss t20 t22 fun t23 =>
      R t23 w'')
    (pFld 2 t2 fun t24 =>
      ld1 t24 w'' fun t25 =>
      pFld 2 t3 fun t26 =>
      ld1 t26 w'' fun t27 =>
      pBin .lss t25 t27 fun t28 =>
      R t28 w''))
theorem e44 (R : Value → World → Prop) (t0 t1 : Value) (w : World) : bodyF Tryd.prog Tryd.f44 (bd Tryd.f44) [t0, t1] w R = m44 R t0 t1 w := by kernel_rfl
theorem c44 (R : Value → World → Prop) (t0 t1 : Value) (w : World) (h : m44 R t0 t1 w) : Calls Tryd.prog 44 #[t0, t1] w fun e w' => ∃ v, e = .returned v ∧ R v w' :=
  calls_of_F mixed Tryd.func44 bd44 (Nat.le_of_ble_eq_true rfl) (by rw [e44]; exact h)
/-! 45: slices.ContainsFunc[[]isthmus/api.Ports,isthmus/api.Ports] -/
theorem bd45 : Tryd.f45.body = some (bd Tryd.f45) := rfl
def m45 (R : Value → World → Prop) (t0 t1 : Value) (w : World) : Prop :=
  callF Tryd.prog 54 #[t0, t1] w fun t7 w' =>
  pBin .geq t7 (.int .i64 0) fun t8 =>
  R t8 w'
theorem e45 (R : Value → World → Prop) (t0 t1 : Value) (w : World) : bodyF Tryd.prog Tryd.f45 (bd Tryd.f45) [t0, t1] w R = m45 R t0 t1 w := by kernel_rfl
theorem c45 (R : Value → World → Prop) (t0 t1 : Value) (w : World) (h : m45 R t0 t1 w) : Calls Tryd.prog 45 #[t0, t1] w fun e w' => ∃ v, e = .returned v ∧ R v w' :=
  calls_of_F mixed Tryd.func45 bd45 (Nat.le_of_ble_eq_true rfl) (by rw [e45]; exact h)
/-! 46: isthmus/rules.by$1 | join vs: t4 -/
theorem bd46 : Tryd.f46.body = some (bd Tryd.f46) := rfl
def m46_1 (J : List Value → World → Prop) (t1 : Value) (t2 : Value) (t3 : Value) (w' : World) : Prop :=
  ld1 t1 w' fun t5 =>
  condF t5
  (pFld 8 t2 fun t7 =>
    ld1 t7 w' fun t8 =>
    pFld 0 t3 fun t9 =>
    ld1 t9 w' fun t10 =>
    pBin .geq t8 t10 fun t11 =>
    condF t11
    (pFld 8 t2 fun t14 =>
      ld1 t14 w' fun t15 =>
      pFld 1 t3 fun t16 =>
      ld1 t16 w' fun t17 =>
      pBin .leq t15 t17 fun t18 =>
      J [t18] w')
    (J [(.bool false)] w'))
  (J [(.bool false)] w')
def m46 (R : Value → World → Prop) (t0 t1 t2 : Value) (w : World) : Prop :=
  eBox 71 t0 w fun t3 w' =>
  joinP (fun J =>
    m46_1 J t1 t2 t3 w')
  (fun vs w'' =>
    R (vs.getD 0 undef) w'')
theorem e46 (R : Value → World → Prop) (t0 t1 t2 : Value) (w : World) : bodyF Tryd.prog Tryd.f46 (bd Tryd.f46) [t0, t1, t2] w R = m46 R t0 t1 t2 w := by kernel_rfl
theorem c46 (R : Value → World → Prop) (t0 t1 t2 : Value) (w : World) (h : m46 R t0 t1 t2 w) : Calls Tryd.prog 46 #[t0, t1, t2] w fun e w' => ∃ v, e = .returned v ∧ R v w' :=
  calls_of_F mixed Tryd.func46 bd46 (Nat.le_of_ble_eq_true rfl) (by rw [e46]; exact h)
/-! 47: slices.Contains[[]uint8,uint8] -/
theorem bd47 : Tryd.f47.body = some (bd Tryd.f47) := rfl
def m47 (R : Value → World → Prop) (t0 t1 : Value) (w : World) : Prop :=
  callF Tryd.prog 55 #[t0, t1] w fun t7 w' =>
  pBin .geq t7 (.int .i64 0) fun t8 =>
  R t8 w'
theorem e47 (R : Value → World → Prop) (t0 t1 : Value) (w : World) : bodyF Tryd.prog Tryd.f47 (bd Tryd.f47) [t0, t1] w R = m47 R t0 t1 w := by kernel_rfl
theorem c47 (R : Value → World → Prop) (t0 t1 : Value) (w : World) (h : m47 R t0 t1 w) : Calls Tryd.prog 47 #[t0, t1] w fun e w' => ∃ v, e = .returned v ∧ R v w' :=
  calls_of_F mixed Tryd.func47 bd47 (Nat.le_of_ble_eq_true rfl) (by rw [e47]; exact h)
/-! 48: isthmus/ip.mayAddr | join vs: t2 -/
theorem bd48 : Tryd.f48.body = some (bd Tryd.f48) := rfl
def m48_1 (J : List Value → World → Prop) (t1 : Value) (w' : World) : Prop :=
  pFld 0 t1 fun t3 =>
  ld1 t3 w' fun t4 =>
  condF t4
  (J [(.bool true)] w')
  (pFld 1 t1 fun t6 =>
    ld1 t6 w' fun t7 =>
    pBin .eql t7 (.int .u64 0) fun t8 =>
    condF t8
    (pFld 2 t1 fun t10 =>
      ld1 t10 w' fun t11 =>
      pShift .shr t11 (.int .u64 32) fun t12 =>
      pBin .eql t12 (.int .u64 0) fun t13 =>
      J [t13] w')
    (J [(.bool false)] w'))
def m48 (R : Value → World → Prop) (t0 : Value) (w : World) : Prop :=
  eBox 35 t0 w fun t1 w' =>
  joinP (fun J =>
    m48_1 J t1 w')
  (fun vs w'' =>
    R (vs.getD 0 undef) w'')
theorem e48 (R : Value → World → Prop) (t0 : Value) (w : World) : bodyF Tryd.prog Tryd.f48 (bd Tryd.f48) [t0] w R = m48 R t0 w := by kernel_rfl
theorem c48 (R : Value → World → Prop) (t0 : Value) (w : World) (h : m48 R t0 w) : Calls Tryd.prog 48 #[t0] w fun e w' => ∃ v, e = .returned v ∧ R v w' :=
  calls_of_F mixed Tryd.func48 bd48 (Nat.le_of_ble_eq_true rfl) (by rw [e48]; exact h)
/-! 49: strconv.Itoa -/
theorem bd49 : Tryd.f49.body = some (bd Tryd.f49) := rfl
def m49 (R : Value → World → Prop) (t0 : Value) (w : World) : Prop :=
  callF Tryd.prog 56 #[t0] w fun t4 w' =>
  R t4 w'
theorem e49 (R : Value → World → Prop) (t0 : Value) (w : World) : bodyF Tryd.prog Tryd.f49 (bd Tryd.f49) [t0] w R = m49 R t0 w := by kernel_rfl
theorem c49 (R : Value → World → Prop) (t0 : Value) (w : World) (h : m49 R t0 w) : Calls Tryd.prog 49 #[t0] w fun e w' => ∃ v, e = .returned v ∧ R v w' :=
  calls_of_F mixed Tryd.func49 bd49 (Nat.le_of_ble_eq_true rfl) (by rw [e49]; exact h)
/-! 50: strings.Join | join vs:  | join vs_3:  | loop vs_4: t65 | loop vs'': t5, t41 | join vs': t5 -/
theorem bd50 : Tryd.f50.body = some (bd Tryd.f50) := rfl
def m50_1 (J : List Value → World → Prop) (t1 : Value) (t0 : Value) (w : World) : Prop :=
  pLenT 1 t1 fun t21 =>
  pBin .gtr t21 (.int .i64 0) fun t22 =>
  condF t22
  (joinP (fun J' =>
      pLenT 1 t1 fun t24 =>
      pLenT 2 t0 fun t26 =>
      pBin .sub t26 (.int .i64 1) fun t27 =>
      pBin .quo (.int .i64 9223372036854775807) t27 fun t28 =>
      pBin .geq t24 t28 fun t29 =>
      condF t29
      (False)
      (J' [] w))
    (fun _ w' =>
      pLenT 1 t1 fun t33 =>
      pLenT 2 t0 fun t35 =>
      pBin .sub t35 (.int .i64 1) fun t36 =>
      pBin .mul t33 t36 fun t37 =>
      pBin .add (.int .i64 0) t37 fun t38 =>
      J [t38] w'))
  (J [(.int .i64 0)] w)
def m50_2 (R : Value → World → Prop) (again' : List Value → World → Prop) (vs_4 : List Value) (t64 : Value) (t63 : Value) (t8 : Value) (t1 : Value) (w_8 : World) : Prop :=
  pBin .lss (vs_4.getD 0 undef) t64 fun t66 =>
  condF t66
  (pIxS 1 t63 (vs_4.getD 0 undef) fun t67 =>
    ld1 t67 w_8 fun t68 =>
    callF Tryd.prog 58 #[t8, t1] w_8 fun _ w_9 =>
    callF Tryd.prog 58 #[t8, t68] w_9 fun _ w_10 =>
    pBin .add (vs_4.getD 0 undef) (.int .i64 1) fun t73 =>
    again' [t73] w_10)
  (callF Tryd.prog 59 #[t8] w_8 fun t74 w_11 =>
    R t74 w_11)
def m50_3 (R : Value → World → Prop) (t0 : Value) (t8 : Value) (t1 : Value) (w_6 : World) : Prop :=
  pIxS 1 t0 (.int .i64 0) fun t59 =>
  ld1 t59 w_6 fun t60 =>
  callF Tryd.prog 58 #[t8, t60] w_6 fun _ w_7 =>
  pCut 1 t0 (some (.int .i64 1)) none none fun t63 =>
  pLenT 2 t63 fun t64 =>
  loopP [(.int .i64 0)] w_7 (fun vs_4 w_8 again' =>
    m50_2 R again' vs_4 t64 t63 t8 t1 w_8)
def m50_4 (R : Value → World → Prop) (again : List Value → World → Prop) (vs'' : List Value) (t40 : Value) (t0 : Value) (t1 : Value) (w_3 : World) : Prop :=
  pBin .lss (vs''.getD 1 undef) t40 fun t42 =>
  condF t42
  (pIxS 1 t0 (vs''.getD 1 undef) fun t43 =>
    ld1 t43 w_3 fun t44 =>
    joinP (fun J'' =>
      pLenT 1 t44 fun t46 =>
      pBin .sub (.int .i64 9223372036854775807) (vs''.getD 0 undef) fun t48 =>
      pBin .gtr t46 t48 fun t49 =>
      condF t49
      (False)
      (J'' [] w_3))
    (fun _ w_4 =>
      pLenT 1 t44 fun t53 =>
      pBin .add (vs''.getD 0 undef) t53 fun t54 =>
      pBin .add (vs''.getD 1 undef) (.int .i64 1) fun t55 =>
      again [t54, t55] w_4))
  (eBox 100 (.agg #[(.pointer none), (.slice none 0 0)]) w_3 fun t8 w_5 =>
    callF Tryd.prog 57 #[t8, (vs''.getD 0 undef)] w_5 fun _ w_6 =>
    m50_3 R t0 t8 t1 w_6)
def m50 (R : Value → World → Prop) (t0 t1 : Value) (w : World) : Prop :=
  pLenT 2 t0 fun t12 =>
  pBin .eql t12 (.int .i64 0) fun t14 =>
  condF t14
  (R (.string ({ data := #[] })) w)
  (pBin .eql t12 (.int .i64 1) fun t16 =>
    condF t16
    (pIxS 1 t0 (.int .i64 0) fun t18 =>
      ld1 t18 w fun t19 =>
      R t19 w)
    (joinP (fun J =>
        m50_1 J t1 t0 w)
      (fun vs' w'' =>
        pLenT 2 t0 fun t40 =>
        loopP [(vs'.getD 0 undef), (.int .i64 0)] w'' (fun vs'' w_3 again =>
          m50_4 R again vs'' t40 t0 t1 w_3))))
theorem e50 (R : Value → World → Prop) (t0 t1 : Value) (w : World) : bodyF Tryd.prog Tryd.f50 (bd Tryd.f50) [t0, t1] w R = m50 R t0 t1 w := by kernel_rfl
theorem c50 (R : Value → World → Prop) (t0 t1 : Value) (w : World) (h : m50 R t0 t1 w) : Calls Tryd.prog 50 #[t0, t1] w fun e w' => ∃ v, e = .returned v ∧ R v w' :=
  calls_of_F mixed Tryd.func50 bd50 (Nat.le_of_ble_eq_true rfl) (by rw [e50]; exact h)
/-! 51: isthmus/ip.pieces | join vs': t4 | loop vs: t5 -/
theorem bd51 : Tryd.f51.body = some (bd Tryd.f51) := rfl
def m51_1 (again : List Value → World → Prop) (vs : List Value) (vs' : List Value) (t2 : Value) (w_4 : World) : Prop :=
  pBin .and (vs.getD 0 undef) (.int .i64 3) fun t17 =>
  pBin .mul (.int .i64 16) t17 fun t18 =>
  pBin .sub (.int .i64 48) t18 fun t19 =>
  pShift .shr (vs'.getD 0 undef) t19 fun t20 =>
  pConv .u16 t20 fun t21 =>
  pIxA 1 8 t2 (vs.getD 0 undef) fun t22 =>
  eSt1 t22 t21 w_4 fun w_5 =>
  pBin .add (vs.getD 0 undef) (.int .i64 1) fun t23 =>
  again [t23] w_5
def m51_2 (R : Value → World → Prop) (again : List Value → World → Prop) (vs : List Value) (t1 : Value) (t2 : Value) (w_3 : World) : Prop :=
  pBin .lss (vs.getD 0 undef) (.int .i64 8) fun t6 =>
  condF t6
  (pFld 1 t1 fun t8 =>
    ld1 t8 w_3 fun t9 =>
    joinP (fun J =>
      pBin .gtr (vs.getD 0 undef) (.int .i64 3) fun t11 =>
      condF t11
      (pFld 2 t1 fun t12 =>
        ld1 t12 w_3 fun t13 =>
        J [t13] w_3)
      (J [t9] w_3))
    (fun vs' w_4 =>
      m51_1 again vs vs' t2 w_4))
  (ldN 8 t2 w_3 fun t24 =>
    ef Tryd.prog (Instr.storeAt 90 t2 t24) w_3 fun _ w_6 =>
    ldN 8 t2 w_6 fun r0 =>
    R r0 w_6)
def m51 (R : Value → World → Prop) (t0 : Value) (w : World) : Prop :=
  eBox 35 t0 w fun t1 w' =>
  eBox 90 (.agg #[(.int .u16 0), (.int .u16 0), (.int .u16 0), (.int .u16 0), (.int .u16 0), (.int .u16 0), (.int .u16 0), (.int .u16 0)]) w' fun t2 w'' =>
  loopP [(.int .i64 0)] w'' (fun vs w_3 again =>
    m51_2 R again vs t1 t2 w_3)
theorem e51 (R : Value → World → Prop) (t0 : Value) (w : World) : bodyF Tryd.prog Tryd.f51 (bd Tryd.f51) [t0] w R = m51 R t0 w := by kernel_rfl
theorem c51 (R : Value → World → Prop) (t0 : Value) (w : World) (h : m51 R t0 w) : Calls Tryd.prog 51 #[t0] w fun e w' => ∃ v, e = .returned v ∧ R v w' :=
  calls_of_F mixed Tryd.func51 bd51 (Nat.le_of_ble_eq_true rfl) (by rw [e51]; exact h)
/-! 52: isthmus/ip.Text$1 | loop vs: t3, t8 -/
theorem bd52 : Tryd.f52.body = some (bd Tryd.f52) := rfl
def m52_1 (again : List Value → World → Prop) (vs : List Value) (t15 : Value) (w'' : World) : Prop :=
  ef Tryd.prog (Instr.buildSlice 87 1 ([(0, t15)]).toArray) w'' fun t16 w_3 =>
  ef Tryd.prog (Builtin.append_ #[87, 87] 87 #[(vs.getD 0 undef), t16]) w_3 fun t17 w_4 =>
  pBin .add (vs.getD 1 undef) (.int .i64 1) fun t18 =>
  again [t17, t18] w_4
def m52_2 (R : Value → World → Prop) (again : List Value → World → Prop) (vs : List Value) (t7 : Value) (t0 : Value) (w' : World) : Prop :=
  pBin .lss (vs.getD 1 undef) t7 fun t9 =>
  condF t9
  (pIxS 1 t0 (vs.getD 1 undef) fun t10 =>
    ld1 t10 w' fun t11 =>
    pConv .u64 t11 fun t14 =>
    callF Tryd.prog 53 #[t14, (.int .i64 16)] w' fun t15 w'' =>
    m52_1 again vs t15 w'')
  (callF Tryd.prog 50 #[(vs.getD 0 undef), (.string ({ data := #[58] }))] w' fun t20 w_5 =>
    R t20 w_5)
def m52 (R : Value → World → Prop) (t0 : Value) (w : World) : Prop :=
  pLenT 2 t0 fun t7 =>
  loopP [(.slice none 0 0), (.int .i64 0)] w (fun vs w' again =>
    m52_2 R again vs t7 t0 w')
theorem e52 (R : Value → World → Prop) (t0 : Value) (w : World) : bodyF Tryd.prog Tryd.f52 (bd Tryd.f52) [t0] w R = m52 R t0 w := by kernel_rfl
theorem c52 (R : Value → World → Prop) (t0 : Value) (w : World) (h : m52 R t0 w) : Calls Tryd.prog 52 #[t0] w fun e w' => ∃ v, e = .returned v ∧ R v w' :=
  calls_of_F mixed Tryd.func52 bd52 (Nat.le_of_ble_eq_true rfl) (by rw [e52]; exact h)
/-! 53: strconv.FormatUint -/
theorem bd53 : Tryd.f53.body = some (bd Tryd.f53) := rfl
def m53 (R : Value → World → Prop) (t0 t1 : Value) (w : World) : Prop :=
  callF Tryd.prog 60 #[t0, t1] w fun t7 w' =>
  R t7 w'
theorem e53 (R : Value → World → Prop) (t0 t1 : Value) (w : World) : bodyF Tryd.prog Tryd.f53 (bd Tryd.f53) [t0, t1] w R = m53 R t0 t1 w := by kernel_rfl
theorem c53 (R : Value → World → Prop) (t0 t1 : Value) (w : World) (h : m53 R t0 t1 w) : Calls Tryd.prog 53 #[t0, t1] w fun e w' => ∃ v, e = .returned v ∧ R v w' :=
  calls_of_F mixed Tryd.func53 bd53 (Nat.le_of_ble_eq_true rfl) (by rw [e53]; exact h)
/-! 54: slices.IndexFunc[[]isthmus/api.Ports,isthmus/api.Ports] | loop vs: t8 -/
theorem bd54 : Tryd.f54.body = some (bd Tryd.f54) := rfl
def m54_1 (R : Value → World → Prop) (again : List Value → World → Prop) (vs : List Value) (t7 : Value) (t0 : Value) (t1 : Value) (w' : World) : Prop :=
  pBin .lss (vs.getD 0 undef) t7 fun t9 =>
  condF t9
  (pIxS 2 t0 (vs.getD 0 undef) fun t14 =>
    ldN 2 t14 w' fun t15 =>
    callV Tryd.prog t1 #[t15] w' fun t16 w'' =>
    condF t16
    (R (vs.getD 0 undef) w'')
    (pBin .add (vs.getD 0 undef) (.int .i64 1) fun t18 =>
      again [t18] w''))
  (R (.int .i64 (-1)) w')
def m54 (R : Value → World → Prop) (t0 t1 : Value) (w : World) : Prop :=
  pLenT 2 t0 fun t7 =>
  loopP [(.int .i64 0)] w (fun vs w' again =>
    m54_1 R again vs t7 t0 t1 w')
theorem e54 (R : Value → World → Prop) (t0 t1 : Value) (w : World) : bodyF Tryd.prog Tryd.f54 (bd Tryd.f54) [t0, t1] w R = m54 R t0 t1 w := by kernel_rfl
theorem c54 (R : Value → World → Prop) (t0 t1 : Value) (w : World) (h : m54 R t0 t1 w) : Calls Tryd.prog 54 #[t0, t1] w fun e w' => ∃ v, e = .returned v ∧ R v w' :=
  calls_of_F mixed Tryd.func54 bd54 (Nat.le_of_ble_eq_true rfl) (by rw [e54]; exact h)
/-! 55: slices.Index[[]uint8,uint8] | loop vs: t8 -/
theorem bd55 : Tryd.f55.body = some (bd Tryd.f55) := rfl
def m55_1 (R : Value → World → Prop) (again : List Value → World → Prop) (vs : List Value) (t7 : Value) (t0 : Value) (t1 : Value) (w' : World) : Prop :=
  pBin .lss (vs.getD 0 undef) t7 fun t9 =>
  condF t9
  (pIxS 1 t0 (vs.getD 0 undef) fun t14 =>
    ld1 t14 w' fun t15 =>
    pBin .eql t1 t15 fun t16 =>
    condF t16
    (R (vs.getD 0 undef) w')
    (pBin .add (vs.getD 0 undef) (.int .i64 1) fun t18 =>
      again [t18] w'))
  (R (.int .i64 (-1)) w')
def m55 (R : Value → World → Prop) (t0 t1 : Value) (w : World) : Prop :=
  pLenT 2 t0 fun t7 =>
  loopP [(.int .i64 0)] w (fun vs w' again =>
    m55_1 R again vs t7 t0 t1 w')
theorem e55 (R : Value → World → Prop) (t0 t1 : Value) (w : World) : bodyF Tryd.prog Tryd.f55 (bd Tryd.f55) [t0, t1] w R = m55 R t0 t1 w := by kernel_rfl
theorem c55 (R : Value → World → Prop) (t0 t1 : Value) (w : World) (h : m55 R t0 t1 w) : Calls Tryd.prog 55 #[t0, t1] w fun e w' => ∃ v, e = .returned v ∧ R v w' :=
  calls_of_F mixed Tryd.func55 bd55 (Nat.le_of_ble_eq_true rfl) (by rw [e55]; exact h)
/-! 56: internal/strconv.Itoa -/
theorem bd56 : Tryd.f56.body = some (bd Tryd.f56) := rfl
def m56 (R : Value → World → Prop) (t0 : Value) (w : World) : Prop :=
  callF Tryd.prog 61 #[t0, (.int .i64 10)] w fun t4 w' =>
  R t4 w'
theorem e56 (R : Value → World → Prop) (t0 : Value) (w : World) : bodyF Tryd.prog Tryd.f56 (bd Tryd.f56) [t0] w R = m56 R t0 w := by kernel_rfl
theorem c56 (R : Value → World → Prop) (t0 : Value) (w : World) (h : m56 R t0 w) : Calls Tryd.prog 56 #[t0] w fun e w' => ∃ v, e = .returned v ∧ R v w' :=
  calls_of_F mixed Tryd.func56 bd56 (Nat.le_of_ble_eq_true rfl) (by rw [e56]; exact h)
/-! 58: (*strings.Builder).WriteString -/
theorem bd58 : Tryd.f58.body = some (bd Tryd.f58) := rfl
def m58_1 (R : Value → World → Prop) (t0 : Value) (t1 : Value) (w' : World) : Prop :=
  nilC t0 fun t10 =>
  pFld 1 t10 fun t11 =>
  ld1 t11 w' fun t12 =>
  ef Tryd.prog (Builtin.append_ #[57, 9] 57 #[t12, t1]) w' fun t14 w'' =>
  nilC t0 fun t15 =>
  pFld 1 t15 fun t16 =>
  eSt1 t16 t14 w'' fun w_3 =>
  pLenT 1 t1 fun t18 =>
  R (.tuple #[t18, .nilIface]) w_3
def m58 (R : Value → World → Prop) (t0 t1 : Value) (w : World) : Prop :=
  callF Tryd.prog 62 #[t0] w fun _ w' =>
  m58_1 R t0 t1 w'
theorem e58 (R : Value → World → Prop) (t0 t1 : Value) (w : World) : bodyF Tryd.prog Tryd.f58 (bd Tryd.f58) [t0, t1] w R = m58 R t0 t1 w := by kernel_rfl
theorem c58 (R : Value → World → Prop) (t0 t1 : Value) (w : World) (h : m58 R t0 t1 w) : Calls Tryd.prog 58 #[t0, t1] w fun e w' => ∃ v, e = .returned v ∧ R v w' :=
  calls_of_F mixed Tryd.func58 bd58 (Nat.le_of_ble_eq_true rfl) (by rw [e58]; exact h)
/-! 60: internal/strconv.FormatUint -/
theorem bd60 : Tryd.f60.body = some (bd Tryd.f60) := rfl
def m60_1 (R : Value → World → Prop) (t5 : Value) (t17 : Value) (t0 : Value) (w_3 : World) : Prop :=
  pCutArr 1 24 t5 none (some t17) none fun t19 =>
  callF Tryd.prog 66 #[t19, t0] w_3 fun _ w_4 =>
  pCutArr 1 24 t5 none (some t17) none fun t23 =>
  rd Tryd.prog (convert 57 9 t23) w_4 fun t24 =>
  R t24 w_4
def m60 (R : Value → World → Prop) (t0 t1 : Value) (w : World) : Prop :=
  pBin .eql t1 (.int .i64 10) fun t10 =>
  condF t10
  (pBin .lss t0 (.int .u64 100) fun t12 =>
    condF t12
    (pConv .i64 t0 fun t14 =>
      callF Tryd.prog 64 #[t14] w fun t15 w' =>
      R t15 w')
    (eBox 109 (.agg #[(.int .u8 0), (.int .u8 0), (.int .u8 0), (.int .u8 0), (.int .u8 0), (.int .u8 0), (.int .u8 0), (.int .u8 0), (.int .u8 0), (.int .u8 0), (.int .u8 0), (.int .u8 0), (.int .u8 0), (.int .u8 0), (.int .u8 0), (.int .u8 0), (.int .u8 0), (.int .u8 0), (.int .u8 0), (.int .u8 0), (.int .u8 0), (.int .u8 0), (.int .u8 0), (.int .u8 0)]) w fun t5 w'' =>
      callF Tryd.prog 65 #[t0] w'' fun t17 w_3 =>
      m60_1 R t5 t17 t0 w_3))
  (callF Tryd.prog 67 #[(.slice none 0 0), t0, t1, (.bool false), (.bool false)] w fun t28 w_5 =>
    pExt 0 t28 fun _ =>
    pExt 1 t28 fun t30 =>
    R t30 w_5)
theorem e60 (R : Value → World → Prop) (t0 t1 : Value) (w : World) : bodyF Tryd.prog Tryd.f60 (bd Tryd.f60) [t0, t1] w R = m60 R t0 t1 w := by kernel_rfl
theorem c60 (R : Value → World → Prop) (t0 t1 : Value) (w : World) (h : m60 R t0 t1 w) : Calls Tryd.prog 60 #[t0, t1] w fun e w' => ∃ v, e = .returned v ∧ R v w' :=
  calls_of_F mixed Tryd.func60 bd60 (Nat.le_of_ble_eq_true rfl) (by rw [e60]; exact h)
/-! 67: internal/strconv.formatBits | join vs: t28 | loop vs_3: t13, t1 | loop vs_4: t13, t1 | join vs_6: t13 | join vs_5: t13 | join vs'': t1 | join vs':  -/
theorem bd67 : Tryd.f67.body = some (bd Tryd.f67) := rfl
def m67_1 (J : List Value → World → Prop) (t2 : Value) (w : World) : Prop :=
  joinP (fun J' =>
    pBin .lss t2 (.int .i64 2) fun t20 =>
    condF t20
    (J' [(.bool true)] w)
    (pBin .eql t2 (.int .i64 10) fun t23 =>
      condF t23
      (J' [(.bool true)] w)
      (pBin .gtr t2 (.int .i64 36) fun t27 =>
        J' [t27] w)))
  (fun vs w' =>
    condF (vs.getD 0 undef)
    (False)
    (J [] w'))
def m67_2 (again : List Value → World → Prop) (J_3 : List Value → World → Prop) (vs_3 : List Value) (t40 : Value) (t43 : Value) (t12 : Value) (t38 : Value) (w_7 : World) : Prop :=
  pBin .geq (vs_3.getD 1 undef) t40 fun t46 =>
  condF t46
  (pBin .sub (vs_3.getD 0 undef) (.int .i64 1) fun t48 =>
    pBin .and (vs_3.getD 1 undef) t43 fun t52 =>
    pIxStr (.string ({ data := #[48, 49, 50, 51, 52, 53, 54, 55, 56, 57, 97, 98, 99, 100, 101, 102, 103, 104, 105, 106, 107, 108, 109, 110, 111, 112, 113, 114, 115, 116, 117, 118, 119, 120, 121, 122] })) t52 fun t53 =>
    pIxA 1 65 t12 t48 fun t54 =>
    eSt1 t54 t53 w_7 fun w_8 =>
    pShift .shr (vs_3.getD 1 undef) t38 fun t57 =>
    again [t48, t57] w_8)
  (pBin .sub (vs_3.getD 0 undef) (.int .i64 1) fun t59 =>
    pIxStr (.string ({ data := #[48, 49, 50, 51, 52, 53, 54, 55, 56, 57, 97, 98, 99, 100, 101, 102, 103, 104, 105, 106, 107, 108, 109, 110, 111, 112, 113, 114, 115, 116, 117, 118, 119, 120, 121, 122] })) (vs_3.getD 1 undef) fun t62 =>
    pIxA 1 65 t12 t59 fun t63 =>
    eSt1 t63 t62 w_7 fun w_9 =>
    J_3 [t59] w_9)
def m67_3 (J_3 : List Value → World → Prop) (vs'' : List Value) (t37 : Value) (t2 : Value) (t12 : Value) (w_6 : World) : Prop :=
  pConv .u64 t37 fun t38 =>
  pConv .u64 t2 fun t40 =>
  pConv .u64 t2 fun t42 =>
  pBin .sub t42 (.int .u64 1) fun t43 =>
  loopP [(.int .i64 65), (vs''.getD 0 undef)] w_6 (fun vs_3 w_7 again =>
    m67_2 again J_3 vs_3 t40 t43 t12 t38 w_7)
def m67_4 (again' : List Value → World → Prop) (J_3 : List Value → World → Prop) (vs_4 : List Value) (t65 : Value) (t12 : Value) (w_10 : World) : Prop :=
  pBin .geq (vs_4.getD 1 undef) t65 fun t68 =>
  condF t68
  (pBin .sub (vs_4.getD 0 undef) (.int .i64 1) fun t70 =>
    pBin .quo (vs_4.getD 1 undef) t65 fun t73 =>
    pBin .mul t73 t65 fun t78 =>
    pBin .sub (vs_4.getD 1 undef) t78 fun t79 =>
    pIxStr (.string ({ data := #[48, 49, 50, 51, 52, 53, 54, 55, 56, 57, 97, 98, 99, 100, 101, 102, 103, 104, 105, 106, 107, 108, 109, 110, 111, 112, 113, 114, 115, 116, 117, 118, 119, 120, 121, 122] })) t79 fun t80 =>
    pIxA 1 65 t12 t70 fun t81 =>
    eSt1 t81 t80 w_10 fun w_11 =>
    again' [t70, t73] w_11)
  (pBin .sub (vs_4.getD 0 undef) (.int .i64 1) fun t84 =>
    pIxStr (.string ({ data := #[48, 49, 50, 51, 52, 53, 54, 55, 56, 57, 97, 98, 99, 100, 101, 102, 103, 104, 105, 106, 107, 108, 109, 110, 111, 112, 113, 114, 115, 116, 117, 118, 119, 120, 121, 122] })) (vs_4.getD 1 undef) fun t87 =>
    pIxA 1 65 t12 t84 fun t88 =>
    eSt1 t88 t87 w_10 fun w_12 =>
    J_3 [t84] w_12)
def m67_5 (J_3 : List Value → World → Prop) (vs'' : List Value) (t34 : Value) (t2 : Value) (t12 : Value) (w_5 : World) : Prop :=
  condF t34
  (pConv .u64 t2 fun t36 =>
    callF Tryd.prog 74 #[t36] w_5 fun t37 w_6 =>
    m67_3 J_3 vs'' t37 t2 t12 w_6)
  (pConv .u64 t2 fun t65 =>
    loopP [(.int .i64 65), (vs''.getD 0 undef)] w_5 (fun vs_4 w_10 again' =>
      m67_4 again' J_3 vs_4 t65 t12 w_10))
def m67_6 (R : Value → World → Prop) (vs_6 : List Value) (t4 : Value) (t12 : Value) (t0 : Value) (w_15 : World) : Prop :=
  condF t4
  (pCutArr 1 65 t12 (some (vs_6.getD 0 undef)) none none fun t97 =>
    ef Tryd.prog (Builtin.append_ #[57, 57] 57 #[t0, t97]) w_15 fun t98 w_16 =>
    R (.tuple #[t98, (.string ({ data := #[] }))]) w_16)
  (pCutArr 1 65 t12 (some (vs_6.getD 0 undef)) none none fun t100 =>
    rd Tryd.prog (convert 57 9 t100) w_15 fun t101 =>
    R (.tuple #[(.slice none 0 0), t101]) w_15)
def m67_7 (R : Value → World → Prop) (vs_5 : List Value) (t3 : Value) (t12 : Value) (t4 : Value) (t0 : Value) (w_13 : World) : Prop :=
  joinP (fun J_4 =>
    condF t3
    (pBin .sub (vs_5.getD 0 undef) (.int .i64 1) fun t91 =>
      pIxA 1 65 t12 t91 fun t93 =>
      eSt1 t93 (.int .u8 45) w_13 fun w_14 =>
      J_4 [t91] w_14)
    (J_4 [(vs_5.getD 0 undef)] w_13))
  (fun vs_6 w_15 =>
    m67_6 R vs_6 t4 t12 t0 w_15)
def m67_8 (R : Value → World → Prop) (t3 : Value) (t1 : Value) (t2 : Value) (t4 : Value) (t0 : Value) (w'' : World) : Prop :=
  eBox 121 (.agg #[(.int .u8 0), (.int .u8 0), (.int .u8 0), (.int .u8 0), (.int .u8 0), (.int .u8 0), (.int .u8 0), (.int .u8 0), (.int .u8 0), (.int .u8 0), (.int .u8 0), (.int .u8 0), (.int .u8 0), (.int .u8 0), (.int .u8 0), (.int .u8 0), (.int .u8 0), (.int .u8 0), (.int .u8 0), (.int .u8 0), (.int .u8 0), (.int .u8 0), (.int .u8 0), (.int .u8 0), (.int .u8 0), (.int .u8 0), (.int .u8 0), (.int .u8 0), (.int .u8 0), (.int .u8 0), (.int .u8 0), (.int .u8 0), (.int .u8 0), (.int .u8 0), (.int .u8 0), (.int .u8 0), (.int .u8 0), (.int .u8 0), (.int .u8 0), (.int .u8 0), (.int .u8 0), (.int .u8 0), (.int .u8 0), (.int .u8 0), (.int .u8 0), (.int .u8 0), (.int .u8 0), (.int .u8 0), (.int .u8 0), (.int .u8 0), (.int .u8 0), (.int .u8 0), (.int .u8 0), (.int .u8 0), (.int .u8 0), (.int .u8 0), (.int .u8 0), (.int .u8 0), (.int .u8 0), (.int .u8 0), (.int .u8 0), (.int .u8 0), (.int .u8 0), (.int .u8 0), (.int .u8 0)]) w'' fun t12 w_3 =>
  joinP (fun J'' =>
    condF t3
    (pNeg t1 fun t32 =>
      J'' [t32] w_3)
    (J'' [t1] w_3))
  (fun vs'' w_4 =>
    joinP (fun J_3 =>
      callF Tryd.prog 73 #[t2] w_4 fun t34 w_5 =>
      m67_5 J_3 vs'' t34 t2 t12 w_5)
    (fun vs_5 w_13 =>
      m67_7 R vs_5 t3 t12 t4 t0 w_13))
def m67 (R : Value → World → Prop) (t0 t1 t2 t3 t4 : Value) (w : World) : Prop :=
  joinP (fun J =>
    m67_1 J t2 w)
  (fun _ w'' =>
    m67_8 R t3 t1 t2 t4 t0 w'')
theorem e67 (R : Value → World → Prop) (t0 t1 t2 t3 t4 : Value) (w : World) : bodyF Tryd.prog Tryd.f67 (bd Tryd.f67) [t0, t1, t2, t3, t4] w R = m67 R t0 t1 t2 t3 t4 w := by kernel_rfl
theorem c67 (R : Value → World → Prop) (t0 t1 t2 t3 t4 : Value) (w : World) (h : m67 R t0 t1 t2 t3 t4 w) : Calls Tryd.prog 67 #[t0, t1, t2, t3, t4] w fun e w' => ∃ v, e = .returned v ∧ R v w' :=
  calls_of_F mixed Tryd.func67 bd67 (Nat.le_of_ble_eq_true rfl) (by rw [e67]; exact h)
/-! 73: internal/strconv.isPowerOfTwo -/
theorem bd73 : Tryd.f73.body = some (bd Tryd.f73) := rfl
def m73 (R : Value → World → Prop) (t0 : Value) (w : World) : Prop :=
  pBin .sub t0 (.int .i64 1) fun t5 =>
  pBin .and t0 t5 fun t6 =>
  pBin .eql t6 (.int .i64 0) fun t7 =>
  R t7 w
theorem e73 (R : Value → World → Prop) (t0 : Value) (w : World) : bodyF Tryd.prog Tryd.f73 (bd Tryd.f73) [t0] w R = m73 R t0 w := by kernel_rfl
theorem c73 (R : Value → World → Prop) (t0 : Value) (w : World) (h : m73 R t0 w) : Calls Tryd.prog 73 #[t0] w fun e w' => ∃ v, e = .returned v ∧ R v w' :=
  calls_of_F mixed Tryd.func73 bd73 (Nat.le_of_ble_eq_true rfl) (by rw [e73]; exact h)
/-! 74: math/bits.TrailingZeros -/
theorem bd74 : Tryd.f74.body = some (bd Tryd.f74) := rfl
def m74 (R : Value → World → Prop) (t0 : Value) (w : World) : Prop :=
  callF Tryd.prog 76 #[t0] w fun t7 w' =>
  R t7 w'
theorem e74 (R : Value → World → Prop) (t0 : Value) (w : World) : bodyF Tryd.prog Tryd.f74 (bd Tryd.f74) [t0] w R = m74 R t0 w := by kernel_rfl
theorem c74 (R : Value → World → Prop) (t0 : Value) (w : World) (h : m74 R t0 w) : Calls Tryd.prog 74 #[t0] w fun e w' => ∃ v, e = .returned v ∧ R v w' :=
  calls_of_F mixed Tryd.func74 bd74 (Nat.le_of_ble_eq_true rfl) (by rw [e74]; exact h)
/-! 76: math/bits.TrailingZeros64 -/
theorem bd76 : Tryd.f76.body = some (bd Tryd.f76) := rfl
def m76 (R : Value → World → Prop) (t0 : Value) (w : World) : Prop :=
  pBin .eql t0 (.int .u64 0) fun t4 =>
  condF t4
  (R (.int .i64 64) w)
  (pNeg t0 fun t7 =>
    pBin .and t0 t7 fun t8 =>
    pBin .mul t8 (.int .u64 285870213051353865) fun t9 =>
    pShift .shr t9 (.int .u64 58) fun t10 =>
    pIxA 1 64 (.pointer (some ⟨3, 0, none⟩)) t10 fun t11 =>
    ld1 t11 w fun t12 =>
    pConv .i64 t12 fun t13 =>
    R t13 w)
theorem e76 (R : Value → World → Prop) (t0 : Value) (w : World) : bodyF Tryd.prog Tryd.f76 (bd Tryd.f76) [t0] w R = m76 R t0 w := by kernel_rfl
theorem c76 (R : Value → World → Prop) (t0 : Value) (w : World) (h : m76 R t0 w) : Calls Tryd.prog 76 #[t0] w fun e w' => ∃ v, e = .returned v ∧ R v w' :=
  calls_of_F mixed Tryd.func76 bd76 (Nat.le_of_ble_eq_true rfl) (by rw [e76]; exact h)
end Go.Proofs.YtlfeckimhaegbaaDoor
