/- The bodies' texts in the abstract machine: printed by Gen.lean, checked by Lean's kernel. -/
import Derived.Test.YtbmmnckklafplaaAmR
import Derived.Test.YtbmmnckklafplaaProg
import Derived.KernelRfl
set_option linter.unusedVariables false
set_option linter.unusedSectionVars false
set_option maxRecDepth 100000
namespace Go.Proofs.Ytbmmnckklafplaa
open Go.GAM
noncomputable abbrev prog : Program := Try.prog
/-- The rules for functions that are not walked. -/
class XR where
  X : CallR
abbrev X [XR] : CallR := XR.X
abbrev C [XR] : CallR := acall prog X
abbrev G_main_main.id : FuncId := 0
abbrev G_gosem_cut.id : FuncId := 1
abbrev G_gosem_cut_init.id : FuncId := 2
abbrev G_law40_WindowCovers.id : FuncId := 3
abbrev G_law40_WindowGaps.id : FuncId := 4
abbrev G_law40_WindowPlays.id : FuncId := 5
abbrev G_law40_awake.id : FuncId := 6
abbrev G_law40_text.id : FuncId := 7
abbrev G_window_New.id : FuncId := 8
abbrev G_window_Window_Feed.id : FuncId := 9
abbrev G_window_Window_Close.id : FuncId := 10
abbrev G_ref40_Same.id : FuncId := 11
abbrev G_window_All.id : FuncId := 12
abbrev G_window_Window_Gap.id : FuncId := 13
abbrev G_ref40_New.id : FuncId := 14
abbrev G_ref40_Window_Feed.id : FuncId := 15
abbrev G_ref40_Window_Gap.id : FuncId := 16
abbrev G_ref40_Window_Close.id : FuncId := 17
abbrev G_ref40_All.id : FuncId := 18
abbrev G_window_Window_Size.id : FuncId := 19
abbrev G_ref40_Window_Size.id : FuncId := 20
abbrev G_window_Window_complete.id : FuncId := 21
abbrev G_window_Window_buffer.id : FuncId := 22
abbrev G_ref40_Window_buffer.id : FuncId := 23
abbrev G_runtime_boundsError_Error.id : FuncId := 24
abbrev G_runtime_boundsError_RuntimeError.id : FuncId := 25
abbrev G_runtime_errorString_Error.id : FuncId := 26
abbrev G_runtime_errorString_RuntimeError.id : FuncId := 27
abbrev G_runtime_plainError_Error.id : FuncId := 28
abbrev G_runtime_plainError_RuntimeError.id : FuncId := 29
abbrev G_runtime_errorAddressString_Error.id : FuncId := 30
abbrev G_runtime_errorAddressString_RuntimeError.id : FuncId := 31
abbrev G_runtime_TypeAssertionError_Error.id : FuncId := 32
abbrev G_runtime_TypeAssertionError_RuntimeError.id : FuncId := 33
abbrev G_runtime_PanicNilError_Error.id : FuncId := 34
abbrev G_runtime_PanicNilError_RuntimeError.id : FuncId := 35
abbrev G_i_abi_Type_Align.id : FuncId := 36
abbrev G_i_runtime_maps_unhashableTypeError_Error.id : FuncId := 37
abbrev G_i_runtime_maps_unhashableTypeError_RuntimeError.id : FuncId := 38
abbrev G_i_abi_Kind_String.id : FuncId := 39
variable [XR]
--@@ G_law40_WindowCovers
/-! ### 3: intrusion/intrusionlaw40.WindowCovers -/
noncomputable def G_law40_WindowCovers.body : Code := (Try.f3.body).getD .skip
def G_law40_WindowCovers.ann : Ann := (.seq 0 [0, 1, 2] .leaf (.seq 0 [0, 1, 2] (.seq 1 [0, 1, 2, 24] .leaf (.br (.seq 0 [6] .leaf .leaf) .leaf)) (.seq 0 [1, 2, 7] .leaf (.seq 0 [1, 2, 7, 8] .leaf (.seq 0 [1, 2, 7, 8] (.seq 0 [1, 2, 7, 8, 31] .leaf (.br (.seq 0 [6] .leaf .leaf) .leaf)) (.seq 0 [1, 2, 7, 8, 9] .leaf (.seq 0 [1, 2, 7, 8, 9, 10] .leaf (.seq 0 [2, 7, 8, 9, 10] (.seq 0 [1, 2, 7, 8, 9, 10, 11] .leaf (.one (.loop 2 [1, 2, 7, 8, 9, 10, 11] (.seq 0 [1, 2, 7, 8, 9, 10, 11] (.seq 0 [1, 2, 7, 8, 9, 10, 11, 36] .leaf (.br .leaf .leaf)) (.seq 0 [1, 2, 7, 8, 9, 10, 11] (.one (.seq 0 [1, 2, 7, 8, 9, 10, 11, 12] .leaf (.seq 3 [1, 2, 7, 8, 9, 10, 11, 12] (.seq 0 [1, 2, 7, 8, 9, 10, 11, 12, 47] .leaf (.br .leaf .leaf)) (.seq 0 [1, 2, 7, 8, 9, 10, 11, 12] .leaf .leaf)))) .leaf))))) (.seq 0 [2, 7, 8, 9] .leaf (.seq 0 [2, 7, 9] .leaf (.seq 0 [2, 7, 9] (.seq 0 [2, 7, 9, 73] .leaf (.br (.seq 0 [6] .leaf .leaf) .leaf)) (.seq 0 [2, 7, 9] (.seq 0 [2, 7, 9, 76] .leaf (.br (.seq 4 [6] .leaf .leaf) .leaf)) (.seq 0 [7, 9, 13] .leaf (.seq 0 [7, 9, 13, 14] .leaf (.seq 5 [7, 9, 13, 14] (.seq 0 [7, 9, 13, 14, 93] .leaf (.br .leaf .leaf)) (.seq 0 [7, 9, 13, 14, 15] .leaf (.seq 0 [15] (.seq 0 [7, 9, 13, 14, 15, 16] .leaf (.one (.loop 6 [7, 9, 13, 14, 15, 16] (.seq 0 [7, 9, 13, 14, 15, 16] (.seq 0 [7, 9, 13, 14, 15, 16, 99] .leaf (.br .leaf .leaf)) (.seq 8 [7, 9, 13, 14, 15, 16] (.one (.seq 0 [7, 9, 13, 14, 15, 16, 17] .leaf (.seq 0 [7, 9, 13, 14, 15, 16, 17] (.seq 7 [7, 9, 13, 14, 15, 16, 17, 148] .leaf (.br (.seq 0 [6] .leaf .leaf) .leaf)) .leaf))) .leaf))))) (.seq 9 [6] .leaf .leaf))))))))))))))))))
theorem G_law40_WindowCovers.body_eq : Try.f3.body = some G_law40_WindowCovers.body := by kernel_rfl
theorem G_law40_WindowCovers.dist : noTwice (places G_law40_WindowCovers.ann G_law40_WindowCovers.body) = true := by kernel_rfl
noncomputable def G_law40_WindowCovers.J (Q : AV → AHeap → Prop) : JT := funJ prog C Try.f3 G_law40_WindowCovers.ann G_law40_WindowCovers.body Q
theorem G_law40_WindowCovers.goR {Q : AV → AHeap → Prop} {k : Nat} {p : List Nat} (hl : lookJ (places G_law40_WindowCovers.ann G_law40_WindowCovers.body) k = some (p, false)) {e : Env} {h : AHeap} (hk : atJ prog C 169 (G_law40_WindowCovers.J Q) false p G_law40_WindowCovers.ann G_law40_WindowCovers.body e h (kFun prog Try.f3 Q)) : G_law40_WindowCovers.J Q k e h := goJ_run (P := prog) (fn := Try.f3) (ann := G_law40_WindowCovers.ann) (body := G_law40_WindowCovers.body) (Q := Q) (k := k) (p := p) (e := e) (h := h) (acall_le X) G_law40_WindowCovers.dist hl hk
theorem G_law40_WindowCovers.goH {Q : AV → AHeap → Prop} {k : Nat} {p : List Nat} (hl : lookJ (places G_law40_WindowCovers.ann G_law40_WindowCovers.body) k = some (p, true)) {e : Env} {h : AHeap} (hk : atJ prog C 169 (G_law40_WindowCovers.J Q) true p G_law40_WindowCovers.ann G_law40_WindowCovers.body e h (kFun prog Try.f3 Q)) : G_law40_WindowCovers.J Q k e h := goJ_head (P := prog) (fn := Try.f3) (ann := G_law40_WindowCovers.ann) (body := G_law40_WindowCovers.body) (Q := Q) (k := k) (p := p) (e := e) (h := h) (acall_le X) G_law40_WindowCovers.dist hl hk
def G_law40_WindowCovers.p0 (Q : AV → AHeap → Prop) (x0 : Int) (x1 : AV) (x2 : Int) (x24 : Bool) (h : AHeap) : Prop := G_law40_WindowCovers.J Q 1 [(0, (AV.i .u16 x0)), (1, x1), (2, (AV.i .u16 x2)), (24, (AV.b x24))] h
theorem G_law40_WindowCovers.j0 (Q : AV → AHeap → Prop) (x0 : Int) (x1 : AV) (x2 : Int) (x24 : Bool) (h : AHeap) : G_law40_WindowCovers.J Q 1 [(0, (AV.i .u16 x0)), (1, x1), (2, (AV.i .u16 x2)), (24, (AV.b x24))] h = G_law40_WindowCovers.p0 Q x0 x1 x2 x24 h := rfl
def G_law40_WindowCovers.p2 (Q : AV → AHeap → Prop) (x1 : AV) (x2 : Int) (x7 : List UInt8) (x8 : AV) (x9 : AV) (x10 : List UInt8) (x11 : Int) (x12 : Int) (h : AHeap) : Prop := G_law40_WindowCovers.J Q 3 [(1, x1), (2, (AV.i .u16 x2)), (7, (AV.s x7)), (8, x8), (9, x9), (10, (AV.s x10)), (11, (AV.i .i64 x11)), (12, (AV.i .i64 x12))] h
theorem G_law40_WindowCovers.j2 (Q : AV → AHeap → Prop) (x1 : AV) (x2 : Int) (x7 : List UInt8) (x8 : AV) (x9 : AV) (x10 : List UInt8) (x11 : Int) (x12 : Int) (h : AHeap) : G_law40_WindowCovers.J Q 3 [(1, x1), (2, (AV.i .u16 x2)), (7, (AV.s x7)), (8, x8), (9, x9), (10, (AV.s x10)), (11, (AV.i .i64 x11)), (12, (AV.i .i64 x12))] h = G_law40_WindowCovers.p2 Q x1 x2 x7 x8 x9 x10 x11 x12 h := rfl
def G_law40_WindowCovers.p1 (Q : AV → AHeap → Prop) (x1 : AV) (x2 : Int) (x7 : List UInt8) (x8 : AV) (x9 : AV) (x10 : List UInt8) (x11 : Int) (h : AHeap) : Prop := G_law40_WindowCovers.J Q 2 [(1, x1), (2, (AV.i .u16 x2)), (7, (AV.s x7)), (8, x8), (9, x9), (10, (AV.s x10)), (11, (AV.i .i64 x11))] h
theorem G_law40_WindowCovers.j1 (Q : AV → AHeap → Prop) (x1 : AV) (x2 : Int) (x7 : List UInt8) (x8 : AV) (x9 : AV) (x10 : List UInt8) (x11 : Int) (h : AHeap) : G_law40_WindowCovers.J Q 2 [(1, x1), (2, (AV.i .u16 x2)), (7, (AV.s x7)), (8, x8), (9, x9), (10, (AV.s x10)), (11, (AV.i .i64 x11))] h = G_law40_WindowCovers.p1 Q x1 x2 x7 x8 x9 x10 x11 h := rfl
def G_law40_WindowCovers.p3 (Q : AV → AHeap → Prop) (x6 : Bool) (h : AHeap) : Prop := G_law40_WindowCovers.J Q 4 [(6, (AV.b x6))] h
theorem G_law40_WindowCovers.j3 (Q : AV → AHeap → Prop) (x6 : Bool) (h : AHeap) : G_law40_WindowCovers.J Q 4 [(6, (AV.b x6))] h = G_law40_WindowCovers.p3 Q x6 h := rfl
def G_law40_WindowCovers.p6 (Q : AV → AHeap → Prop) (x7 : List UInt8) (x9 : AV) (x13 : Int) (x14 : Int) (x15 : Bool) (x16 : Int) (x17 : List UInt8) (x148 : Bool) (h : AHeap) : Prop := G_law40_WindowCovers.J Q 7 [(7, (AV.s x7)), (9, x9), (13, (AV.i .i64 x13)), (14, (AV.i .i64 x14)), (15, (AV.b x15)), (16, (AV.i .i64 x16)), (17, (AV.s x17)), (148, (AV.b x148))] h
theorem G_law40_WindowCovers.j6 (Q : AV → AHeap → Prop) (x7 : List UInt8) (x9 : AV) (x13 : Int) (x14 : Int) (x15 : Bool) (x16 : Int) (x17 : List UInt8) (x148 : Bool) (h : AHeap) : G_law40_WindowCovers.J Q 7 [(7, (AV.s x7)), (9, x9), (13, (AV.i .i64 x13)), (14, (AV.i .i64 x14)), (15, (AV.b x15)), (16, (AV.i .i64 x16)), (17, (AV.s x17)), (148, (AV.b x148))] h = G_law40_WindowCovers.p6 Q x7 x9 x13 x14 x15 x16 x17 x148 h := rfl
def G_law40_WindowCovers.p7 (Q : AV → AHeap → Prop) (x7 : List UInt8) (x9 : AV) (x13 : Int) (x14 : Int) (x15 : Bool) (x16 : Int) (h : AHeap) : Prop := G_law40_WindowCovers.J Q 8 [(7, (AV.s x7)), (9, x9), (13, (AV.i .i64 x13)), (14, (AV.i .i64 x14)), (15, (AV.b x15)), (16, (AV.i .i64 x16))] h
theorem G_law40_WindowCovers.j7 (Q : AV → AHeap → Prop) (x7 : List UInt8) (x9 : AV) (x13 : Int) (x14 : Int) (x15 : Bool) (x16 : Int) (h : AHeap) : G_law40_WindowCovers.J Q 8 [(7, (AV.s x7)), (9, x9), (13, (AV.i .i64 x13)), (14, (AV.i .i64 x14)), (15, (AV.b x15)), (16, (AV.i .i64 x16))] h = G_law40_WindowCovers.p7 Q x7 x9 x13 x14 x15 x16 h := rfl
def G_law40_WindowCovers.p5 (Q : AV → AHeap → Prop) (x7 : List UInt8) (x9 : AV) (x13 : Int) (x14 : Int) (x15 : Bool) (x16 : Int) (h : AHeap) : Prop := G_law40_WindowCovers.J Q 6 [(7, (AV.s x7)), (9, x9), (13, (AV.i .i64 x13)), (14, (AV.i .i64 x14)), (15, (AV.b x15)), (16, (AV.i .i64 x16))] h
theorem G_law40_WindowCovers.j5 (Q : AV → AHeap → Prop) (x7 : List UInt8) (x9 : AV) (x13 : Int) (x14 : Int) (x15 : Bool) (x16 : Int) (h : AHeap) : G_law40_WindowCovers.J Q 6 [(7, (AV.s x7)), (9, x9), (13, (AV.i .i64 x13)), (14, (AV.i .i64 x14)), (15, (AV.b x15)), (16, (AV.i .i64 x16))] h = G_law40_WindowCovers.p5 Q x7 x9 x13 x14 x15 x16 h := rfl
def G_law40_WindowCovers.p8 (Q : AV → AHeap → Prop) (x6 : Bool) (h : AHeap) : Prop := G_law40_WindowCovers.J Q 9 [(6, (AV.b x6))] h
theorem G_law40_WindowCovers.j8 (Q : AV → AHeap → Prop) (x6 : Bool) (h : AHeap) : G_law40_WindowCovers.J Q 9 [(6, (AV.b x6))] h = G_law40_WindowCovers.p8 Q x6 h := rfl
def G_law40_WindowCovers.p4 (Q : AV → AHeap → Prop) (x7 : List UInt8) (x9 : AV) (x13 : Int) (x14 : Int) (h : AHeap) : Prop := G_law40_WindowCovers.J Q 5 [(7, (AV.s x7)), (9, x9), (13, (AV.i .i64 x13)), (14, (AV.i .i64 x14))] h
theorem G_law40_WindowCovers.j4 (Q : AV → AHeap → Prop) (x7 : List UInt8) (x9 : AV) (x13 : Int) (x14 : Int) (h : AHeap) : G_law40_WindowCovers.J Q 5 [(7, (AV.s x7)), (9, x9), (13, (AV.i .i64 x13)), (14, (AV.i .i64 x14))] h = G_law40_WindowCovers.p4 Q x7 x9 x13 x14 h := rfl
def G_law40_WindowCovers.t0 (J : JT) (Q : AV → AHeap → Prop) (x0 : Int) (x1 : AV) (x2 : Int) (x24 : Bool) (h : AHeap) : Prop :=
(bif x24 then
(C G_law40_awake.id [] h fun v4 h5 =>
asB v4 fun c6 =>
Q (AV.b c6) h5)
else
(C G_law40_text.id [(AV.i .i64 (IntKind.wrap .i64 x0)), (AV.i .i64 5)] h fun v9 h10 =>
asS v9 fun l11 =>
C G_window_New.id [(AV.i .i64 1), (AV.i .i64 2)] h10 fun v13 h14 =>
pBin prog .eql 26 v13 (AV.p none) fun v16 =>
asB v16 fun c17 =>
(bif c17 then
(Q (AV.b false) h14)
else
(J 2 [(1, x1), (2, (AV.i .u16 x2)), (7, (AV.s l11)), (8, v13), (9, (AV.sl none 0 none)), (10, (AV.s l11)), (11, (AV.i .i64 0))] h14))))
theorem G_law40_WindowCovers.t0_eq (J : JT) (Q : AV → AHeap → Prop) (x0 : Int) (x1 : AV) (x2 : Int) (x24 : Bool) (h : AHeap) : G_law40_WindowCovers.t0 J Q x0 x1 x2 x24 h = atJ prog C 169 J false [1, 0, 1] G_law40_WindowCovers.ann G_law40_WindowCovers.body [(0, (AV.i .u16 x0)), (1, x1), (2, (AV.i .u16 x2)), (24, (AV.b x24))] h (kFun prog Try.f3 Q) := by kernel_rfl
theorem G_law40_WindowCovers.i0 {Q : AV → AHeap → Prop} {x0 : Int} {x1 : AV} {x2 : Int} {x24 : Bool} {h : AHeap} (H : G_law40_WindowCovers.t0 (G_law40_WindowCovers.J Q) Q x0 x1 x2 x24 h) : G_law40_WindowCovers.p0 Q x0 x1 x2 x24 h := G_law40_WindowCovers.goR (k := 1) (p := [1, 0, 1]) (by kernel_rfl) ((G_law40_WindowCovers.t0_eq (G_law40_WindowCovers.J Q) Q x0 x1 x2 x24 h).mp H)
def G_law40_WindowCovers.t2 (J : JT) (Q : AV → AHeap → Prop) (x1 : AV) (x2 : Int) (x7 : List UInt8) (x8 : AV) (x9 : AV) (x10 : List UInt8) (x11 : Int) (x12 : Int) (h : AHeap) : Prop :=
pSliceStr (AV.s x10) none (some (AV.i .i64 x12)) fun l36 =>
C G_window_Window_Feed.id [x8, (AV.s l36)] h fun v37 h38 =>
pAppend 4 40 x9 v37 h38 fun v39 h40 =>
pSliceStr (AV.s x10) (some (AV.i .i64 x12)) none fun l42 =>
withI (IntKind.wrap .i64 (x11 + 1)) fun n44 =>
J 2 [(1, x1), (2, (AV.i .u16 x2)), (7, (AV.s x7)), (8, x8), (9, v39), (10, (AV.s l42)), (11, (AV.i .i64 n44))] h40
theorem G_law40_WindowCovers.t2_eq (J : JT) (Q : AV → AHeap → Prop) (x1 : AV) (x2 : Int) (x7 : List UInt8) (x8 : AV) (x9 : AV) (x10 : List UInt8) (x11 : Int) (x12 : Int) (h : AHeap) : G_law40_WindowCovers.t2 J Q x1 x2 x7 x8 x9 x10 x11 x12 h = atJ prog C 169 J false [1, 1, 1, 1, 1, 1, 1, 0, 1, 0, 0, 1, 0, 0, 1, 1] G_law40_WindowCovers.ann G_law40_WindowCovers.body [(1, x1), (2, (AV.i .u16 x2)), (7, (AV.s x7)), (8, x8), (9, x9), (10, (AV.s x10)), (11, (AV.i .i64 x11)), (12, (AV.i .i64 x12))] h (kFun prog Try.f3 Q) := by kernel_rfl
theorem G_law40_WindowCovers.i2 {Q : AV → AHeap → Prop} {x1 : AV} {x2 : Int} {x7 : List UInt8} {x8 : AV} {x9 : AV} {x10 : List UInt8} {x11 : Int} {x12 : Int} {h : AHeap} (H : G_law40_WindowCovers.t2 (G_law40_WindowCovers.J Q) Q x1 x2 x7 x8 x9 x10 x11 x12 h) : G_law40_WindowCovers.p2 Q x1 x2 x7 x8 x9 x10 x11 x12 h := G_law40_WindowCovers.goR (k := 3) (p := [1, 1, 1, 1, 1, 1, 1, 0, 1, 0, 0, 1, 0, 0, 1, 1]) (by kernel_rfl) ((G_law40_WindowCovers.t2_eq (G_law40_WindowCovers.J Q) Q x1 x2 x7 x8 x9 x10 x11 x12 h).mp H)
def G_law40_WindowCovers.t1 (J : JT) (Q : AV → AHeap → Prop) (x1 : AV) (x2 : Int) (x7 : List UInt8) (x8 : AV) (x9 : AV) (x10 : List UInt8) (x11 : Int) (h : AHeap) : Prop :=
pLenSl x1 fun n24 =>
(bif (decide ((x11 : Int) < n24)) then
(pIdxAddrSl 1 x1 (AV.i .i64 x11) h fun v28 =>
pLoad1 v28 h fun v29 =>
asI .u16 v29 fun n30 =>
withB (decide (((x10.length : Int) : Int) < (IntKind.wrap .i64 n30))) fun c32 =>
(bif c32 then
(J 3 [(1, x1), (2, (AV.i .u16 x2)), (7, (AV.s x7)), (8, x8), (9, x9), (10, (AV.s x10)), (11, (AV.i .i64 x11)), (12, (AV.i .i64 (x10.length : Int)))] h)
else
(J 3 [(1, x1), (2, (AV.i .u16 x2)), (7, (AV.s x7)), (8, x8), (9, x9), (10, (AV.s x10)), (11, (AV.i .i64 x11)), (12, (AV.i .i64 (IntKind.wrap .i64 n30)))] h)))
else
(C G_window_Window_Feed.id [x8, (AV.s x10)] h fun v46 h47 =>
pAppend 4 40 x9 v46 h47 fun v48 h49 =>
C G_window_Window_Close.id [x8] h49 fun v51 h52 =>
pAppend 4 40 v48 v51 h52 fun v53 h54 =>
C G_window_All.id [(AV.i .i64 1), (AV.i .i64 2), (AV.s x7)] h54 fun v56 h57 =>
C G_ref40_Same.id [v53, v56] h57 fun v58 h59 =>
asB v58 fun c60 =>
(bif (!c60) then
(Q (AV.b false) h59)
else
((bif (decide (((x7.length : Int) : Int) = 0)) then
(pLenSl v53 fun n65 =>
(bif (decide ((n65 : Int) = 0)) then
(C G_law40_awake.id [] h59 fun v66 h67 =>
asB v66 fun c68 =>
J 4 [(6, (AV.b c68))] h67)
else
(J 4 [(6, (AV.b false))] h59)))
else
(pRem (IntKind.wrap .i64 x2) (x7.length : Int) fun n72 =>
withI (IntKind.wrap .i64 (n72 + 513)) fun n74 =>
(bif (decide (((x7.length : Int) : Int) < n74)) then
(J 5 [(7, (AV.s x7)), (9, v53), (13, (AV.i .i64 n72)), (14, (AV.i .i64 (x7.length : Int)))] h59)
else
(J 5 [(7, (AV.s x7)), (9, v53), (13, (AV.i .i64 n72)), (14, (AV.i .i64 n74))] h59))))))))
theorem G_law40_WindowCovers.t1_eq (J : JT) (Q : AV → AHeap → Prop) (x1 : AV) (x2 : Int) (x7 : List UInt8) (x8 : AV) (x9 : AV) (x10 : List UInt8) (x11 : Int) (h : AHeap) : G_law40_WindowCovers.t1 J Q x1 x2 x7 x8 x9 x10 x11 h = atJ prog C 169 J true [1, 1, 1, 1, 1, 1, 1, 0, 1, 0] G_law40_WindowCovers.ann G_law40_WindowCovers.body [(1, x1), (2, (AV.i .u16 x2)), (7, (AV.s x7)), (8, x8), (9, x9), (10, (AV.s x10)), (11, (AV.i .i64 x11))] h (kFun prog Try.f3 Q) := by kernel_rfl
theorem G_law40_WindowCovers.i1 {Q : AV → AHeap → Prop} {x1 : AV} {x2 : Int} {x7 : List UInt8} {x8 : AV} {x9 : AV} {x10 : List UInt8} {x11 : Int} {h : AHeap} (H : G_law40_WindowCovers.t1 (G_law40_WindowCovers.J Q) Q x1 x2 x7 x8 x9 x10 x11 h) : G_law40_WindowCovers.p1 Q x1 x2 x7 x8 x9 x10 x11 h := G_law40_WindowCovers.goH (k := 2) (p := [1, 1, 1, 1, 1, 1, 1, 0, 1, 0]) (by kernel_rfl) ((G_law40_WindowCovers.t1_eq (G_law40_WindowCovers.J Q) Q x1 x2 x7 x8 x9 x10 x11 h).mp H)
def G_law40_WindowCovers.t3 (J : JT) (Q : AV → AHeap → Prop) (x6 : Bool) (h : AHeap) : Prop :=
Q (AV.b x6) h
theorem G_law40_WindowCovers.t3_eq (J : JT) (Q : AV → AHeap → Prop) (x6 : Bool) (h : AHeap) : G_law40_WindowCovers.t3 J Q x6 h = atJ prog C 169 J false [1, 1, 1, 1, 1, 1, 1, 1, 1, 1, 1, 0, 1, 0, 1] G_law40_WindowCovers.ann G_law40_WindowCovers.body [(6, (AV.b x6))] h (kFun prog Try.f3 Q) := by kernel_rfl
theorem G_law40_WindowCovers.i3 {Q : AV → AHeap → Prop} {x6 : Bool} {h : AHeap} (H : G_law40_WindowCovers.t3 (G_law40_WindowCovers.J Q) Q x6 h) : G_law40_WindowCovers.p3 Q x6 h := G_law40_WindowCovers.goR (k := 4) (p := [1, 1, 1, 1, 1, 1, 1, 1, 1, 1, 1, 0, 1, 0, 1]) (by kernel_rfl) ((G_law40_WindowCovers.t3_eq (G_law40_WindowCovers.J Q) Q x6 h).mp H)
def G_law40_WindowCovers.t6 (J : JT) (Q : AV → AHeap → Prop) (x7 : List UInt8) (x9 : AV) (x13 : Int) (x14 : Int) (x15 : Bool) (x16 : Int) (x17 : List UInt8) (x148 : Bool) (h : AHeap) : Prop :=
(bif x148 then
(Q (AV.b false) h)
else
((bif x15 then
(J 8 [(7, (AV.s x7)), (9, x9), (13, (AV.i .i64 x13)), (14, (AV.i .i64 x14)), (15, (AV.b true)), (16, (AV.i .i64 x16))] h)
else
(withI (IntKind.wrap .i64 (512 * x16)) fun n109 =>
(bif (decide ((n109 : Int) ≤ x13)) then
(withI (IntKind.wrap .i64 (512 * x16)) fun n110 =>
withI (IntKind.wrap .i64 (n110 + (x17.length : Int))) fun n111 =>
J 8 [(7, (AV.s x7)), (9, x9), (13, (AV.i .i64 x13)), (14, (AV.i .i64 x14)), (15, (AV.b (decide ((x14 : Int) ≤ n111)))), (16, (AV.i .i64 x16))] h)
else
(J 8 [(7, (AV.s x7)), (9, x9), (13, (AV.i .i64 x13)), (14, (AV.i .i64 x14)), (15, (AV.b false)), (16, (AV.i .i64 x16))] h))))))
theorem G_law40_WindowCovers.t6_eq (J : JT) (Q : AV → AHeap → Prop) (x7 : List UInt8) (x9 : AV) (x13 : Int) (x14 : Int) (x15 : Bool) (x16 : Int) (x17 : List UInt8) (x148 : Bool) (h : AHeap) : G_law40_WindowCovers.t6 J Q x7 x9 x13 x14 x15 x16 x17 x148 h = atJ prog C 169 J false [1, 1, 1, 1, 1, 1, 1, 1, 1, 1, 1, 1, 1, 1, 1, 1, 0, 1, 0, 0, 1, 0, 0, 1, 0, 1] G_law40_WindowCovers.ann G_law40_WindowCovers.body [(7, (AV.s x7)), (9, x9), (13, (AV.i .i64 x13)), (14, (AV.i .i64 x14)), (15, (AV.b x15)), (16, (AV.i .i64 x16)), (17, (AV.s x17)), (148, (AV.b x148))] h (kFun prog Try.f3 Q) := by kernel_rfl
theorem G_law40_WindowCovers.i6 {Q : AV → AHeap → Prop} {x7 : List UInt8} {x9 : AV} {x13 : Int} {x14 : Int} {x15 : Bool} {x16 : Int} {x17 : List UInt8} {x148 : Bool} {h : AHeap} (H : G_law40_WindowCovers.t6 (G_law40_WindowCovers.J Q) Q x7 x9 x13 x14 x15 x16 x17 x148 h) : G_law40_WindowCovers.p6 Q x7 x9 x13 x14 x15 x16 x17 x148 h := G_law40_WindowCovers.goR (k := 7) (p := [1, 1, 1, 1, 1, 1, 1, 1, 1, 1, 1, 1, 1, 1, 1, 1, 0, 1, 0, 0, 1, 0, 0, 1, 0, 1]) (by kernel_rfl) ((G_law40_WindowCovers.t6_eq (G_law40_WindowCovers.J Q) Q x7 x9 x13 x14 x15 x16 x17 x148 h).mp H)
def G_law40_WindowCovers.t7 (J : JT) (Q : AV → AHeap → Prop) (x7 : List UInt8) (x9 : AV) (x13 : Int) (x14 : Int) (x15 : Bool) (x16 : Int) (h : AHeap) : Prop :=
withI (IntKind.wrap .i64 (x16 + 1)) fun n114 =>
J 6 [(7, (AV.s x7)), (9, x9), (13, (AV.i .i64 x13)), (14, (AV.i .i64 x14)), (15, (AV.b x15)), (16, (AV.i .i64 n114))] h
theorem G_law40_WindowCovers.t7_eq (J : JT) (Q : AV → AHeap → Prop) (x7 : List UInt8) (x9 : AV) (x13 : Int) (x14 : Int) (x15 : Bool) (x16 : Int) (h : AHeap) : G_law40_WindowCovers.t7 J Q x7 x9 x13 x14 x15 x16 h = atJ prog C 169 J false [1, 1, 1, 1, 1, 1, 1, 1, 1, 1, 1, 1, 1, 1, 1, 1, 0, 1, 0, 0, 1, 1] G_law40_WindowCovers.ann G_law40_WindowCovers.body [(7, (AV.s x7)), (9, x9), (13, (AV.i .i64 x13)), (14, (AV.i .i64 x14)), (15, (AV.b x15)), (16, (AV.i .i64 x16))] h (kFun prog Try.f3 Q) := by kernel_rfl
theorem G_law40_WindowCovers.i7 {Q : AV → AHeap → Prop} {x7 : List UInt8} {x9 : AV} {x13 : Int} {x14 : Int} {x15 : Bool} {x16 : Int} {h : AHeap} (H : G_law40_WindowCovers.t7 (G_law40_WindowCovers.J Q) Q x7 x9 x13 x14 x15 x16 h) : G_law40_WindowCovers.p7 Q x7 x9 x13 x14 x15 x16 h := G_law40_WindowCovers.goR (k := 8) (p := [1, 1, 1, 1, 1, 1, 1, 1, 1, 1, 1, 1, 1, 1, 1, 1, 0, 1, 0, 0, 1, 1]) (by kernel_rfl) ((G_law40_WindowCovers.t7_eq (G_law40_WindowCovers.J Q) Q x7 x9 x13 x14 x15 x16 h).mp H)
def G_law40_WindowCovers.t5 (J : JT) (Q : AV → AHeap → Prop) (x7 : List UInt8) (x9 : AV) (x13 : Int) (x14 : Int) (x15 : Bool) (x16 : Int) (h : AHeap) : Prop :=
pLenSl x9 fun n81 =>
(bif (decide ((x16 : Int) < n81)) then
(pIdxAddrSl 4 x9 (AV.i .i64 x16) h fun v85 =>
pFieldAddr 3 v85 fun v86 =>
pLoad1 v86 h fun v87 =>
asS v87 fun l88 =>
pIdxAddrSl 4 x9 (AV.i .i64 x16) h fun v90 =>
pFieldAddr 2 v90 fun v91 =>
pLoad1 v91 h fun v92 =>
asI .i64 v92 fun n93 =>
(bif (!decide ((n93 : Int) = x16)) then
(J 7 [(7, (AV.s x7)), (9, x9), (13, (AV.i .i64 x13)), (14, (AV.i .i64 x14)), (15, (AV.b x15)), (16, (AV.i .i64 x16)), (17, (AV.s l88)), (148, (AV.b true))] h)
else
((bif (decide ((1024 : Int) < (l88.length : Int))) then
(J 7 [(7, (AV.s x7)), (9, x9), (13, (AV.i .i64 x13)), (14, (AV.i .i64 x14)), (15, (AV.b x15)), (16, (AV.i .i64 x16)), (17, (AV.s l88)), (148, (AV.b true))] h)
else
(withI (IntKind.wrap .i64 (512 * x16)) fun n96 =>
(bif (decide (((x7.length : Int) : Int) < n96)) then
(J 7 [(7, (AV.s x7)), (9, x9), (13, (AV.i .i64 x13)), (14, (AV.i .i64 x14)), (15, (AV.b x15)), (16, (AV.i .i64 x16)), (17, (AV.s l88)), (148, (AV.b true))] h)
else
(withI (IntKind.wrap .i64 (512 * x16)) fun n98 =>
withI (IntKind.wrap .i64 ((x7.length : Int) - n98)) fun n99 =>
(bif (decide ((n99 : Int) < (l88.length : Int))) then
(J 7 [(7, (AV.s x7)), (9, x9), (13, (AV.i .i64 x13)), (14, (AV.i .i64 x14)), (15, (AV.b x15)), (16, (AV.i .i64 x16)), (17, (AV.s l88)), (148, (AV.b true))] h)
else
(withI (IntKind.wrap .i64 (512 * x16)) fun n101 =>
withI (IntKind.wrap .i64 (512 * x16)) fun n102 =>
withI (IntKind.wrap .i64 (n102 + (l88.length : Int))) fun n103 =>
pSliceStr (AV.s x7) (some (AV.i .i64 n101)) (some (AV.i .i64 n103)) fun l104 =>
J 7 [(7, (AV.s x7)), (9, x9), (13, (AV.i .i64 x13)), (14, (AV.i .i64 x14)), (15, (AV.b x15)), (16, (AV.i .i64 x16)), (17, (AV.s l88)), (148, (AV.b (!(decide ((l104 : List UInt8) = l88)))))] h)))))))))
else
((bif x15 then
(C G_law40_awake.id [] h fun v116 h117 =>
asB v116 fun c118 =>
J 9 [(6, (AV.b c118))] h117)
else
(J 9 [(6, (AV.b false))] h))))
theorem G_law40_WindowCovers.t5_eq (J : JT) (Q : AV → AHeap → Prop) (x7 : List UInt8) (x9 : AV) (x13 : Int) (x14 : Int) (x15 : Bool) (x16 : Int) (h : AHeap) : G_law40_WindowCovers.t5 J Q x7 x9 x13 x14 x15 x16 h = atJ prog C 169 J true [1, 1, 1, 1, 1, 1, 1, 1, 1, 1, 1, 1, 1, 1, 1, 1, 0, 1, 0] G_law40_WindowCovers.ann G_law40_WindowCovers.body [(7, (AV.s x7)), (9, x9), (13, (AV.i .i64 x13)), (14, (AV.i .i64 x14)), (15, (AV.b x15)), (16, (AV.i .i64 x16))] h (kFun prog Try.f3 Q) := by kernel_rfl
theorem G_law40_WindowCovers.i5 {Q : AV → AHeap → Prop} {x7 : List UInt8} {x9 : AV} {x13 : Int} {x14 : Int} {x15 : Bool} {x16 : Int} {h : AHeap} (H : G_law40_WindowCovers.t5 (G_law40_WindowCovers.J Q) Q x7 x9 x13 x14 x15 x16 h) : G_law40_WindowCovers.p5 Q x7 x9 x13 x14 x15 x16 h := G_law40_WindowCovers.goH (k := 6) (p := [1, 1, 1, 1, 1, 1, 1, 1, 1, 1, 1, 1, 1, 1, 1, 1, 0, 1, 0]) (by kernel_rfl) ((G_law40_WindowCovers.t5_eq (G_law40_WindowCovers.J Q) Q x7 x9 x13 x14 x15 x16 h).mp H)
def G_law40_WindowCovers.t8 (J : JT) (Q : AV → AHeap → Prop) (x6 : Bool) (h : AHeap) : Prop :=
Q (AV.b x6) h
theorem G_law40_WindowCovers.t8_eq (J : JT) (Q : AV → AHeap → Prop) (x6 : Bool) (h : AHeap) : G_law40_WindowCovers.t8 J Q x6 h = atJ prog C 169 J false [1, 1, 1, 1, 1, 1, 1, 1, 1, 1, 1, 1, 1, 1, 1, 1, 1, 1] G_law40_WindowCovers.ann G_law40_WindowCovers.body [(6, (AV.b x6))] h (kFun prog Try.f3 Q) := by kernel_rfl
theorem G_law40_WindowCovers.i8 {Q : AV → AHeap → Prop} {x6 : Bool} {h : AHeap} (H : G_law40_WindowCovers.t8 (G_law40_WindowCovers.J Q) Q x6 h) : G_law40_WindowCovers.p8 Q x6 h := G_law40_WindowCovers.goR (k := 9) (p := [1, 1, 1, 1, 1, 1, 1, 1, 1, 1, 1, 1, 1, 1, 1, 1, 1, 1]) (by kernel_rfl) ((G_law40_WindowCovers.t8_eq (G_law40_WindowCovers.J Q) Q x6 h).mp H)
def G_law40_WindowCovers.t4 (J : JT) (Q : AV → AHeap → Prop) (x7 : List UInt8) (x9 : AV) (x13 : Int) (x14 : Int) (h : AHeap) : Prop :=
J 6 [(7, (AV.s x7)), (9, x9), (13, (AV.i .i64 x13)), (14, (AV.i .i64 x14)), (15, (AV.b false)), (16, (AV.i .i64 0))] h
theorem G_law40_WindowCovers.t4_eq (J : JT) (Q : AV → AHeap → Prop) (x7 : List UInt8) (x9 : AV) (x13 : Int) (x14 : Int) (h : AHeap) : G_law40_WindowCovers.t4 J Q x7 x9 x13 x14 h = atJ prog C 169 J false [1, 1, 1, 1, 1, 1, 1, 1, 1, 1, 1, 1, 1, 1, 1] G_law40_WindowCovers.ann G_law40_WindowCovers.body [(7, (AV.s x7)), (9, x9), (13, (AV.i .i64 x13)), (14, (AV.i .i64 x14))] h (kFun prog Try.f3 Q) := by kernel_rfl
theorem G_law40_WindowCovers.i4 {Q : AV → AHeap → Prop} {x7 : List UInt8} {x9 : AV} {x13 : Int} {x14 : Int} {h : AHeap} (H : G_law40_WindowCovers.t4 (G_law40_WindowCovers.J Q) Q x7 x9 x13 x14 h) : G_law40_WindowCovers.p4 Q x7 x9 x13 x14 h := G_law40_WindowCovers.goR (k := 5) (p := [1, 1, 1, 1, 1, 1, 1, 1, 1, 1, 1, 1, 1, 1, 1]) (by kernel_rfl) ((G_law40_WindowCovers.t4_eq (G_law40_WindowCovers.J Q) Q x7 x9 x13 x14 h).mp H)
def G_law40_WindowCovers.t (J : JT) (Q : AV → AHeap → Prop) (x0 : Int) (x1 : AV) (x2 : Int) (h : AHeap) : Prop :=
(bif (decide ((5000 : Int) < x0)) then
(J 1 [(0, (AV.i .u16 x0)), (1, x1), (2, (AV.i .u16 x2)), (24, (AV.b true))] h)
else
(pLenSl x1 fun n2 =>
J 1 [(0, (AV.i .u16 x0)), (1, x1), (2, (AV.i .u16 x2)), (24, (AV.b (decide ((40 : Int) < n2))))] h))
theorem G_law40_WindowCovers.t_eq (J : JT) (Q : AV → AHeap → Prop) (x0 : Int) (x1 : AV) (x2 : Int) (h : AHeap) : G_law40_WindowCovers.t J Q x0 x1 x2 h = exJ prog C 169 J G_law40_WindowCovers.ann G_law40_WindowCovers.body (initEnv 0 [(AV.i .u16 x0), x1, (AV.i .u16 x2)]) h (kFun prog Try.f3 Q) := by kernel_rfl
theorem G_law40_WindowCovers.call {K : AV → AHeap → Prop} {x0 : Int} {x1 : AV} {x2 : Int} {h : AHeap} (H : G_law40_WindowCovers.t (G_law40_WindowCovers.J (kRet h K)) (kRet h K) x0 x1 x2 h) : C G_law40_WindowCovers.id [(AV.i .u16 x0), x1, (AV.i .u16 x2)] h K :=
  callJ (P := prog) (fn := Try.f3) (ann := G_law40_WindowCovers.ann) (body := G_law40_WindowCovers.body) Try.func3 G_law40_WindowCovers.body_eq (by kernel_rfl) G_law40_WindowCovers.dist (by kernel_rfl) ((G_law40_WindowCovers.t_eq (G_law40_WindowCovers.J (kRet h K)) (kRet h K) x0 x1 x2 h).mp H)

--@@ G_law40_WindowGaps
/-! ### 4: intrusion/intrusionlaw40.WindowGaps -/
noncomputable def G_law40_WindowGaps.body : Code := (Try.f4.body).getD .skip
def G_law40_WindowGaps.ann : Ann := (.seq 0 [0, 1] .leaf (.seq 0 [0, 1] (.seq 1 [0, 1, 19] .leaf (.br (.seq 0 [4] .leaf .leaf) .leaf)) (.seq 0 [5, 6] .leaf (.seq 0 [5, 6, 7] .leaf (.seq 0 [5, 6, 7] (.seq 0 [5, 6, 7, 29] .leaf (.br (.seq 0 [4] .leaf .leaf) .leaf)) (.seq 0 [5, 6, 7, 8] .leaf (.seq 0 [5, 6, 7, 8] .leaf (.seq 0 [5, 6, 7, 8] .leaf (.seq 0 [5, 6, 7, 8] .leaf (.seq 0 [5, 6, 8] .leaf (.seq 0 [6, 8, 9] .leaf (.seq 0 [6, 8, 9, 10] .leaf (.seq 0 [8, 9, 10, 11] .leaf (.seq 0 [8, 9] (.seq 0 [8, 9, 10, 11, 12] .leaf (.one (.loop 2 [8, 9, 10, 11, 12] (.seq 0 [8, 9, 10, 11, 12] (.seq 0 [8, 9, 10, 11, 12, 57] .leaf (.br .leaf .leaf)) (.seq 0 [8, 9, 10, 11, 12] (.one (.seq 0 [8, 9, 10, 11, 12, 13] .leaf .leaf)) .leaf))))) (.seq 3 [4] .leaf .leaf)))))))))))))))
theorem G_law40_WindowGaps.body_eq : Try.f4.body = some G_law40_WindowGaps.body := by kernel_rfl
theorem G_law40_WindowGaps.dist : noTwice (places G_law40_WindowGaps.ann G_law40_WindowGaps.body) = true := by kernel_rfl
noncomputable def G_law40_WindowGaps.J (Q : AV → AHeap → Prop) : JT := funJ prog C Try.f4 G_law40_WindowGaps.ann G_law40_WindowGaps.body Q
theorem G_law40_WindowGaps.goR {Q : AV → AHeap → Prop} {k : Nat} {p : List Nat} (hl : lookJ (places G_law40_WindowGaps.ann G_law40_WindowGaps.body) k = some (p, false)) {e : Env} {h : AHeap} (hk : atJ prog C 84 (G_law40_WindowGaps.J Q) false p G_law40_WindowGaps.ann G_law40_WindowGaps.body e h (kFun prog Try.f4 Q)) : G_law40_WindowGaps.J Q k e h := goJ_run (P := prog) (fn := Try.f4) (ann := G_law40_WindowGaps.ann) (body := G_law40_WindowGaps.body) (Q := Q) (k := k) (p := p) (e := e) (h := h) (acall_le X) G_law40_WindowGaps.dist hl hk
theorem G_law40_WindowGaps.goH {Q : AV → AHeap → Prop} {k : Nat} {p : List Nat} (hl : lookJ (places G_law40_WindowGaps.ann G_law40_WindowGaps.body) k = some (p, true)) {e : Env} {h : AHeap} (hk : atJ prog C 84 (G_law40_WindowGaps.J Q) true p G_law40_WindowGaps.ann G_law40_WindowGaps.body e h (kFun prog Try.f4 Q)) : G_law40_WindowGaps.J Q k e h := goJ_head (P := prog) (fn := Try.f4) (ann := G_law40_WindowGaps.ann) (body := G_law40_WindowGaps.body) (Q := Q) (k := k) (p := p) (e := e) (h := h) (acall_le X) G_law40_WindowGaps.dist hl hk
def G_law40_WindowGaps.p0 (Q : AV → AHeap → Prop) (x0 : Int) (x1 : Int) (x19 : Bool) (h : AHeap) : Prop := G_law40_WindowGaps.J Q 1 [(0, (AV.i .u16 x0)), (1, (AV.i .u16 x1)), (19, (AV.b x19))] h
theorem G_law40_WindowGaps.j0 (Q : AV → AHeap → Prop) (x0 : Int) (x1 : Int) (x19 : Bool) (h : AHeap) : G_law40_WindowGaps.J Q 1 [(0, (AV.i .u16 x0)), (1, (AV.i .u16 x1)), (19, (AV.b x19))] h = G_law40_WindowGaps.p0 Q x0 x1 x19 h := rfl
def G_law40_WindowGaps.p1 (Q : AV → AHeap → Prop) (x8 : AV) (x9 : AV) (x10 : Int) (x11 : AV) (x12 : Int) (h : AHeap) : Prop := G_law40_WindowGaps.J Q 2 [(8, x8), (9, x9), (10, (AV.i .i64 x10)), (11, x11), (12, (AV.i .i64 x12))] h
theorem G_law40_WindowGaps.j1 (Q : AV → AHeap → Prop) (x8 : AV) (x9 : AV) (x10 : Int) (x11 : AV) (x12 : Int) (h : AHeap) : G_law40_WindowGaps.J Q 2 [(8, x8), (9, x9), (10, (AV.i .i64 x10)), (11, x11), (12, (AV.i .i64 x12))] h = G_law40_WindowGaps.p1 Q x8 x9 x10 x11 x12 h := rfl
def G_law40_WindowGaps.p2 (Q : AV → AHeap → Prop) (x4 : Bool) (h : AHeap) : Prop := G_law40_WindowGaps.J Q 3 [(4, (AV.b x4))] h
theorem G_law40_WindowGaps.j2 (Q : AV → AHeap → Prop) (x4 : Bool) (h : AHeap) : G_law40_WindowGaps.J Q 3 [(4, (AV.b x4))] h = G_law40_WindowGaps.p2 Q x4 h := rfl
def G_law40_WindowGaps.t0 (J : JT) (Q : AV → AHeap → Prop) (x0 : Int) (x1 : Int) (x19 : Bool) (h : AHeap) : Prop :=
(bif x19 then
(C G_law40_awake.id [] h fun v3 h4 =>
asB v3 fun c5 =>
Q (AV.b c5) h4)
else
(C G_law40_text.id [(AV.i .i64 (IntKind.wrap .i64 x0)), (AV.i .i64 3)] h fun v8 h9 =>
asS v8 fun l10 =>
C G_law40_text.id [(AV.i .i64 (IntKind.wrap .i64 x1)), (AV.i .i64 4)] h9 fun v11 h12 =>
asS v11 fun l13 =>
C G_window_New.id [(AV.i .i64 2), (AV.i .i64 1)] h12 fun v15 h16 =>
pBin prog .eql 26 v15 (AV.p none) fun v18 =>
asB v18 fun c19 =>
(bif c19 then
(Q (AV.b false) h16)
else
(C G_window_Window_Feed.id [v15, (AV.s l10)] h16 fun v24 h25 =>
pAppend 4 40 (AV.sl none 0 none) v24 h25 fun v26 h27 =>
C G_window_Window_Gap.id [v15] h27 fun v29 h30 =>
pAppend 4 40 v26 v29 h30 fun v31 h32 =>
C G_window_Window_Feed.id [v15, (AV.s l13)] h32 fun v34 h35 =>
pAppend 4 40 v31 v34 h35 fun v36 h37 =>
C G_window_Window_Close.id [v15] h37 fun v39 h40 =>
pAppend 4 40 v36 v39 h40 fun v41 h42 =>
C G_window_All.id [(AV.i .i64 2), (AV.i .i64 1), (AV.s l10)] h42 fun v44 h45 =>
pLenSl v44 fun n47 =>
C G_window_All.id [(AV.i .i64 2), (AV.i .i64 1), (AV.s l13)] h45 fun v49 h50 =>
J 2 [(8, v41), (9, v44), (10, (AV.i .i64 n47)), (11, v49), (12, (AV.i .i64 0))] h50))))
theorem G_law40_WindowGaps.t0_eq (J : JT) (Q : AV → AHeap → Prop) (x0 : Int) (x1 : Int) (x19 : Bool) (h : AHeap) : G_law40_WindowGaps.t0 J Q x0 x1 x19 h = atJ prog C 84 J false [1, 0, 1] G_law40_WindowGaps.ann G_law40_WindowGaps.body [(0, (AV.i .u16 x0)), (1, (AV.i .u16 x1)), (19, (AV.b x19))] h (kFun prog Try.f4 Q) := by kernel_rfl
theorem G_law40_WindowGaps.i0 {Q : AV → AHeap → Prop} {x0 : Int} {x1 : Int} {x19 : Bool} {h : AHeap} (H : G_law40_WindowGaps.t0 (G_law40_WindowGaps.J Q) Q x0 x1 x19 h) : G_law40_WindowGaps.p0 Q x0 x1 x19 h := G_law40_WindowGaps.goR (k := 1) (p := [1, 0, 1]) (by kernel_rfl) ((G_law40_WindowGaps.t0_eq (G_law40_WindowGaps.J Q) Q x0 x1 x19 h).mp H)
def G_law40_WindowGaps.t1 (J : JT) (Q : AV → AHeap → Prop) (x8 : AV) (x9 : AV) (x10 : Int) (x11 : AV) (x12 : Int) (h : AHeap) : Prop :=
pLenSl x11 fun n53 =>
(bif (decide ((x12 : Int) < n53)) then
(pIdxAddrSl 4 x11 (AV.i .i64 x12) h fun v57 =>
pLoadN 4 v57 h fun v58 =>
pAlloc [(AV.i .i64 0), (AV.i .i64 0), (AV.i .i64 0), (AV.s [])] h fun v59 h60 =>
pStore 4 v59 v58 h60 fun h61 =>
pFieldAddr 0 v59 fun v63 =>
pLoad1 v63 h61 fun v64 =>
asI .i64 v64 fun n65 =>
pFieldAddr 1 v59 fun v66 =>
pLoad1 v66 h61 fun v67 =>
asI .i64 v67 fun n68 =>
pFieldAddr 2 v59 fun v69 =>
pLoad1 v69 h61 fun v70 =>
asI .i64 v70 fun n71 =>
withI (IntKind.wrap .i64 (n71 + x10)) fun n72 =>
pFieldAddr 3 v59 fun v73 =>
pLoad1 v73 h61 fun v74 =>
asS v74 fun l75 =>
pBuildSl 4 1 [(AV.i .i64 0), (AV.i .i64 0), (AV.i .i64 0), (AV.s [])] [(0, 4, (AV.ag [(AV.i .i64 n65), (AV.i .i64 n68), (AV.i .i64 n72), (AV.s l75)]))] h61 fun v76 h77 =>
pAppend 4 40 x9 v76 h77 fun v78 h79 =>
withI (IntKind.wrap .i64 (x12 + 1)) fun n81 =>
J 2 [(8, x8), (9, v78), (10, (AV.i .i64 x10)), (11, x11), (12, (AV.i .i64 n81))] h79)
else
(C G_ref40_Same.id [x8, x9] h fun v83 h84 =>
asB v83 fun c85 =>
(bif c85 then
(C G_law40_awake.id [] h84 fun v86 h87 =>
asB v86 fun c88 =>
J 3 [(4, (AV.b c88))] h87)
else
(J 3 [(4, (AV.b false))] h84))))
theorem G_law40_WindowGaps.t1_eq (J : JT) (Q : AV → AHeap → Prop) (x8 : AV) (x9 : AV) (x10 : Int) (x11 : AV) (x12 : Int) (h : AHeap) : G_law40_WindowGaps.t1 J Q x8 x9 x10 x11 x12 h = atJ prog C 84 J true [1, 1, 1, 1, 1, 1, 1, 1, 1, 1, 1, 1, 1, 0, 1, 0] G_law40_WindowGaps.ann G_law40_WindowGaps.body [(8, x8), (9, x9), (10, (AV.i .i64 x10)), (11, x11), (12, (AV.i .i64 x12))] h (kFun prog Try.f4 Q) := by kernel_rfl
theorem G_law40_WindowGaps.i1 {Q : AV → AHeap → Prop} {x8 : AV} {x9 : AV} {x10 : Int} {x11 : AV} {x12 : Int} {h : AHeap} (H : G_law40_WindowGaps.t1 (G_law40_WindowGaps.J Q) Q x8 x9 x10 x11 x12 h) : G_law40_WindowGaps.p1 Q x8 x9 x10 x11 x12 h := G_law40_WindowGaps.goH (k := 2) (p := [1, 1, 1, 1, 1, 1, 1, 1, 1, 1, 1, 1, 1, 0, 1, 0]) (by kernel_rfl) ((G_law40_WindowGaps.t1_eq (G_law40_WindowGaps.J Q) Q x8 x9 x10 x11 x12 h).mp H)
def G_law40_WindowGaps.t2 (J : JT) (Q : AV → AHeap → Prop) (x4 : Bool) (h : AHeap) : Prop :=
Q (AV.b x4) h
theorem G_law40_WindowGaps.t2_eq (J : JT) (Q : AV → AHeap → Prop) (x4 : Bool) (h : AHeap) : G_law40_WindowGaps.t2 J Q x4 h = atJ prog C 84 J false [1, 1, 1, 1, 1, 1, 1, 1, 1, 1, 1, 1, 1, 1, 1] G_law40_WindowGaps.ann G_law40_WindowGaps.body [(4, (AV.b x4))] h (kFun prog Try.f4 Q) := by kernel_rfl
theorem G_law40_WindowGaps.i2 {Q : AV → AHeap → Prop} {x4 : Bool} {h : AHeap} (H : G_law40_WindowGaps.t2 (G_law40_WindowGaps.J Q) Q x4 h) : G_law40_WindowGaps.p2 Q x4 h := G_law40_WindowGaps.goR (k := 3) (p := [1, 1, 1, 1, 1, 1, 1, 1, 1, 1, 1, 1, 1, 1, 1]) (by kernel_rfl) ((G_law40_WindowGaps.t2_eq (G_law40_WindowGaps.J Q) Q x4 h).mp H)
def G_law40_WindowGaps.t (J : JT) (Q : AV → AHeap → Prop) (x0 : Int) (x1 : Int) (h : AHeap) : Prop :=
(bif (decide ((3000 : Int) < x0)) then
(J 1 [(0, (AV.i .u16 x0)), (1, (AV.i .u16 x1)), (19, (AV.b true))] h)
else
(J 1 [(0, (AV.i .u16 x0)), (1, (AV.i .u16 x1)), (19, (AV.b (decide ((3000 : Int) < x1))))] h))
theorem G_law40_WindowGaps.t_eq (J : JT) (Q : AV → AHeap → Prop) (x0 : Int) (x1 : Int) (h : AHeap) : G_law40_WindowGaps.t J Q x0 x1 h = exJ prog C 84 J G_law40_WindowGaps.ann G_law40_WindowGaps.body (initEnv 0 [(AV.i .u16 x0), (AV.i .u16 x1)]) h (kFun prog Try.f4 Q) := by kernel_rfl
theorem G_law40_WindowGaps.call {K : AV → AHeap → Prop} {x0 : Int} {x1 : Int} {h : AHeap} (H : G_law40_WindowGaps.t (G_law40_WindowGaps.J (kRet h K)) (kRet h K) x0 x1 h) : C G_law40_WindowGaps.id [(AV.i .u16 x0), (AV.i .u16 x1)] h K :=
  callJ (P := prog) (fn := Try.f4) (ann := G_law40_WindowGaps.ann) (body := G_law40_WindowGaps.body) Try.func4 G_law40_WindowGaps.body_eq (by kernel_rfl) G_law40_WindowGaps.dist (by kernel_rfl) ((G_law40_WindowGaps.t_eq (G_law40_WindowGaps.J (kRet h K)) (kRet h K) x0 x1 h).mp H)

--@@ G_law40_WindowPlays
/-! ### 5: intrusion/intrusionlaw40.WindowPlays -/
noncomputable def G_law40_WindowPlays.body : Code := (Try.f5.body).getD .skip
def G_law40_WindowPlays.ann : Ann := (.seq 0 [0, 1, 2] .leaf (.seq 0 [0, 1, 2] (.seq 0 [0, 1, 2, 13] .leaf (.br (.seq 0 [6] .leaf .leaf) .leaf)) (.seq 0 [0, 1, 2, 7] .leaf (.seq 0 [0, 1, 2, 7] (.seq 0 [0, 1, 2, 7, 19] .leaf (.br (.seq 0 [6] .leaf .leaf) .leaf)) (.seq 0 [0, 1, 2, 7, 8] .leaf (.seq 0 [] (.seq 0 [0, 1, 2, 7, 8, 9] .leaf (.one (.loop 1 [0, 1, 2, 7, 8, 9] (.seq 0 [0, 1, 2, 7, 8, 9] (.seq 0 [0, 1, 2, 7, 8, 9, 26] .leaf (.br .leaf .leaf)) (.seq 0 [0, 1, 2, 7, 8, 9] (.one (.seq 0 [0, 1, 2, 7, 8, 9] (.seq 2 [0, 1, 2, 7, 8, 9, 42] .leaf (.br (.seq 0 [6] .leaf .leaf) .leaf)) (.seq 0 [0, 1, 2, 7, 8, 9, 10] (.ord (.neu 0 (.neu 1 (.neu 2 (.neu 3 (.neu 4 (.neu 5 (.neu 6 (.neu 7 (.neu 8 (.neu 9 (.neu 10 (.neu 11 (.eff 12 (.neu 13 .done) .stop)))))))))))))) (.seq 4 [0, 1, 2, 7, 8, 9] (.seq 0 [0, 1, 2, 7, 8, 9, 10, 61] .leaf (.one (.seq 0 [0, 1, 2, 7, 8, 9, 10, 61, 80] .leaf (.br (.seq 0 [0, 1, 2, 7, 8, 9, 89] .leaf (.br (.seq 0 [6] .leaf .leaf) .leaf)) (.seq 0 [0, 1, 2, 7, 8, 9, 10, 90] .leaf (.br (.seq 0 [0, 1, 2, 7, 8, 9, 97] .leaf (.br (.seq 0 [6] .leaf .leaf) .leaf)) (.seq 3 [0, 1, 2, 7, 8, 9, 79] .leaf (.br (.seq 0 [6] .leaf .leaf) .leaf)))))))) (.seq 5 [0, 1, 2, 7, 8, 9, 107] .leaf (.br (.seq 0 [6] .leaf .leaf) .leaf)))))) .leaf))))) (.seq 0 [6] .leaf .leaf)))))))
theorem G_law40_WindowPlays.body_eq : Try.f5.body = some G_law40_WindowPlays.body := by kernel_rfl
theorem G_law40_WindowPlays.dist : noTwice (places G_law40_WindowPlays.ann G_law40_WindowPlays.body) = true := by kernel_rfl
noncomputable def G_law40_WindowPlays.J (Q : AV → AHeap → Prop) : JT := funJ prog C Try.f5 G_law40_WindowPlays.ann G_law40_WindowPlays.body Q
theorem G_law40_WindowPlays.goR {Q : AV → AHeap → Prop} {k : Nat} {p : List Nat} (hl : lookJ (places G_law40_WindowPlays.ann G_law40_WindowPlays.body) k = some (p, false)) {e : Env} {h : AHeap} (hk : atJ prog C 109 (G_law40_WindowPlays.J Q) false p G_law40_WindowPlays.ann G_law40_WindowPlays.body e h (kFun prog Try.f5 Q)) : G_law40_WindowPlays.J Q k e h := goJ_run (P := prog) (fn := Try.f5) (ann := G_law40_WindowPlays.ann) (body := G_law40_WindowPlays.body) (Q := Q) (k := k) (p := p) (e := e) (h := h) (acall_le X) G_law40_WindowPlays.dist hl hk
theorem G_law40_WindowPlays.goH {Q : AV → AHeap → Prop} {k : Nat} {p : List Nat} (hl : lookJ (places G_law40_WindowPlays.ann G_law40_WindowPlays.body) k = some (p, true)) {e : Env} {h : AHeap} (hk : atJ prog C 109 (G_law40_WindowPlays.J Q) true p G_law40_WindowPlays.ann G_law40_WindowPlays.body e h (kFun prog Try.f5 Q)) : G_law40_WindowPlays.J Q k e h := goJ_head (P := prog) (fn := Try.f5) (ann := G_law40_WindowPlays.ann) (body := G_law40_WindowPlays.body) (Q := Q) (k := k) (p := p) (e := e) (h := h) (acall_le X) G_law40_WindowPlays.dist hl hk
def G_law40_WindowPlays.p1 (Q : AV → AHeap → Prop) (x0 : Int) (x1 : Int) (x2 : AV) (x7 : AV) (x8 : AV) (x9 : Int) (x42 : Bool) (h : AHeap) : Prop := G_law40_WindowPlays.J Q 2 [(0, (AV.i .i64 x0)), (1, (AV.i .i64 x1)), (2, x2), (7, x7), (8, x8), (9, (AV.i .i64 x9)), (42, (AV.b x42))] h
theorem G_law40_WindowPlays.j1 (Q : AV → AHeap → Prop) (x0 : Int) (x1 : Int) (x2 : AV) (x7 : AV) (x8 : AV) (x9 : Int) (x42 : Bool) (h : AHeap) : G_law40_WindowPlays.J Q 2 [(0, (AV.i .i64 x0)), (1, (AV.i .i64 x1)), (2, x2), (7, x7), (8, x8), (9, (AV.i .i64 x9)), (42, (AV.b x42))] h = G_law40_WindowPlays.p1 Q x0 x1 x2 x7 x8 x9 x42 h := rfl
def G_law40_WindowPlays.p2 (Q : AV → AHeap → Prop) (x0 : Int) (x1 : Int) (x2 : AV) (x7 : AV) (x8 : AV) (x9 : Int) (x79 : Bool) (h : AHeap) : Prop := G_law40_WindowPlays.J Q 3 [(0, (AV.i .i64 x0)), (1, (AV.i .i64 x1)), (2, x2), (7, x7), (8, x8), (9, (AV.i .i64 x9)), (79, (AV.b x79))] h
theorem G_law40_WindowPlays.j2 (Q : AV → AHeap → Prop) (x0 : Int) (x1 : Int) (x2 : AV) (x7 : AV) (x8 : AV) (x9 : Int) (x79 : Bool) (h : AHeap) : G_law40_WindowPlays.J Q 3 [(0, (AV.i .i64 x0)), (1, (AV.i .i64 x1)), (2, x2), (7, x7), (8, x8), (9, (AV.i .i64 x9)), (79, (AV.b x79))] h = G_law40_WindowPlays.p2 Q x0 x1 x2 x7 x8 x9 x79 h := rfl
def G_law40_WindowPlays.p4 (Q : AV → AHeap → Prop) (x0 : Int) (x1 : Int) (x2 : AV) (x7 : AV) (x8 : AV) (x9 : Int) (x107 : Bool) (h : AHeap) : Prop := G_law40_WindowPlays.J Q 5 [(0, (AV.i .i64 x0)), (1, (AV.i .i64 x1)), (2, x2), (7, x7), (8, x8), (9, (AV.i .i64 x9)), (107, (AV.b x107))] h
theorem G_law40_WindowPlays.j4 (Q : AV → AHeap → Prop) (x0 : Int) (x1 : Int) (x2 : AV) (x7 : AV) (x8 : AV) (x9 : Int) (x107 : Bool) (h : AHeap) : G_law40_WindowPlays.J Q 5 [(0, (AV.i .i64 x0)), (1, (AV.i .i64 x1)), (2, x2), (7, x7), (8, x8), (9, (AV.i .i64 x9)), (107, (AV.b x107))] h = G_law40_WindowPlays.p4 Q x0 x1 x2 x7 x8 x9 x107 h := rfl
def G_law40_WindowPlays.p3 (Q : AV → AHeap → Prop) (x0 : Int) (x1 : Int) (x2 : AV) (x7 : AV) (x8 : AV) (x9 : Int) (h : AHeap) : Prop := G_law40_WindowPlays.J Q 4 [(0, (AV.i .i64 x0)), (1, (AV.i .i64 x1)), (2, x2), (7, x7), (8, x8), (9, (AV.i .i64 x9))] h
theorem G_law40_WindowPlays.j3 (Q : AV → AHeap → Prop) (x0 : Int) (x1 : Int) (x2 : AV) (x7 : AV) (x8 : AV) (x9 : Int) (h : AHeap) : G_law40_WindowPlays.J Q 4 [(0, (AV.i .i64 x0)), (1, (AV.i .i64 x1)), (2, x2), (7, x7), (8, x8), (9, (AV.i .i64 x9))] h = G_law40_WindowPlays.p3 Q x0 x1 x2 x7 x8 x9 h := rfl
def G_law40_WindowPlays.p0 (Q : AV → AHeap → Prop) (x0 : Int) (x1 : Int) (x2 : AV) (x7 : AV) (x8 : AV) (x9 : Int) (h : AHeap) : Prop := G_law40_WindowPlays.J Q 1 [(0, (AV.i .i64 x0)), (1, (AV.i .i64 x1)), (2, x2), (7, x7), (8, x8), (9, (AV.i .i64 x9))] h
theorem G_law40_WindowPlays.j0 (Q : AV → AHeap → Prop) (x0 : Int) (x1 : Int) (x2 : AV) (x7 : AV) (x8 : AV) (x9 : Int) (h : AHeap) : G_law40_WindowPlays.J Q 1 [(0, (AV.i .i64 x0)), (1, (AV.i .i64 x1)), (2, x2), (7, x7), (8, x8), (9, (AV.i .i64 x9))] h = G_law40_WindowPlays.p0 Q x0 x1 x2 x7 x8 x9 h := rfl
def G_law40_WindowPlays.t1 (J : JT) (Q : AV → AHeap → Prop) (x0 : Int) (x1 : Int) (x2 : AV) (x7 : AV) (x8 : AV) (x9 : Int) (x42 : Bool) (h : AHeap) : Prop :=
(bif x42 then
(C G_law40_awake.id [] h fun v34 h35 =>
asB v34 fun c36 =>
Q (AV.b c36) h35)
else
(pIdxAddrSl 2 x2 (AV.i .i64 x9) h fun v39 =>
pFieldAddr 1 v39 fun v40 =>
pLoad1 v40 h fun v41 =>
asI .i64 v41 fun n42 =>
pIdxAddrSl 2 x2 (AV.i .i64 x9) h fun v43 =>
pFieldAddr 1 v43 fun v44 =>
pLoad1 v44 h fun v45 =>
asI .i64 v45 fun n46 =>
withI (IntKind.wrap .i64 (x9 + n46)) fun n47 =>
C G_law40_text.id [(AV.i .i64 n42), (AV.i .i64 n47)] h fun v48 h49 =>
asS v48 fun l50 =>
pLoad1 v44 h49 fun v51 =>
asI .i64 v51 fun n52 =>
((AV.i .i64 n46) = (AV.i .i64 n52) ∧
(pIdxAddrSl 2 x2 (AV.i .i64 x9) h49 fun v53 =>
(v43 = v53 ∧
(pIdxAddrSl 2 x2 (AV.i .i64 x9) h49 fun v54 =>
(v39 = v54 ∧
(pIdxAddrSl 2 x2 (AV.i .i64 x9) h49 fun v56 =>
pFieldAddr 0 v56 fun v57 =>
pLoad1 v57 h49 fun v58 =>
asI .i64 v58 fun n59 =>
(bif (decide ((n59 : Int) = 0)) then
(C G_window_Window_Feed.id [x7, (AV.s l50)] h49 fun v62 h63 =>
C G_ref40_Window_Feed.id [x8, (AV.s l50)] h63 fun v64 h65 =>
C G_ref40_Same.id [v62, v64] h65 fun v66 h67 =>
asB v66 fun c68 =>
(bif (!c68) then
(Q (AV.b false) h67)
else
(J 4 [(0, (AV.i .i64 x0)), (1, (AV.i .i64 x1)), (2, x2), (7, x7), (8, x8), (9, (AV.i .i64 x9))] h67)))
else
((bif (decide ((n59 : Int) = 1)) then
(C G_window_Window_Gap.id [x7] h49 fun v73 h74 =>
C G_ref40_Window_Gap.id [x8] h74 fun v75 h76 =>
C G_ref40_Same.id [v73, v75] h76 fun v77 h78 =>
asB v77 fun c79 =>
(bif (!c79) then
(Q (AV.b false) h78)
else
(J 4 [(0, (AV.i .i64 x0)), (1, (AV.i .i64 x1)), (2, x2), (7, x7), (8, x8), (9, (AV.i .i64 x9))] h78)))
else
(C G_window_Window_Close.id [x7] h49 fun v83 h84 =>
C G_ref40_Window_Close.id [x8] h84 fun v85 h86 =>
C G_ref40_Same.id [v83, v85] h86 fun v87 h88 =>
asB v87 fun c89 =>
(bif (!c89) then
(J 3 [(0, (AV.i .i64 x0)), (1, (AV.i .i64 x1)), (2, x2), (7, x7), (8, x8), (9, (AV.i .i64 x9)), (79, (AV.b true))] h88)
else
(C G_window_All.id [(AV.i .i64 x0), (AV.i .i64 x1), (AV.s l50)] h88 fun v91 h92 =>
C G_ref40_All.id [(AV.i .i64 x0), (AV.i .i64 x1), (AV.s l50)] h92 fun v93 h94 =>
C G_ref40_Same.id [v91, v93] h94 fun v95 h96 =>
asB v95 fun c97 =>
J 3 [(0, (AV.i .i64 x0)), (1, (AV.i .i64 x1)), (2, x2), (7, x7), (8, x8), (9, (AV.i .i64 x9)), (79, (AV.b (!c97)))] h96))))))))))))))
theorem G_law40_WindowPlays.t1_eq (J : JT) (Q : AV → AHeap → Prop) (x0 : Int) (x1 : Int) (x2 : AV) (x7 : AV) (x8 : AV) (x9 : Int) (x42 : Bool) (h : AHeap) : G_law40_WindowPlays.t1 J Q x0 x1 x2 x7 x8 x9 x42 h = atJ prog C 109 J false [1, 1, 1, 1, 1, 0, 1, 0, 0, 1, 0, 0, 0, 1] G_law40_WindowPlays.ann G_law40_WindowPlays.body [(0, (AV.i .i64 x0)), (1, (AV.i .i64 x1)), (2, x2), (7, x7), (8, x8), (9, (AV.i .i64 x9)), (42, (AV.b x42))] h (kFun prog Try.f5 Q) := by kernel_rfl
theorem G_law40_WindowPlays.i1 {Q : AV → AHeap → Prop} {x0 : Int} {x1 : Int} {x2 : AV} {x7 : AV} {x8 : AV} {x9 : Int} {x42 : Bool} {h : AHeap} (H : G_law40_WindowPlays.t1 (G_law40_WindowPlays.J Q) Q x0 x1 x2 x7 x8 x9 x42 h) : G_law40_WindowPlays.p1 Q x0 x1 x2 x7 x8 x9 x42 h := G_law40_WindowPlays.goR (k := 2) (p := [1, 1, 1, 1, 1, 0, 1, 0, 0, 1, 0, 0, 0, 1]) (by kernel_rfl) ((G_law40_WindowPlays.t1_eq (G_law40_WindowPlays.J Q) Q x0 x1 x2 x7 x8 x9 x42 h).mp H)
def G_law40_WindowPlays.t2 (J : JT) (Q : AV → AHeap → Prop) (x0 : Int) (x1 : Int) (x2 : AV) (x7 : AV) (x8 : AV) (x9 : Int) (x79 : Bool) (h : AHeap) : Prop :=
(bif x79 then
(Q (AV.b false) h)
else
(J 4 [(0, (AV.i .i64 x0)), (1, (AV.i .i64 x1)), (2, x2), (7, x7), (8, x8), (9, (AV.i .i64 x9))] h))
theorem G_law40_WindowPlays.t2_eq (J : JT) (Q : AV → AHeap → Prop) (x0 : Int) (x1 : Int) (x2 : AV) (x7 : AV) (x8 : AV) (x9 : Int) (x79 : Bool) (h : AHeap) : G_law40_WindowPlays.t2 J Q x0 x1 x2 x7 x8 x9 x79 h = atJ prog C 109 J false [1, 1, 1, 1, 1, 0, 1, 0, 0, 1, 0, 0, 1, 1, 0, 1, 0, 1, 1, 1, 1, 1] G_law40_WindowPlays.ann G_law40_WindowPlays.body [(0, (AV.i .i64 x0)), (1, (AV.i .i64 x1)), (2, x2), (7, x7), (8, x8), (9, (AV.i .i64 x9)), (79, (AV.b x79))] h (kFun prog Try.f5 Q) := by kernel_rfl
theorem G_law40_WindowPlays.i2 {Q : AV → AHeap → Prop} {x0 : Int} {x1 : Int} {x2 : AV} {x7 : AV} {x8 : AV} {x9 : Int} {x79 : Bool} {h : AHeap} (H : G_law40_WindowPlays.t2 (G_law40_WindowPlays.J Q) Q x0 x1 x2 x7 x8 x9 x79 h) : G_law40_WindowPlays.p2 Q x0 x1 x2 x7 x8 x9 x79 h := G_law40_WindowPlays.goR (k := 3) (p := [1, 1, 1, 1, 1, 0, 1, 0, 0, 1, 0, 0, 1, 1, 0, 1, 0, 1, 1, 1, 1, 1]) (by kernel_rfl) ((G_law40_WindowPlays.t2_eq (G_law40_WindowPlays.J Q) Q x0 x1 x2 x7 x8 x9 x79 h).mp H)
def G_law40_WindowPlays.t4 (J : JT) (Q : AV → AHeap → Prop) (x0 : Int) (x1 : Int) (x2 : AV) (x7 : AV) (x8 : AV) (x9 : Int) (x107 : Bool) (h : AHeap) : Prop :=
(bif x107 then
(Q (AV.b false) h)
else
(withI (IntKind.wrap .i64 (x9 + 1)) fun n114 =>
J 1 [(0, (AV.i .i64 x0)), (1, (AV.i .i64 x1)), (2, x2), (7, x7), (8, x8), (9, (AV.i .i64 n114))] h))
theorem G_law40_WindowPlays.t4_eq (J : JT) (Q : AV → AHeap → Prop) (x0 : Int) (x1 : Int) (x2 : AV) (x7 : AV) (x8 : AV) (x9 : Int) (x107 : Bool) (h : AHeap) : G_law40_WindowPlays.t4 J Q x0 x1 x2 x7 x8 x9 x107 h = atJ prog C 109 J false [1, 1, 1, 1, 1, 0, 1, 0, 0, 1, 0, 0, 1, 1, 1, 1] G_law40_WindowPlays.ann G_law40_WindowPlays.body [(0, (AV.i .i64 x0)), (1, (AV.i .i64 x1)), (2, x2), (7, x7), (8, x8), (9, (AV.i .i64 x9)), (107, (AV.b x107))] h (kFun prog Try.f5 Q) := by kernel_rfl
theorem G_law40_WindowPlays.i4 {Q : AV → AHeap → Prop} {x0 : Int} {x1 : Int} {x2 : AV} {x7 : AV} {x8 : AV} {x9 : Int} {x107 : Bool} {h : AHeap} (H : G_law40_WindowPlays.t4 (G_law40_WindowPlays.J Q) Q x0 x1 x2 x7 x8 x9 x107 h) : G_law40_WindowPlays.p4 Q x0 x1 x2 x7 x8 x9 x107 h := G_law40_WindowPlays.goR (k := 5) (p := [1, 1, 1, 1, 1, 0, 1, 0, 0, 1, 0, 0, 1, 1, 1, 1]) (by kernel_rfl) ((G_law40_WindowPlays.t4_eq (G_law40_WindowPlays.J Q) Q x0 x1 x2 x7 x8 x9 x107 h).mp H)
def G_law40_WindowPlays.t3 (J : JT) (Q : AV → AHeap → Prop) (x0 : Int) (x1 : Int) (x2 : AV) (x7 : AV) (x8 : AV) (x9 : Int) (h : AHeap) : Prop :=
C G_window_Window_Size.id [x7] h fun v101 h102 =>
asI .i64 v101 fun n103 =>
C G_ref40_Window_Size.id [x8] h102 fun v104 h105 =>
asI .i64 v104 fun n106 =>
(bif (!decide ((n103 : Int) = n106)) then
(J 5 [(0, (AV.i .i64 x0)), (1, (AV.i .i64 x1)), (2, x2), (7, x7), (8, x8), (9, (AV.i .i64 x9)), (107, (AV.b true))] h105)
else
(C G_window_Window_Size.id [x7] h105 fun v108 h109 =>
asI .i64 v108 fun n110 =>
J 5 [(0, (AV.i .i64 x0)), (1, (AV.i .i64 x1)), (2, x2), (7, x7), (8, x8), (9, (AV.i .i64 x9)), (107, (AV.b (decide ((1024 : Int) ≤ n110))))] h109))
theorem G_law40_WindowPlays.t3_eq (J : JT) (Q : AV → AHeap → Prop) (x0 : Int) (x1 : Int) (x2 : AV) (x7 : AV) (x8 : AV) (x9 : Int) (h : AHeap) : G_law40_WindowPlays.t3 J Q x0 x1 x2 x7 x8 x9 h = atJ prog C 109 J false [1, 1, 1, 1, 1, 0, 1, 0, 0, 1, 0, 0, 1, 1, 1] G_law40_WindowPlays.ann G_law40_WindowPlays.body [(0, (AV.i .i64 x0)), (1, (AV.i .i64 x1)), (2, x2), (7, x7), (8, x8), (9, (AV.i .i64 x9))] h (kFun prog Try.f5 Q) := by kernel_rfl
theorem G_law40_WindowPlays.i3 {Q : AV → AHeap → Prop} {x0 : Int} {x1 : Int} {x2 : AV} {x7 : AV} {x8 : AV} {x9 : Int} {h : AHeap} (H : G_law40_WindowPlays.t3 (G_law40_WindowPlays.J Q) Q x0 x1 x2 x7 x8 x9 h) : G_law40_WindowPlays.p3 Q x0 x1 x2 x7 x8 x9 h := G_law40_WindowPlays.goR (k := 4) (p := [1, 1, 1, 1, 1, 0, 1, 0, 0, 1, 0, 0, 1, 1, 1]) (by kernel_rfl) ((G_law40_WindowPlays.t3_eq (G_law40_WindowPlays.J Q) Q x0 x1 x2 x7 x8 x9 h).mp H)
def G_law40_WindowPlays.t0 (J : JT) (Q : AV → AHeap → Prop) (x0 : Int) (x1 : Int) (x2 : AV) (x7 : AV) (x8 : AV) (x9 : Int) (h : AHeap) : Prop :=
pLenSl x2 fun n20 =>
(bif (decide ((x9 : Int) < n20)) then
(pIdxAddrSl 2 x2 (AV.i .i64 x9) h fun v24 =>
pFieldAddr 1 v24 fun v25 =>
pLoad1 v25 h fun v26 =>
asI .i64 v26 fun n27 =>
(bif (decide ((n27 : Int) < 0)) then
(J 2 [(0, (AV.i .i64 x0)), (1, (AV.i .i64 x1)), (2, x2), (7, x7), (8, x8), (9, (AV.i .i64 x9)), (42, (AV.b true))] h)
else
(pIdxAddrSl 2 x2 (AV.i .i64 x9) h fun v29 =>
pFieldAddr 1 v29 fun v30 =>
pLoad1 v30 h fun v31 =>
asI .i64 v31 fun n32 =>
J 2 [(0, (AV.i .i64 x0)), (1, (AV.i .i64 x1)), (2, x2), (7, x7), (8, x8), (9, (AV.i .i64 x9)), (42, (AV.b (decide ((3000 : Int) < n32))))] h)))
else
(C G_law40_awake.id [] h fun v116 h117 =>
asB v116 fun c118 =>
Q (AV.b c118) h117))
theorem G_law40_WindowPlays.t0_eq (J : JT) (Q : AV → AHeap → Prop) (x0 : Int) (x1 : Int) (x2 : AV) (x7 : AV) (x8 : AV) (x9 : Int) (h : AHeap) : G_law40_WindowPlays.t0 J Q x0 x1 x2 x7 x8 x9 h = atJ prog C 109 J true [1, 1, 1, 1, 1, 0, 1, 0] G_law40_WindowPlays.ann G_law40_WindowPlays.body [(0, (AV.i .i64 x0)), (1, (AV.i .i64 x1)), (2, x2), (7, x7), (8, x8), (9, (AV.i .i64 x9))] h (kFun prog Try.f5 Q) := by kernel_rfl
theorem G_law40_WindowPlays.i0 {Q : AV → AHeap → Prop} {x0 : Int} {x1 : Int} {x2 : AV} {x7 : AV} {x8 : AV} {x9 : Int} {h : AHeap} (H : G_law40_WindowPlays.t0 (G_law40_WindowPlays.J Q) Q x0 x1 x2 x7 x8 x9 h) : G_law40_WindowPlays.p0 Q x0 x1 x2 x7 x8 x9 h := G_law40_WindowPlays.goH (k := 1) (p := [1, 1, 1, 1, 1, 0, 1, 0]) (by kernel_rfl) ((G_law40_WindowPlays.t0_eq (G_law40_WindowPlays.J Q) Q x0 x1 x2 x7 x8 x9 h).mp H)
def G_law40_WindowPlays.t (J : JT) (Q : AV → AHeap → Prop) (x0 : Int) (x1 : Int) (x2 : AV) (h : AHeap) : Prop :=
pLenSl x2 fun n1 =>
(bif (decide ((30 : Int) < n1)) then
(C G_law40_awake.id [] h fun v3 h4 =>
asB v3 fun c5 =>
Q (AV.b c5) h4)
else
(C G_window_New.id [(AV.i .i64 x0), (AV.i .i64 x1)] h fun v8 h9 =>
pBin prog .eql 26 v8 (AV.p none) fun v11 =>
asB v11 fun c12 =>
(bif c12 then
(Q (AV.b false) h9)
else
(C G_ref40_New.id [(AV.i .i64 x0), (AV.i .i64 x1)] h9 fun v16 h17 =>
J 1 [(0, (AV.i .i64 x0)), (1, (AV.i .i64 x1)), (2, x2), (7, v8), (8, v16), (9, (AV.i .i64 0))] h17))))
theorem G_law40_WindowPlays.t_eq (J : JT) (Q : AV → AHeap → Prop) (x0 : Int) (x1 : Int) (x2 : AV) (h : AHeap) : G_law40_WindowPlays.t J Q x0 x1 x2 h = exJ prog C 109 J G_law40_WindowPlays.ann G_law40_WindowPlays.body (initEnv 0 [(AV.i .i64 x0), (AV.i .i64 x1), x2]) h (kFun prog Try.f5 Q) := by kernel_rfl
theorem G_law40_WindowPlays.call {K : AV → AHeap → Prop} {x0 : Int} {x1 : Int} {x2 : AV} {h : AHeap} (H : G_law40_WindowPlays.t (G_law40_WindowPlays.J (kRet h K)) (kRet h K) x0 x1 x2 h) : C G_law40_WindowPlays.id [(AV.i .i64 x0), (AV.i .i64 x1), x2] h K :=
  callJ (P := prog) (fn := Try.f5) (ann := G_law40_WindowPlays.ann) (body := G_law40_WindowPlays.body) Try.func5 G_law40_WindowPlays.body_eq (by kernel_rfl) G_law40_WindowPlays.dist (by kernel_rfl) ((G_law40_WindowPlays.t_eq (G_law40_WindowPlays.J (kRet h K)) (kRet h K) x0 x1 x2 h).mp H)

--@@ G_law40_awake
/-! ### 6: intrusion/intrusionlaw40.awake -/
noncomputable def G_law40_awake.body : Code := (Try.f6.body).getD .skip
def G_law40_awake.ann : Ann := (.seq 0 [] .leaf (.seq 0 [1] .leaf (.seq 0 [1, 2] .leaf (.seq 1 [0] (.ord (.neu 0 (.neu 1 (.neu 2 (.neu 3 (.neu 4 (.neu 5 (.neu 6 (.eff 7 (.eff 8 (.neu 9 (.neu 10 (.neu 11 (.eff 12 (.neu 13 (.neu 14 (.neu 15 (.neu 16 (.eff 17 (.neu 18 (.neu 19 (.neu 20 (.neu 21 (.eff 22 (.neu 23 (.neu 24 (.neu 25 (.neu 26 .done)))) .stop))))) .stop))))) .stop)))) .stop) .stop))))))))) .leaf))))
theorem G_law40_awake.body_eq : Try.f6.body = some G_law40_awake.body := by kernel_rfl
theorem G_law40_awake.dist : noTwice (places G_law40_awake.ann G_law40_awake.body) = true := by kernel_rfl
noncomputable def G_law40_awake.J (Q : AV → AHeap → Prop) : JT := funJ prog C Try.f6 G_law40_awake.ann G_law40_awake.body Q
theorem G_law40_awake.goR {Q : AV → AHeap → Prop} {k : Nat} {p : List Nat} (hl : lookJ (places G_law40_awake.ann G_law40_awake.body) k = some (p, false)) {e : Env} {h : AHeap} (hk : atJ prog C 32 (G_law40_awake.J Q) false p G_law40_awake.ann G_law40_awake.body e h (kFun prog Try.f6 Q)) : G_law40_awake.J Q k e h := goJ_run (P := prog) (fn := Try.f6) (ann := G_law40_awake.ann) (body := G_law40_awake.body) (Q := Q) (k := k) (p := p) (e := e) (h := h) (acall_le X) G_law40_awake.dist hl hk
theorem G_law40_awake.goH {Q : AV → AHeap → Prop} {k : Nat} {p : List Nat} (hl : lookJ (places G_law40_awake.ann G_law40_awake.body) k = some (p, true)) {e : Env} {h : AHeap} (hk : atJ prog C 32 (G_law40_awake.J Q) true p G_law40_awake.ann G_law40_awake.body e h (kFun prog Try.f6 Q)) : G_law40_awake.J Q k e h := goJ_head (P := prog) (fn := Try.f6) (ann := G_law40_awake.ann) (body := G_law40_awake.body) (Q := Q) (k := k) (p := p) (e := e) (h := h) (acall_le X) G_law40_awake.dist hl hk
def G_law40_awake.p0 (Q : AV → AHeap → Prop) (x0 : Bool) (h : AHeap) : Prop := G_law40_awake.J Q 1 [(0, (AV.b x0))] h
theorem G_law40_awake.j0 (Q : AV → AHeap → Prop) (x0 : Bool) (h : AHeap) : G_law40_awake.J Q 1 [(0, (AV.b x0))] h = G_law40_awake.p0 Q x0 h := rfl
def G_law40_awake.t0 (J : JT) (Q : AV → AHeap → Prop) (x0 : Bool) (h : AHeap) : Prop :=
Q (AV.b x0) h
theorem G_law40_awake.t0_eq (J : JT) (Q : AV → AHeap → Prop) (x0 : Bool) (h : AHeap) : G_law40_awake.t0 J Q x0 h = atJ prog C 32 J false [1, 1, 1, 1] G_law40_awake.ann G_law40_awake.body [(0, (AV.b x0))] h (kFun prog Try.f6 Q) := by kernel_rfl
theorem G_law40_awake.i0 {Q : AV → AHeap → Prop} {x0 : Bool} {h : AHeap} (H : G_law40_awake.t0 (G_law40_awake.J Q) Q x0 h) : G_law40_awake.p0 Q x0 h := G_law40_awake.goR (k := 1) (p := [1, 1, 1, 1]) (by kernel_rfl) ((G_law40_awake.t0_eq (G_law40_awake.J Q) Q x0 h).mp H)
def G_law40_awake.t (J : JT) (Q : AV → AHeap → Prop) (h : AHeap) : Prop :=
C G_law40_text.id [(AV.i .i64 1025), (AV.i .i64 7)] h fun v1 h2 =>
asS v1 fun l3 =>
C G_window_All.id [(AV.i .i64 5), (AV.i .i64 1), (AV.s l3)] h2 fun v5 h6 =>
pSliceStr (AV.s l3) none (some (AV.i .i64 1024)) fun l8 =>
pSliceStr (AV.s l3) (some (AV.i .i64 512)) none fun l9 =>
pBuildSl 4 2 [(AV.i .i64 0), (AV.i .i64 0), (AV.i .i64 0), (AV.s []), (AV.i .i64 0), (AV.i .i64 0), (AV.i .i64 0), (AV.s [])] [(0, 4, (AV.ag [(AV.i .i64 5), (AV.i .i64 1), (AV.i .i64 0), (AV.s l8)])), (4, 4, (AV.ag [(AV.i .i64 5), (AV.i .i64 1), (AV.i .i64 1), (AV.s l9)]))] h6 fun v10 h11 =>
C G_ref40_Same.id [v5, v10] h11 fun v12 h13 =>
asB v12 fun c14 =>
(bif c14 then
(pSliceStr (AV.s l3) none (some (AV.i .i64 1024)) fun l15 =>
C G_window_All.id [(AV.i .i64 5), (AV.i .i64 1), (AV.s l15)] h13 fun v16 h17 =>
pLenSl v16 fun n18 =>
(bif (decide ((n18 : Int) = 1)) then
(C G_window_All.id [(AV.i .i64 5), (AV.i .i64 1), (AV.s [97, 98, 99])] h17 fun v19 h20 =>
pLenSl v19 fun n21 =>
(bif (decide ((n21 : Int) = 1)) then
(C G_window_All.id [(AV.i .i64 5), (AV.i .i64 1), (AV.s [])] h20 fun v22 h23 =>
pLenSl v22 fun n24 =>
J 1 [(0, (AV.b (decide ((n24 : Int) = 0))))] h23)
else
(J 1 [(0, (AV.b false))] h20)))
else
(J 1 [(0, (AV.b false))] h17)))
else
(J 1 [(0, (AV.b false))] h13))
theorem G_law40_awake.t_eq (J : JT) (Q : AV → AHeap → Prop) (h : AHeap) : G_law40_awake.t J Q h = exJ prog C 32 J G_law40_awake.ann G_law40_awake.body (initEnv 0 []) h (kFun prog Try.f6 Q) := by kernel_rfl
theorem G_law40_awake.call {K : AV → AHeap → Prop} {h : AHeap} (H : G_law40_awake.t (G_law40_awake.J (kRet h K)) (kRet h K) h) : C G_law40_awake.id [] h K :=
  callJ (P := prog) (fn := Try.f6) (ann := G_law40_awake.ann) (body := G_law40_awake.body) Try.func6 G_law40_awake.body_eq (by kernel_rfl) G_law40_awake.dist (by kernel_rfl) ((G_law40_awake.t_eq (G_law40_awake.J (kRet h K)) (kRet h K) h).mp H)

--@@ G_law40_text
/-! ### 7: intrusion/intrusionlaw40.text -/
noncomputable def G_law40_text.body : Code := (Try.f7.body).getD .skip
def G_law40_text.ann : Ann := (.seq 0 [0, 1] .leaf (.seq 0 [0, 1, 5] .leaf (.seq 0 [5] (.seq 0 [0, 1, 5, 6] .leaf (.one (.loop 1 [0, 1, 5, 6] (.seq 0 [0, 1, 5, 6] (.seq 0 [0, 1, 5, 6, 9] .leaf (.br .leaf .leaf)) (.seq 0 [0, 1, 5, 6] (.one (.seq 0 [0, 1, 5, 6] .leaf .leaf)) .leaf))))) (.seq 0 [4] .leaf .leaf))))
theorem G_law40_text.body_eq : Try.f7.body = some G_law40_text.body := by kernel_rfl
theorem G_law40_text.dist : noTwice (places G_law40_text.ann G_law40_text.body) = true := by kernel_rfl
noncomputable def G_law40_text.J (Q : AV → AHeap → Prop) : JT := funJ prog C Try.f7 G_law40_text.ann G_law40_text.body Q
theorem G_law40_text.goR {Q : AV → AHeap → Prop} {k : Nat} {p : List Nat} (hl : lookJ (places G_law40_text.ann G_law40_text.body) k = some (p, false)) {e : Env} {h : AHeap} (hk : atJ prog C 24 (G_law40_text.J Q) false p G_law40_text.ann G_law40_text.body e h (kFun prog Try.f7 Q)) : G_law40_text.J Q k e h := goJ_run (P := prog) (fn := Try.f7) (ann := G_law40_text.ann) (body := G_law40_text.body) (Q := Q) (k := k) (p := p) (e := e) (h := h) (acall_le X) G_law40_text.dist hl hk
theorem G_law40_text.goH {Q : AV → AHeap → Prop} {k : Nat} {p : List Nat} (hl : lookJ (places G_law40_text.ann G_law40_text.body) k = some (p, true)) {e : Env} {h : AHeap} (hk : atJ prog C 24 (G_law40_text.J Q) true p G_law40_text.ann G_law40_text.body e h (kFun prog Try.f7 Q)) : G_law40_text.J Q k e h := goJ_head (P := prog) (fn := Try.f7) (ann := G_law40_text.ann) (body := G_law40_text.body) (Q := Q) (k := k) (p := p) (e := e) (h := h) (acall_le X) G_law40_text.dist hl hk
def G_law40_text.p0 (Q : AV → AHeap → Prop) (x0 : Int) (x1 : Int) (x5 : AV) (x6 : Int) (h : AHeap) : Prop := G_law40_text.J Q 1 [(0, (AV.i .i64 x0)), (1, (AV.i .i64 x1)), (5, x5), (6, (AV.i .i64 x6))] h
theorem G_law40_text.j0 (Q : AV → AHeap → Prop) (x0 : Int) (x1 : Int) (x5 : AV) (x6 : Int) (h : AHeap) : G_law40_text.J Q 1 [(0, (AV.i .i64 x0)), (1, (AV.i .i64 x1)), (5, x5), (6, (AV.i .i64 x6))] h = G_law40_text.p0 Q x0 x1 x5 x6 h := rfl
def G_law40_text.t0 (J : JT) (Q : AV → AHeap → Prop) (x0 : Int) (x1 : Int) (x5 : AV) (x6 : Int) (h : AHeap) : Prop :=
(bif (decide ((x6 : Int) < x0)) then
(withI (IntKind.wrap .i64 (x1 * 25173)) fun n6 =>
withI (IntKind.wrap .i64 (n6 + 13849)) fun n7 =>
pRem n7 65536 fun n8 =>
pQuo .i64 n8 256 fun n10 =>
pBuildSl 1 1 [(AV.i .u8 0)] [(0, 1, (AV.i .u8 (IntKind.wrap .u8 n10)))] h fun v11 h12 =>
pAppend 1 1 x5 v11 h12 fun v13 h14 =>
withI (IntKind.wrap .i64 (x6 + 1)) fun n16 =>
J 1 [(0, (AV.i .i64 x0)), (1, (AV.i .i64 n8)), (5, v13), (6, (AV.i .i64 n16))] h14)
else
(pBytesStr x5 h fun l18 =>
Q (AV.s l18) h))
theorem G_law40_text.t0_eq (J : JT) (Q : AV → AHeap → Prop) (x0 : Int) (x1 : Int) (x5 : AV) (x6 : Int) (h : AHeap) : G_law40_text.t0 J Q x0 x1 x5 x6 h = atJ prog C 24 J true [1, 1, 0, 1, 0] G_law40_text.ann G_law40_text.body [(0, (AV.i .i64 x0)), (1, (AV.i .i64 x1)), (5, x5), (6, (AV.i .i64 x6))] h (kFun prog Try.f7 Q) := by kernel_rfl
theorem G_law40_text.i0 {Q : AV → AHeap → Prop} {x0 : Int} {x1 : Int} {x5 : AV} {x6 : Int} {h : AHeap} (H : G_law40_text.t0 (G_law40_text.J Q) Q x0 x1 x5 x6 h) : G_law40_text.p0 Q x0 x1 x5 x6 h := G_law40_text.goH (k := 1) (p := [1, 1, 0, 1, 0]) (by kernel_rfl) ((G_law40_text.t0_eq (G_law40_text.J Q) Q x0 x1 x5 x6 h).mp H)
def G_law40_text.t (J : JT) (Q : AV → AHeap → Prop) (x0 : Int) (x1 : Int) (h : AHeap) : Prop :=
J 1 [(0, (AV.i .i64 x0)), (1, (AV.i .i64 x1)), (5, (AV.sl none 0 none)), (6, (AV.i .i64 0))] h
theorem G_law40_text.t_eq (J : JT) (Q : AV → AHeap → Prop) (x0 : Int) (x1 : Int) (h : AHeap) : G_law40_text.t J Q x0 x1 h = exJ prog C 24 J G_law40_text.ann G_law40_text.body (initEnv 0 [(AV.i .i64 x0), (AV.i .i64 x1)]) h (kFun prog Try.f7 Q) := by kernel_rfl
theorem G_law40_text.call {K : AV → AHeap → Prop} {x0 : Int} {x1 : Int} {h : AHeap} (H : G_law40_text.t (G_law40_text.J (kRet h K)) (kRet h K) x0 x1 h) : C G_law40_text.id [(AV.i .i64 x0), (AV.i .i64 x1)] h K :=
  callJ (P := prog) (fn := Try.f7) (ann := G_law40_text.ann) (body := G_law40_text.body) Try.func7 G_law40_text.body_eq (by kernel_rfl) G_law40_text.dist (by kernel_rfl) ((G_law40_text.t_eq (G_law40_text.J (kRet h K)) (kRet h K) x0 x1 h).mp H)

--@@ G_window_New
/-! ### 8: intrusion/window.New -/
noncomputable def G_window_New.body : Code := (Try.f8.body).getD .skip
def G_window_New.ann : Ann := (.seq 0 [0, 1] .leaf (.seq 0 [4] .leaf .leaf))
theorem G_window_New.body_eq : Try.f8.body = some G_window_New.body := by kernel_rfl
theorem G_window_New.dist : noTwice (places G_window_New.ann G_window_New.body) = true := by kernel_rfl
noncomputable def G_window_New.J (Q : AV → AHeap → Prop) : JT := funJ prog C Try.f8 G_window_New.ann G_window_New.body Q
theorem G_window_New.goR {Q : AV → AHeap → Prop} {k : Nat} {p : List Nat} (hl : lookJ (places G_window_New.ann G_window_New.body) k = some (p, false)) {e : Env} {h : AHeap} (hk : atJ prog C 9 (G_window_New.J Q) false p G_window_New.ann G_window_New.body e h (kFun prog Try.f8 Q)) : G_window_New.J Q k e h := goJ_run (P := prog) (fn := Try.f8) (ann := G_window_New.ann) (body := G_window_New.body) (Q := Q) (k := k) (p := p) (e := e) (h := h) (acall_le X) G_window_New.dist hl hk
theorem G_window_New.goH {Q : AV → AHeap → Prop} {k : Nat} {p : List Nat} (hl : lookJ (places G_window_New.ann G_window_New.body) k = some (p, true)) {e : Env} {h : AHeap} (hk : atJ prog C 9 (G_window_New.J Q) true p G_window_New.ann G_window_New.body e h (kFun prog Try.f8 Q)) : G_window_New.J Q k e h := goJ_head (P := prog) (fn := Try.f8) (ann := G_window_New.ann) (body := G_window_New.body) (Q := Q) (k := k) (p := p) (e := e) (h := h) (acall_le X) G_window_New.dist hl hk
def G_window_New.t (J : JT) (Q : AV → AHeap → Prop) (x0 : Int) (x1 : Int) (h : AHeap) : Prop :=
pBox (AV.ag [(AV.i .i64 x0), (AV.i .i64 x1), (AV.i .i64 0), (AV.i .i64 0), (AV.sl none 0 none)]) h fun v1 h2 =>
Q v1 h2
theorem G_window_New.t_eq (J : JT) (Q : AV → AHeap → Prop) (x0 : Int) (x1 : Int) (h : AHeap) : G_window_New.t J Q x0 x1 h = exJ prog C 9 J G_window_New.ann G_window_New.body (initEnv 0 [(AV.i .i64 x0), (AV.i .i64 x1)]) h (kFun prog Try.f8 Q) := by kernel_rfl
theorem G_window_New.call {K : AV → AHeap → Prop} {x0 : Int} {x1 : Int} {h : AHeap} (H : G_window_New.t (G_window_New.J (kRet h K)) (kRet h K) x0 x1 h) : C G_window_New.id [(AV.i .i64 x0), (AV.i .i64 x1)] h K :=
  callJ (P := prog) (fn := Try.f8) (ann := G_window_New.ann) (body := G_window_New.body) Try.func8 G_window_New.body_eq (by kernel_rfl) G_window_New.dist (by kernel_rfl) ((G_window_New.t_eq (G_window_New.J (kRet h K)) (kRet h K) x0 x1 h).mp H)

--@@ G_window_Window_Feed
/-! ### 9: (*intrusion/window.Window).Feed -/
noncomputable def G_window_Window_Feed.body : Code := (Try.f9.body).getD .skip
def G_window_Window_Feed.ann : Ann := (.seq 0 [1, 2] .leaf (.seq 0 [1, 2] (.seq 0 [1, 2, 8] .leaf (.br (.seq 0 [4] .leaf .leaf) .leaf)) (.seq 0 [2] (.ord (.neu 0 (.neu 1 (.neu 2 (.neu 3 (.neu 4 (.neu 5 (.neu 6 (.neu 7 (.neu 8 (.neu 9 (.neu 10 (.neu 11 (.neu 12 (.neu 13 (.neu 14 (.neu 15 (.neu 16 (.eff 17 (.neu 18 (.neu 19 (.eff 20 .done .stop))) .stop))))))))))))))))))) (.seq 0 [2, 5] .leaf (.seq 0 [5] (.seq 0 [2, 5, 30] .leaf (.one (.br .leaf (.one (.ord (.neu 0 (.neu 1 (.neu 2 (.eff 3 (.eff 4 (.eff 5 (.eff 6 .done .stop) .stop) .stop) .stop))))))))) (.seq 0 [4] .leaf .leaf))))))
theorem G_window_Window_Feed.body_eq : Try.f9.body = some G_window_Window_Feed.body := by kernel_rfl
def G_window_Window_Feed.tR (Q : AV → AHeap → Prop) (x0 : AV) (x1 : List UInt8) (h : AHeap) : Prop :=
pBox x0 h fun v0 h1 =>
pLoad1 v0 h1 fun v3 =>
pBin prog .eql 26 v3 (AV.p none) fun v4 =>
asB v4 fun c5 =>
(bif c5 then
(Q (AV.sl none 0 none) h1)
else
(pLoad1 v0 h1 fun v9 =>
pLoad1 v0 h1 fun v10 =>
pNil v10 fun v11 =>
pFieldAddr 4 v11 fun v12 =>
pLoad1 v12 h1 fun v13 =>
pLoad1 v0 h1 fun v14 =>
pNil v14 fun v15 =>
pFieldAddr 4 v15 fun v16 =>
pLoad1 v16 h1 fun v17 =>
pLenSl v17 fun n18 =>
pLoad1 v0 h1 fun v19 =>
pNil v19 fun v20 =>
pFieldAddr 4 v20 fun v21 =>
pLoad1 v21 h1 fun v22 =>
pLenSl v22 fun n23 =>
pSliceSl 1 v13 none (some (AV.i .i64 n18)) (some (AV.i .i64 n23)) h1 fun v24 =>
pAppend 1 1 v24 (AV.s x1) h1 fun v25 h26 =>
pLoad1 v21 h26 fun v27 =>
(v22 = v27 ∧
(pLoad1 v0 h26 fun v28 =>
(v19 = v28 ∧
(pLoad1 v16 h26 fun v29 =>
(v17 = v29 ∧
(pLoad1 v0 h26 fun v30 =>
(v14 = v30 ∧
(pLoad1 v12 h26 fun v31 =>
(v13 = v31 ∧
(pLoad1 v0 h26 fun v32 =>
(v10 = v32 ∧
(pLoad1 v0 h26 fun v33 =>
(v9 = v33 ∧
(pNil v9 fun v34 =>
pFieldAddr 4 v34 fun v35 =>
pStore 1 v35 v25 h26 fun h36 =>
pAlloc [(AV.sl none 0 none)] h36 fun v38 h39 =>
pLoad1 v0 h39 fun v41 =>
rngA prog C (acall prog) (AV.fn (.func G_window_Window_complete.id) [v41] []) (fun y43 h44 K45 =>
arg1 y43 fun y43_0 =>
pLoad1 v38 h44 fun v46 =>
pLoad1 v0 h44 fun v47 =>
C G_window_Window_buffer.id [v47, y43_0] h44 fun v48 h49 =>
pLoad1 v38 h49 fun v50 =>
(v46 = v50 ∧
(pBuildSl 4 1 [(AV.i .i64 0), (AV.i .i64 0), (AV.i .i64 0), (AV.s [])] [(0, 4, v48)] h49 fun v51 h52 =>
pLoad1 v0 h52 fun v53 =>
(v47 = v53 ∧
(pLoad1 v38 h52 fun v54 =>
(v46 = v54 ∧
(pAppend 4 40 v46 v51 h52 fun v55 h56 =>
pLoad1 v0 h56 fun v57 =>
(v47 = v57 ∧
(pStore 1 v38 v55 h56 fun h58 =>
K45 (AV.b true) h58))))))))) h39 fun h59 =>
pLoad1 v38 h59 fun v61 =>
Q v61 h59))))))))))))))))
theorem G_window_Window_Feed.tR_eq (Q : AV → AHeap → Prop) (x0 : AV) (x1 : List UInt8) (h : AHeap) : G_window_Window_Feed.tR Q x0 x1 h = rexec prog C (acall prog) 39 G_window_Window_Feed.ann G_window_Window_Feed.body (initEnv 0 [x0, (AV.s x1)]) h (kFun prog Try.f9 Q) := by kernel_rfl
theorem G_window_Window_Feed.callR {K : AV → AHeap → Prop} {x0 : AV} {x1 : List UInt8} {h : AHeap} (H : G_window_Window_Feed.tR (kRet h K) x0 x1 h) : aFR prog C (acall prog) G_window_Window_Feed.id [x0, (AV.s x1)] h K :=
  ⟨Try.f9, G_window_Window_Feed.body, G_window_Window_Feed.ann, Try.func9, G_window_Window_Feed.body_eq, by kernel_rfl, Nat.le_of_ble_eq_true (by kernel_rfl), (G_window_Window_Feed.tR_eq (kRet h K) x0 x1 h).mp H⟩

--@@ G_window_Window_Close
/-! ### 10: (*intrusion/window.Window).Close -/
noncomputable def G_window_Window_Close.body : Code := (Try.f10.body).getD .skip
def G_window_Window_Close.ann : Ann := (.seq 0 [0] .leaf (.seq 0 [2] .leaf .leaf))
theorem G_window_Window_Close.body_eq : Try.f10.body = some G_window_Window_Close.body := by kernel_rfl
theorem G_window_Window_Close.dist : noTwice (places G_window_Window_Close.ann G_window_Window_Close.body) = true := by kernel_rfl
noncomputable def G_window_Window_Close.J (Q : AV → AHeap → Prop) : JT := funJ prog C Try.f10 G_window_Window_Close.ann G_window_Window_Close.body Q
theorem G_window_Window_Close.goR {Q : AV → AHeap → Prop} {k : Nat} {p : List Nat} (hl : lookJ (places G_window_Window_Close.ann G_window_Window_Close.body) k = some (p, false)) {e : Env} {h : AHeap} (hk : atJ prog C 5 (G_window_Window_Close.J Q) false p G_window_Window_Close.ann G_window_Window_Close.body e h (kFun prog Try.f10 Q)) : G_window_Window_Close.J Q k e h := goJ_run (P := prog) (fn := Try.f10) (ann := G_window_Window_Close.ann) (body := G_window_Window_Close.body) (Q := Q) (k := k) (p := p) (e := e) (h := h) (acall_le X) G_window_Window_Close.dist hl hk
theorem G_window_Window_Close.goH {Q : AV → AHeap → Prop} {k : Nat} {p : List Nat} (hl : lookJ (places G_window_Window_Close.ann G_window_Window_Close.body) k = some (p, true)) {e : Env} {h : AHeap} (hk : atJ prog C 5 (G_window_Window_Close.J Q) true p G_window_Window_Close.ann G_window_Window_Close.body e h (kFun prog Try.f10 Q)) : G_window_Window_Close.J Q k e h := goJ_head (P := prog) (fn := Try.f10) (ann := G_window_Window_Close.ann) (body := G_window_Window_Close.body) (Q := Q) (k := k) (p := p) (e := e) (h := h) (acall_le X) G_window_Window_Close.dist hl hk
def G_window_Window_Close.t (J : JT) (Q : AV → AHeap → Prop) (x0 : AV) (h : AHeap) : Prop :=
C G_window_Window_Gap.id [x0] h fun v1 h2 =>
Q v1 h2
theorem G_window_Window_Close.t_eq (J : JT) (Q : AV → AHeap → Prop) (x0 : AV) (h : AHeap) : G_window_Window_Close.t J Q x0 h = exJ prog C 5 J G_window_Window_Close.ann G_window_Window_Close.body (initEnv 0 [x0]) h (kFun prog Try.f10 Q) := by kernel_rfl
theorem G_window_Window_Close.call {K : AV → AHeap → Prop} {x0 : AV} {h : AHeap} (H : G_window_Window_Close.t (G_window_Window_Close.J (kRet h K)) (kRet h K) x0 h) : C G_window_Window_Close.id [x0] h K :=
  callJ (P := prog) (fn := Try.f10) (ann := G_window_Window_Close.ann) (body := G_window_Window_Close.body) Try.func10 G_window_Window_Close.body_eq (by kernel_rfl) G_window_Window_Close.dist (by kernel_rfl) ((G_window_Window_Close.t_eq (G_window_Window_Close.J (kRet h K)) (kRet h K) x0 h).mp H)

--@@ G_ref40_Same
/-! ### 11: intrusion/intrusionref40.Same -/
noncomputable def G_ref40_Same.body : Code := (Try.f11.body).getD .skip
def G_ref40_Same.ann : Ann := (.seq 0 [0, 1] .leaf (.seq 0 [0, 1] (.seq 0 [0, 1, 10] .leaf (.br (.seq 0 [4] .leaf .leaf) .leaf)) (.seq 0 [] (.seq 0 [0, 1, 5] .leaf (.one (.loop 1 [0, 1, 5] (.seq 0 [0, 1, 5] (.seq 0 [0, 1, 5, 14] .leaf (.br .leaf .leaf)) (.seq 0 [0, 1, 5] (.one (.seq 0 [0, 1, 5, 25] (.ord (.neu 0 (.neu 1 (.neu 2 (.neu 3 (.neu 4 (.neu 5 (.neu 6 (.neu 7 (.neu 8 .done)))))))))) (.br (.seq 0 [4] .leaf .leaf) .leaf))) .leaf))))) (.seq 0 [4] .leaf .leaf))))
theorem G_ref40_Same.body_eq : Try.f11.body = some G_ref40_Same.body := by kernel_rfl
theorem G_ref40_Same.dist : noTwice (places G_ref40_Same.ann G_ref40_Same.body) = true := by kernel_rfl
noncomputable def G_ref40_Same.J (Q : AV → AHeap → Prop) : JT := funJ prog C Try.f11 G_ref40_Same.ann G_ref40_Same.body Q
theorem G_ref40_Same.goR {Q : AV → AHeap → Prop} {k : Nat} {p : List Nat} (hl : lookJ (places G_ref40_Same.ann G_ref40_Same.body) k = some (p, false)) {e : Env} {h : AHeap} (hk : atJ prog C 26 (G_ref40_Same.J Q) false p G_ref40_Same.ann G_ref40_Same.body e h (kFun prog Try.f11 Q)) : G_ref40_Same.J Q k e h := goJ_run (P := prog) (fn := Try.f11) (ann := G_ref40_Same.ann) (body := G_ref40_Same.body) (Q := Q) (k := k) (p := p) (e := e) (h := h) (acall_le X) G_ref40_Same.dist hl hk
theorem G_ref40_Same.goH {Q : AV → AHeap → Prop} {k : Nat} {p : List Nat} (hl : lookJ (places G_ref40_Same.ann G_ref40_Same.body) k = some (p, true)) {e : Env} {h : AHeap} (hk : atJ prog C 26 (G_ref40_Same.J Q) true p G_ref40_Same.ann G_ref40_Same.body e h (kFun prog Try.f11 Q)) : G_ref40_Same.J Q k e h := goJ_head (P := prog) (fn := Try.f11) (ann := G_ref40_Same.ann) (body := G_ref40_Same.body) (Q := Q) (k := k) (p := p) (e := e) (h := h) (acall_le X) G_ref40_Same.dist hl hk
def G_ref40_Same.p0 (Q : AV → AHeap → Prop) (x0 : AV) (x1 : AV) (x5 : Int) (h : AHeap) : Prop := G_ref40_Same.J Q 1 [(0, x0), (1, x1), (5, (AV.i .i64 x5))] h
theorem G_ref40_Same.j0 (Q : AV → AHeap → Prop) (x0 : AV) (x1 : AV) (x5 : Int) (h : AHeap) : G_ref40_Same.J Q 1 [(0, x0), (1, x1), (5, (AV.i .i64 x5))] h = G_ref40_Same.p0 Q x0 x1 x5 h := rfl
def G_ref40_Same.t0 (J : JT) (Q : AV → AHeap → Prop) (x0 : AV) (x1 : AV) (x5 : Int) (h : AHeap) : Prop :=
pLenSl x0 fun n7 =>
(bif (decide ((x5 : Int) < n7)) then
(pIdxAddrSl 4 x0 (AV.i .i64 x5) h fun v11 =>
pLoadN 4 v11 h fun v12 =>
pIdxAddrSl 4 x1 (AV.i .i64 x5) h fun v13 =>
pLoadN 4 v13 h fun v14 =>
pBin prog .neq 34 v12 v14 fun v15 =>
asB v15 fun c16 =>
(bif c16 then
(Q (AV.b false) h)
else
(withI (IntKind.wrap .i64 (x5 + 1)) fun n20 =>
J 1 [(0, x0), (1, x1), (5, (AV.i .i64 n20))] h)))
else
(Q (AV.b true) h))
theorem G_ref40_Same.t0_eq (J : JT) (Q : AV → AHeap → Prop) (x0 : AV) (x1 : AV) (x5 : Int) (h : AHeap) : G_ref40_Same.t0 J Q x0 x1 x5 h = atJ prog C 26 J true [1, 1, 0, 1, 0] G_ref40_Same.ann G_ref40_Same.body [(0, x0), (1, x1), (5, (AV.i .i64 x5))] h (kFun prog Try.f11 Q) := by kernel_rfl
theorem G_ref40_Same.i0 {Q : AV → AHeap → Prop} {x0 : AV} {x1 : AV} {x5 : Int} {h : AHeap} (H : G_ref40_Same.t0 (G_ref40_Same.J Q) Q x0 x1 x5 h) : G_ref40_Same.p0 Q x0 x1 x5 h := G_ref40_Same.goH (k := 1) (p := [1, 1, 0, 1, 0]) (by kernel_rfl) ((G_ref40_Same.t0_eq (G_ref40_Same.J Q) Q x0 x1 x5 h).mp H)
def G_ref40_Same.t (J : JT) (Q : AV → AHeap → Prop) (x0 : AV) (x1 : AV) (h : AHeap) : Prop :=
pLenSl x0 fun n1 =>
pLenSl x1 fun n2 =>
(bif (!decide ((n1 : Int) = n2)) then
(Q (AV.b false) h)
else
(J 1 [(0, x0), (1, x1), (5, (AV.i .i64 0))] h))
theorem G_ref40_Same.t_eq (J : JT) (Q : AV → AHeap → Prop) (x0 : AV) (x1 : AV) (h : AHeap) : G_ref40_Same.t J Q x0 x1 h = exJ prog C 26 J G_ref40_Same.ann G_ref40_Same.body (initEnv 0 [x0, x1]) h (kFun prog Try.f11 Q) := by kernel_rfl
theorem G_ref40_Same.call {K : AV → AHeap → Prop} {x0 : AV} {x1 : AV} {h : AHeap} (H : G_ref40_Same.t (G_ref40_Same.J (kRet h K)) (kRet h K) x0 x1 h) : C G_ref40_Same.id [x0, x1] h K :=
  callJ (P := prog) (fn := Try.f11) (ann := G_ref40_Same.ann) (body := G_ref40_Same.body) Try.func11 G_ref40_Same.body_eq (by kernel_rfl) G_ref40_Same.dist (by kernel_rfl) ((G_ref40_Same.t_eq (G_ref40_Same.J (kRet h K)) (kRet h K) x0 x1 h).mp H)

--@@ G_window_All
/-! ### 12: intrusion/window.All -/
noncomputable def G_window_All.body : Code := (Try.f12.body).getD .skip
def G_window_All.ann : Ann := (.seq 0 [0, 1, 2] .leaf (.seq 0 [2, 7] .leaf (.seq 0 [7, 8] .leaf (.seq 0 [6] .leaf .leaf))))
theorem G_window_All.body_eq : Try.f12.body = some G_window_All.body := by kernel_rfl
theorem G_window_All.dist : noTwice (places G_window_All.ann G_window_All.body) = true := by kernel_rfl
noncomputable def G_window_All.J (Q : AV → AHeap → Prop) : JT := funJ prog C Try.f12 G_window_All.ann G_window_All.body Q
theorem G_window_All.goR {Q : AV → AHeap → Prop} {k : Nat} {p : List Nat} (hl : lookJ (places G_window_All.ann G_window_All.body) k = some (p, false)) {e : Env} {h : AHeap} (hk : atJ prog C 19 (G_window_All.J Q) false p G_window_All.ann G_window_All.body e h (kFun prog Try.f12 Q)) : G_window_All.J Q k e h := goJ_run (P := prog) (fn := Try.f12) (ann := G_window_All.ann) (body := G_window_All.body) (Q := Q) (k := k) (p := p) (e := e) (h := h) (acall_le X) G_window_All.dist hl hk
theorem G_window_All.goH {Q : AV → AHeap → Prop} {k : Nat} {p : List Nat} (hl : lookJ (places G_window_All.ann G_window_All.body) k = some (p, true)) {e : Env} {h : AHeap} (hk : atJ prog C 19 (G_window_All.J Q) true p G_window_All.ann G_window_All.body e h (kFun prog Try.f12 Q)) : G_window_All.J Q k e h := goJ_head (P := prog) (fn := Try.f12) (ann := G_window_All.ann) (body := G_window_All.body) (Q := Q) (k := k) (p := p) (e := e) (h := h) (acall_le X) G_window_All.dist hl hk
def G_window_All.t (J : JT) (Q : AV → AHeap → Prop) (x0 : Int) (x1 : Int) (x2 : List UInt8) (h : AHeap) : Prop :=
C G_window_New.id [(AV.i .i64 x0), (AV.i .i64 x1)] h fun v1 h2 =>
C G_window_Window_Feed.id [v1, (AV.s x2)] h2 fun v4 h5 =>
C G_window_Window_Close.id [v1] h5 fun v7 h8 =>
pAppend 4 40 v4 v7 h8 fun v9 h10 =>
Q v9 h10
theorem G_window_All.t_eq (J : JT) (Q : AV → AHeap → Prop) (x0 : Int) (x1 : Int) (x2 : List UInt8) (h : AHeap) : G_window_All.t J Q x0 x1 x2 h = exJ prog C 19 J G_window_All.ann G_window_All.body (initEnv 0 [(AV.i .i64 x0), (AV.i .i64 x1), (AV.s x2)]) h (kFun prog Try.f12 Q) := by kernel_rfl
theorem G_window_All.call {K : AV → AHeap → Prop} {x0 : Int} {x1 : Int} {x2 : List UInt8} {h : AHeap} (H : G_window_All.t (G_window_All.J (kRet h K)) (kRet h K) x0 x1 x2 h) : C G_window_All.id [(AV.i .i64 x0), (AV.i .i64 x1), (AV.s x2)] h K :=
  callJ (P := prog) (fn := Try.f12) (ann := G_window_All.ann) (body := G_window_All.body) Try.func12 G_window_All.body_eq (by kernel_rfl) G_window_All.dist (by kernel_rfl) ((G_window_All.t_eq (G_window_All.J (kRet h K)) (kRet h K) x0 x1 x2 h).mp H)

--@@ G_window_Window_Gap
/-! ### 13: (*intrusion/window.Window).Gap -/
noncomputable def G_window_Window_Gap.body : Code := (Try.f13.body).getD .skip
def G_window_Window_Gap.ann : Ann := (.seq 0 [0] .leaf (.seq 0 [0] (.seq 0 [0, 5] .leaf (.br (.seq 0 [2] .leaf .leaf) .leaf)) (.seq 0 [0, 3] .leaf (.seq 2 [0, 3] (.seq 1 [0, 3, 26] .leaf (.br .leaf .leaf)) (.seq 0 [3] .leaf (.seq 0 [2] .leaf .leaf))))))
theorem G_window_Window_Gap.body_eq : Try.f13.body = some G_window_Window_Gap.body := by kernel_rfl
theorem G_window_Window_Gap.dist : noTwice (places G_window_Window_Gap.ann G_window_Window_Gap.body) = true := by kernel_rfl
noncomputable def G_window_Window_Gap.J (Q : AV → AHeap → Prop) : JT := funJ prog C Try.f13 G_window_Window_Gap.ann G_window_Window_Gap.body Q
theorem G_window_Window_Gap.goR {Q : AV → AHeap → Prop} {k : Nat} {p : List Nat} (hl : lookJ (places G_window_Window_Gap.ann G_window_Window_Gap.body) k = some (p, false)) {e : Env} {h : AHeap} (hk : atJ prog C 43 (G_window_Window_Gap.J Q) false p G_window_Window_Gap.ann G_window_Window_Gap.body e h (kFun prog Try.f13 Q)) : G_window_Window_Gap.J Q k e h := goJ_run (P := prog) (fn := Try.f13) (ann := G_window_Window_Gap.ann) (body := G_window_Window_Gap.body) (Q := Q) (k := k) (p := p) (e := e) (h := h) (acall_le X) G_window_Window_Gap.dist hl hk
theorem G_window_Window_Gap.goH {Q : AV → AHeap → Prop} {k : Nat} {p : List Nat} (hl : lookJ (places G_window_Window_Gap.ann G_window_Window_Gap.body) k = some (p, true)) {e : Env} {h : AHeap} (hk : atJ prog C 43 (G_window_Window_Gap.J Q) true p G_window_Window_Gap.ann G_window_Window_Gap.body e h (kFun prog Try.f13 Q)) : G_window_Window_Gap.J Q k e h := goJ_head (P := prog) (fn := Try.f13) (ann := G_window_Window_Gap.ann) (body := G_window_Window_Gap.body) (Q := Q) (k := k) (p := p) (e := e) (h := h) (acall_le X) G_window_Window_Gap.dist hl hk
def G_window_Window_Gap.p0 (Q : AV → AHeap → Prop) (x0 : AV) (x3 : AV) (x26 : Bool) (h : AHeap) : Prop := G_window_Window_Gap.J Q 1 [(0, x0), (3, x3), (26, (AV.b x26))] h
theorem G_window_Window_Gap.j0 (Q : AV → AHeap → Prop) (x0 : AV) (x3 : AV) (x26 : Bool) (h : AHeap) : G_window_Window_Gap.J Q 1 [(0, x0), (3, x3), (26, (AV.b x26))] h = G_window_Window_Gap.p0 Q x0 x3 x26 h := rfl
def G_window_Window_Gap.p1 (Q : AV → AHeap → Prop) (x0 : AV) (x3 : AV) (h : AHeap) : Prop := G_window_Window_Gap.J Q 2 [(0, x0), (3, x3)] h
theorem G_window_Window_Gap.j1 (Q : AV → AHeap → Prop) (x0 : AV) (x3 : AV) (h : AHeap) : G_window_Window_Gap.J Q 2 [(0, x0), (3, x3)] h = G_window_Window_Gap.p1 Q x0 x3 h := rfl
def G_window_Window_Gap.t0 (J : JT) (Q : AV → AHeap → Prop) (x0 : AV) (x3 : AV) (x26 : Bool) (h : AHeap) : Prop :=
(bif x26 then
(pNil x0 fun v22 =>
pFieldAddr 4 v22 fun v23 =>
pLoad1 v23 h fun v24 =>
C G_window_Window_buffer.id [x0, v24] h fun v25 h26 =>
pBuildSl 4 1 [(AV.i .i64 0), (AV.i .i64 0), (AV.i .i64 0), (AV.s [])] [(0, 4, v25)] h26 fun v27 h28 =>
pAppend 4 40 x3 v27 h28 fun v29 h30 =>
J 2 [(0, x0), (3, v29)] h30)
else
(J 2 [(0, x0), (3, x3)] h))
theorem G_window_Window_Gap.t0_eq (J : JT) (Q : AV → AHeap → Prop) (x0 : AV) (x3 : AV) (x26 : Bool) (h : AHeap) : G_window_Window_Gap.t0 J Q x0 x3 x26 h = atJ prog C 43 J false [1, 1, 1, 0, 1] G_window_Window_Gap.ann G_window_Window_Gap.body [(0, x0), (3, x3), (26, (AV.b x26))] h (kFun prog Try.f13 Q) := by kernel_rfl
theorem G_window_Window_Gap.i0 {Q : AV → AHeap → Prop} {x0 : AV} {x3 : AV} {x26 : Bool} {h : AHeap} (H : G_window_Window_Gap.t0 (G_window_Window_Gap.J Q) Q x0 x3 x26 h) : G_window_Window_Gap.p0 Q x0 x3 x26 h := G_window_Window_Gap.goR (k := 1) (p := [1, 1, 1, 0, 1]) (by kernel_rfl) ((G_window_Window_Gap.t0_eq (G_window_Window_Gap.J Q) Q x0 x3 x26 h).mp H)
def G_window_Window_Gap.t1 (J : JT) (Q : AV → AHeap → Prop) (x0 : AV) (x3 : AV) (h : AHeap) : Prop :=
pNil x0 fun v33 =>
pFieldAddr 4 v33 fun v34 =>
pStore 1 v34 (AV.sl none 0 none) h fun h35 =>
pNil x0 fun v36 =>
pFieldAddr 3 v36 fun v37 =>
pStore 1 v37 (AV.i .i64 0) h35 fun h38 =>
Q x3 h38
theorem G_window_Window_Gap.t1_eq (J : JT) (Q : AV → AHeap → Prop) (x0 : AV) (x3 : AV) (h : AHeap) : G_window_Window_Gap.t1 J Q x0 x3 h = atJ prog C 43 J false [1, 1, 1, 1] G_window_Window_Gap.ann G_window_Window_Gap.body [(0, x0), (3, x3)] h (kFun prog Try.f13 Q) := by kernel_rfl
theorem G_window_Window_Gap.i1 {Q : AV → AHeap → Prop} {x0 : AV} {x3 : AV} {h : AHeap} (H : G_window_Window_Gap.t1 (G_window_Window_Gap.J Q) Q x0 x3 h) : G_window_Window_Gap.p1 Q x0 x3 h := G_window_Window_Gap.goR (k := 2) (p := [1, 1, 1, 1]) (by kernel_rfl) ((G_window_Window_Gap.t1_eq (G_window_Window_Gap.J Q) Q x0 x3 h).mp H)
def G_window_Window_Gap.t (J : JT) (Q : AV → AHeap → Prop) (x0 : AV) (h : AHeap) : Prop :=
pBin prog .eql 26 x0 (AV.p none) fun v1 =>
asB v1 fun c2 =>
(bif c2 then
(Q (AV.sl none 0 none) h)
else
(pNil x0 fun v7 =>
pFieldAddr 4 v7 fun v8 =>
pLoad1 v8 h fun v9 =>
pLenSl v9 fun n10 =>
(bif (decide ((0 : Int) < n10)) then
(pNil x0 fun v11 =>
pFieldAddr 3 v11 fun v12 =>
pLoad1 v12 h fun v13 =>
asI .i64 v13 fun n14 =>
(bif (decide ((n14 : Int) = 0)) then
(J 1 [(0, x0), (3, (AV.sl none 0 none)), (26, (AV.b true))] h)
else
(pNil x0 fun v16 =>
pFieldAddr 4 v16 fun v17 =>
pLoad1 v17 h fun v18 =>
pLenSl v18 fun n19 =>
J 1 [(0, x0), (3, (AV.sl none 0 none)), (26, (AV.b (decide ((512 : Int) < n19))))] h)))
else
(J 1 [(0, x0), (3, (AV.sl none 0 none)), (26, (AV.b false))] h))))
theorem G_window_Window_Gap.t_eq (J : JT) (Q : AV → AHeap → Prop) (x0 : AV) (h : AHeap) : G_window_Window_Gap.t J Q x0 h = exJ prog C 43 J G_window_Window_Gap.ann G_window_Window_Gap.body (initEnv 0 [x0]) h (kFun prog Try.f13 Q) := by kernel_rfl
theorem G_window_Window_Gap.call {K : AV → AHeap → Prop} {x0 : AV} {h : AHeap} (H : G_window_Window_Gap.t (G_window_Window_Gap.J (kRet h K)) (kRet h K) x0 h) : C G_window_Window_Gap.id [x0] h K :=
  callJ (P := prog) (fn := Try.f13) (ann := G_window_Window_Gap.ann) (body := G_window_Window_Gap.body) Try.func13 G_window_Window_Gap.body_eq (by kernel_rfl) G_window_Window_Gap.dist (by kernel_rfl) ((G_window_Window_Gap.t_eq (G_window_Window_Gap.J (kRet h K)) (kRet h K) x0 h).mp H)

--@@ G_ref40_New
/-! ### 14: intrusion/intrusionref40.New -/
noncomputable def G_ref40_New.body : Code := (Try.f14.body).getD .skip
def G_ref40_New.ann : Ann := (.seq 0 [0, 1] .leaf (.seq 0 [4] .leaf .leaf))
theorem G_ref40_New.body_eq : Try.f14.body = some G_ref40_New.body := by kernel_rfl
theorem G_ref40_New.dist : noTwice (places G_ref40_New.ann G_ref40_New.body) = true := by kernel_rfl
noncomputable def G_ref40_New.J (Q : AV → AHeap → Prop) : JT := funJ prog C Try.f14 G_ref40_New.ann G_ref40_New.body Q
theorem G_ref40_New.goR {Q : AV → AHeap → Prop} {k : Nat} {p : List Nat} (hl : lookJ (places G_ref40_New.ann G_ref40_New.body) k = some (p, false)) {e : Env} {h : AHeap} (hk : atJ prog C 9 (G_ref40_New.J Q) false p G_ref40_New.ann G_ref40_New.body e h (kFun prog Try.f14 Q)) : G_ref40_New.J Q k e h := goJ_run (P := prog) (fn := Try.f14) (ann := G_ref40_New.ann) (body := G_ref40_New.body) (Q := Q) (k := k) (p := p) (e := e) (h := h) (acall_le X) G_ref40_New.dist hl hk
theorem G_ref40_New.goH {Q : AV → AHeap → Prop} {k : Nat} {p : List Nat} (hl : lookJ (places G_ref40_New.ann G_ref40_New.body) k = some (p, true)) {e : Env} {h : AHeap} (hk : atJ prog C 9 (G_ref40_New.J Q) true p G_ref40_New.ann G_ref40_New.body e h (kFun prog Try.f14 Q)) : G_ref40_New.J Q k e h := goJ_head (P := prog) (fn := Try.f14) (ann := G_ref40_New.ann) (body := G_ref40_New.body) (Q := Q) (k := k) (p := p) (e := e) (h := h) (acall_le X) G_ref40_New.dist hl hk
def G_ref40_New.t (J : JT) (Q : AV → AHeap → Prop) (x0 : Int) (x1 : Int) (h : AHeap) : Prop :=
pBox (AV.ag [(AV.i .i64 x0), (AV.i .i64 x1), (AV.i .i64 0), (AV.i .i64 0), (AV.s [])]) h fun v1 h2 =>
Q v1 h2
theorem G_ref40_New.t_eq (J : JT) (Q : AV → AHeap → Prop) (x0 : Int) (x1 : Int) (h : AHeap) : G_ref40_New.t J Q x0 x1 h = exJ prog C 9 J G_ref40_New.ann G_ref40_New.body (initEnv 0 [(AV.i .i64 x0), (AV.i .i64 x1)]) h (kFun prog Try.f14 Q) := by kernel_rfl
theorem G_ref40_New.call {K : AV → AHeap → Prop} {x0 : Int} {x1 : Int} {h : AHeap} (H : G_ref40_New.t (G_ref40_New.J (kRet h K)) (kRet h K) x0 x1 h) : C G_ref40_New.id [(AV.i .i64 x0), (AV.i .i64 x1)] h K :=
  callJ (P := prog) (fn := Try.f14) (ann := G_ref40_New.ann) (body := G_ref40_New.body) Try.func14 G_ref40_New.body_eq (by kernel_rfl) G_ref40_New.dist (by kernel_rfl) ((G_ref40_New.t_eq (G_ref40_New.J (kRet h K)) (kRet h K) x0 x1 h).mp H)

--@@ G_ref40_Window_Feed
/-! ### 15: (*intrusion/intrusionref40.Window).Feed -/
noncomputable def G_ref40_Window_Feed.body : Code := (Try.f15.body).getD .skip
def G_ref40_Window_Feed.ann : Ann := (.seq 0 [0, 1] .leaf (.seq 0 [0, 1, 5] .leaf (.seq 0 [0, 5] .leaf (.seq 0 [5] (.one (.loop 1 [0, 5] (.seq 0 [0, 5] (.seq 0 [0, 5, 26] (.ord (.neu 0 (.neu 1 (.neu 2 (.neu 3 (.neu 4 (.neu 5 (.neu 6 (.neu 7 (.neu 8 (.neu 9 (.neu 10 (.neu 11 .done))))))))))))) (.br .leaf .leaf)) (.one (.seq 0 [0, 5] (.ord (.neu 0 (.neu 1 (.neu 2 (.neu 3 (.neu 4 (.neu 5 (.neu 6 (.neu 7 (.neu 8 (.neu 9 (.neu 10 (.neu 11 (.neu 12 (.neu 13 (.neu 14 (.neu 15 (.neu 16 (.neu 17 (.eff 18 (.eff 19 (.eff 20 (.eff 21 .done .stop) .stop) .stop) .stop)))))))))))))))))))) .leaf))))) (.seq 0 [4] .leaf .leaf)))))
theorem G_ref40_Window_Feed.body_eq : Try.f15.body = some G_ref40_Window_Feed.body := by kernel_rfl
theorem G_ref40_Window_Feed.dist : noTwice (places G_ref40_Window_Feed.ann G_ref40_Window_Feed.body) = true := by kernel_rfl
noncomputable def G_ref40_Window_Feed.J (Q : AV → AHeap → Prop) : JT := funJ prog C Try.f15 G_ref40_Window_Feed.ann G_ref40_Window_Feed.body Q
theorem G_ref40_Window_Feed.goR {Q : AV → AHeap → Prop} {k : Nat} {p : List Nat} (hl : lookJ (places G_ref40_Window_Feed.ann G_ref40_Window_Feed.body) k = some (p, false)) {e : Env} {h : AHeap} (hk : atJ prog C 57 (G_ref40_Window_Feed.J Q) false p G_ref40_Window_Feed.ann G_ref40_Window_Feed.body e h (kFun prog Try.f15 Q)) : G_ref40_Window_Feed.J Q k e h := goJ_run (P := prog) (fn := Try.f15) (ann := G_ref40_Window_Feed.ann) (body := G_ref40_Window_Feed.body) (Q := Q) (k := k) (p := p) (e := e) (h := h) (acall_le X) G_ref40_Window_Feed.dist hl hk
theorem G_ref40_Window_Feed.goH {Q : AV → AHeap → Prop} {k : Nat} {p : List Nat} (hl : lookJ (places G_ref40_Window_Feed.ann G_ref40_Window_Feed.body) k = some (p, true)) {e : Env} {h : AHeap} (hk : atJ prog C 57 (G_ref40_Window_Feed.J Q) true p G_ref40_Window_Feed.ann G_ref40_Window_Feed.body e h (kFun prog Try.f15 Q)) : G_ref40_Window_Feed.J Q k e h := goJ_head (P := prog) (fn := Try.f15) (ann := G_ref40_Window_Feed.ann) (body := G_ref40_Window_Feed.body) (Q := Q) (k := k) (p := p) (e := e) (h := h) (acall_le X) G_ref40_Window_Feed.dist hl hk
def G_ref40_Window_Feed.p0 (Q : AV → AHeap → Prop) (x0 : AV) (x5 : AV) (h : AHeap) : Prop := G_ref40_Window_Feed.J Q 1 [(0, x0), (5, x5)] h
theorem G_ref40_Window_Feed.j0 (Q : AV → AHeap → Prop) (x0 : AV) (x5 : AV) (h : AHeap) : G_ref40_Window_Feed.J Q 1 [(0, x0), (5, x5)] h = G_ref40_Window_Feed.p0 Q x0 x5 h := rfl
def G_ref40_Window_Feed.t0 (J : JT) (Q : AV → AHeap → Prop) (x0 : AV) (x5 : AV) (h : AHeap) : Prop :=
pNil x0 fun v11 =>
pFieldAddr 2 v11 fun v12 =>
pLoad1 v12 h fun v13 =>
asI .i64 v13 fun n14 =>
withI (IntKind.wrap .i64 (n14 * 512)) fun n15 =>
withI (IntKind.wrap .i64 (n15 + 1024)) fun n16 =>
pNil x0 fun v17 =>
pFieldAddr 4 v17 fun v18 =>
pLoad1 v18 h fun v19 =>
asS v19 fun l20 =>
(bif (decide ((n16 : Int) ≤ (l20.length : Int))) then
(pNil x0 fun v24 =>
pFieldAddr 4 v24 fun v25 =>
pLoad1 v25 h fun v26 =>
asS v26 fun l27 =>
pNil x0 fun v28 =>
pFieldAddr 2 v28 fun v29 =>
pLoad1 v29 h fun v30 =>
asI .i64 v30 fun n31 =>
withI (IntKind.wrap .i64 (n31 * 512)) fun n32 =>
pNil x0 fun v33 =>
pFieldAddr 2 v33 fun v34 =>
pLoad1 v34 h fun v35 =>
asI .i64 v35 fun n36 =>
withI (IntKind.wrap .i64 (n36 * 512)) fun n37 =>
withI (IntKind.wrap .i64 (n37 + 1024)) fun n38 =>
pSliceStr (AV.s l27) (some (AV.i .i64 n32)) (some (AV.i .i64 n38)) fun l39 =>
C G_ref40_Window_buffer.id [x0, (AV.s l39)] h fun v40 h41 =>
pLoad1 v34 h41 fun v42 =>
asI .i64 v42 fun n43 =>
((AV.i .i64 n36) = (AV.i .i64 n43) ∧
(pLoad1 v29 h41 fun v44 =>
asI .i64 v44 fun n45 =>
((AV.i .i64 n31) = (AV.i .i64 n45) ∧
(pLoad1 v25 h41 fun v46 =>
asS v46 fun l47 =>
((AV.s l27) = (AV.s l47) ∧
(pBuildSl 4 1 [(AV.i .i64 0), (AV.i .i64 0), (AV.i .i64 0), (AV.s [])] [(0, 4, v40)] h41 fun v48 h49 =>
pLoad1 v34 h49 fun v50 =>
asI .i64 v50 fun n51 =>
((AV.i .i64 n36) = (AV.i .i64 n51) ∧
(pLoad1 v29 h49 fun v52 =>
asI .i64 v52 fun n53 =>
((AV.i .i64 n31) = (AV.i .i64 n53) ∧
(pLoad1 v25 h49 fun v54 =>
asS v54 fun l55 =>
((AV.s l27) = (AV.s l55) ∧
(pAppend 4 40 x5 v48 h49 fun v56 h57 =>
pLoad1 v34 h57 fun v58 =>
asI .i64 v58 fun n59 =>
((AV.i .i64 n36) = (AV.i .i64 n59) ∧
(pLoad1 v29 h57 fun v60 =>
asI .i64 v60 fun n61 =>
((AV.i .i64 n31) = (AV.i .i64 n61) ∧
(pLoad1 v25 h57 fun v62 =>
asS v62 fun l63 =>
((AV.s l27) = (AV.s l63) ∧
(pNil x0 fun v65 =>
pFieldAddr 2 v65 fun v66 =>
pLoad1 v66 h57 fun v67 =>
asI .i64 v67 fun n68 =>
withI (IntKind.wrap .i64 (n68 + 1)) fun n69 =>
pNil x0 fun v70 =>
pFieldAddr 2 v70 fun v71 =>
pStore 1 v71 (AV.i .i64 n69) h57 fun h72 =>
J 1 [(0, x0), (5, v56)] h72)))))))))))))))))))
else
(Q x5 h))
theorem G_ref40_Window_Feed.t0_eq (J : JT) (Q : AV → AHeap → Prop) (x0 : AV) (x5 : AV) (h : AHeap) : G_ref40_Window_Feed.t0 J Q x0 x5 h = atJ prog C 57 J true [1, 1, 1, 0, 0] G_ref40_Window_Feed.ann G_ref40_Window_Feed.body [(0, x0), (5, x5)] h (kFun prog Try.f15 Q) := by kernel_rfl
theorem G_ref40_Window_Feed.i0 {Q : AV → AHeap → Prop} {x0 : AV} {x5 : AV} {h : AHeap} (H : G_ref40_Window_Feed.t0 (G_ref40_Window_Feed.J Q) Q x0 x5 h) : G_ref40_Window_Feed.p0 Q x0 x5 h := G_ref40_Window_Feed.goH (k := 1) (p := [1, 1, 1, 0, 0]) (by kernel_rfl) ((G_ref40_Window_Feed.t0_eq (G_ref40_Window_Feed.J Q) Q x0 x5 h).mp H)
def G_ref40_Window_Feed.t (J : JT) (Q : AV → AHeap → Prop) (x0 : AV) (x1 : List UInt8) (h : AHeap) : Prop :=
pNil x0 fun v2 =>
pFieldAddr 4 v2 fun v3 =>
pLoad1 v3 h fun v4 =>
asS v4 fun l5 =>
pCat l5 x1 fun l6 =>
pNil x0 fun v7 =>
pFieldAddr 4 v7 fun v8 =>
pStore 1 v8 (AV.s l6) h fun h9 =>
J 1 [(0, x0), (5, (AV.sl none 0 none))] h9
theorem G_ref40_Window_Feed.t_eq (J : JT) (Q : AV → AHeap → Prop) (x0 : AV) (x1 : List UInt8) (h : AHeap) : G_ref40_Window_Feed.t J Q x0 x1 h = exJ prog C 57 J G_ref40_Window_Feed.ann G_ref40_Window_Feed.body (initEnv 0 [x0, (AV.s x1)]) h (kFun prog Try.f15 Q) := by kernel_rfl
theorem G_ref40_Window_Feed.call {K : AV → AHeap → Prop} {x0 : AV} {x1 : List UInt8} {h : AHeap} (H : G_ref40_Window_Feed.t (G_ref40_Window_Feed.J (kRet h K)) (kRet h K) x0 x1 h) : C G_ref40_Window_Feed.id [x0, (AV.s x1)] h K :=
  callJ (P := prog) (fn := Try.f15) (ann := G_ref40_Window_Feed.ann) (body := G_ref40_Window_Feed.body) Try.func15 G_ref40_Window_Feed.body_eq (by kernel_rfl) G_ref40_Window_Feed.dist (by kernel_rfl) ((G_ref40_Window_Feed.t_eq (G_ref40_Window_Feed.J (kRet h K)) (kRet h K) x0 x1 h).mp H)

--@@ G_ref40_Window_Gap
/-! ### 16: (*intrusion/intrusionref40.Window).Gap -/
noncomputable def G_ref40_Window_Gap.body : Code := (Try.f16.body).getD .skip
def G_ref40_Window_Gap.ann : Ann := (.seq 0 [0] .leaf (.seq 0 [2] .leaf .leaf))
theorem G_ref40_Window_Gap.body_eq : Try.f16.body = some G_ref40_Window_Gap.body := by kernel_rfl
theorem G_ref40_Window_Gap.dist : noTwice (places G_ref40_Window_Gap.ann G_ref40_Window_Gap.body) = true := by kernel_rfl
noncomputable def G_ref40_Window_Gap.J (Q : AV → AHeap → Prop) : JT := funJ prog C Try.f16 G_ref40_Window_Gap.ann G_ref40_Window_Gap.body Q
theorem G_ref40_Window_Gap.goR {Q : AV → AHeap → Prop} {k : Nat} {p : List Nat} (hl : lookJ (places G_ref40_Window_Gap.ann G_ref40_Window_Gap.body) k = some (p, false)) {e : Env} {h : AHeap} (hk : atJ prog C 5 (G_ref40_Window_Gap.J Q) false p G_ref40_Window_Gap.ann G_ref40_Window_Gap.body e h (kFun prog Try.f16 Q)) : G_ref40_Window_Gap.J Q k e h := goJ_run (P := prog) (fn := Try.f16) (ann := G_ref40_Window_Gap.ann) (body := G_ref40_Window_Gap.body) (Q := Q) (k := k) (p := p) (e := e) (h := h) (acall_le X) G_ref40_Window_Gap.dist hl hk
theorem G_ref40_Window_Gap.goH {Q : AV → AHeap → Prop} {k : Nat} {p : List Nat} (hl : lookJ (places G_ref40_Window_Gap.ann G_ref40_Window_Gap.body) k = some (p, true)) {e : Env} {h : AHeap} (hk : atJ prog C 5 (G_ref40_Window_Gap.J Q) true p G_ref40_Window_Gap.ann G_ref40_Window_Gap.body e h (kFun prog Try.f16 Q)) : G_ref40_Window_Gap.J Q k e h := goJ_head (P := prog) (fn := Try.f16) (ann := G_ref40_Window_Gap.ann) (body := G_ref40_Window_Gap.body) (Q := Q) (k := k) (p := p) (e := e) (h := h) (acall_le X) G_ref40_Window_Gap.dist hl hk
def G_ref40_Window_Gap.t (J : JT) (Q : AV → AHeap → Prop) (x0 : AV) (h : AHeap) : Prop :=
C G_ref40_Window_Close.id [x0] h fun v1 h2 =>
Q v1 h2
theorem G_ref40_Window_Gap.t_eq (J : JT) (Q : AV → AHeap → Prop) (x0 : AV) (h : AHeap) : G_ref40_Window_Gap.t J Q x0 h = exJ prog C 5 J G_ref40_Window_Gap.ann G_ref40_Window_Gap.body (initEnv 0 [x0]) h (kFun prog Try.f16 Q) := by kernel_rfl
theorem G_ref40_Window_Gap.call {K : AV → AHeap → Prop} {x0 : AV} {h : AHeap} (H : G_ref40_Window_Gap.t (G_ref40_Window_Gap.J (kRet h K)) (kRet h K) x0 h) : C G_ref40_Window_Gap.id [x0] h K :=
  callJ (P := prog) (fn := Try.f16) (ann := G_ref40_Window_Gap.ann) (body := G_ref40_Window_Gap.body) Try.func16 G_ref40_Window_Gap.body_eq (by kernel_rfl) G_ref40_Window_Gap.dist (by kernel_rfl) ((G_ref40_Window_Gap.t_eq (G_ref40_Window_Gap.J (kRet h K)) (kRet h K) x0 h).mp H)

--@@ G_ref40_Window_Close
/-! ### 17: (*intrusion/intrusionref40.Window).Close -/
noncomputable def G_ref40_Window_Close.body : Code := (Try.f17.body).getD .skip
def G_ref40_Window_Close.ann : Ann := (.seq 0 [0] .leaf (.seq 0 [0, 3] .leaf (.seq 2 [0, 3] (.seq 1 [0, 3, 30] (.ord (.neu 0 (.neu 1 (.neu 2 (.neu 3 (.neu 4 (.neu 5 (.neu 6 (.neu 7 (.neu 8 (.neu 9 (.neu 10 (.neu 11 (.neu 12 (.neu 13 (.neu 14 (.neu 15 (.neu 16 (.neu 17 (.neu 18 (.neu 19 (.neu 20 (.neu 21 (.neu 22 (.neu 23 (.neu 24 (.neu 25 (.neu 26 .done)))))))))))))))))))))))))))) (.br (.ord (.neu 0 (.neu 1 (.neu 2 (.neu 3 (.neu 4 (.neu 5 (.neu 6 (.neu 7 (.neu 8 (.neu 9 (.neu 10 (.neu 11 (.eff 12 (.eff 13 (.eff 14 (.eff 15 .done .stop) .stop) .stop) .stop)))))))))))))) .leaf)) (.seq 0 [0, 3] .leaf (.seq 0 [3] .leaf (.seq 0 [2] .leaf .leaf))))))
theorem G_ref40_Window_Close.body_eq : Try.f17.body = some G_ref40_Window_Close.body := by kernel_rfl
theorem G_ref40_Window_Close.dist : noTwice (places G_ref40_Window_Close.ann G_ref40_Window_Close.body) = true := by kernel_rfl
noncomputable def G_ref40_Window_Close.J (Q : AV → AHeap → Prop) : JT := funJ prog C Try.f17 G_ref40_Window_Close.ann G_ref40_Window_Close.body Q
theorem G_ref40_Window_Close.goR {Q : AV → AHeap → Prop} {k : Nat} {p : List Nat} (hl : lookJ (places G_ref40_Window_Close.ann G_ref40_Window_Close.body) k = some (p, false)) {e : Env} {h : AHeap} (hk : atJ prog C 53 (G_ref40_Window_Close.J Q) false p G_ref40_Window_Close.ann G_ref40_Window_Close.body e h (kFun prog Try.f17 Q)) : G_ref40_Window_Close.J Q k e h := goJ_run (P := prog) (fn := Try.f17) (ann := G_ref40_Window_Close.ann) (body := G_ref40_Window_Close.body) (Q := Q) (k := k) (p := p) (e := e) (h := h) (acall_le X) G_ref40_Window_Close.dist hl hk
theorem G_ref40_Window_Close.goH {Q : AV → AHeap → Prop} {k : Nat} {p : List Nat} (hl : lookJ (places G_ref40_Window_Close.ann G_ref40_Window_Close.body) k = some (p, true)) {e : Env} {h : AHeap} (hk : atJ prog C 53 (G_ref40_Window_Close.J Q) true p G_ref40_Window_Close.ann G_ref40_Window_Close.body e h (kFun prog Try.f17 Q)) : G_ref40_Window_Close.J Q k e h := goJ_head (P := prog) (fn := Try.f17) (ann := G_ref40_Window_Close.ann) (body := G_ref40_Window_Close.body) (Q := Q) (k := k) (p := p) (e := e) (h := h) (acall_le X) G_ref40_Window_Close.dist hl hk
def G_ref40_Window_Close.p0 (Q : AV → AHeap → Prop) (x0 : AV) (x3 : AV) (x30 : Bool) (h : AHeap) : Prop := G_ref40_Window_Close.J Q 1 [(0, x0), (3, x3), (30, (AV.b x30))] h
theorem G_ref40_Window_Close.j0 (Q : AV → AHeap → Prop) (x0 : AV) (x3 : AV) (x30 : Bool) (h : AHeap) : G_ref40_Window_Close.J Q 1 [(0, x0), (3, x3), (30, (AV.b x30))] h = G_ref40_Window_Close.p0 Q x0 x3 x30 h := rfl
def G_ref40_Window_Close.p1 (Q : AV → AHeap → Prop) (x0 : AV) (x3 : AV) (h : AHeap) : Prop := G_ref40_Window_Close.J Q 2 [(0, x0), (3, x3)] h
theorem G_ref40_Window_Close.j1 (Q : AV → AHeap → Prop) (x0 : AV) (x3 : AV) (h : AHeap) : G_ref40_Window_Close.J Q 2 [(0, x0), (3, x3)] h = G_ref40_Window_Close.p1 Q x0 x3 h := rfl
def G_ref40_Window_Close.t0 (J : JT) (Q : AV → AHeap → Prop) (x0 : AV) (x3 : AV) (x30 : Bool) (h : AHeap) : Prop :=
(bif x30 then
(pNil x0 fun v23 =>
pFieldAddr 4 v23 fun v24 =>
pLoad1 v24 h fun v25 =>
asS v25 fun l26 =>
pNil x0 fun v27 =>
pFieldAddr 2 v27 fun v28 =>
pLoad1 v28 h fun v29 =>
asI .i64 v29 fun n30 =>
withI (IntKind.wrap .i64 (n30 * 512)) fun n31 =>
pSliceStr (AV.s l26) (some (AV.i .i64 n31)) none fun l32 =>
C G_ref40_Window_buffer.id [x0, (AV.s l32)] h fun v33 h34 =>
pLoad1 v28 h34 fun v35 =>
asI .i64 v35 fun n36 =>
((AV.i .i64 n30) = (AV.i .i64 n36) ∧
(pLoad1 v24 h34 fun v37 =>
asS v37 fun l38 =>
((AV.s l26) = (AV.s l38) ∧
(pBuildSl 4 1 [(AV.i .i64 0), (AV.i .i64 0), (AV.i .i64 0), (AV.s [])] [(0, 4, v33)] h34 fun v39 h40 =>
pLoad1 v28 h40 fun v41 =>
asI .i64 v41 fun n42 =>
((AV.i .i64 n30) = (AV.i .i64 n42) ∧
(pLoad1 v24 h40 fun v43 =>
asS v43 fun l44 =>
((AV.s l26) = (AV.s l44) ∧
(pAppend 4 40 x3 v39 h40 fun v45 h46 =>
pLoad1 v28 h46 fun v47 =>
asI .i64 v47 fun n48 =>
((AV.i .i64 n30) = (AV.i .i64 n48) ∧
(pLoad1 v24 h46 fun v49 =>
asS v49 fun l50 =>
((AV.s l26) = (AV.s l50) ∧
(J 2 [(0, x0), (3, v45)] h46)))))))))))))
else
(J 2 [(0, x0), (3, x3)] h))
theorem G_ref40_Window_Close.t0_eq (J : JT) (Q : AV → AHeap → Prop) (x0 : AV) (x3 : AV) (x30 : Bool) (h : AHeap) : G_ref40_Window_Close.t0 J Q x0 x3 x30 h = atJ prog C 53 J false [1, 1, 0, 1] G_ref40_Window_Close.ann G_ref40_Window_Close.body [(0, x0), (3, x3), (30, (AV.b x30))] h (kFun prog Try.f17 Q) := by kernel_rfl
theorem G_ref40_Window_Close.i0 {Q : AV → AHeap → Prop} {x0 : AV} {x3 : AV} {x30 : Bool} {h : AHeap} (H : G_ref40_Window_Close.t0 (G_ref40_Window_Close.J Q) Q x0 x3 x30 h) : G_ref40_Window_Close.p0 Q x0 x3 x30 h := G_ref40_Window_Close.goR (k := 1) (p := [1, 1, 0, 1]) (by kernel_rfl) ((G_ref40_Window_Close.t0_eq (G_ref40_Window_Close.J Q) Q x0 x3 x30 h).mp H)
def G_ref40_Window_Close.t1 (J : JT) (Q : AV → AHeap → Prop) (x0 : AV) (x3 : AV) (h : AHeap) : Prop :=
pNil x0 fun v53 =>
pFieldAddr 4 v53 fun v54 =>
pStore 1 v54 (AV.s []) h fun h55 =>
pNil x0 fun v57 =>
pFieldAddr 2 v57 fun v58 =>
pStore 1 v58 (AV.i .i64 0) h55 fun h59 =>
Q x3 h59
theorem G_ref40_Window_Close.t1_eq (J : JT) (Q : AV → AHeap → Prop) (x0 : AV) (x3 : AV) (h : AHeap) : G_ref40_Window_Close.t1 J Q x0 x3 h = atJ prog C 53 J false [1, 1, 1] G_ref40_Window_Close.ann G_ref40_Window_Close.body [(0, x0), (3, x3)] h (kFun prog Try.f17 Q) := by kernel_rfl
theorem G_ref40_Window_Close.i1 {Q : AV → AHeap → Prop} {x0 : AV} {x3 : AV} {h : AHeap} (H : G_ref40_Window_Close.t1 (G_ref40_Window_Close.J Q) Q x0 x3 h) : G_ref40_Window_Close.p1 Q x0 x3 h := G_ref40_Window_Close.goR (k := 2) (p := [1, 1, 1]) (by kernel_rfl) ((G_ref40_Window_Close.t1_eq (G_ref40_Window_Close.J Q) Q x0 x3 h).mp H)
def G_ref40_Window_Close.t (J : JT) (Q : AV → AHeap → Prop) (x0 : AV) (h : AHeap) : Prop :=
pNil x0 fun v2 =>
pFieldAddr 4 v2 fun v3 =>
pLoad1 v3 h fun v4 =>
asS v4 fun l5 =>
(bif (decide ((0 : Int) < (l5.length : Int))) then
(pNil x0 fun v6 =>
pFieldAddr 2 v6 fun v7 =>
pLoad1 v7 h fun v8 =>
asI .i64 v8 fun n9 =>
(bif (decide ((n9 : Int) = 0)) then
(J 1 [(0, x0), (3, (AV.sl none 0 none)), (30, (AV.b true))] h)
else
(pNil x0 fun v11 =>
pFieldAddr 4 v11 fun v12 =>
pLoad1 v12 h fun v13 =>
asS v13 fun l14 =>
pNil x0 fun v15 =>
pFieldAddr 2 v15 fun v16 =>
pLoad1 v16 h fun v17 =>
asI .i64 v17 fun n18 =>
withI (IntKind.wrap .i64 (n18 + 1)) fun n19 =>
withI (IntKind.wrap .i64 (n19 * 512)) fun n20 =>
J 1 [(0, x0), (3, (AV.sl none 0 none)), (30, (AV.b (decide ((n20 : Int) < (l14.length : Int)))))] h)))
else
(J 1 [(0, x0), (3, (AV.sl none 0 none)), (30, (AV.b false))] h))
theorem G_ref40_Window_Close.t_eq (J : JT) (Q : AV → AHeap → Prop) (x0 : AV) (h : AHeap) : G_ref40_Window_Close.t J Q x0 h = exJ prog C 53 J G_ref40_Window_Close.ann G_ref40_Window_Close.body (initEnv 0 [x0]) h (kFun prog Try.f17 Q) := by kernel_rfl
theorem G_ref40_Window_Close.call {K : AV → AHeap → Prop} {x0 : AV} {h : AHeap} (H : G_ref40_Window_Close.t (G_ref40_Window_Close.J (kRet h K)) (kRet h K) x0 h) : C G_ref40_Window_Close.id [x0] h K :=
  callJ (P := prog) (fn := Try.f17) (ann := G_ref40_Window_Close.ann) (body := G_ref40_Window_Close.body) Try.func17 G_ref40_Window_Close.body_eq (by kernel_rfl) G_ref40_Window_Close.dist (by kernel_rfl) ((G_ref40_Window_Close.t_eq (G_ref40_Window_Close.J (kRet h K)) (kRet h K) x0 h).mp H)

--@@ G_ref40_All
/-! ### 18: intrusion/intrusionref40.All -/
noncomputable def G_ref40_All.body : Code := (Try.f18.body).getD .skip
def G_ref40_All.ann : Ann := (.seq 0 [0, 1, 2] .leaf (.seq 0 [2, 7] .leaf (.seq 0 [7, 8] .leaf (.seq 0 [6] .leaf .leaf))))
theorem G_ref40_All.body_eq : Try.f18.body = some G_ref40_All.body := by kernel_rfl
theorem G_ref40_All.dist : noTwice (places G_ref40_All.ann G_ref40_All.body) = true := by kernel_rfl
noncomputable def G_ref40_All.J (Q : AV → AHeap → Prop) : JT := funJ prog C Try.f18 G_ref40_All.ann G_ref40_All.body Q
theorem G_ref40_All.goR {Q : AV → AHeap → Prop} {k : Nat} {p : List Nat} (hl : lookJ (places G_ref40_All.ann G_ref40_All.body) k = some (p, false)) {e : Env} {h : AHeap} (hk : atJ prog C 19 (G_ref40_All.J Q) false p G_ref40_All.ann G_ref40_All.body e h (kFun prog Try.f18 Q)) : G_ref40_All.J Q k e h := goJ_run (P := prog) (fn := Try.f18) (ann := G_ref40_All.ann) (body := G_ref40_All.body) (Q := Q) (k := k) (p := p) (e := e) (h := h) (acall_le X) G_ref40_All.dist hl hk
theorem G_ref40_All.goH {Q : AV → AHeap → Prop} {k : Nat} {p : List Nat} (hl : lookJ (places G_ref40_All.ann G_ref40_All.body) k = some (p, true)) {e : Env} {h : AHeap} (hk : atJ prog C 19 (G_ref40_All.J Q) true p G_ref40_All.ann G_ref40_All.body e h (kFun prog Try.f18 Q)) : G_ref40_All.J Q k e h := goJ_head (P := prog) (fn := Try.f18) (ann := G_ref40_All.ann) (body := G_ref40_All.body) (Q := Q) (k := k) (p := p) (e := e) (h := h) (acall_le X) G_ref40_All.dist hl hk
def G_ref40_All.t (J : JT) (Q : AV → AHeap → Prop) (x0 : Int) (x1 : Int) (x2 : List UInt8) (h : AHeap) : Prop :=
C G_ref40_New.id [(AV.i .i64 x0), (AV.i .i64 x1)] h fun v1 h2 =>
C G_ref40_Window_Feed.id [v1, (AV.s x2)] h2 fun v4 h5 =>
C G_ref40_Window_Close.id [v1] h5 fun v7 h8 =>
pAppend 4 40 v4 v7 h8 fun v9 h10 =>
Q v9 h10
theorem G_ref40_All.t_eq (J : JT) (Q : AV → AHeap → Prop) (x0 : Int) (x1 : Int) (x2 : List UInt8) (h : AHeap) : G_ref40_All.t J Q x0 x1 x2 h = exJ prog C 19 J G_ref40_All.ann G_ref40_All.body (initEnv 0 [(AV.i .i64 x0), (AV.i .i64 x1), (AV.s x2)]) h (kFun prog Try.f18 Q) := by kernel_rfl
theorem G_ref40_All.call {K : AV → AHeap → Prop} {x0 : Int} {x1 : Int} {x2 : List UInt8} {h : AHeap} (H : G_ref40_All.t (G_ref40_All.J (kRet h K)) (kRet h K) x0 x1 x2 h) : C G_ref40_All.id [(AV.i .i64 x0), (AV.i .i64 x1), (AV.s x2)] h K :=
  callJ (P := prog) (fn := Try.f18) (ann := G_ref40_All.ann) (body := G_ref40_All.body) Try.func18 G_ref40_All.body_eq (by kernel_rfl) G_ref40_All.dist (by kernel_rfl) ((G_ref40_All.t_eq (G_ref40_All.J (kRet h K)) (kRet h K) x0 x1 x2 h).mp H)

--@@ G_window_Window_Size
/-! ### 19: (*intrusion/window.Window).Size -/
noncomputable def G_window_Window_Size.body : Code := (Try.f19.body).getD .skip
def G_window_Window_Size.ann : Ann := (.seq 0 [0] .leaf (.seq 0 [0] (.seq 0 [0, 4] .leaf (.br (.seq 0 [2] .leaf .leaf) .leaf)) (.seq 0 [2] .leaf .leaf)))
theorem G_window_Window_Size.body_eq : Try.f19.body = some G_window_Window_Size.body := by kernel_rfl
theorem G_window_Window_Size.dist : noTwice (places G_window_Window_Size.ann G_window_Window_Size.body) = true := by kernel_rfl
noncomputable def G_window_Window_Size.J (Q : AV → AHeap → Prop) : JT := funJ prog C Try.f19 G_window_Window_Size.ann G_window_Window_Size.body Q
theorem G_window_Window_Size.goR {Q : AV → AHeap → Prop} {k : Nat} {p : List Nat} (hl : lookJ (places G_window_Window_Size.ann G_window_Window_Size.body) k = some (p, false)) {e : Env} {h : AHeap} (hk : atJ prog C 10 (G_window_Window_Size.J Q) false p G_window_Window_Size.ann G_window_Window_Size.body e h (kFun prog Try.f19 Q)) : G_window_Window_Size.J Q k e h := goJ_run (P := prog) (fn := Try.f19) (ann := G_window_Window_Size.ann) (body := G_window_Window_Size.body) (Q := Q) (k := k) (p := p) (e := e) (h := h) (acall_le X) G_window_Window_Size.dist hl hk
theorem G_window_Window_Size.goH {Q : AV → AHeap → Prop} {k : Nat} {p : List Nat} (hl : lookJ (places G_window_Window_Size.ann G_window_Window_Size.body) k = some (p, true)) {e : Env} {h : AHeap} (hk : atJ prog C 10 (G_window_Window_Size.J Q) true p G_window_Window_Size.ann G_window_Window_Size.body e h (kFun prog Try.f19 Q)) : G_window_Window_Size.J Q k e h := goJ_head (P := prog) (fn := Try.f19) (ann := G_window_Window_Size.ann) (body := G_window_Window_Size.body) (Q := Q) (k := k) (p := p) (e := e) (h := h) (acall_le X) G_window_Window_Size.dist hl hk
def G_window_Window_Size.t (J : JT) (Q : AV → AHeap → Prop) (x0 : AV) (h : AHeap) : Prop :=
pBin prog .eql 26 x0 (AV.p none) fun v1 =>
asB v1 fun c2 =>
(bif c2 then
(Q (AV.i .i64 0) h)
else
(pNil x0 fun v6 =>
pFieldAddr 4 v6 fun v7 =>
pLoad1 v7 h fun v8 =>
pLenSl v8 fun n9 =>
Q (AV.i .i64 n9) h))
theorem G_window_Window_Size.t_eq (J : JT) (Q : AV → AHeap → Prop) (x0 : AV) (h : AHeap) : G_window_Window_Size.t J Q x0 h = exJ prog C 10 J G_window_Window_Size.ann G_window_Window_Size.body (initEnv 0 [x0]) h (kFun prog Try.f19 Q) := by kernel_rfl
theorem G_window_Window_Size.call {K : AV → AHeap → Prop} {x0 : AV} {h : AHeap} (H : G_window_Window_Size.t (G_window_Window_Size.J (kRet h K)) (kRet h K) x0 h) : C G_window_Window_Size.id [x0] h K :=
  callJ (P := prog) (fn := Try.f19) (ann := G_window_Window_Size.ann) (body := G_window_Window_Size.body) Try.func19 G_window_Window_Size.body_eq (by kernel_rfl) G_window_Window_Size.dist (by kernel_rfl) ((G_window_Window_Size.t_eq (G_window_Window_Size.J (kRet h K)) (kRet h K) x0 h).mp H)

--@@ G_ref40_Window_Size
/-! ### 20: (*intrusion/intrusionref40.Window).Size -/
noncomputable def G_ref40_Window_Size.body : Code := (Try.f20.body).getD .skip
def G_ref40_Window_Size.ann : Ann := (.seq 0 [0] .leaf (.seq 0 [2] (.ord (.neu 0 (.neu 1 (.neu 2 (.neu 3 (.neu 4 (.neu 5 (.neu 6 (.neu 7 (.neu 8 (.neu 9 (.neu 10 (.neu 11 .done))))))))))))) .leaf))
theorem G_ref40_Window_Size.body_eq : Try.f20.body = some G_ref40_Window_Size.body := by kernel_rfl
theorem G_ref40_Window_Size.dist : noTwice (places G_ref40_Window_Size.ann G_ref40_Window_Size.body) = true := by kernel_rfl
noncomputable def G_ref40_Window_Size.J (Q : AV → AHeap → Prop) : JT := funJ prog C Try.f20 G_ref40_Window_Size.ann G_ref40_Window_Size.body Q
theorem G_ref40_Window_Size.goR {Q : AV → AHeap → Prop} {k : Nat} {p : List Nat} (hl : lookJ (places G_ref40_Window_Size.ann G_ref40_Window_Size.body) k = some (p, false)) {e : Env} {h : AHeap} (hk : atJ prog C 14 (G_ref40_Window_Size.J Q) false p G_ref40_Window_Size.ann G_ref40_Window_Size.body e h (kFun prog Try.f20 Q)) : G_ref40_Window_Size.J Q k e h := goJ_run (P := prog) (fn := Try.f20) (ann := G_ref40_Window_Size.ann) (body := G_ref40_Window_Size.body) (Q := Q) (k := k) (p := p) (e := e) (h := h) (acall_le X) G_ref40_Window_Size.dist hl hk
theorem G_ref40_Window_Size.goH {Q : AV → AHeap → Prop} {k : Nat} {p : List Nat} (hl : lookJ (places G_ref40_Window_Size.ann G_ref40_Window_Size.body) k = some (p, true)) {e : Env} {h : AHeap} (hk : atJ prog C 14 (G_ref40_Window_Size.J Q) true p G_ref40_Window_Size.ann G_ref40_Window_Size.body e h (kFun prog Try.f20 Q)) : G_ref40_Window_Size.J Q k e h := goJ_head (P := prog) (fn := Try.f20) (ann := G_ref40_Window_Size.ann) (body := G_ref40_Window_Size.body) (Q := Q) (k := k) (p := p) (e := e) (h := h) (acall_le X) G_ref40_Window_Size.dist hl hk
def G_ref40_Window_Size.t (J : JT) (Q : AV → AHeap → Prop) (x0 : AV) (h : AHeap) : Prop :=
pNil x0 fun v1 =>
pFieldAddr 4 v1 fun v2 =>
pLoad1 v2 h fun v3 =>
asS v3 fun l4 =>
pNil x0 fun v5 =>
pFieldAddr 2 v5 fun v6 =>
pLoad1 v6 h fun v7 =>
asI .i64 v7 fun n8 =>
withI (IntKind.wrap .i64 (n8 * 512)) fun n9 =>
withI (IntKind.wrap .i64 ((l4.length : Int) - n9)) fun n10 =>
Q (AV.i .i64 n10) h
theorem G_ref40_Window_Size.t_eq (J : JT) (Q : AV → AHeap → Prop) (x0 : AV) (h : AHeap) : G_ref40_Window_Size.t J Q x0 h = exJ prog C 14 J G_ref40_Window_Size.ann G_ref40_Window_Size.body (initEnv 0 [x0]) h (kFun prog Try.f20 Q) := by kernel_rfl
theorem G_ref40_Window_Size.call {K : AV → AHeap → Prop} {x0 : AV} {h : AHeap} (H : G_ref40_Window_Size.t (G_ref40_Window_Size.J (kRet h K)) (kRet h K) x0 h) : C G_ref40_Window_Size.id [x0] h K :=
  callJ (P := prog) (fn := Try.f20) (ann := G_ref40_Window_Size.ann) (body := G_ref40_Window_Size.body) Try.func20 G_ref40_Window_Size.body_eq (by kernel_rfl) G_ref40_Window_Size.dist (by kernel_rfl) ((G_ref40_Window_Size.t_eq (G_ref40_Window_Size.J (kRet h K)) (kRet h K) x0 h).mp H)

--@@ G_window_Window_complete
/-! ### 21: (*intrusion/window.Window).complete -/
noncomputable def G_window_Window_complete.body : Code := (Try.f21.body).getD .skip
def G_window_Window_complete.ann : Ann := (.one (.loop 1 [0, 1] (.seq 0 [0, 1] (.seq 0 [0, 1, 10] .leaf (.br .leaf .leaf)) (.one (.seq 0 [0, 1, 4] .leaf (.seq 0 [0, 1, 4] .leaf (.seq 0 [0, 1, 4] .leaf (.seq 0 [0, 1, 34] .leaf (.br .leaf .leaf)))))))))
theorem G_window_Window_complete.body_eq : Try.f21.body = some G_window_Window_complete.body := by kernel_rfl
theorem G_window_Window_complete.dist : noTwice (places G_window_Window_complete.ann G_window_Window_complete.body) = true := by kernel_rfl
noncomputable def G_window_Window_complete.J (Q : AV → AHeap → Prop) : JT := funJ prog C Try.f21 G_window_Window_complete.ann G_window_Window_complete.body Q
theorem G_window_Window_complete.goR {Q : AV → AHeap → Prop} {k : Nat} {p : List Nat} (hl : lookJ (places G_window_Window_complete.ann G_window_Window_complete.body) k = some (p, false)) {e : Env} {h : AHeap} (hk : atJ prog C 35 (G_window_Window_complete.J Q) false p G_window_Window_complete.ann G_window_Window_complete.body e h (kFun prog Try.f21 Q)) : G_window_Window_complete.J Q k e h := goJ_run (P := prog) (fn := Try.f21) (ann := G_window_Window_complete.ann) (body := G_window_Window_complete.body) (Q := Q) (k := k) (p := p) (e := e) (h := h) (acall_le X) G_window_Window_complete.dist hl hk
theorem G_window_Window_complete.goH {Q : AV → AHeap → Prop} {k : Nat} {p : List Nat} (hl : lookJ (places G_window_Window_complete.ann G_window_Window_complete.body) k = some (p, true)) {e : Env} {h : AHeap} (hk : atJ prog C 35 (G_window_Window_complete.J Q) true p G_window_Window_complete.ann G_window_Window_complete.body e h (kFun prog Try.f21 Q)) : G_window_Window_complete.J Q k e h := goJ_head (P := prog) (fn := Try.f21) (ann := G_window_Window_complete.ann) (body := G_window_Window_complete.body) (Q := Q) (k := k) (p := p) (e := e) (h := h) (acall_le X) G_window_Window_complete.dist hl hk
def G_window_Window_complete.p0 (Q : AV → AHeap → Prop) (x0 : AV) (x1 : AV) (h : AHeap) : Prop := G_window_Window_complete.J Q 1 [(0, x0), (1, x1)] h
theorem G_window_Window_complete.j0 (Q : AV → AHeap → Prop) (x0 : AV) (x1 : AV) (h : AHeap) : G_window_Window_complete.J Q 1 [(0, x0), (1, x1)] h = G_window_Window_complete.p0 Q x0 x1 h := rfl
def G_window_Window_complete.t0 (J : JT) (Q : AV → AHeap → Prop) (x0 : AV) (x1 : AV) (h : AHeap) : Prop :=
pNil x0 fun v0 =>
pFieldAddr 4 v0 fun v1 =>
pLoad1 v1 h fun v2 =>
pLenSl v2 fun n3 =>
(bif (decide ((1024 : Int) ≤ n3)) then
(pNil x0 fun v6 =>
pFieldAddr 4 v6 fun v7 =>
pLoad1 v7 h fun v8 =>
pSliceSl 1 v8 none (some (AV.i .i64 1024)) (some (AV.i .i64 1024)) h fun v9 =>
pNil x0 fun v11 =>
pFieldAddr 4 v11 fun v12 =>
pLoad1 v12 h fun v13 =>
pSliceSl 1 v13 (some (AV.i .i64 512)) none none h fun v14 =>
pNil x0 fun v15 =>
pFieldAddr 4 v15 fun v16 =>
pStore 1 v16 v14 h fun h17 =>
pNil x0 fun v19 =>
pFieldAddr 3 v19 fun v20 =>
pLoad1 v20 h17 fun v21 =>
asI .i64 v21 fun n22 =>
withI (IntKind.wrap .i64 (n22 + 1)) fun n23 =>
pNil x0 fun v24 =>
pFieldAddr 3 v24 fun v25 =>
pStore 1 v25 (AV.i .i64 n23) h17 fun h26 =>
pCallV C x1 [v9] h26 fun v28 h29 =>
asB v28 fun c30 =>
(bif (!c30) then
(Q (AV.tu []) h29)
else
(J 1 [(0, x0), (1, x1)] h29)))
else
(Q (AV.tu []) h))
theorem G_window_Window_complete.t0_eq (J : JT) (Q : AV → AHeap → Prop) (x0 : AV) (x1 : AV) (h : AHeap) : G_window_Window_complete.t0 J Q x0 x1 h = atJ prog C 35 J true [0] G_window_Window_complete.ann G_window_Window_complete.body [(0, x0), (1, x1)] h (kFun prog Try.f21 Q) := by kernel_rfl
theorem G_window_Window_complete.i0 {Q : AV → AHeap → Prop} {x0 : AV} {x1 : AV} {h : AHeap} (H : G_window_Window_complete.t0 (G_window_Window_complete.J Q) Q x0 x1 h) : G_window_Window_complete.p0 Q x0 x1 h := G_window_Window_complete.goH (k := 1) (p := [0]) (by kernel_rfl) ((G_window_Window_complete.t0_eq (G_window_Window_complete.J Q) Q x0 x1 h).mp H)
def G_window_Window_complete.t (J : JT) (Q : AV → AHeap → Prop) (x0 : AV) (x1 : AV) (h : AHeap) : Prop :=
J 1 [(0, x0), (1, x1)] h
theorem G_window_Window_complete.t_eq (J : JT) (Q : AV → AHeap → Prop) (x0 : AV) (x1 : AV) (h : AHeap) : G_window_Window_complete.t J Q x0 x1 h = exJ prog C 35 J G_window_Window_complete.ann G_window_Window_complete.body (initEnv 0 [x0, x1]) h (kFun prog Try.f21 Q) := by kernel_rfl
theorem G_window_Window_complete.call {K : AV → AHeap → Prop} {x0 : AV} {x1 : AV} {h : AHeap} (H : G_window_Window_complete.t (G_window_Window_complete.J (kRet h K)) (kRet h K) x0 x1 h) : C G_window_Window_complete.id [x0, x1] h K :=
  callJ (P := prog) (fn := Try.f21) (ann := G_window_Window_complete.ann) (body := G_window_Window_complete.body) Try.func21 G_window_Window_complete.body_eq (by kernel_rfl) G_window_Window_complete.dist (by kernel_rfl) ((G_window_Window_complete.t_eq (G_window_Window_complete.J (kRet h K)) (kRet h K) x0 x1 h).mp H)

--@@ G_window_Window_buffer
/-! ### 22: (*intrusion/window.Window).buffer -/
noncomputable def G_window_Window_buffer.body : Code := (Try.f22.body).getD .skip
def G_window_Window_buffer.ann : Ann := (.seq 0 [0, 1, 4] .leaf (.seq 0 [0, 4, 5] (.ord (.neu 0 (.neu 1 (.neu 2 (.neu 3 (.neu 4 (.neu 5 (.neu 6 (.neu 7 (.neu 8 (.neu 9 (.neu 10 (.neu 11 (.neu 12 (.neu 13 (.neu 14 (.eff 15 (.eff 16 .done .stop) .stop))))))))))))))))) (.seq 0 [4, 5] .leaf (.seq 0 [4] .leaf .leaf))))
theorem G_window_Window_buffer.body_eq : Try.f22.body = some G_window_Window_buffer.body := by kernel_rfl
theorem G_window_Window_buffer.dist : noTwice (places G_window_Window_buffer.ann G_window_Window_buffer.body) = true := by kernel_rfl
noncomputable def G_window_Window_buffer.J (Q : AV → AHeap → Prop) : JT := funJ prog C Try.f22 G_window_Window_buffer.ann G_window_Window_buffer.body Q
theorem G_window_Window_buffer.goR {Q : AV → AHeap → Prop} {k : Nat} {p : List Nat} (hl : lookJ (places G_window_Window_buffer.ann G_window_Window_buffer.body) k = some (p, false)) {e : Env} {h : AHeap} (hk : atJ prog C 29 (G_window_Window_buffer.J Q) false p G_window_Window_buffer.ann G_window_Window_buffer.body e h (kFun prog Try.f22 Q)) : G_window_Window_buffer.J Q k e h := goJ_run (P := prog) (fn := Try.f22) (ann := G_window_Window_buffer.ann) (body := G_window_Window_buffer.body) (Q := Q) (k := k) (p := p) (e := e) (h := h) (acall_le X) G_window_Window_buffer.dist hl hk
theorem G_window_Window_buffer.goH {Q : AV → AHeap → Prop} {k : Nat} {p : List Nat} (hl : lookJ (places G_window_Window_buffer.ann G_window_Window_buffer.body) k = some (p, true)) {e : Env} {h : AHeap} (hk : atJ prog C 29 (G_window_Window_buffer.J Q) true p G_window_Window_buffer.ann G_window_Window_buffer.body e h (kFun prog Try.f22 Q)) : G_window_Window_buffer.J Q k e h := goJ_head (P := prog) (fn := Try.f22) (ann := G_window_Window_buffer.ann) (body := G_window_Window_buffer.body) (Q := Q) (k := k) (p := p) (e := e) (h := h) (acall_le X) G_window_Window_buffer.dist hl hk
def G_window_Window_buffer.t (J : JT) (Q : AV → AHeap → Prop) (x0 : AV) (x1 : AV) (h : AHeap) : Prop :=
pAlloc [(AV.i .i64 0), (AV.i .i64 0), (AV.i .i64 0), (AV.s [])] h fun v0 h1 =>
pNil x0 fun v3 =>
pFieldAddr 0 v3 fun v4 =>
pLoad1 v4 h1 fun v5 =>
asI .i64 v5 fun n6 =>
pNil x0 fun v7 =>
pFieldAddr 1 v7 fun v8 =>
pLoad1 v8 h1 fun v9 =>
asI .i64 v9 fun n10 =>
pNil x0 fun v11 =>
pFieldAddr 2 v11 fun v12 =>
pLoad1 v12 h1 fun v13 =>
asI .i64 v13 fun n14 =>
pBytesStr x1 h1 fun l15 =>
pAlloc [(AV.i .i64 0), (AV.i .i64 0), (AV.i .i64 0), (AV.s [])] h1 fun v16 h17 =>
pBytesStr x1 h17 fun l18 =>
((AV.s l15) = (AV.s l18) ∧
(pLoad1 v12 h17 fun v19 =>
asI .i64 v19 fun n20 =>
((AV.i .i64 n14) = (AV.i .i64 n20) ∧
(pLoad1 v8 h17 fun v21 =>
asI .i64 v21 fun n22 =>
((AV.i .i64 n10) = (AV.i .i64 n22) ∧
(pLoad1 v4 h17 fun v23 =>
asI .i64 v23 fun n24 =>
((AV.i .i64 n6) = (AV.i .i64 n24) ∧
(pStore 4 v16 (AV.ag [(AV.i .i64 n6), (AV.i .i64 n10), (AV.i .i64 n14), (AV.s l15)]) h17 fun h25 =>
pNil x0 fun v27 =>
pFieldAddr 2 v27 fun v28 =>
pLoad1 v28 h25 fun v29 =>
asI .i64 v29 fun n30 =>
withI (IntKind.wrap .i64 (n30 + 1)) fun n31 =>
pNil x0 fun v32 =>
pFieldAddr 2 v32 fun v33 =>
pStore 1 v33 (AV.i .i64 n31) h25 fun h34 =>
pLoadN 4 v16 h34 fun v36 =>
pStore 4 v0 v36 h34 fun h37 =>
pLoadN 4 v0 h37 fun v39 =>
Q v39 h37))))))))
theorem G_window_Window_buffer.t_eq (J : JT) (Q : AV → AHeap → Prop) (x0 : AV) (x1 : AV) (h : AHeap) : G_window_Window_buffer.t J Q x0 x1 h = exJ prog C 29 J G_window_Window_buffer.ann G_window_Window_buffer.body (initEnv 0 [x0, x1]) h (kFun prog Try.f22 Q) := by kernel_rfl
theorem G_window_Window_buffer.call {K : AV → AHeap → Prop} {x0 : AV} {x1 : AV} {h : AHeap} (H : G_window_Window_buffer.t (G_window_Window_buffer.J (kRet h K)) (kRet h K) x0 x1 h) : C G_window_Window_buffer.id [x0, x1] h K :=
  callJ (P := prog) (fn := Try.f22) (ann := G_window_Window_buffer.ann) (body := G_window_Window_buffer.body) Try.func22 G_window_Window_buffer.body_eq (by kernel_rfl) G_window_Window_buffer.dist (by kernel_rfl) ((G_window_Window_buffer.t_eq (G_window_Window_buffer.J (kRet h K)) (kRet h K) x0 x1 h).mp H)

--@@ G_ref40_Window_buffer
/-! ### 23: (*intrusion/intrusionref40.Window).buffer -/
noncomputable def G_ref40_Window_buffer.body : Code := (Try.f23.body).getD .skip
def G_ref40_Window_buffer.ann : Ann := (.seq 0 [0, 1, 4] .leaf (.seq 0 [0, 1, 4] .leaf (.seq 0 [4] (.ord (.neu 0 (.neu 1 (.neu 2 (.neu 3 (.neu 4 (.neu 5 (.neu 6 (.neu 7 (.neu 8 (.neu 9 (.neu 10 (.neu 11 (.neu 12 (.neu 13 (.neu 14 (.eff 15 .done .stop))))))))))))))))) .leaf)))
theorem G_ref40_Window_buffer.body_eq : Try.f23.body = some G_ref40_Window_buffer.body := by kernel_rfl
theorem G_ref40_Window_buffer.dist : noTwice (places G_ref40_Window_buffer.ann G_ref40_Window_buffer.body) = true := by kernel_rfl
noncomputable def G_ref40_Window_buffer.J (Q : AV → AHeap → Prop) : JT := funJ prog C Try.f23 G_ref40_Window_buffer.ann G_ref40_Window_buffer.body Q
theorem G_ref40_Window_buffer.goR {Q : AV → AHeap → Prop} {k : Nat} {p : List Nat} (hl : lookJ (places G_ref40_Window_buffer.ann G_ref40_Window_buffer.body) k = some (p, false)) {e : Env} {h : AHeap} (hk : atJ prog C 28 (G_ref40_Window_buffer.J Q) false p G_ref40_Window_buffer.ann G_ref40_Window_buffer.body e h (kFun prog Try.f23 Q)) : G_ref40_Window_buffer.J Q k e h := goJ_run (P := prog) (fn := Try.f23) (ann := G_ref40_Window_buffer.ann) (body := G_ref40_Window_buffer.body) (Q := Q) (k := k) (p := p) (e := e) (h := h) (acall_le X) G_ref40_Window_buffer.dist hl hk
theorem G_ref40_Window_buffer.goH {Q : AV → AHeap → Prop} {k : Nat} {p : List Nat} (hl : lookJ (places G_ref40_Window_buffer.ann G_ref40_Window_buffer.body) k = some (p, true)) {e : Env} {h : AHeap} (hk : atJ prog C 28 (G_ref40_Window_buffer.J Q) true p G_ref40_Window_buffer.ann G_ref40_Window_buffer.body e h (kFun prog Try.f23 Q)) : G_ref40_Window_buffer.J Q k e h := goJ_head (P := prog) (fn := Try.f23) (ann := G_ref40_Window_buffer.ann) (body := G_ref40_Window_buffer.body) (Q := Q) (k := k) (p := p) (e := e) (h := h) (acall_le X) G_ref40_Window_buffer.dist hl hk
def G_ref40_Window_buffer.t (J : JT) (Q : AV → AHeap → Prop) (x0 : AV) (x1 : List UInt8) (h : AHeap) : Prop :=
pAlloc [(AV.i .i64 0), (AV.i .i64 0), (AV.i .i64 0), (AV.s [])] h fun v0 h1 =>
pNil x0 fun v3 =>
pFieldAddr 3 v3 fun v4 =>
pLoad1 v4 h1 fun v5 =>
asI .i64 v5 fun n6 =>
withI (IntKind.wrap .i64 (n6 + 1)) fun n7 =>
pNil x0 fun v8 =>
pFieldAddr 3 v8 fun v9 =>
pStore 1 v9 (AV.i .i64 n7) h1 fun h10 =>
pNil x0 fun v12 =>
pFieldAddr 0 v12 fun v13 =>
pLoad1 v13 h10 fun v14 =>
asI .i64 v14 fun n15 =>
pNil x0 fun v16 =>
pFieldAddr 1 v16 fun v17 =>
pLoad1 v17 h10 fun v18 =>
asI .i64 v18 fun n19 =>
pNil x0 fun v20 =>
pFieldAddr 3 v20 fun v21 =>
pLoad1 v21 h10 fun v22 =>
asI .i64 v22 fun n23 =>
withI (IntKind.wrap .i64 (n23 - 1)) fun n24 =>
pStore 4 v0 (AV.ag [(AV.i .i64 n15), (AV.i .i64 n19), (AV.i .i64 n24), (AV.s x1)]) h10 fun h25 =>
pLoadN 4 v0 h25 fun v27 =>
Q v27 h25
theorem G_ref40_Window_buffer.t_eq (J : JT) (Q : AV → AHeap → Prop) (x0 : AV) (x1 : List UInt8) (h : AHeap) : G_ref40_Window_buffer.t J Q x0 x1 h = exJ prog C 28 J G_ref40_Window_buffer.ann G_ref40_Window_buffer.body (initEnv 0 [x0, (AV.s x1)]) h (kFun prog Try.f23 Q) := by kernel_rfl
theorem G_ref40_Window_buffer.call {K : AV → AHeap → Prop} {x0 : AV} {x1 : List UInt8} {h : AHeap} (H : G_ref40_Window_buffer.t (G_ref40_Window_buffer.J (kRet h K)) (kRet h K) x0 x1 h) : C G_ref40_Window_buffer.id [x0, (AV.s x1)] h K :=
  callJ (P := prog) (fn := Try.f23) (ann := G_ref40_Window_buffer.ann) (body := G_ref40_Window_buffer.body) Try.func23 G_ref40_Window_buffer.body_eq (by kernel_rfl) G_ref40_Window_buffer.dist (by kernel_rfl) ((G_ref40_Window_buffer.t_eq (G_ref40_Window_buffer.J (kRet h K)) (kRet h K) x0 x1 h).mp H)


end Go.Proofs.Ytbmmnckklafplaa
