/- The bodies' texts in the abstract machine: printed by Gen.lean, checked by Lean's kernel. -/
import Derived.Test.YtbphaelhhfkdiaaDoorAmR
import Derived.Test.YtbphaelhhfkdiaaDoorProg
import Derived.KernelRfl
set_option linter.unusedVariables false
set_option linter.unusedSectionVars false
set_option maxRecDepth 100000
namespace Go.Proofs.YtbphaelhhfkdiaaDoor
open Go.GAM
noncomputable abbrev prog : Program := Tryd.prog
/-- The rules for functions that are not walked. -/
class XR where
  X : CallR
abbrev X [XR] : CallR := XR.X
abbrev C [XR] : CallR := acall prog X
abbrev G_main_main.id : FuncId := 0
abbrev G_gosem_cut.id : FuncId := 1
abbrev G_gosem_cut_init.id : FuncId := 2
abbrev G_law26_TransformApplies.id : FuncId := 3
abbrev G_law26_TransformSettles.id : FuncId := 4
abbrev G_law26_TransformLengths.id : FuncId := 5
abbrev G_law26_TransformPaths.id : FuncId := 6
abbrev G_law26_TransformChains.id : FuncId := 7
abbrev G_law26_TransformEncodes.id : FuncId := 8
abbrev G_law26_TransformInverts.id : FuncId := 9
abbrev G_law26_long.id : FuncId := 10
abbrev G_law26_awake.id : FuncId := 11
abbrev G_transform_Apply.id : FuncId := 12
abbrev G_ref26_Apply.id : FuncId := 13
abbrev G_transform_All.id : FuncId := 14
abbrev G_ref26_All.id : FuncId := 15
abbrev G_transform_EncodePercent.id : FuncId := 16
abbrev G_ref26_EncodePercent.id : FuncId := 17
abbrev G_transform_EncodeBase64.id : FuncId := 18
abbrev G_ref26_EncodeBase64.id : FuncId := 19
abbrev G_transform_EncodeHex.id : FuncId := 20
abbrev G_ref26_EncodeHex.id : FuncId := 21
abbrev G_transform_of.id : FuncId := 22
abbrev G_ref26_lower.id : FuncId := 23
abbrev G_ref26_strip.id : FuncId := 24
abbrev G_ref26_percent.id : FuncId := 25
abbrev G_ref26_base64.id : FuncId := 26
abbrev G_ref26_path.id : FuncId := 27
abbrev G_ref26_hex.id : FuncId := 28
abbrev G_transform_plain.id : FuncId := 29
abbrev G_transform_text_lower.id : FuncId := 30
abbrev G_transform_text_strip.id : FuncId := 31
abbrev G_transform_text_percent.id : FuncId := 32
abbrev G_transform_text_base64.id : FuncId := 33
abbrev G_transform_text_path.id : FuncId := 34
abbrev G_transform_text_hex.id : FuncId := 35
abbrev G_transform_text_same.id : FuncId := 36
abbrev G_ref26_digit.id : FuncId := 37
abbrev G_ref26_segments.id : FuncId := 38
abbrev G_strings_IndexByte.id : FuncId := 39
abbrev G_transform_digit.id : FuncId := 40
abbrev G_strings_Split.id : FuncId := 41
abbrev G_strings_HasPrefix.id : FuncId := 42
abbrev G_strings_Join.id : FuncId := 43
abbrev G_i_stringslite_IndexByte.id : FuncId := 44
abbrev G_strings_genSplit.id : FuncId := 45
abbrev G_i_stringslite_HasPrefix.id : FuncId := 46
abbrev G_strings_Builder_Grow.id : FuncId := 47
abbrev G_strings_Builder_WriteString.id : FuncId := 48
abbrev G_strings_Builder_String.id : FuncId := 49
abbrev G_i_bytealg_IndexByteString.id : FuncId := 50
abbrev G_strings_explode.id : FuncId := 51
abbrev G_strings_Count.id : FuncId := 52
abbrev G_strings_Index.id : FuncId := 53
abbrev G_strings_Builder_copyCheck.id : FuncId := 54
abbrev G_strings_Builder_grow.id : FuncId := 55
abbrev G_unicode_utf8_RuneCountInString.id : FuncId := 56
abbrev G_unicode_utf8_DecodeRuneInString.id : FuncId := 57
abbrev G_i_bytealg_CountString.id : FuncId := 58
abbrev G_i_stringslite_Index.id : FuncId := 59
abbrev G_i_abi_NoEscape.id : FuncId := 60
abbrev G_i_bytealg_MakeNoZero.id : FuncId := 61
abbrev G_unicode_utf8_decodeRuneInStringSlow.id : FuncId := 62
abbrev G_i_bytealg_IndexString.id : FuncId := 63
abbrev G_i_bytealg_Cutover.id : FuncId := 64
abbrev G_i_bytealg_IndexRabinKarp_string_.id : FuncId := 65
abbrev G_i_bytealg_hashStr_string_.id : FuncId := 66
abbrev G_runtime_boundsError_Error.id : FuncId := 67
abbrev G_runtime_boundsError_RuntimeError.id : FuncId := 68
abbrev G_runtime_errorString_Error.id : FuncId := 69
abbrev G_runtime_errorString_RuntimeError.id : FuncId := 70
abbrev G_runtime_plainError_Error.id : FuncId := 71
abbrev G_runtime_plainError_RuntimeError.id : FuncId := 72
abbrev G_runtime_errorAddressString_Error.id : FuncId := 73
abbrev G_runtime_errorAddressString_RuntimeError.id : FuncId := 74
abbrev G_runtime_TypeAssertionError_Error.id : FuncId := 75
abbrev G_runtime_TypeAssertionError_RuntimeError.id : FuncId := 76
abbrev G_runtime_PanicNilError_Error.id : FuncId := 77
abbrev G_runtime_PanicNilError_RuntimeError.id : FuncId := 78
abbrev G_i_abi_Type_Align.id : FuncId := 79
abbrev G_i_runtime_maps_unhashableTypeError_Error.id : FuncId := 80
abbrev G_i_runtime_maps_unhashableTypeError_RuntimeError.id : FuncId := 81
abbrev G_strings_Builder_Reset.id : FuncId := 82
abbrev G_i_abi_Kind_String.id : FuncId := 83
abbrev G_var_s_door__gosem_cut_vars_holds_initialisers_alone__see_the_manifest_s_row_cutvarsword_look_11__test_files_too.id : FuncId := 84
abbrev G_var_s_door__transform_pads_is_laid_by_its_own_initialiser__plain_data_look_11.id : FuncId := 85
abbrev G_var_s_door__the_look_of_gosem_cut_vars_went_over_the_folder_that_the_caller_named_as_the_repository_s_root_look_11.id : FuncId := 86
abbrev G_var_s_door__unicode_utf8_acceptRanges_is_laid_by_its_own_initialiser__plain_data_look_11.id : FuncId := 87
abbrev G_var_s_door__unicode_utf8_first_is_laid_by_its_text_alone_pinned_1.id : FuncId := 88
abbrev G_gosem_cut_vars.id : FuncId := 89
variable [XR]
--@@ G_law26_long
/-! ### 10: intrusion/intrusionlaw26.long -/
noncomputable def G_law26_long.body : Code := (Tryd.f10.body).getD .skip
def G_law26_long.ann : Ann := (.seq 0 [0] .leaf (.seq 0 [2] .leaf .leaf))
theorem G_law26_long.body_eq : Tryd.f10.body = some G_law26_long.body := by kernel_rfl
theorem G_law26_long.dist : noTwice (places G_law26_long.ann G_law26_long.body) = true := by kernel_rfl
noncomputable def G_law26_long.J (Q : AV → AHeap → Prop) : JT := funJ prog C Tryd.f10 G_law26_long.ann G_law26_long.body Q
theorem G_law26_long.goR {Q : AV → AHeap → Prop} {k : Nat} {p : List Nat} (hl : lookJ (places G_law26_long.ann G_law26_long.body) k = some (p, false)) {e : Env} {h : AHeap} (hk : atJ prog C 6 (G_law26_long.J Q) false p G_law26_long.ann G_law26_long.body e h (kFun prog Tryd.f10 Q)) : G_law26_long.J Q k e h := goJ_run (P := prog) (fn := Tryd.f10) (ann := G_law26_long.ann) (body := G_law26_long.body) (Q := Q) (k := k) (p := p) (e := e) (h := h) (acall_le X) G_law26_long.dist hl hk
theorem G_law26_long.goH {Q : AV → AHeap → Prop} {k : Nat} {p : List Nat} (hl : lookJ (places G_law26_long.ann G_law26_long.body) k = some (p, true)) {e : Env} {h : AHeap} (hk : atJ prog C 6 (G_law26_long.J Q) true p G_law26_long.ann G_law26_long.body e h (kFun prog Tryd.f10 Q)) : G_law26_long.J Q k e h := goJ_head (P := prog) (fn := Tryd.f10) (ann := G_law26_long.ann) (body := G_law26_long.body) (Q := Q) (k := k) (p := p) (e := e) (h := h) (acall_le X) G_law26_long.dist hl hk
def G_law26_long.t (J : JT) (Q : AV → AHeap → Prop) (x0 : List UInt8) (h : AHeap) : Prop :=
Q (AV.b (decide ((3000 : Int) < (x0.length : Int)))) h
theorem G_law26_long.t_eq (J : JT) (Q : AV → AHeap → Prop) (x0 : List UInt8) (h : AHeap) : G_law26_long.t J Q x0 h = exJ prog C 6 J G_law26_long.ann G_law26_long.body (initEnv 0 [(AV.s x0)]) h (kFun prog Tryd.f10 Q) := by kernel_rfl
theorem G_law26_long.call {K : AV → AHeap → Prop} {x0 : List UInt8} {h : AHeap} (H : G_law26_long.t (G_law26_long.J (kRet h K)) (kRet h K) x0 h) : C G_law26_long.id [(AV.s x0)] h K :=
  callJ (P := prog) (fn := Tryd.f10) (ann := G_law26_long.ann) (body := G_law26_long.body) Tryd.func10 G_law26_long.body_eq (by kernel_rfl) G_law26_long.dist (by kernel_rfl) ((G_law26_long.t_eq (G_law26_long.J (kRet h K)) (kRet h K) x0 h).mp H)

--@@ G_law26_awake
/-! ### 11: intrusion/intrusionlaw26.awake -/
noncomputable def G_law26_awake.body : Code := (Tryd.f11.body).getD .skip
def G_law26_awake.ann : Ann := (.seq 0 [] .leaf (.seq 1 [0] .leaf .leaf))
theorem G_law26_awake.body_eq : Tryd.f11.body = some G_law26_awake.body := by kernel_rfl
theorem G_law26_awake.dist : noTwice (places G_law26_awake.ann G_law26_awake.body) = true := by kernel_rfl
noncomputable def G_law26_awake.J (Q : AV → AHeap → Prop) : JT := funJ prog C Tryd.f11 G_law26_awake.ann G_law26_awake.body Q
theorem G_law26_awake.goR {Q : AV → AHeap → Prop} {k : Nat} {p : List Nat} (hl : lookJ (places G_law26_awake.ann G_law26_awake.body) k = some (p, false)) {e : Env} {h : AHeap} (hk : atJ prog C 31 (G_law26_awake.J Q) false p G_law26_awake.ann G_law26_awake.body e h (kFun prog Tryd.f11 Q)) : G_law26_awake.J Q k e h := goJ_run (P := prog) (fn := Tryd.f11) (ann := G_law26_awake.ann) (body := G_law26_awake.body) (Q := Q) (k := k) (p := p) (e := e) (h := h) (acall_le X) G_law26_awake.dist hl hk
theorem G_law26_awake.goH {Q : AV → AHeap → Prop} {k : Nat} {p : List Nat} (hl : lookJ (places G_law26_awake.ann G_law26_awake.body) k = some (p, true)) {e : Env} {h : AHeap} (hk : atJ prog C 31 (G_law26_awake.J Q) true p G_law26_awake.ann G_law26_awake.body e h (kFun prog Tryd.f11 Q)) : G_law26_awake.J Q k e h := goJ_head (P := prog) (fn := Tryd.f11) (ann := G_law26_awake.ann) (body := G_law26_awake.body) (Q := Q) (k := k) (p := p) (e := e) (h := h) (acall_le X) G_law26_awake.dist hl hk
def G_law26_awake.p0 (Q : AV → AHeap → Prop) (x0 : Bool) (h : AHeap) : Prop := G_law26_awake.J Q 1 [(0, (AV.b x0))] h
theorem G_law26_awake.j0 (Q : AV → AHeap → Prop) (x0 : Bool) (h : AHeap) : G_law26_awake.J Q 1 [(0, (AV.b x0))] h = G_law26_awake.p0 Q x0 h := rfl
def G_law26_awake.t0 (J : JT) (Q : AV → AHeap → Prop) (x0 : Bool) (h : AHeap) : Prop :=
Q (AV.b x0) h
theorem G_law26_awake.t0_eq (J : JT) (Q : AV → AHeap → Prop) (x0 : Bool) (h : AHeap) : G_law26_awake.t0 J Q x0 h = atJ prog C 31 J false [1, 1] G_law26_awake.ann G_law26_awake.body [(0, (AV.b x0))] h (kFun prog Tryd.f11 Q) := by kernel_rfl
theorem G_law26_awake.i0 {Q : AV → AHeap → Prop} {x0 : Bool} {h : AHeap} (H : G_law26_awake.t0 (G_law26_awake.J Q) Q x0 h) : G_law26_awake.p0 Q x0 h := G_law26_awake.goR (k := 1) (p := [1, 1]) (by kernel_rfl) ((G_law26_awake.t0_eq (G_law26_awake.J Q) Q x0 h).mp H)
def G_law26_awake.t (J : JT) (Q : AV → AHeap → Prop) (h : AHeap) : Prop :=
C G_transform_Apply.id [(AV.i .i64 5), (AV.s [47, 97, 47, 46, 47, 98, 47, 46, 46, 47, 99])] h fun v1 h2 =>
asS v1 fun l3 =>
(bif (decide ((l3 : List UInt8) = [47, 97, 47, 99])) then
(C G_transform_Apply.id [(AV.i .i64 3), (AV.s [37, 50, 101, 37, 50, 101, 47, 120])] h2 fun v4 h5 =>
asS v4 fun l6 =>
(bif (decide ((l6 : List UInt8) = [46, 46, 47, 120])) then
(C G_transform_Apply.id [(AV.i .i64 4), (AV.s [89, 87, 73, 61])] h5 fun v7 h8 =>
asS v7 fun l9 =>
(bif (decide ((l9 : List UInt8) = [97, 98])) then
(C G_transform_Apply.id [(AV.i .i64 6), (AV.s [52, 32, 49, 45, 52, 50])] h8 fun v10 h11 =>
asS v10 fun l12 =>
(bif (decide ((l12 : List UInt8) = [65, 66])) then
(C G_transform_Apply.id [(AV.i .i64 5), (AV.s [97, 47, 46, 46])] h11 fun v13 h14 =>
asS v13 fun l15 =>
(bif (decide ((l15 : List UInt8) = [47])) then
(C G_transform_Apply.id [(AV.i .i64 5), (AV.s [97, 47, 98, 47, 46, 46, 63, 120, 47, 46, 46, 47, 121])] h14 fun v16 h17 =>
asS v16 fun l18 =>
withB (decide ((l18 : List UInt8) = [97, 47, 63, 120, 47, 46, 46, 47, 121])) fun c19 =>
(bif c19 then
(C G_transform_EncodePercent.id [(AV.s [97, 32, 98])] h17 fun v20 h21 =>
asS v20 fun l22 =>
(bif (decide ((l22 : List UInt8) = [97, 37, 50, 48, 98])) then
(C G_transform_Apply.id [(AV.i .i64 1), (AV.s [97, 66])] h21 fun v23 h24 =>
asS v23 fun l25 =>
J 1 [(0, (AV.b (decide ((l25 : List UInt8) = [97, 98]))))] h24)
else
(J 1 [(0, (AV.b false))] h21)))
else
(J 1 [(0, (AV.b false))] h17)))
else
(J 1 [(0, (AV.b false))] h14)))
else
(J 1 [(0, (AV.b false))] h11)))
else
(J 1 [(0, (AV.b false))] h8)))
else
(J 1 [(0, (AV.b false))] h5)))
else
(J 1 [(0, (AV.b false))] h2))
theorem G_law26_awake.t_eq (J : JT) (Q : AV → AHeap → Prop) (h : AHeap) : G_law26_awake.t J Q h = exJ prog C 31 J G_law26_awake.ann G_law26_awake.body (initEnv 0 []) h (kFun prog Tryd.f11 Q) := by kernel_rfl
theorem G_law26_awake.call {K : AV → AHeap → Prop} {h : AHeap} (H : G_law26_awake.t (G_law26_awake.J (kRet h K)) (kRet h K) h) : C G_law26_awake.id [] h K :=
  callJ (P := prog) (fn := Tryd.f11) (ann := G_law26_awake.ann) (body := G_law26_awake.body) Tryd.func11 G_law26_awake.body_eq (by kernel_rfl) G_law26_awake.dist (by kernel_rfl) ((G_law26_awake.t_eq (G_law26_awake.J (kRet h K)) (kRet h K) h).mp H)

--@@ G_transform_Apply
/-! ### 12: intrusion/transform.Apply -/
noncomputable def G_transform_Apply.body : Code := (Tryd.f12.body).getD .skip
def G_transform_Apply.ann : Ann := (.seq 0 [0, 1] .leaf (.seq 0 [4] .leaf .leaf))
theorem G_transform_Apply.body_eq : Tryd.f12.body = some G_transform_Apply.body := by kernel_rfl
theorem G_transform_Apply.dist : noTwice (places G_transform_Apply.ann G_transform_Apply.body) = true := by kernel_rfl
noncomputable def G_transform_Apply.J (Q : AV → AHeap → Prop) : JT := funJ prog C Tryd.f12 G_transform_Apply.ann G_transform_Apply.body Q
theorem G_transform_Apply.goR {Q : AV → AHeap → Prop} {k : Nat} {p : List Nat} (hl : lookJ (places G_transform_Apply.ann G_transform_Apply.body) k = some (p, false)) {e : Env} {h : AHeap} (hk : atJ prog C 9 (G_transform_Apply.J Q) false p G_transform_Apply.ann G_transform_Apply.body e h (kFun prog Tryd.f12 Q)) : G_transform_Apply.J Q k e h := goJ_run (P := prog) (fn := Tryd.f12) (ann := G_transform_Apply.ann) (body := G_transform_Apply.body) (Q := Q) (k := k) (p := p) (e := e) (h := h) (acall_le X) G_transform_Apply.dist hl hk
theorem G_transform_Apply.goH {Q : AV → AHeap → Prop} {k : Nat} {p : List Nat} (hl : lookJ (places G_transform_Apply.ann G_transform_Apply.body) k = some (p, true)) {e : Env} {h : AHeap} (hk : atJ prog C 9 (G_transform_Apply.J Q) true p G_transform_Apply.ann G_transform_Apply.body e h (kFun prog Tryd.f12 Q)) : G_transform_Apply.J Q k e h := goJ_head (P := prog) (fn := Tryd.f12) (ann := G_transform_Apply.ann) (body := G_transform_Apply.body) (Q := Q) (k := k) (p := p) (e := e) (h := h) (acall_le X) G_transform_Apply.dist hl hk
def G_transform_Apply.t (J : JT) (Q : AV → AHeap → Prop) (x0 : Int) (x1 : List UInt8) (h : AHeap) : Prop :=
C G_transform_of.id [(AV.i .i64 x0)] h fun v1 h2 =>
pCallV C v1 [(AV.s x1)] h2 fun v3 h4 =>
asS v3 fun l5 =>
Q (AV.s l5) h4
theorem G_transform_Apply.t_eq (J : JT) (Q : AV → AHeap → Prop) (x0 : Int) (x1 : List UInt8) (h : AHeap) : G_transform_Apply.t J Q x0 x1 h = exJ prog C 9 J G_transform_Apply.ann G_transform_Apply.body (initEnv 0 [(AV.i .i64 x0), (AV.s x1)]) h (kFun prog Tryd.f12 Q) := by kernel_rfl
theorem G_transform_Apply.call {K : AV → AHeap → Prop} {x0 : Int} {x1 : List UInt8} {h : AHeap} (H : G_transform_Apply.t (G_transform_Apply.J (kRet h K)) (kRet h K) x0 x1 h) : C G_transform_Apply.id [(AV.i .i64 x0), (AV.s x1)] h K :=
  callJ (P := prog) (fn := Tryd.f12) (ann := G_transform_Apply.ann) (body := G_transform_Apply.body) Tryd.func12 G_transform_Apply.body_eq (by kernel_rfl) G_transform_Apply.dist (by kernel_rfl) ((G_transform_Apply.t_eq (G_transform_Apply.J (kRet h K)) (kRet h K) x0 x1 h).mp H)

--@@ G_ref26_Apply
/-! ### 13: intrusion/intrusionref26.Apply -/
noncomputable def G_ref26_Apply.body : Code := (Tryd.f13.body).getD .skip
def G_ref26_Apply.ann : Ann := (.seq 0 [0, 1] .leaf (.seq 0 [1] (.seq 0 [1, 5] .leaf (.one (.seq 0 [1, 5, 6] .leaf (.br (.seq 0 [4] .leaf .leaf) (.seq 0 [1, 5, 10] .leaf (.br (.seq 0 [4] .leaf .leaf) (.seq 0 [1, 5, 14] .leaf (.br (.seq 0 [4] .leaf .leaf) (.seq 0 [1, 5, 18] .leaf (.br (.seq 0 [4] .leaf .leaf) (.seq 0 [1, 5, 22] .leaf (.br (.seq 0 [4] .leaf .leaf) (.seq 0 [1, 26] .leaf (.br (.seq 0 [4] .leaf .leaf) .leaf)))))))))))))) (.seq 0 [4] .leaf .leaf)))
theorem G_ref26_Apply.body_eq : Tryd.f13.body = some G_ref26_Apply.body := by kernel_rfl
theorem G_ref26_Apply.dist : noTwice (places G_ref26_Apply.ann G_ref26_Apply.body) = true := by kernel_rfl
noncomputable def G_ref26_Apply.J (Q : AV → AHeap → Prop) : JT := funJ prog C Tryd.f13 G_ref26_Apply.ann G_ref26_Apply.body Q
theorem G_ref26_Apply.goR {Q : AV → AHeap → Prop} {k : Nat} {p : List Nat} (hl : lookJ (places G_ref26_Apply.ann G_ref26_Apply.body) k = some (p, false)) {e : Env} {h : AHeap} (hk : atJ prog C 31 (G_ref26_Apply.J Q) false p G_ref26_Apply.ann G_ref26_Apply.body e h (kFun prog Tryd.f13 Q)) : G_ref26_Apply.J Q k e h := goJ_run (P := prog) (fn := Tryd.f13) (ann := G_ref26_Apply.ann) (body := G_ref26_Apply.body) (Q := Q) (k := k) (p := p) (e := e) (h := h) (acall_le X) G_ref26_Apply.dist hl hk
theorem G_ref26_Apply.goH {Q : AV → AHeap → Prop} {k : Nat} {p : List Nat} (hl : lookJ (places G_ref26_Apply.ann G_ref26_Apply.body) k = some (p, true)) {e : Env} {h : AHeap} (hk : atJ prog C 31 (G_ref26_Apply.J Q) true p G_ref26_Apply.ann G_ref26_Apply.body e h (kFun prog Tryd.f13 Q)) : G_ref26_Apply.J Q k e h := goJ_head (P := prog) (fn := Tryd.f13) (ann := G_ref26_Apply.ann) (body := G_ref26_Apply.body) (Q := Q) (k := k) (p := p) (e := e) (h := h) (acall_le X) G_ref26_Apply.dist hl hk
def G_ref26_Apply.t (J : JT) (Q : AV → AHeap → Prop) (x0 : Int) (x1 : List UInt8) (h : AHeap) : Prop :=
(bif (decide ((x0 : Int) = 1)) then
(C G_ref26_lower.id [(AV.s x1)] h fun v3 h4 =>
asS v3 fun l5 =>
Q (AV.s l5) h4)
else
((bif (decide ((x0 : Int) = 2)) then
(C G_ref26_strip.id [(AV.s x1)] h fun v8 h9 =>
asS v8 fun l10 =>
Q (AV.s l10) h9)
else
((bif (decide ((x0 : Int) = 3)) then
(C G_ref26_percent.id [(AV.s x1)] h fun v13 h14 =>
asS v13 fun l15 =>
Q (AV.s l15) h14)
else
((bif (decide ((x0 : Int) = 4)) then
(C G_ref26_base64.id [(AV.s x1)] h fun v18 h19 =>
asS v18 fun l20 =>
Q (AV.s l20) h19)
else
((bif (decide ((x0 : Int) = 5)) then
(C G_ref26_path.id [(AV.s x1)] h fun v23 h24 =>
asS v23 fun l25 =>
Q (AV.s l25) h24)
else
((bif (decide ((x0 : Int) = 6)) then
(C G_ref26_hex.id [(AV.s x1)] h fun v28 h29 =>
asS v28 fun l30 =>
Q (AV.s l30) h29)
else
(Q (AV.s x1) h))))))))))))
theorem G_ref26_Apply.t_eq (J : JT) (Q : AV → AHeap → Prop) (x0 : Int) (x1 : List UInt8) (h : AHeap) : G_ref26_Apply.t J Q x0 x1 h = exJ prog C 31 J G_ref26_Apply.ann G_ref26_Apply.body (initEnv 0 [(AV.i .i64 x0), (AV.s x1)]) h (kFun prog Tryd.f13 Q) := by kernel_rfl
theorem G_ref26_Apply.call {K : AV → AHeap → Prop} {x0 : Int} {x1 : List UInt8} {h : AHeap} (H : G_ref26_Apply.t (G_ref26_Apply.J (kRet h K)) (kRet h K) x0 x1 h) : C G_ref26_Apply.id [(AV.i .i64 x0), (AV.s x1)] h K :=
  callJ (P := prog) (fn := Tryd.f13) (ann := G_ref26_Apply.ann) (body := G_ref26_Apply.body) Tryd.func13 G_ref26_Apply.body_eq (by kernel_rfl) G_ref26_Apply.dist (by kernel_rfl) ((G_ref26_Apply.t_eq (G_ref26_Apply.J (kRet h K)) (kRet h K) x0 x1 h).mp H)

--@@ G_transform_All
/-! ### 14: intrusion/transform.All -/
noncomputable def G_transform_All.body : Code := (Tryd.f14.body).getD .skip
def G_transform_All.ann : Ann := (.seq 0 [0, 1] .leaf (.seq 0 [1] (.seq 0 [1, 11, 12, 13] .leaf (.one (.loop 1 [1, 11, 12, 13] (.seq 0 [1, 11, 12, 13, 14] .leaf (.seq 0 [1, 11, 12, 13] (.br .leaf .leaf) (.seq 0 [1, 11, 12, 13] (.one (.seq 0 [1, 6, 11, 12, 13] .leaf .leaf)) .leaf)))))) (.seq 0 [4] .leaf .leaf)))
theorem G_transform_All.body_eq : Tryd.f14.body = some G_transform_All.body := by kernel_rfl
theorem G_transform_All.dist : noTwice (places G_transform_All.ann G_transform_All.body) = true := by kernel_rfl
noncomputable def G_transform_All.J (Q : AV → AHeap → Prop) : JT := funJ prog C Tryd.f14 G_transform_All.ann G_transform_All.body Q
theorem G_transform_All.goR {Q : AV → AHeap → Prop} {k : Nat} {p : List Nat} (hl : lookJ (places G_transform_All.ann G_transform_All.body) k = some (p, false)) {e : Env} {h : AHeap} (hk : atJ prog C 22 (G_transform_All.J Q) false p G_transform_All.ann G_transform_All.body e h (kFun prog Tryd.f14 Q)) : G_transform_All.J Q k e h := goJ_run (P := prog) (fn := Tryd.f14) (ann := G_transform_All.ann) (body := G_transform_All.body) (Q := Q) (k := k) (p := p) (e := e) (h := h) (acall_le X) G_transform_All.dist hl hk
theorem G_transform_All.goH {Q : AV → AHeap → Prop} {k : Nat} {p : List Nat} (hl : lookJ (places G_transform_All.ann G_transform_All.body) k = some (p, true)) {e : Env} {h : AHeap} (hk : atJ prog C 22 (G_transform_All.J Q) true p G_transform_All.ann G_transform_All.body e h (kFun prog Tryd.f14 Q)) : G_transform_All.J Q k e h := goJ_head (P := prog) (fn := Tryd.f14) (ann := G_transform_All.ann) (body := G_transform_All.body) (Q := Q) (k := k) (p := p) (e := e) (h := h) (acall_le X) G_transform_All.dist hl hk
def G_transform_All.p0 (Q : AV → AHeap → Prop) (x1 : List UInt8) (x11 : AV) (x12 : Int) (x13 : Int) (h : AHeap) : Prop := G_transform_All.J Q 1 [(1, (AV.s x1)), (11, x11), (12, (AV.i .i64 x12)), (13, (AV.i .i64 x13))] h
theorem G_transform_All.j0 (Q : AV → AHeap → Prop) (x1 : List UInt8) (x11 : AV) (x12 : Int) (x13 : Int) (h : AHeap) : G_transform_All.J Q 1 [(1, (AV.s x1)), (11, x11), (12, (AV.i .i64 x12)), (13, (AV.i .i64 x13))] h = G_transform_All.p0 Q x1 x11 x12 x13 h := rfl
def G_transform_All.t0 (J : JT) (Q : AV → AHeap → Prop) (x1 : List UInt8) (x11 : AV) (x12 : Int) (x13 : Int) (h : AHeap) : Prop :=
(bif (decide ((x13 : Int) < x12)) then
(pIdxAddrSl 1 x11 (AV.i .i64 x13) h fun v8 =>
pLoad1 v8 h fun v9 =>
asI .i64 v9 fun n10 =>
C G_transform_Apply.id [(AV.i .i64 n10), (AV.s x1)] h fun v12 h13 =>
asS v12 fun l14 =>
withI (IntKind.wrap .i64 (x13 + 1)) fun n16 =>
J 1 [(1, (AV.s l14)), (11, x11), (12, (AV.i .i64 x12)), (13, (AV.i .i64 n16))] h13)
else
(Q (AV.s x1) h))
theorem G_transform_All.t0_eq (J : JT) (Q : AV → AHeap → Prop) (x1 : List UInt8) (x11 : AV) (x12 : Int) (x13 : Int) (h : AHeap) : G_transform_All.t0 J Q x1 x11 x12 x13 h = atJ prog C 22 J true [1, 0, 1, 0] G_transform_All.ann G_transform_All.body [(1, (AV.s x1)), (11, x11), (12, (AV.i .i64 x12)), (13, (AV.i .i64 x13))] h (kFun prog Tryd.f14 Q) := by kernel_rfl
theorem G_transform_All.i0 {Q : AV → AHeap → Prop} {x1 : List UInt8} {x11 : AV} {x12 : Int} {x13 : Int} {h : AHeap} (H : G_transform_All.t0 (G_transform_All.J Q) Q x1 x11 x12 x13 h) : G_transform_All.p0 Q x1 x11 x12 x13 h := G_transform_All.goH (k := 1) (p := [1, 0, 1, 0]) (by kernel_rfl) ((G_transform_All.t0_eq (G_transform_All.J Q) Q x1 x11 x12 x13 h).mp H)
def G_transform_All.t (J : JT) (Q : AV → AHeap → Prop) (x0 : AV) (x1 : List UInt8) (h : AHeap) : Prop :=
pLenSl x0 fun n1 =>
pSliceSl 1 x0 none (some (AV.i .i64 (mmI false n1 4))) none h fun v2 =>
pLenSl v2 fun n3 =>
J 1 [(1, (AV.s x1)), (11, v2), (12, (AV.i .i64 n3)), (13, (AV.i .i64 0))] h
theorem G_transform_All.t_eq (J : JT) (Q : AV → AHeap → Prop) (x0 : AV) (x1 : List UInt8) (h : AHeap) : G_transform_All.t J Q x0 x1 h = exJ prog C 22 J G_transform_All.ann G_transform_All.body (initEnv 0 [x0, (AV.s x1)]) h (kFun prog Tryd.f14 Q) := by kernel_rfl
theorem G_transform_All.call {K : AV → AHeap → Prop} {x0 : AV} {x1 : List UInt8} {h : AHeap} (H : G_transform_All.t (G_transform_All.J (kRet h K)) (kRet h K) x0 x1 h) : C G_transform_All.id [x0, (AV.s x1)] h K :=
  callJ (P := prog) (fn := Tryd.f14) (ann := G_transform_All.ann) (body := G_transform_All.body) Tryd.func14 G_transform_All.body_eq (by kernel_rfl) G_transform_All.dist (by kernel_rfl) ((G_transform_All.t_eq (G_transform_All.J (kRet h K)) (kRet h K) x0 x1 h).mp H)

--@@ G_ref26_All
/-! ### 15: intrusion/intrusionref26.All -/
noncomputable def G_ref26_All.body : Code := (Tryd.f15.body).getD .skip
def G_ref26_All.ann : Ann := (.seq 0 [0, 1] .leaf (.seq 0 [1] (.seq 0 [0, 1, 5] .leaf (.one (.loop 1 [0, 1, 5] (.seq 0 [0, 1, 5] (.seq 2 [0, 1, 5, 13] .leaf (.br .leaf .leaf)) (.seq 0 [0, 1, 5] (.one .leaf) .leaf))))) (.seq 0 [4] .leaf .leaf)))
theorem G_ref26_All.body_eq : Tryd.f15.body = some G_ref26_All.body := by kernel_rfl
theorem G_ref26_All.dist : noTwice (places G_ref26_All.ann G_ref26_All.body) = true := by kernel_rfl
noncomputable def G_ref26_All.J (Q : AV → AHeap → Prop) : JT := funJ prog C Tryd.f15 G_ref26_All.ann G_ref26_All.body Q
theorem G_ref26_All.goR {Q : AV → AHeap → Prop} {k : Nat} {p : List Nat} (hl : lookJ (places G_ref26_All.ann G_ref26_All.body) k = some (p, false)) {e : Env} {h : AHeap} (hk : atJ prog C 23 (G_ref26_All.J Q) false p G_ref26_All.ann G_ref26_All.body e h (kFun prog Tryd.f15 Q)) : G_ref26_All.J Q k e h := goJ_run (P := prog) (fn := Tryd.f15) (ann := G_ref26_All.ann) (body := G_ref26_All.body) (Q := Q) (k := k) (p := p) (e := e) (h := h) (acall_le X) G_ref26_All.dist hl hk
theorem G_ref26_All.goH {Q : AV → AHeap → Prop} {k : Nat} {p : List Nat} (hl : lookJ (places G_ref26_All.ann G_ref26_All.body) k = some (p, true)) {e : Env} {h : AHeap} (hk : atJ prog C 23 (G_ref26_All.J Q) true p G_ref26_All.ann G_ref26_All.body e h (kFun prog Tryd.f15 Q)) : G_ref26_All.J Q k e h := goJ_head (P := prog) (fn := Tryd.f15) (ann := G_ref26_All.ann) (body := G_ref26_All.body) (Q := Q) (k := k) (p := p) (e := e) (h := h) (acall_le X) G_ref26_All.dist hl hk
def G_ref26_All.p1 (Q : AV → AHeap → Prop) (x0 : AV) (x1 : List UInt8) (x5 : Int) (x13 : Bool) (h : AHeap) : Prop := G_ref26_All.J Q 2 [(0, x0), (1, (AV.s x1)), (5, (AV.i .i64 x5)), (13, (AV.b x13))] h
theorem G_ref26_All.j1 (Q : AV → AHeap → Prop) (x0 : AV) (x1 : List UInt8) (x5 : Int) (x13 : Bool) (h : AHeap) : G_ref26_All.J Q 2 [(0, x0), (1, (AV.s x1)), (5, (AV.i .i64 x5)), (13, (AV.b x13))] h = G_ref26_All.p1 Q x0 x1 x5 x13 h := rfl
def G_ref26_All.p0 (Q : AV → AHeap → Prop) (x0 : AV) (x1 : List UInt8) (x5 : Int) (h : AHeap) : Prop := G_ref26_All.J Q 1 [(0, x0), (1, (AV.s x1)), (5, (AV.i .i64 x5))] h
theorem G_ref26_All.j0 (Q : AV → AHeap → Prop) (x0 : AV) (x1 : List UInt8) (x5 : Int) (h : AHeap) : G_ref26_All.J Q 1 [(0, x0), (1, (AV.s x1)), (5, (AV.i .i64 x5))] h = G_ref26_All.p0 Q x0 x1 x5 h := rfl
def G_ref26_All.t1 (J : JT) (Q : AV → AHeap → Prop) (x0 : AV) (x1 : List UInt8) (x5 : Int) (x13 : Bool) (h : AHeap) : Prop :=
(bif x13 then
(pIdxAddrSl 1 x0 (AV.i .i64 x5) h fun v7 =>
pLoad1 v7 h fun v8 =>
asI .i64 v8 fun n9 =>
C G_ref26_Apply.id [(AV.i .i64 n9), (AV.s x1)] h fun v10 h11 =>
asS v10 fun l12 =>
withI (IntKind.wrap .i64 (x5 + 1)) fun n14 =>
J 1 [(0, x0), (1, (AV.s l12)), (5, (AV.i .i64 n14))] h11)
else
(Q (AV.s x1) h))
theorem G_ref26_All.t1_eq (J : JT) (Q : AV → AHeap → Prop) (x0 : AV) (x1 : List UInt8) (x5 : Int) (x13 : Bool) (h : AHeap) : G_ref26_All.t1 J Q x0 x1 x5 x13 h = atJ prog C 23 J false [1, 0, 1, 0, 0, 0, 1] G_ref26_All.ann G_ref26_All.body [(0, x0), (1, (AV.s x1)), (5, (AV.i .i64 x5)), (13, (AV.b x13))] h (kFun prog Tryd.f15 Q) := by kernel_rfl
theorem G_ref26_All.i1 {Q : AV → AHeap → Prop} {x0 : AV} {x1 : List UInt8} {x5 : Int} {x13 : Bool} {h : AHeap} (H : G_ref26_All.t1 (G_ref26_All.J Q) Q x0 x1 x5 x13 h) : G_ref26_All.p1 Q x0 x1 x5 x13 h := G_ref26_All.goR (k := 2) (p := [1, 0, 1, 0, 0, 0, 1]) (by kernel_rfl) ((G_ref26_All.t1_eq (G_ref26_All.J Q) Q x0 x1 x5 x13 h).mp H)
def G_ref26_All.t0 (J : JT) (Q : AV → AHeap → Prop) (x0 : AV) (x1 : List UInt8) (x5 : Int) (h : AHeap) : Prop :=
pLenSl x0 fun n2 =>
(bif (decide ((x5 : Int) < n2)) then
(J 2 [(0, x0), (1, (AV.s x1)), (5, (AV.i .i64 x5)), (13, (AV.b (decide ((x5 : Int) < 4))))] h)
else
(J 2 [(0, x0), (1, (AV.s x1)), (5, (AV.i .i64 x5)), (13, (AV.b false))] h))
theorem G_ref26_All.t0_eq (J : JT) (Q : AV → AHeap → Prop) (x0 : AV) (x1 : List UInt8) (x5 : Int) (h : AHeap) : G_ref26_All.t0 J Q x0 x1 x5 h = atJ prog C 23 J true [1, 0, 1, 0] G_ref26_All.ann G_ref26_All.body [(0, x0), (1, (AV.s x1)), (5, (AV.i .i64 x5))] h (kFun prog Tryd.f15 Q) := by kernel_rfl
theorem G_ref26_All.i0 {Q : AV → AHeap → Prop} {x0 : AV} {x1 : List UInt8} {x5 : Int} {h : AHeap} (H : G_ref26_All.t0 (G_ref26_All.J Q) Q x0 x1 x5 h) : G_ref26_All.p0 Q x0 x1 x5 h := G_ref26_All.goH (k := 1) (p := [1, 0, 1, 0]) (by kernel_rfl) ((G_ref26_All.t0_eq (G_ref26_All.J Q) Q x0 x1 x5 h).mp H)
def G_ref26_All.t (J : JT) (Q : AV → AHeap → Prop) (x0 : AV) (x1 : List UInt8) (h : AHeap) : Prop :=
J 1 [(0, x0), (1, (AV.s x1)), (5, (AV.i .i64 0))] h
theorem G_ref26_All.t_eq (J : JT) (Q : AV → AHeap → Prop) (x0 : AV) (x1 : List UInt8) (h : AHeap) : G_ref26_All.t J Q x0 x1 h = exJ prog C 23 J G_ref26_All.ann G_ref26_All.body (initEnv 0 [x0, (AV.s x1)]) h (kFun prog Tryd.f15 Q) := by kernel_rfl
theorem G_ref26_All.call {K : AV → AHeap → Prop} {x0 : AV} {x1 : List UInt8} {h : AHeap} (H : G_ref26_All.t (G_ref26_All.J (kRet h K)) (kRet h K) x0 x1 h) : C G_ref26_All.id [x0, (AV.s x1)] h K :=
  callJ (P := prog) (fn := Tryd.f15) (ann := G_ref26_All.ann) (body := G_ref26_All.body) Tryd.func15 G_ref26_All.body_eq (by kernel_rfl) G_ref26_All.dist (by kernel_rfl) ((G_ref26_All.t_eq (G_ref26_All.J (kRet h K)) (kRet h K) x0 x1 h).mp H)

--@@ G_transform_EncodePercent
/-! ### 16: intrusion/transform.EncodePercent -/
noncomputable def G_transform_EncodePercent.body : Code := (Tryd.f16.body).getD .skip
def G_transform_EncodePercent.ann : Ann := (.seq 0 [0] .leaf (.seq 0 [0, 3] .leaf (.seq 0 [3] (.seq 0 [0, 3, 7, 8] .leaf (.one (.loop 1 [0, 3, 7, 8] (.seq 0 [0, 3, 7, 8, 9] .leaf (.seq 0 [0, 3, 7, 8] (.br .leaf .leaf) (.seq 2 [0, 3, 7, 8] (.one (.seq 0 [0, 3, 4, 7, 8] .leaf (.seq 0 [0, 3, 5, 7, 8] .leaf (.seq 0 [0, 3, 5, 7, 8, 15] .leaf (.br .leaf (.ord (.neu 0 (.neu 1 (.neu 2 (.neu 3 (.neu 4 (.neu 5 (.neu 6 (.eff 7 (.eff 8 (.eff 9 .done .stop) .stop) .stop)))))))))))))) .leaf)))))) (.seq 0 [2] .leaf .leaf))))
theorem G_transform_EncodePercent.body_eq : Tryd.f16.body = some G_transform_EncodePercent.body := by kernel_rfl
theorem G_transform_EncodePercent.dist : noTwice (places G_transform_EncodePercent.ann G_transform_EncodePercent.body) = true := by kernel_rfl
noncomputable def G_transform_EncodePercent.J (Q : AV → AHeap → Prop) : JT := funJ prog C Tryd.f16 G_transform_EncodePercent.ann G_transform_EncodePercent.body Q
theorem G_transform_EncodePercent.goR {Q : AV → AHeap → Prop} {k : Nat} {p : List Nat} (hl : lookJ (places G_transform_EncodePercent.ann G_transform_EncodePercent.body) k = some (p, false)) {e : Env} {h : AHeap} (hk : atJ prog C 32 (G_transform_EncodePercent.J Q) false p G_transform_EncodePercent.ann G_transform_EncodePercent.body e h (kFun prog Tryd.f16 Q)) : G_transform_EncodePercent.J Q k e h := goJ_run (P := prog) (fn := Tryd.f16) (ann := G_transform_EncodePercent.ann) (body := G_transform_EncodePercent.body) (Q := Q) (k := k) (p := p) (e := e) (h := h) (acall_le X) G_transform_EncodePercent.dist hl hk
theorem G_transform_EncodePercent.goH {Q : AV → AHeap → Prop} {k : Nat} {p : List Nat} (hl : lookJ (places G_transform_EncodePercent.ann G_transform_EncodePercent.body) k = some (p, true)) {e : Env} {h : AHeap} (hk : atJ prog C 32 (G_transform_EncodePercent.J Q) true p G_transform_EncodePercent.ann G_transform_EncodePercent.body e h (kFun prog Tryd.f16 Q)) : G_transform_EncodePercent.J Q k e h := goJ_head (P := prog) (fn := Tryd.f16) (ann := G_transform_EncodePercent.ann) (body := G_transform_EncodePercent.body) (Q := Q) (k := k) (p := p) (e := e) (h := h) (acall_le X) G_transform_EncodePercent.dist hl hk
def G_transform_EncodePercent.p1 (Q : AV → AHeap → Prop) (x0 : List UInt8) (x3 : AV) (x7 : Int) (x8 : Int) (h : AHeap) : Prop := G_transform_EncodePercent.J Q 2 [(0, (AV.s x0)), (3, x3), (7, (AV.i .i64 x7)), (8, (AV.i .i64 x8))] h
theorem G_transform_EncodePercent.j1 (Q : AV → AHeap → Prop) (x0 : List UInt8) (x3 : AV) (x7 : Int) (x8 : Int) (h : AHeap) : G_transform_EncodePercent.J Q 2 [(0, (AV.s x0)), (3, x3), (7, (AV.i .i64 x7)), (8, (AV.i .i64 x8))] h = G_transform_EncodePercent.p1 Q x0 x3 x7 x8 h := rfl
def G_transform_EncodePercent.p0 (Q : AV → AHeap → Prop) (x0 : List UInt8) (x3 : AV) (x7 : Int) (x8 : Int) (h : AHeap) : Prop := G_transform_EncodePercent.J Q 1 [(0, (AV.s x0)), (3, x3), (7, (AV.i .i64 x7)), (8, (AV.i .i64 x8))] h
theorem G_transform_EncodePercent.j0 (Q : AV → AHeap → Prop) (x0 : List UInt8) (x3 : AV) (x7 : Int) (x8 : Int) (h : AHeap) : G_transform_EncodePercent.J Q 1 [(0, (AV.s x0)), (3, x3), (7, (AV.i .i64 x7)), (8, (AV.i .i64 x8))] h = G_transform_EncodePercent.p0 Q x0 x3 x7 x8 h := rfl
def G_transform_EncodePercent.t1 (J : JT) (Q : AV → AHeap → Prop) (x0 : List UInt8) (x3 : AV) (x7 : Int) (x8 : Int) (h : AHeap) : Prop :=
withI (IntKind.wrap .i64 (x8 + 1)) fun n26 =>
J 1 [(0, (AV.s x0)), (3, x3), (7, (AV.i .i64 x7)), (8, (AV.i .i64 n26))] h
theorem G_transform_EncodePercent.t1_eq (J : JT) (Q : AV → AHeap → Prop) (x0 : List UInt8) (x3 : AV) (x7 : Int) (x8 : Int) (h : AHeap) : G_transform_EncodePercent.t1 J Q x0 x3 x7 x8 h = atJ prog C 32 J false [1, 1, 0, 1, 0, 0, 1, 1, 1] G_transform_EncodePercent.ann G_transform_EncodePercent.body [(0, (AV.s x0)), (3, x3), (7, (AV.i .i64 x7)), (8, (AV.i .i64 x8))] h (kFun prog Tryd.f16 Q) := by kernel_rfl
theorem G_transform_EncodePercent.i1 {Q : AV → AHeap → Prop} {x0 : List UInt8} {x3 : AV} {x7 : Int} {x8 : Int} {h : AHeap} (H : G_transform_EncodePercent.t1 (G_transform_EncodePercent.J Q) Q x0 x3 x7 x8 h) : G_transform_EncodePercent.p1 Q x0 x3 x7 x8 h := G_transform_EncodePercent.goR (k := 2) (p := [1, 1, 0, 1, 0, 0, 1, 1, 1]) (by kernel_rfl) ((G_transform_EncodePercent.t1_eq (G_transform_EncodePercent.J Q) Q x0 x3 x7 x8 h).mp H)
def G_transform_EncodePercent.t0 (J : JT) (Q : AV → AHeap → Prop) (x0 : List UInt8) (x3 : AV) (x7 : Int) (x8 : Int) (h : AHeap) : Prop :=
(bif (decide ((x8 : Int) < x7)) then
(pIdxStr (AV.s x0) (AV.i .i64 x8) fun n7 =>
C G_transform_plain.id [(AV.i .u8 n7)] h fun v9 h10 =>
asB v9 fun c11 =>
(bif c11 then
(pBuildSl 1 1 [(AV.i .u8 0)] [(0, 1, (AV.i .u8 n7))] h10 fun v13 h14 =>
pAppend 1 1 x3 v13 h14 fun v15 h16 =>
J 2 [(0, (AV.s x0)), (3, v15), (7, (AV.i .i64 x7)), (8, (AV.i .i64 x8))] h16)
else
(pShr .u8 n7 4 fun n18 =>
pIdxStr (AV.s [48, 49, 50, 51, 52, 53, 54, 55, 56, 57, 65, 66, 67, 68, 69, 70]) (AV.i .u8 n18) fun n19 =>
pIdxStr (AV.s [48, 49, 50, 51, 52, 53, 54, 55, 56, 57, 65, 66, 67, 68, 69, 70]) (AV.i .u8 (bitsOp .and .u8 n7 15)) fun n20 =>
pBuildSl 1 3 [(AV.i .u8 0), (AV.i .u8 0), (AV.i .u8 0)] [(0, 1, (AV.i .u8 37)), (1, 1, (AV.i .u8 n19)), (2, 1, (AV.i .u8 n20))] h10 fun v21 h22 =>
pAppend 1 1 x3 v21 h22 fun v23 h24 =>
J 2 [(0, (AV.s x0)), (3, v23), (7, (AV.i .i64 x7)), (8, (AV.i .i64 x8))] h24)))
else
(pBytesStr x3 h fun l28 =>
Q (AV.s l28) h))
theorem G_transform_EncodePercent.t0_eq (J : JT) (Q : AV → AHeap → Prop) (x0 : List UInt8) (x3 : AV) (x7 : Int) (x8 : Int) (h : AHeap) : G_transform_EncodePercent.t0 J Q x0 x3 x7 x8 h = atJ prog C 32 J true [1, 1, 0, 1, 0] G_transform_EncodePercent.ann G_transform_EncodePercent.body [(0, (AV.s x0)), (3, x3), (7, (AV.i .i64 x7)), (8, (AV.i .i64 x8))] h (kFun prog Tryd.f16 Q) := by kernel_rfl
theorem G_transform_EncodePercent.i0 {Q : AV → AHeap → Prop} {x0 : List UInt8} {x3 : AV} {x7 : Int} {x8 : Int} {h : AHeap} (H : G_transform_EncodePercent.t0 (G_transform_EncodePercent.J Q) Q x0 x3 x7 x8 h) : G_transform_EncodePercent.p0 Q x0 x3 x7 x8 h := G_transform_EncodePercent.goH (k := 1) (p := [1, 1, 0, 1, 0]) (by kernel_rfl) ((G_transform_EncodePercent.t0_eq (G_transform_EncodePercent.J Q) Q x0 x3 x7 x8 h).mp H)
def G_transform_EncodePercent.t (J : JT) (Q : AV → AHeap → Prop) (x0 : List UInt8) (h : AHeap) : Prop :=
J 1 [(0, (AV.s x0)), (3, (AV.sl none 0 none)), (7, (AV.i .i64 (x0.length : Int))), (8, (AV.i .i64 0))] h
theorem G_transform_EncodePercent.t_eq (J : JT) (Q : AV → AHeap → Prop) (x0 : List UInt8) (h : AHeap) : G_transform_EncodePercent.t J Q x0 h = exJ prog C 32 J G_transform_EncodePercent.ann G_transform_EncodePercent.body (initEnv 0 [(AV.s x0)]) h (kFun prog Tryd.f16 Q) := by kernel_rfl
theorem G_transform_EncodePercent.call {K : AV → AHeap → Prop} {x0 : List UInt8} {h : AHeap} (H : G_transform_EncodePercent.t (G_transform_EncodePercent.J (kRet h K)) (kRet h K) x0 h) : C G_transform_EncodePercent.id [(AV.s x0)] h K :=
  callJ (P := prog) (fn := Tryd.f16) (ann := G_transform_EncodePercent.ann) (body := G_transform_EncodePercent.body) Tryd.func16 G_transform_EncodePercent.body_eq (by kernel_rfl) G_transform_EncodePercent.dist (by kernel_rfl) ((G_transform_EncodePercent.t_eq (G_transform_EncodePercent.J (kRet h K)) (kRet h K) x0 h).mp H)

--@@ G_ref26_EncodePercent
/-! ### 17: intrusion/intrusionref26.EncodePercent -/
noncomputable def G_ref26_EncodePercent.body : Code := (Tryd.f17.body).getD .skip
def G_ref26_EncodePercent.ann : Ann := (.seq 0 [0] .leaf (.seq 0 [0, 3] .leaf (.seq 0 [3] (.seq 0 [0, 3, 4] .leaf (.one (.loop 1 [0, 3, 4] (.seq 0 [0, 3, 4] (.seq 0 [0, 3, 4, 10] .leaf (.br .leaf .leaf)) (.seq 3 [0, 3, 4] (.one (.seq 0 [0, 3, 4, 5] .leaf (.seq 2 [0, 3, 4, 5, 53] .leaf (.br .leaf (.ord (.neu 0 (.neu 1 (.neu 2 (.neu 3 (.neu 4 (.neu 5 (.neu 6 (.eff 7 (.eff 8 (.eff 9 .done .stop) .stop) .stop))))))))))))) .leaf))))) (.seq 0 [2] .leaf .leaf))))
theorem G_ref26_EncodePercent.body_eq : Tryd.f17.body = some G_ref26_EncodePercent.body := by kernel_rfl
theorem G_ref26_EncodePercent.dist : noTwice (places G_ref26_EncodePercent.ann G_ref26_EncodePercent.body) = true := by kernel_rfl
noncomputable def G_ref26_EncodePercent.J (Q : AV → AHeap → Prop) : JT := funJ prog C Tryd.f17 G_ref26_EncodePercent.ann G_ref26_EncodePercent.body Q
theorem G_ref26_EncodePercent.goR {Q : AV → AHeap → Prop} {k : Nat} {p : List Nat} (hl : lookJ (places G_ref26_EncodePercent.ann G_ref26_EncodePercent.body) k = some (p, false)) {e : Env} {h : AHeap} (hk : atJ prog C 69 (G_ref26_EncodePercent.J Q) false p G_ref26_EncodePercent.ann G_ref26_EncodePercent.body e h (kFun prog Tryd.f17 Q)) : G_ref26_EncodePercent.J Q k e h := goJ_run (P := prog) (fn := Tryd.f17) (ann := G_ref26_EncodePercent.ann) (body := G_ref26_EncodePercent.body) (Q := Q) (k := k) (p := p) (e := e) (h := h) (acall_le X) G_ref26_EncodePercent.dist hl hk
theorem G_ref26_EncodePercent.goH {Q : AV → AHeap → Prop} {k : Nat} {p : List Nat} (hl : lookJ (places G_ref26_EncodePercent.ann G_ref26_EncodePercent.body) k = some (p, true)) {e : Env} {h : AHeap} (hk : atJ prog C 69 (G_ref26_EncodePercent.J Q) true p G_ref26_EncodePercent.ann G_ref26_EncodePercent.body e h (kFun prog Tryd.f17 Q)) : G_ref26_EncodePercent.J Q k e h := goJ_head (P := prog) (fn := Tryd.f17) (ann := G_ref26_EncodePercent.ann) (body := G_ref26_EncodePercent.body) (Q := Q) (k := k) (p := p) (e := e) (h := h) (acall_le X) G_ref26_EncodePercent.dist hl hk
def G_ref26_EncodePercent.p1 (Q : AV → AHeap → Prop) (x0 : List UInt8) (x3 : AV) (x4 : Int) (x5 : Int) (x53 : Bool) (h : AHeap) : Prop := G_ref26_EncodePercent.J Q 2 [(0, (AV.s x0)), (3, x3), (4, (AV.i .i64 x4)), (5, (AV.i .u8 x5)), (53, (AV.b x53))] h
theorem G_ref26_EncodePercent.j1 (Q : AV → AHeap → Prop) (x0 : List UInt8) (x3 : AV) (x4 : Int) (x5 : Int) (x53 : Bool) (h : AHeap) : G_ref26_EncodePercent.J Q 2 [(0, (AV.s x0)), (3, x3), (4, (AV.i .i64 x4)), (5, (AV.i .u8 x5)), (53, (AV.b x53))] h = G_ref26_EncodePercent.p1 Q x0 x3 x4 x5 x53 h := rfl
def G_ref26_EncodePercent.p2 (Q : AV → AHeap → Prop) (x0 : List UInt8) (x3 : AV) (x4 : Int) (h : AHeap) : Prop := G_ref26_EncodePercent.J Q 3 [(0, (AV.s x0)), (3, x3), (4, (AV.i .i64 x4))] h
theorem G_ref26_EncodePercent.j2 (Q : AV → AHeap → Prop) (x0 : List UInt8) (x3 : AV) (x4 : Int) (h : AHeap) : G_ref26_EncodePercent.J Q 3 [(0, (AV.s x0)), (3, x3), (4, (AV.i .i64 x4))] h = G_ref26_EncodePercent.p2 Q x0 x3 x4 h := rfl
def G_ref26_EncodePercent.p0 (Q : AV → AHeap → Prop) (x0 : List UInt8) (x3 : AV) (x4 : Int) (h : AHeap) : Prop := G_ref26_EncodePercent.J Q 1 [(0, (AV.s x0)), (3, x3), (4, (AV.i .i64 x4))] h
theorem G_ref26_EncodePercent.j0 (Q : AV → AHeap → Prop) (x0 : List UInt8) (x3 : AV) (x4 : Int) (h : AHeap) : G_ref26_EncodePercent.J Q 1 [(0, (AV.s x0)), (3, x3), (4, (AV.i .i64 x4))] h = G_ref26_EncodePercent.p0 Q x0 x3 x4 h := rfl
def G_ref26_EncodePercent.t1 (J : JT) (Q : AV → AHeap → Prop) (x0 : List UInt8) (x3 : AV) (x4 : Int) (x5 : Int) (x53 : Bool) (h : AHeap) : Prop :=
(bif x53 then
(pBuildSl 1 1 [(AV.i .u8 0)] [(0, 1, (AV.i .u8 x5))] h fun v49 h50 =>
pAppend 1 1 x3 v49 h50 fun v51 h52 =>
J 3 [(0, (AV.s x0)), (3, v51), (4, (AV.i .i64 x4))] h52)
else
(pQuo .u8 x5 16 fun n54 =>
pIdxStr (AV.s [48, 49, 50, 51, 52, 53, 54, 55, 56, 57, 65, 66, 67, 68, 69, 70]) (AV.i .u8 n54) fun n55 =>
pRem x5 16 fun n56 =>
pIdxStr (AV.s [48, 49, 50, 51, 52, 53, 54, 55, 56, 57, 65, 66, 67, 68, 69, 70]) (AV.i .u8 n56) fun n57 =>
pBuildSl 1 3 [(AV.i .u8 0), (AV.i .u8 0), (AV.i .u8 0)] [(0, 1, (AV.i .u8 37)), (1, 1, (AV.i .u8 n55)), (2, 1, (AV.i .u8 n57))] h fun v58 h59 =>
pAppend 1 1 x3 v58 h59 fun v60 h61 =>
J 3 [(0, (AV.s x0)), (3, v60), (4, (AV.i .i64 x4))] h61))
theorem G_ref26_EncodePercent.t1_eq (J : JT) (Q : AV → AHeap → Prop) (x0 : List UInt8) (x3 : AV) (x4 : Int) (x5 : Int) (x53 : Bool) (h : AHeap) : G_ref26_EncodePercent.t1 J Q x0 x3 x4 x5 x53 h = atJ prog C 69 J false [1, 1, 0, 1, 0, 0, 1, 0, 0, 1, 1] G_ref26_EncodePercent.ann G_ref26_EncodePercent.body [(0, (AV.s x0)), (3, x3), (4, (AV.i .i64 x4)), (5, (AV.i .u8 x5)), (53, (AV.b x53))] h (kFun prog Tryd.f17 Q) := by kernel_rfl
theorem G_ref26_EncodePercent.i1 {Q : AV → AHeap → Prop} {x0 : List UInt8} {x3 : AV} {x4 : Int} {x5 : Int} {x53 : Bool} {h : AHeap} (H : G_ref26_EncodePercent.t1 (G_ref26_EncodePercent.J Q) Q x0 x3 x4 x5 x53 h) : G_ref26_EncodePercent.p1 Q x0 x3 x4 x5 x53 h := G_ref26_EncodePercent.goR (k := 2) (p := [1, 1, 0, 1, 0, 0, 1, 0, 0, 1, 1]) (by kernel_rfl) ((G_ref26_EncodePercent.t1_eq (G_ref26_EncodePercent.J Q) Q x0 x3 x4 x5 x53 h).mp H)
def G_ref26_EncodePercent.t2 (J : JT) (Q : AV → AHeap → Prop) (x0 : List UInt8) (x3 : AV) (x4 : Int) (h : AHeap) : Prop :=
withI (IntKind.wrap .i64 (x4 + 1)) fun n63 =>
J 1 [(0, (AV.s x0)), (3, x3), (4, (AV.i .i64 n63))] h
theorem G_ref26_EncodePercent.t2_eq (J : JT) (Q : AV → AHeap → Prop) (x0 : List UInt8) (x3 : AV) (x4 : Int) (h : AHeap) : G_ref26_EncodePercent.t2 J Q x0 x3 x4 h = atJ prog C 69 J false [1, 1, 0, 1, 0, 0, 1, 1] G_ref26_EncodePercent.ann G_ref26_EncodePercent.body [(0, (AV.s x0)), (3, x3), (4, (AV.i .i64 x4))] h (kFun prog Tryd.f17 Q) := by kernel_rfl
theorem G_ref26_EncodePercent.i2 {Q : AV → AHeap → Prop} {x0 : List UInt8} {x3 : AV} {x4 : Int} {h : AHeap} (H : G_ref26_EncodePercent.t2 (G_ref26_EncodePercent.J Q) Q x0 x3 x4 h) : G_ref26_EncodePercent.p2 Q x0 x3 x4 h := G_ref26_EncodePercent.goR (k := 3) (p := [1, 1, 0, 1, 0, 0, 1, 1]) (by kernel_rfl) ((G_ref26_EncodePercent.t2_eq (G_ref26_EncodePercent.J Q) Q x0 x3 x4 h).mp H)
def G_ref26_EncodePercent.t0 (J : JT) (Q : AV → AHeap → Prop) (x0 : List UInt8) (x3 : AV) (x4 : Int) (h : AHeap) : Prop :=
(bif (decide ((x4 : Int) < (x0.length : Int))) then
(pIdxStr (AV.s x0) (AV.i .i64 x4) fun n8 =>
(bif (decide ((97 : Int) ≤ n8)) then
((bif (decide ((n8 : Int) ≤ 122)) then
(J 2 [(0, (AV.s x0)), (3, x3), (4, (AV.i .i64 x4)), (5, (AV.i .u8 n8)), (53, (AV.b true))] h)
else
((bif (decide ((65 : Int) ≤ n8)) then
((bif (decide ((n8 : Int) ≤ 90)) then
(J 2 [(0, (AV.s x0)), (3, x3), (4, (AV.i .i64 x4)), (5, (AV.i .u8 n8)), (53, (AV.b true))] h)
else
((bif (decide ((48 : Int) ≤ n8)) then
((bif (decide ((n8 : Int) ≤ 57)) then
(J 2 [(0, (AV.s x0)), (3, x3), (4, (AV.i .i64 x4)), (5, (AV.i .u8 n8)), (53, (AV.b true))] h)
else
((bif (decide ((n8 : Int) = 45)) then
(J 2 [(0, (AV.s x0)), (3, x3), (4, (AV.i .i64 x4)), (5, (AV.i .u8 n8)), (53, (AV.b true))] h)
else
((bif (decide ((n8 : Int) = 46)) then
(J 2 [(0, (AV.s x0)), (3, x3), (4, (AV.i .i64 x4)), (5, (AV.i .u8 n8)), (53, (AV.b true))] h)
else
((bif (decide ((n8 : Int) = 95)) then
(J 2 [(0, (AV.s x0)), (3, x3), (4, (AV.i .i64 x4)), (5, (AV.i .u8 n8)), (53, (AV.b true))] h)
else
(J 2 [(0, (AV.s x0)), (3, x3), (4, (AV.i .i64 x4)), (5, (AV.i .u8 n8)), (53, (AV.b (decide ((n8 : Int) = 126))))] h)))))))))
else
((bif (decide ((n8 : Int) = 45)) then
(J 2 [(0, (AV.s x0)), (3, x3), (4, (AV.i .i64 x4)), (5, (AV.i .u8 n8)), (53, (AV.b true))] h)
else
((bif (decide ((n8 : Int) = 46)) then
(J 2 [(0, (AV.s x0)), (3, x3), (4, (AV.i .i64 x4)), (5, (AV.i .u8 n8)), (53, (AV.b true))] h)
else
((bif (decide ((n8 : Int) = 95)) then
(J 2 [(0, (AV.s x0)), (3, x3), (4, (AV.i .i64 x4)), (5, (AV.i .u8 n8)), (53, (AV.b true))] h)
else
(J 2 [(0, (AV.s x0)), (3, x3), (4, (AV.i .i64 x4)), (5, (AV.i .u8 n8)), (53, (AV.b (decide ((n8 : Int) = 126))))] h)))))))))))
else
((bif (decide ((48 : Int) ≤ n8)) then
((bif (decide ((n8 : Int) ≤ 57)) then
(J 2 [(0, (AV.s x0)), (3, x3), (4, (AV.i .i64 x4)), (5, (AV.i .u8 n8)), (53, (AV.b true))] h)
else
((bif (decide ((n8 : Int) = 45)) then
(J 2 [(0, (AV.s x0)), (3, x3), (4, (AV.i .i64 x4)), (5, (AV.i .u8 n8)), (53, (AV.b true))] h)
else
((bif (decide ((n8 : Int) = 46)) then
(J 2 [(0, (AV.s x0)), (3, x3), (4, (AV.i .i64 x4)), (5, (AV.i .u8 n8)), (53, (AV.b true))] h)
else
((bif (decide ((n8 : Int) = 95)) then
(J 2 [(0, (AV.s x0)), (3, x3), (4, (AV.i .i64 x4)), (5, (AV.i .u8 n8)), (53, (AV.b true))] h)
else
(J 2 [(0, (AV.s x0)), (3, x3), (4, (AV.i .i64 x4)), (5, (AV.i .u8 n8)), (53, (AV.b (decide ((n8 : Int) = 126))))] h)))))))))
else
((bif (decide ((n8 : Int) = 45)) then
(J 2 [(0, (AV.s x0)), (3, x3), (4, (AV.i .i64 x4)), (5, (AV.i .u8 n8)), (53, (AV.b true))] h)
else
((bif (decide ((n8 : Int) = 46)) then
(J 2 [(0, (AV.s x0)), (3, x3), (4, (AV.i .i64 x4)), (5, (AV.i .u8 n8)), (53, (AV.b true))] h)
else
((bif (decide ((n8 : Int) = 95)) then
(J 2 [(0, (AV.s x0)), (3, x3), (4, (AV.i .i64 x4)), (5, (AV.i .u8 n8)), (53, (AV.b true))] h)
else
(J 2 [(0, (AV.s x0)), (3, x3), (4, (AV.i .i64 x4)), (5, (AV.i .u8 n8)), (53, (AV.b (decide ((n8 : Int) = 126))))] h)))))))))))))
else
((bif (decide ((65 : Int) ≤ n8)) then
((bif (decide ((n8 : Int) ≤ 90)) then
(J 2 [(0, (AV.s x0)), (3, x3), (4, (AV.i .i64 x4)), (5, (AV.i .u8 n8)), (53, (AV.b true))] h)
else
((bif (decide ((48 : Int) ≤ n8)) then
((bif (decide ((n8 : Int) ≤ 57)) then
(J 2 [(0, (AV.s x0)), (3, x3), (4, (AV.i .i64 x4)), (5, (AV.i .u8 n8)), (53, (AV.b true))] h)
else
((bif (decide ((n8 : Int) = 45)) then
(J 2 [(0, (AV.s x0)), (3, x3), (4, (AV.i .i64 x4)), (5, (AV.i .u8 n8)), (53, (AV.b true))] h)
else
((bif (decide ((n8 : Int) = 46)) then
(J 2 [(0, (AV.s x0)), (3, x3), (4, (AV.i .i64 x4)), (5, (AV.i .u8 n8)), (53, (AV.b true))] h)
else
((bif (decide ((n8 : Int) = 95)) then
(J 2 [(0, (AV.s x0)), (3, x3), (4, (AV.i .i64 x4)), (5, (AV.i .u8 n8)), (53, (AV.b true))] h)
else
(J 2 [(0, (AV.s x0)), (3, x3), (4, (AV.i .i64 x4)), (5, (AV.i .u8 n8)), (53, (AV.b (decide ((n8 : Int) = 126))))] h)))))))))
else
((bif (decide ((n8 : Int) = 45)) then
(J 2 [(0, (AV.s x0)), (3, x3), (4, (AV.i .i64 x4)), (5, (AV.i .u8 n8)), (53, (AV.b true))] h)
else
((bif (decide ((n8 : Int) = 46)) then
(J 2 [(0, (AV.s x0)), (3, x3), (4, (AV.i .i64 x4)), (5, (AV.i .u8 n8)), (53, (AV.b true))] h)
else
((bif (decide ((n8 : Int) = 95)) then
(J 2 [(0, (AV.s x0)), (3, x3), (4, (AV.i .i64 x4)), (5, (AV.i .u8 n8)), (53, (AV.b true))] h)
else
(J 2 [(0, (AV.s x0)), (3, x3), (4, (AV.i .i64 x4)), (5, (AV.i .u8 n8)), (53, (AV.b (decide ((n8 : Int) = 126))))] h)))))))))))
else
((bif (decide ((48 : Int) ≤ n8)) then
((bif (decide ((n8 : Int) ≤ 57)) then
(J 2 [(0, (AV.s x0)), (3, x3), (4, (AV.i .i64 x4)), (5, (AV.i .u8 n8)), (53, (AV.b true))] h)
else
((bif (decide ((n8 : Int) = 45)) then
(J 2 [(0, (AV.s x0)), (3, x3), (4, (AV.i .i64 x4)), (5, (AV.i .u8 n8)), (53, (AV.b true))] h)
else
((bif (decide ((n8 : Int) = 46)) then
(J 2 [(0, (AV.s x0)), (3, x3), (4, (AV.i .i64 x4)), (5, (AV.i .u8 n8)), (53, (AV.b true))] h)
else
((bif (decide ((n8 : Int) = 95)) then
(J 2 [(0, (AV.s x0)), (3, x3), (4, (AV.i .i64 x4)), (5, (AV.i .u8 n8)), (53, (AV.b true))] h)
else
(J 2 [(0, (AV.s x0)), (3, x3), (4, (AV.i .i64 x4)), (5, (AV.i .u8 n8)), (53, (AV.b (decide ((n8 : Int) = 126))))] h)))))))))
else
((bif (decide ((n8 : Int) = 45)) then
(J 2 [(0, (AV.s x0)), (3, x3), (4, (AV.i .i64 x4)), (5, (AV.i .u8 n8)), (53, (AV.b true))] h)
else
((bif (decide ((n8 : Int) = 46)) then
(J 2 [(0, (AV.s x0)), (3, x3), (4, (AV.i .i64 x4)), (5, (AV.i .u8 n8)), (53, (AV.b true))] h)
else
((bif (decide ((n8 : Int) = 95)) then
(J 2 [(0, (AV.s x0)), (3, x3), (4, (AV.i .i64 x4)), (5, (AV.i .u8 n8)), (53, (AV.b true))] h)
else
(J 2 [(0, (AV.s x0)), (3, x3), (4, (AV.i .i64 x4)), (5, (AV.i .u8 n8)), (53, (AV.b (decide ((n8 : Int) = 126))))] h)))))))))))))
else
(pBytesStr x3 h fun l65 =>
Q (AV.s l65) h))
theorem G_ref26_EncodePercent.t0_eq (J : JT) (Q : AV → AHeap → Prop) (x0 : List UInt8) (x3 : AV) (x4 : Int) (h : AHeap) : G_ref26_EncodePercent.t0 J Q x0 x3 x4 h = atJ prog C 69 J true [1, 1, 0, 1, 0] G_ref26_EncodePercent.ann G_ref26_EncodePercent.body [(0, (AV.s x0)), (3, x3), (4, (AV.i .i64 x4))] h (kFun prog Tryd.f17 Q) := by kernel_rfl
theorem G_ref26_EncodePercent.i0 {Q : AV → AHeap → Prop} {x0 : List UInt8} {x3 : AV} {x4 : Int} {h : AHeap} (H : G_ref26_EncodePercent.t0 (G_ref26_EncodePercent.J Q) Q x0 x3 x4 h) : G_ref26_EncodePercent.p0 Q x0 x3 x4 h := G_ref26_EncodePercent.goH (k := 1) (p := [1, 1, 0, 1, 0]) (by kernel_rfl) ((G_ref26_EncodePercent.t0_eq (G_ref26_EncodePercent.J Q) Q x0 x3 x4 h).mp H)
def G_ref26_EncodePercent.t (J : JT) (Q : AV → AHeap → Prop) (x0 : List UInt8) (h : AHeap) : Prop :=
pBuildSl 1 0 [] [] h fun v1 h2 =>
J 1 [(0, (AV.s x0)), (3, v1), (4, (AV.i .i64 0))] h2
theorem G_ref26_EncodePercent.t_eq (J : JT) (Q : AV → AHeap → Prop) (x0 : List UInt8) (h : AHeap) : G_ref26_EncodePercent.t J Q x0 h = exJ prog C 69 J G_ref26_EncodePercent.ann G_ref26_EncodePercent.body (initEnv 0 [(AV.s x0)]) h (kFun prog Tryd.f17 Q) := by kernel_rfl
theorem G_ref26_EncodePercent.call {K : AV → AHeap → Prop} {x0 : List UInt8} {h : AHeap} (H : G_ref26_EncodePercent.t (G_ref26_EncodePercent.J (kRet h K)) (kRet h K) x0 h) : C G_ref26_EncodePercent.id [(AV.s x0)] h K :=
  callJ (P := prog) (fn := Tryd.f17) (ann := G_ref26_EncodePercent.ann) (body := G_ref26_EncodePercent.body) Tryd.func17 G_ref26_EncodePercent.body_eq (by kernel_rfl) G_ref26_EncodePercent.dist (by kernel_rfl) ((G_ref26_EncodePercent.t_eq (G_ref26_EncodePercent.J (kRet h K)) (kRet h K) x0 h).mp H)

--@@ G_transform_EncodeBase64
/-! ### 18: intrusion/transform.EncodeBase64 -/
noncomputable def G_transform_EncodeBase64.body : Code := (Tryd.f18.body).getD .skip
def G_transform_EncodeBase64.ann : Ann := (.seq 0 [0] .leaf (.seq 0 [0, 3] .leaf (.seq 0 [0, 3, 4, 5] .leaf (.seq 0 [0, 3, 4, 5] (.seq 0 [0, 3, 4, 5, 8, 9] .leaf (.one (.loop 1 [0, 3, 4, 5, 8, 9] (.seq 0 [0, 3, 4, 5, 8, 9, 10] .leaf (.seq 0 [0, 3, 4, 5, 8, 9] (.br .leaf .leaf) (.seq 0 [0, 3, 4, 5, 8, 9] (.one (.seq 0 [0, 3, 4, 5, 6, 8, 9] .leaf (.seq 0 [0, 3, 4, 5, 8, 9] .leaf (.one (.loop 2 [0, 3, 4, 5, 8, 9] (.seq 0 [0, 3, 4, 5, 8, 9] (.seq 0 [0, 3, 4, 5, 8, 9, 22] .leaf (.br .leaf .leaf)) (.one (.seq 0 [0, 3, 4, 5, 8, 9] .leaf (.seq 0 [0, 3, 4, 5, 8, 9] .leaf .leaf))))))))) .leaf)))))) (.seq 3 [0, 3] (.seq 0 [0, 3, 4, 5, 40] .leaf (.br .leaf .leaf)) (.seq 0 [2] (.ord (.neu 0 (.neu 1 (.neu 2 (.neu 3 (.neu 4 (.neu 5 (.neu 6 (.neu 7 (.neu 8 .done)))))))))) .leaf))))))
theorem G_transform_EncodeBase64.body_eq : Tryd.f18.body = some G_transform_EncodeBase64.body := by kernel_rfl
theorem G_transform_EncodeBase64.dist : noTwice (places G_transform_EncodeBase64.ann G_transform_EncodeBase64.body) = true := by kernel_rfl
noncomputable def G_transform_EncodeBase64.J (Q : AV → AHeap → Prop) : JT := funJ prog C Tryd.f18 G_transform_EncodeBase64.ann G_transform_EncodeBase64.body Q
theorem G_transform_EncodeBase64.goR {Q : AV → AHeap → Prop} {k : Nat} {p : List Nat} (hl : lookJ (places G_transform_EncodeBase64.ann G_transform_EncodeBase64.body) k = some (p, false)) {e : Env} {h : AHeap} (hk : atJ prog C 57 (G_transform_EncodeBase64.J Q) false p G_transform_EncodeBase64.ann G_transform_EncodeBase64.body e h (kFun prog Tryd.f18 Q)) : G_transform_EncodeBase64.J Q k e h := goJ_run (P := prog) (fn := Tryd.f18) (ann := G_transform_EncodeBase64.ann) (body := G_transform_EncodeBase64.body) (Q := Q) (k := k) (p := p) (e := e) (h := h) (acall_le X) G_transform_EncodeBase64.dist hl hk
theorem G_transform_EncodeBase64.goH {Q : AV → AHeap → Prop} {k : Nat} {p : List Nat} (hl : lookJ (places G_transform_EncodeBase64.ann G_transform_EncodeBase64.body) k = some (p, true)) {e : Env} {h : AHeap} (hk : atJ prog C 57 (G_transform_EncodeBase64.J Q) true p G_transform_EncodeBase64.ann G_transform_EncodeBase64.body e h (kFun prog Tryd.f18 Q)) : G_transform_EncodeBase64.J Q k e h := goJ_head (P := prog) (fn := Tryd.f18) (ann := G_transform_EncodeBase64.ann) (body := G_transform_EncodeBase64.body) (Q := Q) (k := k) (p := p) (e := e) (h := h) (acall_le X) G_transform_EncodeBase64.dist hl hk
def G_transform_EncodeBase64.p1 (Q : AV → AHeap → Prop) (x0 : List UInt8) (x3 : AV) (x4 : Int) (x5 : Int) (x8 : Int) (x9 : Int) (h : AHeap) : Prop := G_transform_EncodeBase64.J Q 2 [(0, (AV.s x0)), (3, x3), (4, (AV.i .i64 x4)), (5, (AV.i .i64 x5)), (8, (AV.i .i64 x8)), (9, (AV.i .i64 x9))] h
theorem G_transform_EncodeBase64.j1 (Q : AV → AHeap → Prop) (x0 : List UInt8) (x3 : AV) (x4 : Int) (x5 : Int) (x8 : Int) (x9 : Int) (h : AHeap) : G_transform_EncodeBase64.J Q 2 [(0, (AV.s x0)), (3, x3), (4, (AV.i .i64 x4)), (5, (AV.i .i64 x5)), (8, (AV.i .i64 x8)), (9, (AV.i .i64 x9))] h = G_transform_EncodeBase64.p1 Q x0 x3 x4 x5 x8 x9 h := rfl
def G_transform_EncodeBase64.p0 (Q : AV → AHeap → Prop) (x0 : List UInt8) (x3 : AV) (x4 : Int) (x5 : Int) (x8 : Int) (x9 : Int) (h : AHeap) : Prop := G_transform_EncodeBase64.J Q 1 [(0, (AV.s x0)), (3, x3), (4, (AV.i .i64 x4)), (5, (AV.i .i64 x5)), (8, (AV.i .i64 x8)), (9, (AV.i .i64 x9))] h
theorem G_transform_EncodeBase64.j0 (Q : AV → AHeap → Prop) (x0 : List UInt8) (x3 : AV) (x4 : Int) (x5 : Int) (x8 : Int) (x9 : Int) (h : AHeap) : G_transform_EncodeBase64.J Q 1 [(0, (AV.s x0)), (3, x3), (4, (AV.i .i64 x4)), (5, (AV.i .i64 x5)), (8, (AV.i .i64 x8)), (9, (AV.i .i64 x9))] h = G_transform_EncodeBase64.p0 Q x0 x3 x4 x5 x8 x9 h := rfl
def G_transform_EncodeBase64.p2 (Q : AV → AHeap → Prop) (x0 : List UInt8) (x3 : AV) (h : AHeap) : Prop := G_transform_EncodeBase64.J Q 3 [(0, (AV.s x0)), (3, x3)] h
theorem G_transform_EncodeBase64.j2 (Q : AV → AHeap → Prop) (x0 : List UInt8) (x3 : AV) (h : AHeap) : G_transform_EncodeBase64.J Q 3 [(0, (AV.s x0)), (3, x3)] h = G_transform_EncodeBase64.p2 Q x0 x3 h := rfl
def G_transform_EncodeBase64.t1 (J : JT) (Q : AV → AHeap → Prop) (x0 : List UInt8) (x3 : AV) (x4 : Int) (x5 : Int) (x8 : Int) (x9 : Int) (h : AHeap) : Prop :=
(bif (decide ((6 : Int) ≤ x5)) then
(withI (IntKind.wrap .i64 (x5 - 6)) fun n16 =>
pShr .i64 x4 n16 fun n18 =>
withI (bitsOp .and .i64 n18 63) fun n19 =>
pIdxStr (AV.s [65, 66, 67, 68, 69, 70, 71, 72, 73, 74, 75, 76, 77, 78, 79, 80, 81, 82, 83, 84, 85, 86, 87, 88, 89, 90, 97, 98, 99, 100, 101, 102, 103, 104, 105, 106, 107, 108, 109, 110, 111, 112, 113, 114, 115, 116, 117, 118, 119, 120, 121, 122, 48, 49, 50, 51, 52, 53, 54, 55, 56, 57, 43, 47]) (AV.i .i64 n19) fun n20 =>
pBuildSl 1 1 [(AV.i .u8 0)] [(0, 1, (AV.i .u8 n20))] h fun v21 h22 =>
pAppend 1 1 x3 v21 h22 fun v23 h24 =>
pShl .i64 1 n16 fun n26 =>
withI (IntKind.wrap .i64 (n26 - 1)) fun n27 =>
withI (bitsOp .and .i64 x4 n27) fun n28 =>
J 2 [(0, (AV.s x0)), (3, v23), (4, (AV.i .i64 n28)), (5, (AV.i .i64 n16)), (8, (AV.i .i64 x8)), (9, (AV.i .i64 x9))] h24)
else
(withI (IntKind.wrap .i64 (x9 + 1)) fun n30 =>
J 1 [(0, (AV.s x0)), (3, x3), (4, (AV.i .i64 x4)), (5, (AV.i .i64 x5)), (8, (AV.i .i64 x8)), (9, (AV.i .i64 n30))] h))
theorem G_transform_EncodeBase64.t1_eq (J : JT) (Q : AV → AHeap → Prop) (x0 : List UInt8) (x3 : AV) (x4 : Int) (x5 : Int) (x8 : Int) (x9 : Int) (h : AHeap) : G_transform_EncodeBase64.t1 J Q x0 x3 x4 x5 x8 x9 h = atJ prog C 57 J true [1, 1, 1, 0, 1, 0, 0, 1, 1, 0, 0, 1, 1, 0] G_transform_EncodeBase64.ann G_transform_EncodeBase64.body [(0, (AV.s x0)), (3, x3), (4, (AV.i .i64 x4)), (5, (AV.i .i64 x5)), (8, (AV.i .i64 x8)), (9, (AV.i .i64 x9))] h (kFun prog Tryd.f18 Q) := by kernel_rfl
theorem G_transform_EncodeBase64.i1 {Q : AV → AHeap → Prop} {x0 : List UInt8} {x3 : AV} {x4 : Int} {x5 : Int} {x8 : Int} {x9 : Int} {h : AHeap} (H : G_transform_EncodeBase64.t1 (G_transform_EncodeBase64.J Q) Q x0 x3 x4 x5 x8 x9 h) : G_transform_EncodeBase64.p1 Q x0 x3 x4 x5 x8 x9 h := G_transform_EncodeBase64.goH (k := 2) (p := [1, 1, 1, 0, 1, 0, 0, 1, 1, 0, 0, 1, 1, 0]) (by kernel_rfl) ((G_transform_EncodeBase64.t1_eq (G_transform_EncodeBase64.J Q) Q x0 x3 x4 x5 x8 x9 h).mp H)
def G_transform_EncodeBase64.t0 (J : JT) (Q : AV → AHeap → Prop) (x0 : List UInt8) (x3 : AV) (x4 : Int) (x5 : Int) (x8 : Int) (x9 : Int) (h : AHeap) : Prop :=
(bif (decide ((x9 : Int) < x8)) then
(pShl .i64 x4 8 fun n8 =>
pIdxStr (AV.s x0) (AV.i .i64 x9) fun n9 =>
withI (bitsOp .or .i64 n8 (IntKind.wrap .i64 n9)) fun n10 =>
withI (IntKind.wrap .i64 (x5 + 8)) fun n11 =>
J 2 [(0, (AV.s x0)), (3, x3), (4, (AV.i .i64 n10)), (5, (AV.i .i64 n11)), (8, (AV.i .i64 x8)), (9, (AV.i .i64 x9))] h)
else
((bif (decide ((0 : Int) < x5)) then
(withI (IntKind.wrap .i64 (6 - x5)) fun n33 =>
pShl .i64 x4 n33 fun n34 =>
pIdxStr (AV.s [65, 66, 67, 68, 69, 70, 71, 72, 73, 74, 75, 76, 77, 78, 79, 80, 81, 82, 83, 84, 85, 86, 87, 88, 89, 90, 97, 98, 99, 100, 101, 102, 103, 104, 105, 106, 107, 108, 109, 110, 111, 112, 113, 114, 115, 116, 117, 118, 119, 120, 121, 122, 48, 49, 50, 51, 52, 53, 54, 55, 56, 57, 43, 47]) (AV.i .i64 n34) fun n35 =>
pBuildSl 1 1 [(AV.i .u8 0)] [(0, 1, (AV.i .u8 n35))] h fun v36 h37 =>
pAppend 1 1 x3 v36 h37 fun v38 h39 =>
J 3 [(0, (AV.s x0)), (3, v38)] h39)
else
(J 3 [(0, (AV.s x0)), (3, x3)] h))))
theorem G_transform_EncodeBase64.t0_eq (J : JT) (Q : AV → AHeap → Prop) (x0 : List UInt8) (x3 : AV) (x4 : Int) (x5 : Int) (x8 : Int) (x9 : Int) (h : AHeap) : G_transform_EncodeBase64.t0 J Q x0 x3 x4 x5 x8 x9 h = atJ prog C 57 J true [1, 1, 1, 0, 1, 0] G_transform_EncodeBase64.ann G_transform_EncodeBase64.body [(0, (AV.s x0)), (3, x3), (4, (AV.i .i64 x4)), (5, (AV.i .i64 x5)), (8, (AV.i .i64 x8)), (9, (AV.i .i64 x9))] h (kFun prog Tryd.f18 Q) := by kernel_rfl
theorem G_transform_EncodeBase64.i0 {Q : AV → AHeap → Prop} {x0 : List UInt8} {x3 : AV} {x4 : Int} {x5 : Int} {x8 : Int} {x9 : Int} {h : AHeap} (H : G_transform_EncodeBase64.t0 (G_transform_EncodeBase64.J Q) Q x0 x3 x4 x5 x8 x9 h) : G_transform_EncodeBase64.p0 Q x0 x3 x4 x5 x8 x9 h := G_transform_EncodeBase64.goH (k := 1) (p := [1, 1, 1, 0, 1, 0]) (by kernel_rfl) ((G_transform_EncodeBase64.t0_eq (G_transform_EncodeBase64.J Q) Q x0 x3 x4 x5 x8 x9 h).mp H)
def G_transform_EncodeBase64.t2 (J : JT) (Q : AV → AHeap → Prop) (x0 : List UInt8) (x3 : AV) (h : AHeap) : Prop :=
pBytesStr x3 h fun l42 =>
pRem (x0.length : Int) 3 fun n43 =>
pIdxAddrArr 3 1 (gvar h 0) (AV.i .i64 n43) fun v44 =>
pLoad1 v44 h fun v45 =>
asS v45 fun l46 =>
pCat l42 l46 fun l47 =>
Q (AV.s l47) h
theorem G_transform_EncodeBase64.t2_eq (J : JT) (Q : AV → AHeap → Prop) (x0 : List UInt8) (x3 : AV) (h : AHeap) : G_transform_EncodeBase64.t2 J Q x0 x3 h = atJ prog C 57 J false [1, 1, 1, 1, 1] G_transform_EncodeBase64.ann G_transform_EncodeBase64.body [(0, (AV.s x0)), (3, x3)] h (kFun prog Tryd.f18 Q) := by kernel_rfl
theorem G_transform_EncodeBase64.i2 {Q : AV → AHeap → Prop} {x0 : List UInt8} {x3 : AV} {h : AHeap} (H : G_transform_EncodeBase64.t2 (G_transform_EncodeBase64.J Q) Q x0 x3 h) : G_transform_EncodeBase64.p2 Q x0 x3 h := G_transform_EncodeBase64.goR (k := 3) (p := [1, 1, 1, 1, 1]) (by kernel_rfl) ((G_transform_EncodeBase64.t2_eq (G_transform_EncodeBase64.J Q) Q x0 x3 h).mp H)
def G_transform_EncodeBase64.t (J : JT) (Q : AV → AHeap → Prop) (x0 : List UInt8) (h : AHeap) : Prop :=
J 1 [(0, (AV.s x0)), (3, (AV.sl none 0 none)), (4, (AV.i .i64 0)), (5, (AV.i .i64 0)), (8, (AV.i .i64 (x0.length : Int))), (9, (AV.i .i64 0))] h
theorem G_transform_EncodeBase64.t_eq (J : JT) (Q : AV → AHeap → Prop) (x0 : List UInt8) (h : AHeap) : G_transform_EncodeBase64.t J Q x0 h = exJ prog C 57 J G_transform_EncodeBase64.ann G_transform_EncodeBase64.body (initEnv 0 [(AV.s x0)]) h (kFun prog Tryd.f18 Q) := by kernel_rfl
theorem G_transform_EncodeBase64.call {K : AV → AHeap → Prop} {x0 : List UInt8} {h : AHeap} (H : G_transform_EncodeBase64.t (G_transform_EncodeBase64.J (kRet h K)) (kRet h K) x0 h) : C G_transform_EncodeBase64.id [(AV.s x0)] h K :=
  callJ (P := prog) (fn := Tryd.f18) (ann := G_transform_EncodeBase64.ann) (body := G_transform_EncodeBase64.body) Tryd.func18 G_transform_EncodeBase64.body_eq (by kernel_rfl) G_transform_EncodeBase64.dist (by kernel_rfl) ((G_transform_EncodeBase64.t_eq (G_transform_EncodeBase64.J (kRet h K)) (kRet h K) x0 h).mp H)

--@@ G_ref26_EncodeBase64
/-! ### 19: intrusion/intrusionref26.EncodeBase64 -/
noncomputable def G_ref26_EncodeBase64.body : Code := (Tryd.f19.body).getD .skip
def G_ref26_EncodeBase64.ann : Ann := (.seq 0 [0] .leaf (.seq 0 [0, 3] .leaf (.seq 0 [3] (.seq 0 [0, 3, 4] .leaf (.one (.loop 1 [0, 3, 4] (.seq 0 [0, 3, 4] (.seq 0 [0, 3, 4, 10] .leaf (.br .leaf .leaf)) (.seq 5 [0, 3, 4] (.one (.seq 0 [0, 3, 4, 5] .leaf (.seq 2 [0, 3, 4, 5] (.seq 0 [0, 3, 4, 5, 22] .leaf (.br .leaf .leaf)) (.seq 3 [0, 3, 4, 5] (.seq 0 [0, 3, 4, 5, 35] .leaf (.br .leaf .leaf)) (.seq 0 [0, 3, 4, 5] (.ord (.neu 0 (.neu 1 (.neu 2 (.neu 3 (.neu 4 (.neu 5 (.neu 6 (.neu 7 (.eff 8 (.eff 9 (.eff 10 .done .stop) .stop) .stop)))))))))) (.seq 4 [0, 3, 4, 5] (.seq 0 [0, 3, 4, 5, 57] .leaf (.br .leaf .leaf)) (.seq 0 [0, 3, 4, 5, 71] .leaf (.br .leaf .leaf)))))))) .leaf))))) (.seq 0 [2] .leaf .leaf))))
theorem G_ref26_EncodeBase64.body_eq : Tryd.f19.body = some G_ref26_EncodeBase64.body := by kernel_rfl
theorem G_ref26_EncodeBase64.dist : noTwice (places G_ref26_EncodeBase64.ann G_ref26_EncodeBase64.body) = true := by kernel_rfl
noncomputable def G_ref26_EncodeBase64.J (Q : AV → AHeap → Prop) : JT := funJ prog C Tryd.f19 G_ref26_EncodeBase64.ann G_ref26_EncodeBase64.body Q
theorem G_ref26_EncodeBase64.goR {Q : AV → AHeap → Prop} {k : Nat} {p : List Nat} (hl : lookJ (places G_ref26_EncodeBase64.ann G_ref26_EncodeBase64.body) k = some (p, false)) {e : Env} {h : AHeap} (hk : atJ prog C 82 (G_ref26_EncodeBase64.J Q) false p G_ref26_EncodeBase64.ann G_ref26_EncodeBase64.body e h (kFun prog Tryd.f19 Q)) : G_ref26_EncodeBase64.J Q k e h := goJ_run (P := prog) (fn := Tryd.f19) (ann := G_ref26_EncodeBase64.ann) (body := G_ref26_EncodeBase64.body) (Q := Q) (k := k) (p := p) (e := e) (h := h) (acall_le X) G_ref26_EncodeBase64.dist hl hk
theorem G_ref26_EncodeBase64.goH {Q : AV → AHeap → Prop} {k : Nat} {p : List Nat} (hl : lookJ (places G_ref26_EncodeBase64.ann G_ref26_EncodeBase64.body) k = some (p, true)) {e : Env} {h : AHeap} (hk : atJ prog C 82 (G_ref26_EncodeBase64.J Q) true p G_ref26_EncodeBase64.ann G_ref26_EncodeBase64.body e h (kFun prog Tryd.f19 Q)) : G_ref26_EncodeBase64.J Q k e h := goJ_head (P := prog) (fn := Tryd.f19) (ann := G_ref26_EncodeBase64.ann) (body := G_ref26_EncodeBase64.body) (Q := Q) (k := k) (p := p) (e := e) (h := h) (acall_le X) G_ref26_EncodeBase64.dist hl hk
def G_ref26_EncodeBase64.p3 (Q : AV → AHeap → Prop) (x0 : List UInt8) (x3 : AV) (x4 : Int) (x5 : Int) (h : AHeap) : Prop := G_ref26_EncodeBase64.J Q 4 [(0, (AV.s x0)), (3, x3), (4, (AV.i .i64 x4)), (5, (AV.i .i64 x5))] h
theorem G_ref26_EncodeBase64.j3 (Q : AV → AHeap → Prop) (x0 : List UInt8) (x3 : AV) (x4 : Int) (x5 : Int) (h : AHeap) : G_ref26_EncodeBase64.J Q 4 [(0, (AV.s x0)), (3, x3), (4, (AV.i .i64 x4)), (5, (AV.i .i64 x5))] h = G_ref26_EncodeBase64.p3 Q x0 x3 x4 x5 h := rfl
def G_ref26_EncodeBase64.p2 (Q : AV → AHeap → Prop) (x0 : List UInt8) (x3 : AV) (x4 : Int) (x5 : Int) (h : AHeap) : Prop := G_ref26_EncodeBase64.J Q 3 [(0, (AV.s x0)), (3, x3), (4, (AV.i .i64 x4)), (5, (AV.i .i64 x5))] h
theorem G_ref26_EncodeBase64.j2 (Q : AV → AHeap → Prop) (x0 : List UInt8) (x3 : AV) (x4 : Int) (x5 : Int) (h : AHeap) : G_ref26_EncodeBase64.J Q 3 [(0, (AV.s x0)), (3, x3), (4, (AV.i .i64 x4)), (5, (AV.i .i64 x5))] h = G_ref26_EncodeBase64.p2 Q x0 x3 x4 x5 h := rfl
def G_ref26_EncodeBase64.p1 (Q : AV → AHeap → Prop) (x0 : List UInt8) (x3 : AV) (x4 : Int) (x5 : Int) (h : AHeap) : Prop := G_ref26_EncodeBase64.J Q 2 [(0, (AV.s x0)), (3, x3), (4, (AV.i .i64 x4)), (5, (AV.i .i64 x5))] h
theorem G_ref26_EncodeBase64.j1 (Q : AV → AHeap → Prop) (x0 : List UInt8) (x3 : AV) (x4 : Int) (x5 : Int) (h : AHeap) : G_ref26_EncodeBase64.J Q 2 [(0, (AV.s x0)), (3, x3), (4, (AV.i .i64 x4)), (5, (AV.i .i64 x5))] h = G_ref26_EncodeBase64.p1 Q x0 x3 x4 x5 h := rfl
def G_ref26_EncodeBase64.p4 (Q : AV → AHeap → Prop) (x0 : List UInt8) (x3 : AV) (x4 : Int) (h : AHeap) : Prop := G_ref26_EncodeBase64.J Q 5 [(0, (AV.s x0)), (3, x3), (4, (AV.i .i64 x4))] h
theorem G_ref26_EncodeBase64.j4 (Q : AV → AHeap → Prop) (x0 : List UInt8) (x3 : AV) (x4 : Int) (h : AHeap) : G_ref26_EncodeBase64.J Q 5 [(0, (AV.s x0)), (3, x3), (4, (AV.i .i64 x4))] h = G_ref26_EncodeBase64.p4 Q x0 x3 x4 h := rfl
def G_ref26_EncodeBase64.p0 (Q : AV → AHeap → Prop) (x0 : List UInt8) (x3 : AV) (x4 : Int) (h : AHeap) : Prop := G_ref26_EncodeBase64.J Q 1 [(0, (AV.s x0)), (3, x3), (4, (AV.i .i64 x4))] h
theorem G_ref26_EncodeBase64.j0 (Q : AV → AHeap → Prop) (x0 : List UInt8) (x3 : AV) (x4 : Int) (h : AHeap) : G_ref26_EncodeBase64.J Q 1 [(0, (AV.s x0)), (3, x3), (4, (AV.i .i64 x4))] h = G_ref26_EncodeBase64.p0 Q x0 x3 x4 h := rfl
def G_ref26_EncodeBase64.t3 (J : JT) (Q : AV → AHeap → Prop) (x0 : List UInt8) (x3 : AV) (x4 : Int) (x5 : Int) (h : AHeap) : Prop :=
withI (IntKind.wrap .i64 (x4 + 2)) fun n47 =>
(bif (decide ((n47 : Int) < (x0.length : Int))) then
(pLenSl x3 fun n49 =>
withI (IntKind.wrap .i64 (n49 - 1)) fun n50 =>
pRem x5 64 fun n51 =>
pIdxStr (AV.s [65, 66, 67, 68, 69, 70, 71, 72, 73, 74, 75, 76, 77, 78, 79, 80, 81, 82, 83, 84, 85, 86, 87, 88, 89, 90, 97, 98, 99, 100, 101, 102, 103, 104, 105, 106, 107, 108, 109, 110, 111, 112, 113, 114, 115, 116, 117, 118, 119, 120, 121, 122, 48, 49, 50, 51, 52, 53, 54, 55, 56, 57, 43, 47]) (AV.i .i64 n51) fun n52 =>
pIdxAddrSl 1 x3 (AV.i .i64 n50) h fun v53 =>
pStore 1 v53 (AV.i .u8 n52) h fun h54 =>
J 5 [(0, (AV.s x0)), (3, x3), (4, (AV.i .i64 x4))] h54)
else
(J 5 [(0, (AV.s x0)), (3, x3), (4, (AV.i .i64 x4))] h))
theorem G_ref26_EncodeBase64.t3_eq (J : JT) (Q : AV → AHeap → Prop) (x0 : List UInt8) (x3 : AV) (x4 : Int) (x5 : Int) (h : AHeap) : G_ref26_EncodeBase64.t3 J Q x0 x3 x4 x5 h = atJ prog C 82 J false [1, 1, 0, 1, 0, 0, 1, 0, 0, 1, 1, 1, 1, 1] G_ref26_EncodeBase64.ann G_ref26_EncodeBase64.body [(0, (AV.s x0)), (3, x3), (4, (AV.i .i64 x4)), (5, (AV.i .i64 x5))] h (kFun prog Tryd.f19 Q) := by kernel_rfl
theorem G_ref26_EncodeBase64.i3 {Q : AV → AHeap → Prop} {x0 : List UInt8} {x3 : AV} {x4 : Int} {x5 : Int} {h : AHeap} (H : G_ref26_EncodeBase64.t3 (G_ref26_EncodeBase64.J Q) Q x0 x3 x4 x5 h) : G_ref26_EncodeBase64.p3 Q x0 x3 x4 x5 h := G_ref26_EncodeBase64.goR (k := 4) (p := [1, 1, 0, 1, 0, 0, 1, 0, 0, 1, 1, 1, 1, 1]) (by kernel_rfl) ((G_ref26_EncodeBase64.t3_eq (G_ref26_EncodeBase64.J Q) Q x0 x3 x4 x5 h).mp H)
def G_ref26_EncodeBase64.t2 (J : JT) (Q : AV → AHeap → Prop) (x0 : List UInt8) (x3 : AV) (x4 : Int) (x5 : Int) (h : AHeap) : Prop :=
pShr .i64 x5 18 fun n26 =>
pIdxStr (AV.s [65, 66, 67, 68, 69, 70, 71, 72, 73, 74, 75, 76, 77, 78, 79, 80, 81, 82, 83, 84, 85, 86, 87, 88, 89, 90, 97, 98, 99, 100, 101, 102, 103, 104, 105, 106, 107, 108, 109, 110, 111, 112, 113, 114, 115, 116, 117, 118, 119, 120, 121, 122, 48, 49, 50, 51, 52, 53, 54, 55, 56, 57, 43, 47]) (AV.i .i64 n26) fun n27 =>
pShr .i64 x5 12 fun n28 =>
pRem n28 64 fun n29 =>
pIdxStr (AV.s [65, 66, 67, 68, 69, 70, 71, 72, 73, 74, 75, 76, 77, 78, 79, 80, 81, 82, 83, 84, 85, 86, 87, 88, 89, 90, 97, 98, 99, 100, 101, 102, 103, 104, 105, 106, 107, 108, 109, 110, 111, 112, 113, 114, 115, 116, 117, 118, 119, 120, 121, 122, 48, 49, 50, 51, 52, 53, 54, 55, 56, 57, 43, 47]) (AV.i .i64 n29) fun n30 =>
pBuildSl 1 4 [(AV.i .u8 0), (AV.i .u8 0), (AV.i .u8 0), (AV.i .u8 0)] [(0, 1, (AV.i .u8 n27)), (1, 1, (AV.i .u8 n30)), (2, 1, (AV.i .u8 61)), (3, 1, (AV.i .u8 61))] h fun v31 h32 =>
pAppend 1 1 x3 v31 h32 fun v33 h34 =>
withI (IntKind.wrap .i64 (x4 + 1)) fun n36 =>
(bif (decide ((n36 : Int) < (x0.length : Int))) then
(pLenSl v33 fun n38 =>
withI (IntKind.wrap .i64 (n38 - 2)) fun n39 =>
pShr .i64 x5 6 fun n40 =>
pRem n40 64 fun n41 =>
pIdxStr (AV.s [65, 66, 67, 68, 69, 70, 71, 72, 73, 74, 75, 76, 77, 78, 79, 80, 81, 82, 83, 84, 85, 86, 87, 88, 89, 90, 97, 98, 99, 100, 101, 102, 103, 104, 105, 106, 107, 108, 109, 110, 111, 112, 113, 114, 115, 116, 117, 118, 119, 120, 121, 122, 48, 49, 50, 51, 52, 53, 54, 55, 56, 57, 43, 47]) (AV.i .i64 n41) fun n42 =>
pIdxAddrSl 1 v33 (AV.i .i64 n39) h34 fun v43 =>
pStore 1 v43 (AV.i .u8 n42) h34 fun h44 =>
J 4 [(0, (AV.s x0)), (3, v33), (4, (AV.i .i64 x4)), (5, (AV.i .i64 x5))] h44)
else
(J 4 [(0, (AV.s x0)), (3, v33), (4, (AV.i .i64 x4)), (5, (AV.i .i64 x5))] h34))
theorem G_ref26_EncodeBase64.t2_eq (J : JT) (Q : AV → AHeap → Prop) (x0 : List UInt8) (x3 : AV) (x4 : Int) (x5 : Int) (h : AHeap) : G_ref26_EncodeBase64.t2 J Q x0 x3 x4 x5 h = atJ prog C 82 J false [1, 1, 0, 1, 0, 0, 1, 0, 0, 1, 1, 1] G_ref26_EncodeBase64.ann G_ref26_EncodeBase64.body [(0, (AV.s x0)), (3, x3), (4, (AV.i .i64 x4)), (5, (AV.i .i64 x5))] h (kFun prog Tryd.f19 Q) := by kernel_rfl
theorem G_ref26_EncodeBase64.i2 {Q : AV → AHeap → Prop} {x0 : List UInt8} {x3 : AV} {x4 : Int} {x5 : Int} {h : AHeap} (H : G_ref26_EncodeBase64.t2 (G_ref26_EncodeBase64.J Q) Q x0 x3 x4 x5 h) : G_ref26_EncodeBase64.p2 Q x0 x3 x4 x5 h := G_ref26_EncodeBase64.goR (k := 3) (p := [1, 1, 0, 1, 0, 0, 1, 0, 0, 1, 1, 1]) (by kernel_rfl) ((G_ref26_EncodeBase64.t2_eq (G_ref26_EncodeBase64.J Q) Q x0 x3 x4 x5 h).mp H)
def G_ref26_EncodeBase64.t1 (J : JT) (Q : AV → AHeap → Prop) (x0 : List UInt8) (x3 : AV) (x4 : Int) (x5 : Int) (h : AHeap) : Prop :=
withI (IntKind.wrap .i64 (x4 + 2)) fun n19 =>
(bif (decide ((n19 : Int) < (x0.length : Int))) then
(withI (IntKind.wrap .i64 (x4 + 2)) fun n21 =>
pIdxStr (AV.s x0) (AV.i .i64 n21) fun n22 =>
withI (IntKind.wrap .i64 (x5 + (IntKind.wrap .i64 n22))) fun n23 =>
J 3 [(0, (AV.s x0)), (3, x3), (4, (AV.i .i64 x4)), (5, (AV.i .i64 n23))] h)
else
(J 3 [(0, (AV.s x0)), (3, x3), (4, (AV.i .i64 x4)), (5, (AV.i .i64 x5))] h))
theorem G_ref26_EncodeBase64.t1_eq (J : JT) (Q : AV → AHeap → Prop) (x0 : List UInt8) (x3 : AV) (x4 : Int) (x5 : Int) (h : AHeap) : G_ref26_EncodeBase64.t1 J Q x0 x3 x4 x5 h = atJ prog C 82 J false [1, 1, 0, 1, 0, 0, 1, 0, 0, 1, 1] G_ref26_EncodeBase64.ann G_ref26_EncodeBase64.body [(0, (AV.s x0)), (3, x3), (4, (AV.i .i64 x4)), (5, (AV.i .i64 x5))] h (kFun prog Tryd.f19 Q) := by kernel_rfl
theorem G_ref26_EncodeBase64.i1 {Q : AV → AHeap → Prop} {x0 : List UInt8} {x3 : AV} {x4 : Int} {x5 : Int} {h : AHeap} (H : G_ref26_EncodeBase64.t1 (G_ref26_EncodeBase64.J Q) Q x0 x3 x4 x5 h) : G_ref26_EncodeBase64.p1 Q x0 x3 x4 x5 h := G_ref26_EncodeBase64.goR (k := 2) (p := [1, 1, 0, 1, 0, 0, 1, 0, 0, 1, 1]) (by kernel_rfl) ((G_ref26_EncodeBase64.t1_eq (G_ref26_EncodeBase64.J Q) Q x0 x3 x4 x5 h).mp H)
def G_ref26_EncodeBase64.t4 (J : JT) (Q : AV → AHeap → Prop) (x0 : List UInt8) (x3 : AV) (x4 : Int) (h : AHeap) : Prop :=
withI (IntKind.wrap .i64 (x4 + 3)) fun n57 =>
J 1 [(0, (AV.s x0)), (3, x3), (4, (AV.i .i64 n57))] h
theorem G_ref26_EncodeBase64.t4_eq (J : JT) (Q : AV → AHeap → Prop) (x0 : List UInt8) (x3 : AV) (x4 : Int) (h : AHeap) : G_ref26_EncodeBase64.t4 J Q x0 x3 x4 h = atJ prog C 82 J false [1, 1, 0, 1, 0, 0, 1, 1] G_ref26_EncodeBase64.ann G_ref26_EncodeBase64.body [(0, (AV.s x0)), (3, x3), (4, (AV.i .i64 x4))] h (kFun prog Tryd.f19 Q) := by kernel_rfl
theorem G_ref26_EncodeBase64.i4 {Q : AV → AHeap → Prop} {x0 : List UInt8} {x3 : AV} {x4 : Int} {h : AHeap} (H : G_ref26_EncodeBase64.t4 (G_ref26_EncodeBase64.J Q) Q x0 x3 x4 h) : G_ref26_EncodeBase64.p4 Q x0 x3 x4 h := G_ref26_EncodeBase64.goR (k := 5) (p := [1, 1, 0, 1, 0, 0, 1, 1]) (by kernel_rfl) ((G_ref26_EncodeBase64.t4_eq (G_ref26_EncodeBase64.J Q) Q x0 x3 x4 h).mp H)
def G_ref26_EncodeBase64.t0 (J : JT) (Q : AV → AHeap → Prop) (x0 : List UInt8) (x3 : AV) (x4 : Int) (h : AHeap) : Prop :=
(bif (decide ((x4 : Int) < (x0.length : Int))) then
(pIdxStr (AV.s x0) (AV.i .i64 x4) fun n8 =>
pShl .i64 (IntKind.wrap .i64 n8) 16 fun n9 =>
withI (IntKind.wrap .i64 (x4 + 1)) fun n11 =>
(bif (decide ((n11 : Int) < (x0.length : Int))) then
(withI (IntKind.wrap .i64 (x4 + 1)) fun n13 =>
pIdxStr (AV.s x0) (AV.i .i64 n13) fun n14 =>
pShl .i64 (IntKind.wrap .i64 n14) 8 fun n15 =>
withI (IntKind.wrap .i64 (n9 + n15)) fun n16 =>
J 2 [(0, (AV.s x0)), (3, x3), (4, (AV.i .i64 x4)), (5, (AV.i .i64 n16))] h)
else
(J 2 [(0, (AV.s x0)), (3, x3), (4, (AV.i .i64 x4)), (5, (AV.i .i64 n9))] h)))
else
(pBytesStr x3 h fun l59 =>
Q (AV.s l59) h))
theorem G_ref26_EncodeBase64.t0_eq (J : JT) (Q : AV → AHeap → Prop) (x0 : List UInt8) (x3 : AV) (x4 : Int) (h : AHeap) : G_ref26_EncodeBase64.t0 J Q x0 x3 x4 h = atJ prog C 82 J true [1, 1, 0, 1, 0] G_ref26_EncodeBase64.ann G_ref26_EncodeBase64.body [(0, (AV.s x0)), (3, x3), (4, (AV.i .i64 x4))] h (kFun prog Tryd.f19 Q) := by kernel_rfl
theorem G_ref26_EncodeBase64.i0 {Q : AV → AHeap → Prop} {x0 : List UInt8} {x3 : AV} {x4 : Int} {h : AHeap} (H : G_ref26_EncodeBase64.t0 (G_ref26_EncodeBase64.J Q) Q x0 x3 x4 h) : G_ref26_EncodeBase64.p0 Q x0 x3 x4 h := G_ref26_EncodeBase64.goH (k := 1) (p := [1, 1, 0, 1, 0]) (by kernel_rfl) ((G_ref26_EncodeBase64.t0_eq (G_ref26_EncodeBase64.J Q) Q x0 x3 x4 h).mp H)
def G_ref26_EncodeBase64.t (J : JT) (Q : AV → AHeap → Prop) (x0 : List UInt8) (h : AHeap) : Prop :=
pBuildSl 1 0 [] [] h fun v1 h2 =>
J 1 [(0, (AV.s x0)), (3, v1), (4, (AV.i .i64 0))] h2
theorem G_ref26_EncodeBase64.t_eq (J : JT) (Q : AV → AHeap → Prop) (x0 : List UInt8) (h : AHeap) : G_ref26_EncodeBase64.t J Q x0 h = exJ prog C 82 J G_ref26_EncodeBase64.ann G_ref26_EncodeBase64.body (initEnv 0 [(AV.s x0)]) h (kFun prog Tryd.f19 Q) := by kernel_rfl
theorem G_ref26_EncodeBase64.call {K : AV → AHeap → Prop} {x0 : List UInt8} {h : AHeap} (H : G_ref26_EncodeBase64.t (G_ref26_EncodeBase64.J (kRet h K)) (kRet h K) x0 h) : C G_ref26_EncodeBase64.id [(AV.s x0)] h K :=
  callJ (P := prog) (fn := Tryd.f19) (ann := G_ref26_EncodeBase64.ann) (body := G_ref26_EncodeBase64.body) Tryd.func19 G_ref26_EncodeBase64.body_eq (by kernel_rfl) G_ref26_EncodeBase64.dist (by kernel_rfl) ((G_ref26_EncodeBase64.t_eq (G_ref26_EncodeBase64.J (kRet h K)) (kRet h K) x0 h).mp H)

--@@ G_transform_EncodeHex
/-! ### 20: intrusion/transform.EncodeHex -/
noncomputable def G_transform_EncodeHex.body : Code := (Tryd.f20.body).getD .skip
def G_transform_EncodeHex.ann : Ann := (.seq 0 [0] .leaf (.seq 0 [0, 3] .leaf (.seq 0 [3] (.seq 0 [0, 3, 6, 7] .leaf (.one (.loop 1 [0, 3, 6, 7] (.seq 0 [0, 3, 6, 7, 8] .leaf (.seq 0 [0, 3, 6, 7] (.br .leaf .leaf) (.seq 0 [0, 3, 6, 7] (.one (.seq 0 [0, 3, 4, 6, 7] .leaf (.ord (.neu 0 (.neu 1 (.neu 2 (.neu 3 (.neu 4 (.neu 5 (.neu 6 (.neu 7 (.neu 8 (.neu 9 (.neu 10 (.eff 11 (.eff 12 (.eff 13 .done .stop) .stop) .stop))))))))))))))) .leaf)))))) (.seq 0 [2] .leaf .leaf))))
theorem G_transform_EncodeHex.body_eq : Tryd.f20.body = some G_transform_EncodeHex.body := by kernel_rfl
theorem G_transform_EncodeHex.dist : noTwice (places G_transform_EncodeHex.ann G_transform_EncodeHex.body) = true := by kernel_rfl
noncomputable def G_transform_EncodeHex.J (Q : AV → AHeap → Prop) : JT := funJ prog C Tryd.f20 G_transform_EncodeHex.ann G_transform_EncodeHex.body Q
theorem G_transform_EncodeHex.goR {Q : AV → AHeap → Prop} {k : Nat} {p : List Nat} (hl : lookJ (places G_transform_EncodeHex.ann G_transform_EncodeHex.body) k = some (p, false)) {e : Env} {h : AHeap} (hk : atJ prog C 26 (G_transform_EncodeHex.J Q) false p G_transform_EncodeHex.ann G_transform_EncodeHex.body e h (kFun prog Tryd.f20 Q)) : G_transform_EncodeHex.J Q k e h := goJ_run (P := prog) (fn := Tryd.f20) (ann := G_transform_EncodeHex.ann) (body := G_transform_EncodeHex.body) (Q := Q) (k := k) (p := p) (e := e) (h := h) (acall_le X) G_transform_EncodeHex.dist hl hk
theorem G_transform_EncodeHex.goH {Q : AV → AHeap → Prop} {k : Nat} {p : List Nat} (hl : lookJ (places G_transform_EncodeHex.ann G_transform_EncodeHex.body) k = some (p, true)) {e : Env} {h : AHeap} (hk : atJ prog C 26 (G_transform_EncodeHex.J Q) true p G_transform_EncodeHex.ann G_transform_EncodeHex.body e h (kFun prog Tryd.f20 Q)) : G_transform_EncodeHex.J Q k e h := goJ_head (P := prog) (fn := Tryd.f20) (ann := G_transform_EncodeHex.ann) (body := G_transform_EncodeHex.body) (Q := Q) (k := k) (p := p) (e := e) (h := h) (acall_le X) G_transform_EncodeHex.dist hl hk
def G_transform_EncodeHex.p0 (Q : AV → AHeap → Prop) (x0 : List UInt8) (x3 : AV) (x6 : Int) (x7 : Int) (h : AHeap) : Prop := G_transform_EncodeHex.J Q 1 [(0, (AV.s x0)), (3, x3), (6, (AV.i .i64 x6)), (7, (AV.i .i64 x7))] h
theorem G_transform_EncodeHex.j0 (Q : AV → AHeap → Prop) (x0 : List UInt8) (x3 : AV) (x6 : Int) (x7 : Int) (h : AHeap) : G_transform_EncodeHex.J Q 1 [(0, (AV.s x0)), (3, x3), (6, (AV.i .i64 x6)), (7, (AV.i .i64 x7))] h = G_transform_EncodeHex.p0 Q x0 x3 x6 x7 h := rfl
def G_transform_EncodeHex.t0 (J : JT) (Q : AV → AHeap → Prop) (x0 : List UInt8) (x3 : AV) (x6 : Int) (x7 : Int) (h : AHeap) : Prop :=
(bif (decide ((x7 : Int) < x6)) then
(pIdxStr (AV.s x0) (AV.i .i64 x7) fun n7 =>
pShr .u8 n7 4 fun n8 =>
pIdxStr (AV.s [48, 49, 50, 51, 52, 53, 54, 55, 56, 57, 97, 98, 99, 100, 101, 102]) (AV.i .u8 n8) fun n9 =>
pIdxStr (AV.s x0) (AV.i .i64 x7) fun n10 =>
pIdxStr (AV.s [48, 49, 50, 51, 52, 53, 54, 55, 56, 57, 97, 98, 99, 100, 101, 102]) (AV.i .u8 (bitsOp .and .u8 n10 15)) fun n11 =>
pBuildSl 1 2 [(AV.i .u8 0), (AV.i .u8 0)] [(0, 1, (AV.i .u8 n9)), (1, 1, (AV.i .u8 n11))] h fun v12 h13 =>
pAppend 1 1 x3 v12 h13 fun v14 h15 =>
withI (IntKind.wrap .i64 (x7 + 1)) fun n17 =>
J 1 [(0, (AV.s x0)), (3, v14), (6, (AV.i .i64 x6)), (7, (AV.i .i64 n17))] h15)
else
(pBytesStr x3 h fun l19 =>
Q (AV.s l19) h))
theorem G_transform_EncodeHex.t0_eq (J : JT) (Q : AV → AHeap → Prop) (x0 : List UInt8) (x3 : AV) (x6 : Int) (x7 : Int) (h : AHeap) : G_transform_EncodeHex.t0 J Q x0 x3 x6 x7 h = atJ prog C 26 J true [1, 1, 0, 1, 0] G_transform_EncodeHex.ann G_transform_EncodeHex.body [(0, (AV.s x0)), (3, x3), (6, (AV.i .i64 x6)), (7, (AV.i .i64 x7))] h (kFun prog Tryd.f20 Q) := by kernel_rfl
theorem G_transform_EncodeHex.i0 {Q : AV → AHeap → Prop} {x0 : List UInt8} {x3 : AV} {x6 : Int} {x7 : Int} {h : AHeap} (H : G_transform_EncodeHex.t0 (G_transform_EncodeHex.J Q) Q x0 x3 x6 x7 h) : G_transform_EncodeHex.p0 Q x0 x3 x6 x7 h := G_transform_EncodeHex.goH (k := 1) (p := [1, 1, 0, 1, 0]) (by kernel_rfl) ((G_transform_EncodeHex.t0_eq (G_transform_EncodeHex.J Q) Q x0 x3 x6 x7 h).mp H)
def G_transform_EncodeHex.t (J : JT) (Q : AV → AHeap → Prop) (x0 : List UInt8) (h : AHeap) : Prop :=
J 1 [(0, (AV.s x0)), (3, (AV.sl none 0 none)), (6, (AV.i .i64 (x0.length : Int))), (7, (AV.i .i64 0))] h
theorem G_transform_EncodeHex.t_eq (J : JT) (Q : AV → AHeap → Prop) (x0 : List UInt8) (h : AHeap) : G_transform_EncodeHex.t J Q x0 h = exJ prog C 26 J G_transform_EncodeHex.ann G_transform_EncodeHex.body (initEnv 0 [(AV.s x0)]) h (kFun prog Tryd.f20 Q) := by kernel_rfl
theorem G_transform_EncodeHex.call {K : AV → AHeap → Prop} {x0 : List UInt8} {h : AHeap} (H : G_transform_EncodeHex.t (G_transform_EncodeHex.J (kRet h K)) (kRet h K) x0 h) : C G_transform_EncodeHex.id [(AV.s x0)] h K :=
  callJ (P := prog) (fn := Tryd.f20) (ann := G_transform_EncodeHex.ann) (body := G_transform_EncodeHex.body) Tryd.func20 G_transform_EncodeHex.body_eq (by kernel_rfl) G_transform_EncodeHex.dist (by kernel_rfl) ((G_transform_EncodeHex.t_eq (G_transform_EncodeHex.J (kRet h K)) (kRet h K) x0 h).mp H)

--@@ G_ref26_EncodeHex
/-! ### 21: intrusion/intrusionref26.EncodeHex -/
noncomputable def G_ref26_EncodeHex.body : Code := (Tryd.f21.body).getD .skip
def G_ref26_EncodeHex.ann : Ann := (.seq 0 [0] .leaf (.seq 0 [0, 3] .leaf (.seq 0 [3] (.seq 0 [0, 3, 4] .leaf (.one (.loop 1 [0, 3, 4] (.seq 0 [0, 3, 4] (.seq 0 [0, 3, 4, 9] .leaf (.br .leaf .leaf)) (.seq 0 [0, 3, 4] (.one (.ord (.neu 0 (.neu 1 (.neu 2 (.neu 3 (.neu 4 (.neu 5 (.neu 6 (.neu 7 (.neu 8 (.neu 9 (.neu 10 (.eff 11 (.eff 12 (.eff 13 .done .stop) .stop) .stop)))))))))))))) .leaf))))) (.seq 0 [2] .leaf .leaf))))
theorem G_ref26_EncodeHex.body_eq : Tryd.f21.body = some G_ref26_EncodeHex.body := by kernel_rfl
theorem G_ref26_EncodeHex.dist : noTwice (places G_ref26_EncodeHex.ann G_ref26_EncodeHex.body) = true := by kernel_rfl
noncomputable def G_ref26_EncodeHex.J (Q : AV → AHeap → Prop) : JT := funJ prog C Tryd.f21 G_ref26_EncodeHex.ann G_ref26_EncodeHex.body Q
theorem G_ref26_EncodeHex.goR {Q : AV → AHeap → Prop} {k : Nat} {p : List Nat} (hl : lookJ (places G_ref26_EncodeHex.ann G_ref26_EncodeHex.body) k = some (p, false)) {e : Env} {h : AHeap} (hk : atJ prog C 27 (G_ref26_EncodeHex.J Q) false p G_ref26_EncodeHex.ann G_ref26_EncodeHex.body e h (kFun prog Tryd.f21 Q)) : G_ref26_EncodeHex.J Q k e h := goJ_run (P := prog) (fn := Tryd.f21) (ann := G_ref26_EncodeHex.ann) (body := G_ref26_EncodeHex.body) (Q := Q) (k := k) (p := p) (e := e) (h := h) (acall_le X) G_ref26_EncodeHex.dist hl hk
theorem G_ref26_EncodeHex.goH {Q : AV → AHeap → Prop} {k : Nat} {p : List Nat} (hl : lookJ (places G_ref26_EncodeHex.ann G_ref26_EncodeHex.body) k = some (p, true)) {e : Env} {h : AHeap} (hk : atJ prog C 27 (G_ref26_EncodeHex.J Q) true p G_ref26_EncodeHex.ann G_ref26_EncodeHex.body e h (kFun prog Tryd.f21 Q)) : G_ref26_EncodeHex.J Q k e h := goJ_head (P := prog) (fn := Tryd.f21) (ann := G_ref26_EncodeHex.ann) (body := G_ref26_EncodeHex.body) (Q := Q) (k := k) (p := p) (e := e) (h := h) (acall_le X) G_ref26_EncodeHex.dist hl hk
def G_ref26_EncodeHex.p0 (Q : AV → AHeap → Prop) (x0 : List UInt8) (x3 : AV) (x4 : Int) (h : AHeap) : Prop := G_ref26_EncodeHex.J Q 1 [(0, (AV.s x0)), (3, x3), (4, (AV.i .i64 x4))] h
theorem G_ref26_EncodeHex.j0 (Q : AV → AHeap → Prop) (x0 : List UInt8) (x3 : AV) (x4 : Int) (h : AHeap) : G_ref26_EncodeHex.J Q 1 [(0, (AV.s x0)), (3, x3), (4, (AV.i .i64 x4))] h = G_ref26_EncodeHex.p0 Q x0 x3 x4 h := rfl
def G_ref26_EncodeHex.t0 (J : JT) (Q : AV → AHeap → Prop) (x0 : List UInt8) (x3 : AV) (x4 : Int) (h : AHeap) : Prop :=
(bif (decide ((x4 : Int) < (x0.length : Int))) then
(pIdxStr (AV.s x0) (AV.i .i64 x4) fun n8 =>
pQuo .u8 n8 16 fun n9 =>
pIdxStr (AV.s [48, 49, 50, 51, 52, 53, 54, 55, 56, 57, 97, 98, 99, 100, 101, 102]) (AV.i .u8 n9) fun n10 =>
pIdxStr (AV.s x0) (AV.i .i64 x4) fun n11 =>
pRem n11 16 fun n12 =>
pIdxStr (AV.s [48, 49, 50, 51, 52, 53, 54, 55, 56, 57, 97, 98, 99, 100, 101, 102]) (AV.i .u8 n12) fun n13 =>
pBuildSl 1 2 [(AV.i .u8 0), (AV.i .u8 0)] [(0, 1, (AV.i .u8 n10)), (1, 1, (AV.i .u8 n13))] h fun v14 h15 =>
pAppend 1 1 x3 v14 h15 fun v16 h17 =>
withI (IntKind.wrap .i64 (x4 + 1)) fun n19 =>
J 1 [(0, (AV.s x0)), (3, v16), (4, (AV.i .i64 n19))] h17)
else
(pBytesStr x3 h fun l21 =>
Q (AV.s l21) h))
theorem G_ref26_EncodeHex.t0_eq (J : JT) (Q : AV → AHeap → Prop) (x0 : List UInt8) (x3 : AV) (x4 : Int) (h : AHeap) : G_ref26_EncodeHex.t0 J Q x0 x3 x4 h = atJ prog C 27 J true [1, 1, 0, 1, 0] G_ref26_EncodeHex.ann G_ref26_EncodeHex.body [(0, (AV.s x0)), (3, x3), (4, (AV.i .i64 x4))] h (kFun prog Tryd.f21 Q) := by kernel_rfl
theorem G_ref26_EncodeHex.i0 {Q : AV → AHeap → Prop} {x0 : List UInt8} {x3 : AV} {x4 : Int} {h : AHeap} (H : G_ref26_EncodeHex.t0 (G_ref26_EncodeHex.J Q) Q x0 x3 x4 h) : G_ref26_EncodeHex.p0 Q x0 x3 x4 h := G_ref26_EncodeHex.goH (k := 1) (p := [1, 1, 0, 1, 0]) (by kernel_rfl) ((G_ref26_EncodeHex.t0_eq (G_ref26_EncodeHex.J Q) Q x0 x3 x4 h).mp H)
def G_ref26_EncodeHex.t (J : JT) (Q : AV → AHeap → Prop) (x0 : List UInt8) (h : AHeap) : Prop :=
pBuildSl 1 0 [] [] h fun v1 h2 =>
J 1 [(0, (AV.s x0)), (3, v1), (4, (AV.i .i64 0))] h2
theorem G_ref26_EncodeHex.t_eq (J : JT) (Q : AV → AHeap → Prop) (x0 : List UInt8) (h : AHeap) : G_ref26_EncodeHex.t J Q x0 h = exJ prog C 27 J G_ref26_EncodeHex.ann G_ref26_EncodeHex.body (initEnv 0 [(AV.s x0)]) h (kFun prog Tryd.f21 Q) := by kernel_rfl
theorem G_ref26_EncodeHex.call {K : AV → AHeap → Prop} {x0 : List UInt8} {h : AHeap} (H : G_ref26_EncodeHex.t (G_ref26_EncodeHex.J (kRet h K)) (kRet h K) x0 h) : C G_ref26_EncodeHex.id [(AV.s x0)] h K :=
  callJ (P := prog) (fn := Tryd.f21) (ann := G_ref26_EncodeHex.ann) (body := G_ref26_EncodeHex.body) Tryd.func21 G_ref26_EncodeHex.body_eq (by kernel_rfl) G_ref26_EncodeHex.dist (by kernel_rfl) ((G_ref26_EncodeHex.t_eq (G_ref26_EncodeHex.J (kRet h K)) (kRet h K) x0 h).mp H)

--@@ G_transform_of
/-! ### 22: intrusion/transform.of -/
noncomputable def G_transform_of.body : Code := (Tryd.f22.body).getD .skip
def G_transform_of.ann : Ann := (.seq 0 [0] .leaf (.seq 0 [] (.seq 0 [3] .leaf (.one (.seq 0 [3, 4] .leaf (.br (.seq 0 [2] .leaf .leaf) (.seq 0 [3, 6] .leaf (.br (.seq 0 [2] .leaf .leaf) (.seq 0 [3, 8] .leaf (.br (.seq 0 [2] .leaf .leaf) (.seq 0 [3, 10] .leaf (.br (.seq 0 [2] .leaf .leaf) (.seq 0 [3, 12] .leaf (.br (.seq 0 [2] .leaf .leaf) (.seq 0 [14] .leaf (.br (.seq 0 [2] .leaf .leaf) .leaf)))))))))))))) (.seq 0 [2] .leaf .leaf)))
theorem G_transform_of.body_eq : Tryd.f22.body = some G_transform_of.body := by kernel_rfl
theorem G_transform_of.dist : noTwice (places G_transform_of.ann G_transform_of.body) = true := by kernel_rfl
noncomputable def G_transform_of.J (Q : AV → AHeap → Prop) : JT := funJ prog C Tryd.f22 G_transform_of.ann G_transform_of.body Q
theorem G_transform_of.goR {Q : AV → AHeap → Prop} {k : Nat} {p : List Nat} (hl : lookJ (places G_transform_of.ann G_transform_of.body) k = some (p, false)) {e : Env} {h : AHeap} (hk : atJ prog C 16 (G_transform_of.J Q) false p G_transform_of.ann G_transform_of.body e h (kFun prog Tryd.f22 Q)) : G_transform_of.J Q k e h := goJ_run (P := prog) (fn := Tryd.f22) (ann := G_transform_of.ann) (body := G_transform_of.body) (Q := Q) (k := k) (p := p) (e := e) (h := h) (acall_le X) G_transform_of.dist hl hk
theorem G_transform_of.goH {Q : AV → AHeap → Prop} {k : Nat} {p : List Nat} (hl : lookJ (places G_transform_of.ann G_transform_of.body) k = some (p, true)) {e : Env} {h : AHeap} (hk : atJ prog C 16 (G_transform_of.J Q) true p G_transform_of.ann G_transform_of.body e h (kFun prog Tryd.f22 Q)) : G_transform_of.J Q k e h := goJ_head (P := prog) (fn := Tryd.f22) (ann := G_transform_of.ann) (body := G_transform_of.body) (Q := Q) (k := k) (p := p) (e := e) (h := h) (acall_le X) G_transform_of.dist hl hk
def G_transform_of.t (J : JT) (Q : AV → AHeap → Prop) (x0 : Int) (h : AHeap) : Prop :=
(bif (decide ((x0 : Int) = 1)) then
(Q (AV.fn (.func G_transform_text_lower.id) [] []) h)
else
((bif (decide ((x0 : Int) = 2)) then
(Q (AV.fn (.func G_transform_text_strip.id) [] []) h)
else
((bif (decide ((x0 : Int) = 3)) then
(Q (AV.fn (.func G_transform_text_percent.id) [] []) h)
else
((bif (decide ((x0 : Int) = 4)) then
(Q (AV.fn (.func G_transform_text_base64.id) [] []) h)
else
((bif (decide ((x0 : Int) = 5)) then
(Q (AV.fn (.func G_transform_text_path.id) [] []) h)
else
((bif (decide ((x0 : Int) = 6)) then
(Q (AV.fn (.func G_transform_text_hex.id) [] []) h)
else
(Q (AV.fn (.func G_transform_text_same.id) [] []) h))))))))))))
theorem G_transform_of.t_eq (J : JT) (Q : AV → AHeap → Prop) (x0 : Int) (h : AHeap) : G_transform_of.t J Q x0 h = exJ prog C 16 J G_transform_of.ann G_transform_of.body (initEnv 0 [(AV.i .i64 x0)]) h (kFun prog Tryd.f22 Q) := by kernel_rfl
theorem G_transform_of.call {K : AV → AHeap → Prop} {x0 : Int} {h : AHeap} (H : G_transform_of.t (G_transform_of.J (kRet h K)) (kRet h K) x0 h) : C G_transform_of.id [(AV.i .i64 x0)] h K :=
  callJ (P := prog) (fn := Tryd.f22) (ann := G_transform_of.ann) (body := G_transform_of.body) Tryd.func22 G_transform_of.body_eq (by kernel_rfl) G_transform_of.dist (by kernel_rfl) ((G_transform_of.t_eq (G_transform_of.J (kRet h K)) (kRet h K) x0 h).mp H)

--@@ G_ref26_lower
/-! ### 23: intrusion/intrusionref26.lower -/
noncomputable def G_ref26_lower.body : Code := (Tryd.f23.body).getD .skip
def G_ref26_lower.ann : Ann := (.seq 0 [0] .leaf (.seq 0 [0, 3] .leaf (.seq 0 [3] (.seq 0 [0, 3, 4] .leaf (.one (.loop 1 [0, 3, 4] (.seq 0 [0, 3, 4] (.seq 0 [0, 3, 4, 10] .leaf (.br .leaf .leaf)) (.seq 0 [0, 3, 4] (.one (.seq 0 [0, 3, 4, 5] .leaf (.seq 3 [0, 3, 4, 5] (.seq 2 [0, 3, 4, 5, 21] .leaf (.br .leaf .leaf)) .leaf))) .leaf))))) (.seq 0 [2] .leaf .leaf))))
theorem G_ref26_lower.body_eq : Tryd.f23.body = some G_ref26_lower.body := by kernel_rfl
theorem G_ref26_lower.dist : noTwice (places G_ref26_lower.ann G_ref26_lower.body) = true := by kernel_rfl
noncomputable def G_ref26_lower.J (Q : AV → AHeap → Prop) : JT := funJ prog C Tryd.f23 G_ref26_lower.ann G_ref26_lower.body Q
theorem G_ref26_lower.goR {Q : AV → AHeap → Prop} {k : Nat} {p : List Nat} (hl : lookJ (places G_ref26_lower.ann G_ref26_lower.body) k = some (p, false)) {e : Env} {h : AHeap} (hk : atJ prog C 30 (G_ref26_lower.J Q) false p G_ref26_lower.ann G_ref26_lower.body e h (kFun prog Tryd.f23 Q)) : G_ref26_lower.J Q k e h := goJ_run (P := prog) (fn := Tryd.f23) (ann := G_ref26_lower.ann) (body := G_ref26_lower.body) (Q := Q) (k := k) (p := p) (e := e) (h := h) (acall_le X) G_ref26_lower.dist hl hk
theorem G_ref26_lower.goH {Q : AV → AHeap → Prop} {k : Nat} {p : List Nat} (hl : lookJ (places G_ref26_lower.ann G_ref26_lower.body) k = some (p, true)) {e : Env} {h : AHeap} (hk : atJ prog C 30 (G_ref26_lower.J Q) true p G_ref26_lower.ann G_ref26_lower.body e h (kFun prog Tryd.f23 Q)) : G_ref26_lower.J Q k e h := goJ_head (P := prog) (fn := Tryd.f23) (ann := G_ref26_lower.ann) (body := G_ref26_lower.body) (Q := Q) (k := k) (p := p) (e := e) (h := h) (acall_le X) G_ref26_lower.dist hl hk
def G_ref26_lower.p1 (Q : AV → AHeap → Prop) (x0 : List UInt8) (x3 : AV) (x4 : Int) (x5 : Int) (x21 : Bool) (h : AHeap) : Prop := G_ref26_lower.J Q 2 [(0, (AV.s x0)), (3, x3), (4, (AV.i .i64 x4)), (5, (AV.i .u8 x5)), (21, (AV.b x21))] h
theorem G_ref26_lower.j1 (Q : AV → AHeap → Prop) (x0 : List UInt8) (x3 : AV) (x4 : Int) (x5 : Int) (x21 : Bool) (h : AHeap) : G_ref26_lower.J Q 2 [(0, (AV.s x0)), (3, x3), (4, (AV.i .i64 x4)), (5, (AV.i .u8 x5)), (21, (AV.b x21))] h = G_ref26_lower.p1 Q x0 x3 x4 x5 x21 h := rfl
def G_ref26_lower.p2 (Q : AV → AHeap → Prop) (x0 : List UInt8) (x3 : AV) (x4 : Int) (x5 : Int) (h : AHeap) : Prop := G_ref26_lower.J Q 3 [(0, (AV.s x0)), (3, x3), (4, (AV.i .i64 x4)), (5, (AV.i .u8 x5))] h
theorem G_ref26_lower.j2 (Q : AV → AHeap → Prop) (x0 : List UInt8) (x3 : AV) (x4 : Int) (x5 : Int) (h : AHeap) : G_ref26_lower.J Q 3 [(0, (AV.s x0)), (3, x3), (4, (AV.i .i64 x4)), (5, (AV.i .u8 x5))] h = G_ref26_lower.p2 Q x0 x3 x4 x5 h := rfl
def G_ref26_lower.p0 (Q : AV → AHeap → Prop) (x0 : List UInt8) (x3 : AV) (x4 : Int) (h : AHeap) : Prop := G_ref26_lower.J Q 1 [(0, (AV.s x0)), (3, x3), (4, (AV.i .i64 x4))] h
theorem G_ref26_lower.j0 (Q : AV → AHeap → Prop) (x0 : List UInt8) (x3 : AV) (x4 : Int) (h : AHeap) : G_ref26_lower.J Q 1 [(0, (AV.s x0)), (3, x3), (4, (AV.i .i64 x4))] h = G_ref26_lower.p0 Q x0 x3 x4 h := rfl
def G_ref26_lower.t1 (J : JT) (Q : AV → AHeap → Prop) (x0 : List UInt8) (x3 : AV) (x4 : Int) (x5 : Int) (x21 : Bool) (h : AHeap) : Prop :=
(bif x21 then
(withI (IntKind.wrap .u8 (x5 + 32)) fun n12 =>
J 3 [(0, (AV.s x0)), (3, x3), (4, (AV.i .i64 x4)), (5, (AV.i .u8 n12))] h)
else
(J 3 [(0, (AV.s x0)), (3, x3), (4, (AV.i .i64 x4)), (5, (AV.i .u8 x5))] h))
theorem G_ref26_lower.t1_eq (J : JT) (Q : AV → AHeap → Prop) (x0 : List UInt8) (x3 : AV) (x4 : Int) (x5 : Int) (x21 : Bool) (h : AHeap) : G_ref26_lower.t1 J Q x0 x3 x4 x5 x21 h = atJ prog C 30 J false [1, 1, 0, 1, 0, 0, 1, 0, 0, 1, 0, 1] G_ref26_lower.ann G_ref26_lower.body [(0, (AV.s x0)), (3, x3), (4, (AV.i .i64 x4)), (5, (AV.i .u8 x5)), (21, (AV.b x21))] h (kFun prog Tryd.f23 Q) := by kernel_rfl
theorem G_ref26_lower.i1 {Q : AV → AHeap → Prop} {x0 : List UInt8} {x3 : AV} {x4 : Int} {x5 : Int} {x21 : Bool} {h : AHeap} (H : G_ref26_lower.t1 (G_ref26_lower.J Q) Q x0 x3 x4 x5 x21 h) : G_ref26_lower.p1 Q x0 x3 x4 x5 x21 h := G_ref26_lower.goR (k := 2) (p := [1, 1, 0, 1, 0, 0, 1, 0, 0, 1, 0, 1]) (by kernel_rfl) ((G_ref26_lower.t1_eq (G_ref26_lower.J Q) Q x0 x3 x4 x5 x21 h).mp H)
def G_ref26_lower.t2 (J : JT) (Q : AV → AHeap → Prop) (x0 : List UInt8) (x3 : AV) (x4 : Int) (x5 : Int) (h : AHeap) : Prop :=
pBuildSl 1 1 [(AV.i .u8 0)] [(0, 1, (AV.i .u8 x5))] h fun v15 h16 =>
pAppend 1 1 x3 v15 h16 fun v17 h18 =>
withI (IntKind.wrap .i64 (x4 + 1)) fun n20 =>
J 1 [(0, (AV.s x0)), (3, v17), (4, (AV.i .i64 n20))] h18
theorem G_ref26_lower.t2_eq (J : JT) (Q : AV → AHeap → Prop) (x0 : List UInt8) (x3 : AV) (x4 : Int) (x5 : Int) (h : AHeap) : G_ref26_lower.t2 J Q x0 x3 x4 x5 h = atJ prog C 30 J false [1, 1, 0, 1, 0, 0, 1, 0, 0, 1, 1] G_ref26_lower.ann G_ref26_lower.body [(0, (AV.s x0)), (3, x3), (4, (AV.i .i64 x4)), (5, (AV.i .u8 x5))] h (kFun prog Tryd.f23 Q) := by kernel_rfl
theorem G_ref26_lower.i2 {Q : AV → AHeap → Prop} {x0 : List UInt8} {x3 : AV} {x4 : Int} {x5 : Int} {h : AHeap} (H : G_ref26_lower.t2 (G_ref26_lower.J Q) Q x0 x3 x4 x5 h) : G_ref26_lower.p2 Q x0 x3 x4 x5 h := G_ref26_lower.goR (k := 3) (p := [1, 1, 0, 1, 0, 0, 1, 0, 0, 1, 1]) (by kernel_rfl) ((G_ref26_lower.t2_eq (G_ref26_lower.J Q) Q x0 x3 x4 x5 h).mp H)
def G_ref26_lower.t0 (J : JT) (Q : AV → AHeap → Prop) (x0 : List UInt8) (x3 : AV) (x4 : Int) (h : AHeap) : Prop :=
(bif (decide ((x4 : Int) < (x0.length : Int))) then
(pIdxStr (AV.s x0) (AV.i .i64 x4) fun n8 =>
(bif (decide ((65 : Int) ≤ n8)) then
(J 2 [(0, (AV.s x0)), (3, x3), (4, (AV.i .i64 x4)), (5, (AV.i .u8 n8)), (21, (AV.b (decide ((n8 : Int) ≤ 90))))] h)
else
(J 2 [(0, (AV.s x0)), (3, x3), (4, (AV.i .i64 x4)), (5, (AV.i .u8 n8)), (21, (AV.b false))] h)))
else
(pBytesStr x3 h fun l22 =>
Q (AV.s l22) h))
theorem G_ref26_lower.t0_eq (J : JT) (Q : AV → AHeap → Prop) (x0 : List UInt8) (x3 : AV) (x4 : Int) (h : AHeap) : G_ref26_lower.t0 J Q x0 x3 x4 h = atJ prog C 30 J true [1, 1, 0, 1, 0] G_ref26_lower.ann G_ref26_lower.body [(0, (AV.s x0)), (3, x3), (4, (AV.i .i64 x4))] h (kFun prog Tryd.f23 Q) := by kernel_rfl
theorem G_ref26_lower.i0 {Q : AV → AHeap → Prop} {x0 : List UInt8} {x3 : AV} {x4 : Int} {h : AHeap} (H : G_ref26_lower.t0 (G_ref26_lower.J Q) Q x0 x3 x4 h) : G_ref26_lower.p0 Q x0 x3 x4 h := G_ref26_lower.goH (k := 1) (p := [1, 1, 0, 1, 0]) (by kernel_rfl) ((G_ref26_lower.t0_eq (G_ref26_lower.J Q) Q x0 x3 x4 h).mp H)
def G_ref26_lower.t (J : JT) (Q : AV → AHeap → Prop) (x0 : List UInt8) (h : AHeap) : Prop :=
pBuildSl 1 0 [] [] h fun v1 h2 =>
J 1 [(0, (AV.s x0)), (3, v1), (4, (AV.i .i64 0))] h2
theorem G_ref26_lower.t_eq (J : JT) (Q : AV → AHeap → Prop) (x0 : List UInt8) (h : AHeap) : G_ref26_lower.t J Q x0 h = exJ prog C 30 J G_ref26_lower.ann G_ref26_lower.body (initEnv 0 [(AV.s x0)]) h (kFun prog Tryd.f23 Q) := by kernel_rfl
theorem G_ref26_lower.call {K : AV → AHeap → Prop} {x0 : List UInt8} {h : AHeap} (H : G_ref26_lower.t (G_ref26_lower.J (kRet h K)) (kRet h K) x0 h) : C G_ref26_lower.id [(AV.s x0)] h K :=
  callJ (P := prog) (fn := Tryd.f23) (ann := G_ref26_lower.ann) (body := G_ref26_lower.body) Tryd.func23 G_ref26_lower.body_eq (by kernel_rfl) G_ref26_lower.dist (by kernel_rfl) ((G_ref26_lower.t_eq (G_ref26_lower.J (kRet h K)) (kRet h K) x0 h).mp H)

--@@ G_ref26_strip
/-! ### 24: intrusion/intrusionref26.strip -/
noncomputable def G_ref26_strip.body : Code := (Tryd.f24.body).getD .skip
def G_ref26_strip.ann : Ann := (.seq 0 [0] .leaf (.seq 0 [0, 3] .leaf (.seq 0 [3] (.seq 0 [0, 3, 4] .leaf (.one (.loop 1 [0, 3, 4] (.seq 0 [0, 3, 4] (.seq 0 [0, 3, 4, 9] .leaf (.br .leaf .leaf)) (.seq 3 [0, 3, 4] (.one (.seq 2 [0, 3, 4, 33] .leaf (.br .leaf .leaf))) .leaf))))) (.seq 0 [2] .leaf .leaf))))
theorem G_ref26_strip.body_eq : Tryd.f24.body = some G_ref26_strip.body := by kernel_rfl
theorem G_ref26_strip.dist : noTwice (places G_ref26_strip.ann G_ref26_strip.body) = true := by kernel_rfl
noncomputable def G_ref26_strip.J (Q : AV → AHeap → Prop) : JT := funJ prog C Tryd.f24 G_ref26_strip.ann G_ref26_strip.body Q
theorem G_ref26_strip.goR {Q : AV → AHeap → Prop} {k : Nat} {p : List Nat} (hl : lookJ (places G_ref26_strip.ann G_ref26_strip.body) k = some (p, false)) {e : Env} {h : AHeap} (hk : atJ prog C 42 (G_ref26_strip.J Q) false p G_ref26_strip.ann G_ref26_strip.body e h (kFun prog Tryd.f24 Q)) : G_ref26_strip.J Q k e h := goJ_run (P := prog) (fn := Tryd.f24) (ann := G_ref26_strip.ann) (body := G_ref26_strip.body) (Q := Q) (k := k) (p := p) (e := e) (h := h) (acall_le X) G_ref26_strip.dist hl hk
theorem G_ref26_strip.goH {Q : AV → AHeap → Prop} {k : Nat} {p : List Nat} (hl : lookJ (places G_ref26_strip.ann G_ref26_strip.body) k = some (p, true)) {e : Env} {h : AHeap} (hk : atJ prog C 42 (G_ref26_strip.J Q) true p G_ref26_strip.ann G_ref26_strip.body e h (kFun prog Tryd.f24 Q)) : G_ref26_strip.J Q k e h := goJ_head (P := prog) (fn := Tryd.f24) (ann := G_ref26_strip.ann) (body := G_ref26_strip.body) (Q := Q) (k := k) (p := p) (e := e) (h := h) (acall_le X) G_ref26_strip.dist hl hk
def G_ref26_strip.p1 (Q : AV → AHeap → Prop) (x0 : List UInt8) (x3 : AV) (x4 : Int) (x33 : Bool) (h : AHeap) : Prop := G_ref26_strip.J Q 2 [(0, (AV.s x0)), (3, x3), (4, (AV.i .i64 x4)), (33, (AV.b x33))] h
theorem G_ref26_strip.j1 (Q : AV → AHeap → Prop) (x0 : List UInt8) (x3 : AV) (x4 : Int) (x33 : Bool) (h : AHeap) : G_ref26_strip.J Q 2 [(0, (AV.s x0)), (3, x3), (4, (AV.i .i64 x4)), (33, (AV.b x33))] h = G_ref26_strip.p1 Q x0 x3 x4 x33 h := rfl
def G_ref26_strip.p2 (Q : AV → AHeap → Prop) (x0 : List UInt8) (x3 : AV) (x4 : Int) (h : AHeap) : Prop := G_ref26_strip.J Q 3 [(0, (AV.s x0)), (3, x3), (4, (AV.i .i64 x4))] h
theorem G_ref26_strip.j2 (Q : AV → AHeap → Prop) (x0 : List UInt8) (x3 : AV) (x4 : Int) (h : AHeap) : G_ref26_strip.J Q 3 [(0, (AV.s x0)), (3, x3), (4, (AV.i .i64 x4))] h = G_ref26_strip.p2 Q x0 x3 x4 h := rfl
def G_ref26_strip.p0 (Q : AV → AHeap → Prop) (x0 : List UInt8) (x3 : AV) (x4 : Int) (h : AHeap) : Prop := G_ref26_strip.J Q 1 [(0, (AV.s x0)), (3, x3), (4, (AV.i .i64 x4))] h
theorem G_ref26_strip.j0 (Q : AV → AHeap → Prop) (x0 : List UInt8) (x3 : AV) (x4 : Int) (h : AHeap) : G_ref26_strip.J Q 1 [(0, (AV.s x0)), (3, x3), (4, (AV.i .i64 x4))] h = G_ref26_strip.p0 Q x0 x3 x4 h := rfl
def G_ref26_strip.t1 (J : JT) (Q : AV → AHeap → Prop) (x0 : List UInt8) (x3 : AV) (x4 : Int) (x33 : Bool) (h : AHeap) : Prop :=
(bif x33 then
(pIdxStr (AV.s x0) (AV.i .i64 x4) fun n16 =>
pBuildSl 1 1 [(AV.i .u8 0)] [(0, 1, (AV.i .u8 n16))] h fun v17 h18 =>
pAppend 1 1 x3 v17 h18 fun v19 h20 =>
J 3 [(0, (AV.s x0)), (3, v19), (4, (AV.i .i64 x4))] h20)
else
(J 3 [(0, (AV.s x0)), (3, x3), (4, (AV.i .i64 x4))] h))
theorem G_ref26_strip.t1_eq (J : JT) (Q : AV → AHeap → Prop) (x0 : List UInt8) (x3 : AV) (x4 : Int) (x33 : Bool) (h : AHeap) : G_ref26_strip.t1 J Q x0 x3 x4 x33 h = atJ prog C 42 J false [1, 1, 0, 1, 0, 0, 1, 0, 0, 1] G_ref26_strip.ann G_ref26_strip.body [(0, (AV.s x0)), (3, x3), (4, (AV.i .i64 x4)), (33, (AV.b x33))] h (kFun prog Tryd.f24 Q) := by kernel_rfl
theorem G_ref26_strip.i1 {Q : AV → AHeap → Prop} {x0 : List UInt8} {x3 : AV} {x4 : Int} {x33 : Bool} {h : AHeap} (H : G_ref26_strip.t1 (G_ref26_strip.J Q) Q x0 x3 x4 x33 h) : G_ref26_strip.p1 Q x0 x3 x4 x33 h := G_ref26_strip.goR (k := 2) (p := [1, 1, 0, 1, 0, 0, 1, 0, 0, 1]) (by kernel_rfl) ((G_ref26_strip.t1_eq (G_ref26_strip.J Q) Q x0 x3 x4 x33 h).mp H)
def G_ref26_strip.t2 (J : JT) (Q : AV → AHeap → Prop) (x0 : List UInt8) (x3 : AV) (x4 : Int) (h : AHeap) : Prop :=
withI (IntKind.wrap .i64 (x4 + 1)) fun n23 =>
J 1 [(0, (AV.s x0)), (3, x3), (4, (AV.i .i64 n23))] h
theorem G_ref26_strip.t2_eq (J : JT) (Q : AV → AHeap → Prop) (x0 : List UInt8) (x3 : AV) (x4 : Int) (h : AHeap) : G_ref26_strip.t2 J Q x0 x3 x4 h = atJ prog C 42 J false [1, 1, 0, 1, 0, 0, 1, 1] G_ref26_strip.ann G_ref26_strip.body [(0, (AV.s x0)), (3, x3), (4, (AV.i .i64 x4))] h (kFun prog Tryd.f24 Q) := by kernel_rfl
theorem G_ref26_strip.i2 {Q : AV → AHeap → Prop} {x0 : List UInt8} {x3 : AV} {x4 : Int} {h : AHeap} (H : G_ref26_strip.t2 (G_ref26_strip.J Q) Q x0 x3 x4 h) : G_ref26_strip.p2 Q x0 x3 x4 h := G_ref26_strip.goR (k := 3) (p := [1, 1, 0, 1, 0, 0, 1, 1]) (by kernel_rfl) ((G_ref26_strip.t2_eq (G_ref26_strip.J Q) Q x0 x3 x4 h).mp H)
def G_ref26_strip.t0 (J : JT) (Q : AV → AHeap → Prop) (x0 : List UInt8) (x3 : AV) (x4 : Int) (h : AHeap) : Prop :=
(bif (decide ((x4 : Int) < (x0.length : Int))) then
(pIdxStr (AV.s x0) (AV.i .i64 x4) fun n8 =>
(bif (!decide ((n8 : Int) = 9)) then
(pIdxStr (AV.s x0) (AV.i .i64 x4) fun n9 =>
(bif (!decide ((n9 : Int) = 10)) then
(pIdxStr (AV.s x0) (AV.i .i64 x4) fun n10 =>
(bif (!decide ((n10 : Int) = 13)) then
(pIdxStr (AV.s x0) (AV.i .i64 x4) fun n11 =>
J 2 [(0, (AV.s x0)), (3, x3), (4, (AV.i .i64 x4)), (33, (AV.b (!decide ((n11 : Int) = 32))))] h)
else
(J 2 [(0, (AV.s x0)), (3, x3), (4, (AV.i .i64 x4)), (33, (AV.b false))] h)))
else
(J 2 [(0, (AV.s x0)), (3, x3), (4, (AV.i .i64 x4)), (33, (AV.b false))] h)))
else
(J 2 [(0, (AV.s x0)), (3, x3), (4, (AV.i .i64 x4)), (33, (AV.b false))] h)))
else
(pBytesStr x3 h fun l25 =>
Q (AV.s l25) h))
theorem G_ref26_strip.t0_eq (J : JT) (Q : AV → AHeap → Prop) (x0 : List UInt8) (x3 : AV) (x4 : Int) (h : AHeap) : G_ref26_strip.t0 J Q x0 x3 x4 h = atJ prog C 42 J true [1, 1, 0, 1, 0] G_ref26_strip.ann G_ref26_strip.body [(0, (AV.s x0)), (3, x3), (4, (AV.i .i64 x4))] h (kFun prog Tryd.f24 Q) := by kernel_rfl
theorem G_ref26_strip.i0 {Q : AV → AHeap → Prop} {x0 : List UInt8} {x3 : AV} {x4 : Int} {h : AHeap} (H : G_ref26_strip.t0 (G_ref26_strip.J Q) Q x0 x3 x4 h) : G_ref26_strip.p0 Q x0 x3 x4 h := G_ref26_strip.goH (k := 1) (p := [1, 1, 0, 1, 0]) (by kernel_rfl) ((G_ref26_strip.t0_eq (G_ref26_strip.J Q) Q x0 x3 x4 h).mp H)
def G_ref26_strip.t (J : JT) (Q : AV → AHeap → Prop) (x0 : List UInt8) (h : AHeap) : Prop :=
pBuildSl 1 0 [] [] h fun v1 h2 =>
J 1 [(0, (AV.s x0)), (3, v1), (4, (AV.i .i64 0))] h2
theorem G_ref26_strip.t_eq (J : JT) (Q : AV → AHeap → Prop) (x0 : List UInt8) (h : AHeap) : G_ref26_strip.t J Q x0 h = exJ prog C 42 J G_ref26_strip.ann G_ref26_strip.body (initEnv 0 [(AV.s x0)]) h (kFun prog Tryd.f24 Q) := by kernel_rfl
theorem G_ref26_strip.call {K : AV → AHeap → Prop} {x0 : List UInt8} {h : AHeap} (H : G_ref26_strip.t (G_ref26_strip.J (kRet h K)) (kRet h K) x0 h) : C G_ref26_strip.id [(AV.s x0)] h K :=
  callJ (P := prog) (fn := Tryd.f24) (ann := G_ref26_strip.ann) (body := G_ref26_strip.body) Tryd.func24 G_ref26_strip.body_eq (by kernel_rfl) G_ref26_strip.dist (by kernel_rfl) ((G_ref26_strip.t_eq (G_ref26_strip.J (kRet h K)) (kRet h K) x0 h).mp H)

--@@ G_ref26_percent
/-! ### 25: intrusion/intrusionref26.percent -/
noncomputable def G_ref26_percent.body : Code := (Tryd.f25.body).getD .skip
def G_ref26_percent.ann : Ann := (.seq 0 [0] .leaf (.seq 0 [0, 3] .leaf (.seq 0 [3] (.seq 0 [0, 3, 4] .leaf (.one (.loop 1 [0, 3, 4] (.seq 0 [0, 3, 4] (.seq 0 [0, 3, 4, 9] .leaf (.br .leaf .leaf)) (.seq 3 [0, 3, 4] (.one (.seq 0 [0, 3, 4] (.seq 2 [0, 3, 4, 38] .leaf (.br (.seq 0 [0, 3, 4] (.ord (.neu 0 (.neu 1 (.neu 2 (.neu 3 (.neu 4 (.neu 7 (.neu 8 (.neu 9 (.neu 10 (.eff 5 (.neu 6 (.eff 11 (.neu 12 (.neu 13 (.eff 14 (.eff 15 (.eff 16 .done .stop) .stop) .stop))) .stop)) .stop))))))))))) (.seq 0 [0, 3, 4] .leaf .leaf)) .leaf)) .leaf)) .leaf))))) (.seq 0 [2] .leaf .leaf))))
theorem G_ref26_percent.body_eq : Tryd.f25.body = some G_ref26_percent.body := by kernel_rfl
theorem G_ref26_percent.dist : noTwice (places G_ref26_percent.ann G_ref26_percent.body) = true := by kernel_rfl
noncomputable def G_ref26_percent.J (Q : AV → AHeap → Prop) : JT := funJ prog C Tryd.f25 G_ref26_percent.ann G_ref26_percent.body Q
theorem G_ref26_percent.goR {Q : AV → AHeap → Prop} {k : Nat} {p : List Nat} (hl : lookJ (places G_ref26_percent.ann G_ref26_percent.body) k = some (p, false)) {e : Env} {h : AHeap} (hk : atJ prog C 65 (G_ref26_percent.J Q) false p G_ref26_percent.ann G_ref26_percent.body e h (kFun prog Tryd.f25 Q)) : G_ref26_percent.J Q k e h := goJ_run (P := prog) (fn := Tryd.f25) (ann := G_ref26_percent.ann) (body := G_ref26_percent.body) (Q := Q) (k := k) (p := p) (e := e) (h := h) (acall_le X) G_ref26_percent.dist hl hk
theorem G_ref26_percent.goH {Q : AV → AHeap → Prop} {k : Nat} {p : List Nat} (hl : lookJ (places G_ref26_percent.ann G_ref26_percent.body) k = some (p, true)) {e : Env} {h : AHeap} (hk : atJ prog C 65 (G_ref26_percent.J Q) true p G_ref26_percent.ann G_ref26_percent.body e h (kFun prog Tryd.f25 Q)) : G_ref26_percent.J Q k e h := goJ_head (P := prog) (fn := Tryd.f25) (ann := G_ref26_percent.ann) (body := G_ref26_percent.body) (Q := Q) (k := k) (p := p) (e := e) (h := h) (acall_le X) G_ref26_percent.dist hl hk
def G_ref26_percent.p1 (Q : AV → AHeap → Prop) (x0 : List UInt8) (x3 : AV) (x4 : Int) (x38 : Bool) (h : AHeap) : Prop := G_ref26_percent.J Q 2 [(0, (AV.s x0)), (3, x3), (4, (AV.i .i64 x4)), (38, (AV.b x38))] h
theorem G_ref26_percent.j1 (Q : AV → AHeap → Prop) (x0 : List UInt8) (x3 : AV) (x4 : Int) (x38 : Bool) (h : AHeap) : G_ref26_percent.J Q 2 [(0, (AV.s x0)), (3, x3), (4, (AV.i .i64 x4)), (38, (AV.b x38))] h = G_ref26_percent.p1 Q x0 x3 x4 x38 h := rfl
def G_ref26_percent.p2 (Q : AV → AHeap → Prop) (x0 : List UInt8) (x3 : AV) (x4 : Int) (h : AHeap) : Prop := G_ref26_percent.J Q 3 [(0, (AV.s x0)), (3, x3), (4, (AV.i .i64 x4))] h
theorem G_ref26_percent.j2 (Q : AV → AHeap → Prop) (x0 : List UInt8) (x3 : AV) (x4 : Int) (h : AHeap) : G_ref26_percent.J Q 3 [(0, (AV.s x0)), (3, x3), (4, (AV.i .i64 x4))] h = G_ref26_percent.p2 Q x0 x3 x4 h := rfl
def G_ref26_percent.p0 (Q : AV → AHeap → Prop) (x0 : List UInt8) (x3 : AV) (x4 : Int) (h : AHeap) : Prop := G_ref26_percent.J Q 1 [(0, (AV.s x0)), (3, x3), (4, (AV.i .i64 x4))] h
theorem G_ref26_percent.j0 (Q : AV → AHeap → Prop) (x0 : List UInt8) (x3 : AV) (x4 : Int) (h : AHeap) : G_ref26_percent.J Q 1 [(0, (AV.s x0)), (3, x3), (4, (AV.i .i64 x4))] h = G_ref26_percent.p0 Q x0 x3 x4 h := rfl
def G_ref26_percent.t1 (J : JT) (Q : AV → AHeap → Prop) (x0 : List UInt8) (x3 : AV) (x4 : Int) (x38 : Bool) (h : AHeap) : Prop :=
(bif x38 then
(withI (IntKind.wrap .i64 (x4 + 1)) fun n24 =>
pIdxStr (AV.s x0) (AV.i .i64 n24) fun n25 =>
withI (IntKind.wrap .i64 (x4 + 2)) fun n26 =>
pIdxStr (AV.s x0) (AV.i .i64 n26) fun n27 =>
C G_ref26_digit.id [(AV.i .u8 n25)] h fun v28 h29 =>
asI .i64 v28 fun n30 =>
withI (IntKind.wrap .i64 (n30 * 16)) fun n31 =>
C G_ref26_digit.id [(AV.i .u8 n27)] h29 fun v32 h33 =>
asI .i64 v32 fun n34 =>
withI (IntKind.wrap .i64 (n31 + n34)) fun n35 =>
pBuildSl 1 1 [(AV.i .u8 0)] [(0, 1, (AV.i .u8 (IntKind.wrap .u8 n35)))] h33 fun v36 h37 =>
pAppend 1 1 x3 v36 h37 fun v38 h39 =>
withI (IntKind.wrap .i64 (x4 + 2)) fun n41 =>
J 3 [(0, (AV.s x0)), (3, v38), (4, (AV.i .i64 n41))] h39)
else
(pIdxStr (AV.s x0) (AV.i .i64 x4) fun n45 =>
pBuildSl 1 1 [(AV.i .u8 0)] [(0, 1, (AV.i .u8 n45))] h fun v46 h47 =>
pAppend 1 1 x3 v46 h47 fun v48 h49 =>
J 3 [(0, (AV.s x0)), (3, v48), (4, (AV.i .i64 x4))] h49))
theorem G_ref26_percent.t1_eq (J : JT) (Q : AV → AHeap → Prop) (x0 : List UInt8) (x3 : AV) (x4 : Int) (x38 : Bool) (h : AHeap) : G_ref26_percent.t1 J Q x0 x3 x4 x38 h = atJ prog C 65 J false [1, 1, 0, 1, 0, 0, 1, 0, 0, 0, 1] G_ref26_percent.ann G_ref26_percent.body [(0, (AV.s x0)), (3, x3), (4, (AV.i .i64 x4)), (38, (AV.b x38))] h (kFun prog Tryd.f25 Q) := by kernel_rfl
theorem G_ref26_percent.i1 {Q : AV → AHeap → Prop} {x0 : List UInt8} {x3 : AV} {x4 : Int} {x38 : Bool} {h : AHeap} (H : G_ref26_percent.t1 (G_ref26_percent.J Q) Q x0 x3 x4 x38 h) : G_ref26_percent.p1 Q x0 x3 x4 x38 h := G_ref26_percent.goR (k := 2) (p := [1, 1, 0, 1, 0, 0, 1, 0, 0, 0, 1]) (by kernel_rfl) ((G_ref26_percent.t1_eq (G_ref26_percent.J Q) Q x0 x3 x4 x38 h).mp H)
def G_ref26_percent.t2 (J : JT) (Q : AV → AHeap → Prop) (x0 : List UInt8) (x3 : AV) (x4 : Int) (h : AHeap) : Prop :=
withI (IntKind.wrap .i64 (x4 + 1)) fun n51 =>
J 1 [(0, (AV.s x0)), (3, x3), (4, (AV.i .i64 n51))] h
theorem G_ref26_percent.t2_eq (J : JT) (Q : AV → AHeap → Prop) (x0 : List UInt8) (x3 : AV) (x4 : Int) (h : AHeap) : G_ref26_percent.t2 J Q x0 x3 x4 h = atJ prog C 65 J false [1, 1, 0, 1, 0, 0, 1, 1] G_ref26_percent.ann G_ref26_percent.body [(0, (AV.s x0)), (3, x3), (4, (AV.i .i64 x4))] h (kFun prog Tryd.f25 Q) := by kernel_rfl
theorem G_ref26_percent.i2 {Q : AV → AHeap → Prop} {x0 : List UInt8} {x3 : AV} {x4 : Int} {h : AHeap} (H : G_ref26_percent.t2 (G_ref26_percent.J Q) Q x0 x3 x4 h) : G_ref26_percent.p2 Q x0 x3 x4 h := G_ref26_percent.goR (k := 3) (p := [1, 1, 0, 1, 0, 0, 1, 1]) (by kernel_rfl) ((G_ref26_percent.t2_eq (G_ref26_percent.J Q) Q x0 x3 x4 h).mp H)
def G_ref26_percent.t0 (J : JT) (Q : AV → AHeap → Prop) (x0 : List UInt8) (x3 : AV) (x4 : Int) (h : AHeap) : Prop :=
(bif (decide ((x4 : Int) < (x0.length : Int))) then
(pIdxStr (AV.s x0) (AV.i .i64 x4) fun n8 =>
(bif (decide ((n8 : Int) = 37)) then
(withI (IntKind.wrap .i64 (x4 + 2)) fun n9 =>
(bif (decide ((n9 : Int) < (x0.length : Int))) then
(withI (IntKind.wrap .i64 (x4 + 1)) fun n10 =>
pIdxStr (AV.s x0) (AV.i .i64 n10) fun n11 =>
C G_ref26_digit.id [(AV.i .u8 n11)] h fun v12 h13 =>
asI .i64 v12 fun n14 =>
(bif (decide ((0 : Int) ≤ n14)) then
(withI (IntKind.wrap .i64 (x4 + 2)) fun n15 =>
pIdxStr (AV.s x0) (AV.i .i64 n15) fun n16 =>
C G_ref26_digit.id [(AV.i .u8 n16)] h13 fun v17 h18 =>
asI .i64 v17 fun n19 =>
J 2 [(0, (AV.s x0)), (3, x3), (4, (AV.i .i64 x4)), (38, (AV.b (decide ((0 : Int) ≤ n19))))] h18)
else
(J 2 [(0, (AV.s x0)), (3, x3), (4, (AV.i .i64 x4)), (38, (AV.b false))] h13)))
else
(J 2 [(0, (AV.s x0)), (3, x3), (4, (AV.i .i64 x4)), (38, (AV.b false))] h)))
else
(J 2 [(0, (AV.s x0)), (3, x3), (4, (AV.i .i64 x4)), (38, (AV.b false))] h)))
else
(pBytesStr x3 h fun l53 =>
Q (AV.s l53) h))
theorem G_ref26_percent.t0_eq (J : JT) (Q : AV → AHeap → Prop) (x0 : List UInt8) (x3 : AV) (x4 : Int) (h : AHeap) : G_ref26_percent.t0 J Q x0 x3 x4 h = atJ prog C 65 J true [1, 1, 0, 1, 0] G_ref26_percent.ann G_ref26_percent.body [(0, (AV.s x0)), (3, x3), (4, (AV.i .i64 x4))] h (kFun prog Tryd.f25 Q) := by kernel_rfl
theorem G_ref26_percent.i0 {Q : AV → AHeap → Prop} {x0 : List UInt8} {x3 : AV} {x4 : Int} {h : AHeap} (H : G_ref26_percent.t0 (G_ref26_percent.J Q) Q x0 x3 x4 h) : G_ref26_percent.p0 Q x0 x3 x4 h := G_ref26_percent.goH (k := 1) (p := [1, 1, 0, 1, 0]) (by kernel_rfl) ((G_ref26_percent.t0_eq (G_ref26_percent.J Q) Q x0 x3 x4 h).mp H)
def G_ref26_percent.t (J : JT) (Q : AV → AHeap → Prop) (x0 : List UInt8) (h : AHeap) : Prop :=
pBuildSl 1 0 [] [] h fun v1 h2 =>
J 1 [(0, (AV.s x0)), (3, v1), (4, (AV.i .i64 0))] h2
theorem G_ref26_percent.t_eq (J : JT) (Q : AV → AHeap → Prop) (x0 : List UInt8) (h : AHeap) : G_ref26_percent.t J Q x0 h = exJ prog C 65 J G_ref26_percent.ann G_ref26_percent.body (initEnv 0 [(AV.s x0)]) h (kFun prog Tryd.f25 Q) := by kernel_rfl
theorem G_ref26_percent.call {K : AV → AHeap → Prop} {x0 : List UInt8} {h : AHeap} (H : G_ref26_percent.t (G_ref26_percent.J (kRet h K)) (kRet h K) x0 h) : C G_ref26_percent.id [(AV.s x0)] h K :=
  callJ (P := prog) (fn := Tryd.f25) (ann := G_ref26_percent.ann) (body := G_ref26_percent.body) Tryd.func25 G_ref26_percent.body_eq (by kernel_rfl) G_ref26_percent.dist (by kernel_rfl) ((G_ref26_percent.t_eq (G_ref26_percent.J (kRet h K)) (kRet h K) x0 h).mp H)

--@@ G_ref26_base64
/-! ### 26: intrusion/intrusionref26.base64 -/
noncomputable def G_ref26_base64.body : Code := (Tryd.f26.body).getD .skip
def G_ref26_base64.ann : Ann := (.seq 0 [0] .leaf (.seq 0 [0, 3] .leaf (.seq 0 [0, 3, 4, 5] .leaf (.seq 0 [3] (.seq 0 [0, 3, 4, 5, 6] .leaf (.one (.loop 1 [0, 3, 4, 5, 6] (.seq 0 [0, 3, 4, 5, 6] (.seq 2 [0, 3, 4, 5, 6, 19] .leaf (.br .leaf .leaf)) (.seq 5 [0, 3, 4, 5, 6] (.one (.seq 0 [0, 3, 4, 5, 6, 7] .leaf (.seq 0 [0, 3, 4, 5, 6, 7] (.seq 0 [0, 3, 4, 5, 6, 7, 8] .leaf (.one (.loop 3 [0, 3, 4, 5, 6, 7, 8] (.seq 0 [0, 3, 4, 5, 6, 7, 8] (.seq 0 [0, 3, 4, 5, 6, 7, 8, 23] .leaf (.br .leaf .leaf)) (.seq 4 [0, 3, 4, 5, 6, 7, 8] (.one (.seq 0 [0, 3, 4, 5, 6, 7, 8, 31] (.ord (.neu 0 (.neu 1 (.neu 2 (.neu 3 (.neu 4 (.neu 5 .done))))))) (.br .leaf .leaf))) .leaf))))) (.seq 0 [0, 3, 4, 5, 6, 7] (.seq 0 [0, 3, 4, 5, 6, 7, 34] .leaf (.br .leaf .leaf)) (.seq 0 [0, 3, 4, 5, 6] .leaf (.seq 0 [0, 3, 4, 5, 6] .leaf (.seq 0 [0, 3, 4, 5, 6, 42] .leaf (.br (.seq 0 [0, 3, 4, 5, 6] .leaf (.seq 0 [0, 3, 4, 5, 6] .leaf .leaf)) .leaf)))))))) .leaf))))) (.seq 0 [2] .leaf .leaf)))))
theorem G_ref26_base64.body_eq : Tryd.f26.body = some G_ref26_base64.body := by kernel_rfl
theorem G_ref26_base64.dist : noTwice (places G_ref26_base64.ann G_ref26_base64.body) = true := by kernel_rfl
noncomputable def G_ref26_base64.J (Q : AV → AHeap → Prop) : JT := funJ prog C Tryd.f26 G_ref26_base64.ann G_ref26_base64.body Q
theorem G_ref26_base64.goR {Q : AV → AHeap → Prop} {k : Nat} {p : List Nat} (hl : lookJ (places G_ref26_base64.ann G_ref26_base64.body) k = some (p, false)) {e : Env} {h : AHeap} (hk : atJ prog C 58 (G_ref26_base64.J Q) false p G_ref26_base64.ann G_ref26_base64.body e h (kFun prog Tryd.f26 Q)) : G_ref26_base64.J Q k e h := goJ_run (P := prog) (fn := Tryd.f26) (ann := G_ref26_base64.ann) (body := G_ref26_base64.body) (Q := Q) (k := k) (p := p) (e := e) (h := h) (acall_le X) G_ref26_base64.dist hl hk
theorem G_ref26_base64.goH {Q : AV → AHeap → Prop} {k : Nat} {p : List Nat} (hl : lookJ (places G_ref26_base64.ann G_ref26_base64.body) k = some (p, true)) {e : Env} {h : AHeap} (hk : atJ prog C 58 (G_ref26_base64.J Q) true p G_ref26_base64.ann G_ref26_base64.body e h (kFun prog Tryd.f26 Q)) : G_ref26_base64.J Q k e h := goJ_head (P := prog) (fn := Tryd.f26) (ann := G_ref26_base64.ann) (body := G_ref26_base64.body) (Q := Q) (k := k) (p := p) (e := e) (h := h) (acall_le X) G_ref26_base64.dist hl hk
def G_ref26_base64.p1 (Q : AV → AHeap → Prop) (x0 : List UInt8) (x3 : AV) (x4 : Int) (x5 : Int) (x6 : Int) (x19 : Bool) (h : AHeap) : Prop := G_ref26_base64.J Q 2 [(0, (AV.s x0)), (3, x3), (4, (AV.i .i64 x4)), (5, (AV.i .i64 x5)), (6, (AV.i .i64 x6)), (19, (AV.b x19))] h
theorem G_ref26_base64.j1 (Q : AV → AHeap → Prop) (x0 : List UInt8) (x3 : AV) (x4 : Int) (x5 : Int) (x6 : Int) (x19 : Bool) (h : AHeap) : G_ref26_base64.J Q 2 [(0, (AV.s x0)), (3, x3), (4, (AV.i .i64 x4)), (5, (AV.i .i64 x5)), (6, (AV.i .i64 x6)), (19, (AV.b x19))] h = G_ref26_base64.p1 Q x0 x3 x4 x5 x6 x19 h := rfl
def G_ref26_base64.p3 (Q : AV → AHeap → Prop) (x0 : List UInt8) (x3 : AV) (x4 : Int) (x5 : Int) (x6 : Int) (x7 : Int) (x8 : Int) (h : AHeap) : Prop := G_ref26_base64.J Q 4 [(0, (AV.s x0)), (3, x3), (4, (AV.i .i64 x4)), (5, (AV.i .i64 x5)), (6, (AV.i .i64 x6)), (7, (AV.i .i64 x7)), (8, (AV.i .i64 x8))] h
theorem G_ref26_base64.j3 (Q : AV → AHeap → Prop) (x0 : List UInt8) (x3 : AV) (x4 : Int) (x5 : Int) (x6 : Int) (x7 : Int) (x8 : Int) (h : AHeap) : G_ref26_base64.J Q 4 [(0, (AV.s x0)), (3, x3), (4, (AV.i .i64 x4)), (5, (AV.i .i64 x5)), (6, (AV.i .i64 x6)), (7, (AV.i .i64 x7)), (8, (AV.i .i64 x8))] h = G_ref26_base64.p3 Q x0 x3 x4 x5 x6 x7 x8 h := rfl
def G_ref26_base64.p2 (Q : AV → AHeap → Prop) (x0 : List UInt8) (x3 : AV) (x4 : Int) (x5 : Int) (x6 : Int) (x7 : Int) (x8 : Int) (h : AHeap) : Prop := G_ref26_base64.J Q 3 [(0, (AV.s x0)), (3, x3), (4, (AV.i .i64 x4)), (5, (AV.i .i64 x5)), (6, (AV.i .i64 x6)), (7, (AV.i .i64 x7)), (8, (AV.i .i64 x8))] h
theorem G_ref26_base64.j2 (Q : AV → AHeap → Prop) (x0 : List UInt8) (x3 : AV) (x4 : Int) (x5 : Int) (x6 : Int) (x7 : Int) (x8 : Int) (h : AHeap) : G_ref26_base64.J Q 3 [(0, (AV.s x0)), (3, x3), (4, (AV.i .i64 x4)), (5, (AV.i .i64 x5)), (6, (AV.i .i64 x6)), (7, (AV.i .i64 x7)), (8, (AV.i .i64 x8))] h = G_ref26_base64.p2 Q x0 x3 x4 x5 x6 x7 x8 h := rfl
def G_ref26_base64.p4 (Q : AV → AHeap → Prop) (x0 : List UInt8) (x3 : AV) (x4 : Int) (x5 : Int) (x6 : Int) (h : AHeap) : Prop := G_ref26_base64.J Q 5 [(0, (AV.s x0)), (3, x3), (4, (AV.i .i64 x4)), (5, (AV.i .i64 x5)), (6, (AV.i .i64 x6))] h
theorem G_ref26_base64.j4 (Q : AV → AHeap → Prop) (x0 : List UInt8) (x3 : AV) (x4 : Int) (x5 : Int) (x6 : Int) (h : AHeap) : G_ref26_base64.J Q 5 [(0, (AV.s x0)), (3, x3), (4, (AV.i .i64 x4)), (5, (AV.i .i64 x5)), (6, (AV.i .i64 x6))] h = G_ref26_base64.p4 Q x0 x3 x4 x5 x6 h := rfl
def G_ref26_base64.p0 (Q : AV → AHeap → Prop) (x0 : List UInt8) (x3 : AV) (x4 : Int) (x5 : Int) (x6 : Int) (h : AHeap) : Prop := G_ref26_base64.J Q 1 [(0, (AV.s x0)), (3, x3), (4, (AV.i .i64 x4)), (5, (AV.i .i64 x5)), (6, (AV.i .i64 x6))] h
theorem G_ref26_base64.j0 (Q : AV → AHeap → Prop) (x0 : List UInt8) (x3 : AV) (x4 : Int) (x5 : Int) (x6 : Int) (h : AHeap) : G_ref26_base64.J Q 1 [(0, (AV.s x0)), (3, x3), (4, (AV.i .i64 x4)), (5, (AV.i .i64 x5)), (6, (AV.i .i64 x6))] h = G_ref26_base64.p0 Q x0 x3 x4 x5 x6 h := rfl
def G_ref26_base64.t1 (J : JT) (Q : AV → AHeap → Prop) (x0 : List UInt8) (x3 : AV) (x4 : Int) (x5 : Int) (x6 : Int) (x19 : Bool) (h : AHeap) : Prop :=
(bif x19 then
(J 3 [(0, (AV.s x0)), (3, x3), (4, (AV.i .i64 x4)), (5, (AV.i .i64 x5)), (6, (AV.i .i64 x6)), (7, (AV.i .i64 (-1))), (8, (AV.i .i64 0))] h)
else
(pBytesStr x3 h fun l46 =>
Q (AV.s l46) h))
theorem G_ref26_base64.t1_eq (J : JT) (Q : AV → AHeap → Prop) (x0 : List UInt8) (x3 : AV) (x4 : Int) (x5 : Int) (x6 : Int) (x19 : Bool) (h : AHeap) : G_ref26_base64.t1 J Q x0 x3 x4 x5 x6 x19 h = atJ prog C 58 J false [1, 1, 1, 0, 1, 0, 0, 0, 1] G_ref26_base64.ann G_ref26_base64.body [(0, (AV.s x0)), (3, x3), (4, (AV.i .i64 x4)), (5, (AV.i .i64 x5)), (6, (AV.i .i64 x6)), (19, (AV.b x19))] h (kFun prog Tryd.f26 Q) := by kernel_rfl
theorem G_ref26_base64.i1 {Q : AV → AHeap → Prop} {x0 : List UInt8} {x3 : AV} {x4 : Int} {x5 : Int} {x6 : Int} {x19 : Bool} {h : AHeap} (H : G_ref26_base64.t1 (G_ref26_base64.J Q) Q x0 x3 x4 x5 x6 x19 h) : G_ref26_base64.p1 Q x0 x3 x4 x5 x6 x19 h := G_ref26_base64.goR (k := 2) (p := [1, 1, 1, 0, 1, 0, 0, 0, 1]) (by kernel_rfl) ((G_ref26_base64.t1_eq (G_ref26_base64.J Q) Q x0 x3 x4 x5 x6 x19 h).mp H)
def G_ref26_base64.t3 (J : JT) (Q : AV → AHeap → Prop) (x0 : List UInt8) (x3 : AV) (x4 : Int) (x5 : Int) (x6 : Int) (x7 : Int) (x8 : Int) (h : AHeap) : Prop :=
withI (IntKind.wrap .i64 (x8 + 1)) fun n21 =>
J 3 [(0, (AV.s x0)), (3, x3), (4, (AV.i .i64 x4)), (5, (AV.i .i64 x5)), (6, (AV.i .i64 x6)), (7, (AV.i .i64 x7)), (8, (AV.i .i64 n21))] h
theorem G_ref26_base64.t3_eq (J : JT) (Q : AV → AHeap → Prop) (x0 : List UInt8) (x3 : AV) (x4 : Int) (x5 : Int) (x6 : Int) (x7 : Int) (x8 : Int) (h : AHeap) : G_ref26_base64.t3 J Q x0 x3 x4 x5 x6 x7 x8 h = atJ prog C 58 J false [1, 1, 1, 0, 1, 0, 0, 1, 0, 0, 1, 0, 1, 0, 0, 1, 1] G_ref26_base64.ann G_ref26_base64.body [(0, (AV.s x0)), (3, x3), (4, (AV.i .i64 x4)), (5, (AV.i .i64 x5)), (6, (AV.i .i64 x6)), (7, (AV.i .i64 x7)), (8, (AV.i .i64 x8))] h (kFun prog Tryd.f26 Q) := by kernel_rfl
theorem G_ref26_base64.i3 {Q : AV → AHeap → Prop} {x0 : List UInt8} {x3 : AV} {x4 : Int} {x5 : Int} {x6 : Int} {x7 : Int} {x8 : Int} {h : AHeap} (H : G_ref26_base64.t3 (G_ref26_base64.J Q) Q x0 x3 x4 x5 x6 x7 x8 h) : G_ref26_base64.p3 Q x0 x3 x4 x5 x6 x7 x8 h := G_ref26_base64.goR (k := 4) (p := [1, 1, 1, 0, 1, 0, 0, 1, 0, 0, 1, 0, 1, 0, 0, 1, 1]) (by kernel_rfl) ((G_ref26_base64.t3_eq (G_ref26_base64.J Q) Q x0 x3 x4 x5 x6 x7 x8 h).mp H)
def G_ref26_base64.t2 (J : JT) (Q : AV → AHeap → Prop) (x0 : List UInt8) (x3 : AV) (x4 : Int) (x5 : Int) (x6 : Int) (x7 : Int) (x8 : Int) (h : AHeap) : Prop :=
(bif (decide ((x8 : Int) < 64)) then
(pIdxStr (AV.s [65, 66, 67, 68, 69, 70, 71, 72, 73, 74, 75, 76, 77, 78, 79, 80, 81, 82, 83, 84, 85, 86, 87, 88, 89, 90, 97, 98, 99, 100, 101, 102, 103, 104, 105, 106, 107, 108, 109, 110, 111, 112, 113, 114, 115, 116, 117, 118, 119, 120, 121, 122, 48, 49, 50, 51, 52, 53, 54, 55, 56, 57, 43, 47]) (AV.i .i64 x8) fun n16 =>
pIdxStr (AV.s x0) (AV.i .i64 x6) fun n17 =>
(bif (decide ((n16 : Int) = n17)) then
(J 4 [(0, (AV.s x0)), (3, x3), (4, (AV.i .i64 x4)), (5, (AV.i .i64 x5)), (6, (AV.i .i64 x6)), (7, (AV.i .i64 x8)), (8, (AV.i .i64 x8))] h)
else
(J 4 [(0, (AV.s x0)), (3, x3), (4, (AV.i .i64 x4)), (5, (AV.i .i64 x5)), (6, (AV.i .i64 x6)), (7, (AV.i .i64 x7)), (8, (AV.i .i64 x8))] h)))
else
((bif (decide ((x7 : Int) < 0)) then
(J 5 [(0, (AV.s x0)), (3, x3), (4, (AV.i .i64 x4)), (5, (AV.i .i64 x5)), (6, (AV.i .i64 x6))] h)
else
(withI (IntKind.wrap .i64 (x4 * 64)) fun n26 =>
withI (IntKind.wrap .i64 (n26 + x7)) fun n27 =>
withI (IntKind.wrap .i64 (x5 + 6)) fun n29 =>
(bif (decide ((8 : Int) ≤ n29)) then
(withI (IntKind.wrap .i64 (n29 - 8)) fun n32 =>
pShr .i64 n27 n32 fun n34 =>
pBuildSl 1 1 [(AV.i .u8 0)] [(0, 1, (AV.i .u8 (IntKind.wrap .u8 n34)))] h fun v35 h36 =>
pAppend 1 1 x3 v35 h36 fun v37 h38 =>
pShl .i64 1 n32 fun n40 =>
pRem n27 n40 fun n41 =>
J 5 [(0, (AV.s x0)), (3, v37), (4, (AV.i .i64 n41)), (5, (AV.i .i64 n32)), (6, (AV.i .i64 x6))] h38)
else
(J 5 [(0, (AV.s x0)), (3, x3), (4, (AV.i .i64 n27)), (5, (AV.i .i64 n29)), (6, (AV.i .i64 x6))] h))))))
theorem G_ref26_base64.t2_eq (J : JT) (Q : AV → AHeap → Prop) (x0 : List UInt8) (x3 : AV) (x4 : Int) (x5 : Int) (x6 : Int) (x7 : Int) (x8 : Int) (h : AHeap) : G_ref26_base64.t2 J Q x0 x3 x4 x5 x6 x7 x8 h = atJ prog C 58 J true [1, 1, 1, 0, 1, 0, 0, 1, 0, 0, 1, 0, 1, 0] G_ref26_base64.ann G_ref26_base64.body [(0, (AV.s x0)), (3, x3), (4, (AV.i .i64 x4)), (5, (AV.i .i64 x5)), (6, (AV.i .i64 x6)), (7, (AV.i .i64 x7)), (8, (AV.i .i64 x8))] h (kFun prog Tryd.f26 Q) := by kernel_rfl
theorem G_ref26_base64.i2 {Q : AV → AHeap → Prop} {x0 : List UInt8} {x3 : AV} {x4 : Int} {x5 : Int} {x6 : Int} {x7 : Int} {x8 : Int} {h : AHeap} (H : G_ref26_base64.t2 (G_ref26_base64.J Q) Q x0 x3 x4 x5 x6 x7 x8 h) : G_ref26_base64.p2 Q x0 x3 x4 x5 x6 x7 x8 h := G_ref26_base64.goH (k := 3) (p := [1, 1, 1, 0, 1, 0, 0, 1, 0, 0, 1, 0, 1, 0]) (by kernel_rfl) ((G_ref26_base64.t2_eq (G_ref26_base64.J Q) Q x0 x3 x4 x5 x6 x7 x8 h).mp H)
def G_ref26_base64.t4 (J : JT) (Q : AV → AHeap → Prop) (x0 : List UInt8) (x3 : AV) (x4 : Int) (x5 : Int) (x6 : Int) (h : AHeap) : Prop :=
withI (IntKind.wrap .i64 (x6 + 1)) fun n44 =>
J 1 [(0, (AV.s x0)), (3, x3), (4, (AV.i .i64 x4)), (5, (AV.i .i64 x5)), (6, (AV.i .i64 n44))] h
theorem G_ref26_base64.t4_eq (J : JT) (Q : AV → AHeap → Prop) (x0 : List UInt8) (x3 : AV) (x4 : Int) (x5 : Int) (x6 : Int) (h : AHeap) : G_ref26_base64.t4 J Q x0 x3 x4 x5 x6 h = atJ prog C 58 J false [1, 1, 1, 0, 1, 0, 0, 1, 1] G_ref26_base64.ann G_ref26_base64.body [(0, (AV.s x0)), (3, x3), (4, (AV.i .i64 x4)), (5, (AV.i .i64 x5)), (6, (AV.i .i64 x6))] h (kFun prog Tryd.f26 Q) := by kernel_rfl
theorem G_ref26_base64.i4 {Q : AV → AHeap → Prop} {x0 : List UInt8} {x3 : AV} {x4 : Int} {x5 : Int} {x6 : Int} {h : AHeap} (H : G_ref26_base64.t4 (G_ref26_base64.J Q) Q x0 x3 x4 x5 x6 h) : G_ref26_base64.p4 Q x0 x3 x4 x5 x6 h := G_ref26_base64.goR (k := 5) (p := [1, 1, 1, 0, 1, 0, 0, 1, 1]) (by kernel_rfl) ((G_ref26_base64.t4_eq (G_ref26_base64.J Q) Q x0 x3 x4 x5 x6 h).mp H)
def G_ref26_base64.t0 (J : JT) (Q : AV → AHeap → Prop) (x0 : List UInt8) (x3 : AV) (x4 : Int) (x5 : Int) (x6 : Int) (h : AHeap) : Prop :=
(bif (decide ((x6 : Int) < (x0.length : Int))) then
(pIdxStr (AV.s x0) (AV.i .i64 x6) fun n6 =>
J 2 [(0, (AV.s x0)), (3, x3), (4, (AV.i .i64 x4)), (5, (AV.i .i64 x5)), (6, (AV.i .i64 x6)), (19, (AV.b (!decide ((n6 : Int) = 61))))] h)
else
(J 2 [(0, (AV.s x0)), (3, x3), (4, (AV.i .i64 x4)), (5, (AV.i .i64 x5)), (6, (AV.i .i64 x6)), (19, (AV.b false))] h))
theorem G_ref26_base64.t0_eq (J : JT) (Q : AV → AHeap → Prop) (x0 : List UInt8) (x3 : AV) (x4 : Int) (x5 : Int) (x6 : Int) (h : AHeap) : G_ref26_base64.t0 J Q x0 x3 x4 x5 x6 h = atJ prog C 58 J true [1, 1, 1, 0, 1, 0] G_ref26_base64.ann G_ref26_base64.body [(0, (AV.s x0)), (3, x3), (4, (AV.i .i64 x4)), (5, (AV.i .i64 x5)), (6, (AV.i .i64 x6))] h (kFun prog Tryd.f26 Q) := by kernel_rfl
theorem G_ref26_base64.i0 {Q : AV → AHeap → Prop} {x0 : List UInt8} {x3 : AV} {x4 : Int} {x5 : Int} {x6 : Int} {h : AHeap} (H : G_ref26_base64.t0 (G_ref26_base64.J Q) Q x0 x3 x4 x5 x6 h) : G_ref26_base64.p0 Q x0 x3 x4 x5 x6 h := G_ref26_base64.goH (k := 1) (p := [1, 1, 1, 0, 1, 0]) (by kernel_rfl) ((G_ref26_base64.t0_eq (G_ref26_base64.J Q) Q x0 x3 x4 x5 x6 h).mp H)
def G_ref26_base64.t (J : JT) (Q : AV → AHeap → Prop) (x0 : List UInt8) (h : AHeap) : Prop :=
pBuildSl 1 0 [] [] h fun v1 h2 =>
J 1 [(0, (AV.s x0)), (3, v1), (4, (AV.i .i64 0)), (5, (AV.i .i64 0)), (6, (AV.i .i64 0))] h2
theorem G_ref26_base64.t_eq (J : JT) (Q : AV → AHeap → Prop) (x0 : List UInt8) (h : AHeap) : G_ref26_base64.t J Q x0 h = exJ prog C 58 J G_ref26_base64.ann G_ref26_base64.body (initEnv 0 [(AV.s x0)]) h (kFun prog Tryd.f26 Q) := by kernel_rfl
theorem G_ref26_base64.call {K : AV → AHeap → Prop} {x0 : List UInt8} {h : AHeap} (H : G_ref26_base64.t (G_ref26_base64.J (kRet h K)) (kRet h K) x0 h) : C G_ref26_base64.id [(AV.s x0)] h K :=
  callJ (P := prog) (fn := Tryd.f26) (ann := G_ref26_base64.ann) (body := G_ref26_base64.body) Tryd.func26 G_ref26_base64.body_eq (by kernel_rfl) G_ref26_base64.dist (by kernel_rfl) ((G_ref26_base64.t_eq (G_ref26_base64.J (kRet h K)) (kRet h K) x0 h).mp H)

--@@ G_ref26_path
/-! ### 27: intrusion/intrusionref26.path -/
noncomputable def G_ref26_path.body : Code := (Tryd.f27.body).getD .skip
def G_ref26_path.ann : Ann := (.seq 0 [0] .leaf (.seq 0 [0, 3] .leaf (.seq 0 [0, 3] (.seq 0 [0, 3, 4] .leaf (.one (.loop 1 [0, 3, 4] (.seq 0 [0, 3, 4] (.seq 0 [0, 3, 4, 17] .leaf (.br .leaf .leaf)) (.seq 2 [0, 3, 4] (.one (.seq 0 [0, 3, 4, 23] .leaf (.br .leaf .leaf))) .leaf))))) (.seq 0 [0, 3, 5] .leaf (.seq 0 [0, 3, 5, 6] .leaf (.seq 0 [0, 3, 5, 6] (.seq 0 [0, 3, 5, 6, 7] .leaf (.one (.loop 3 [0, 3, 5, 6, 7] (.seq 0 [0, 3, 5, 6, 7] (.seq 0 [0, 3, 5, 6, 7, 33] .leaf (.br .leaf .leaf)) (.seq 7 [0, 3, 5, 6, 7] (.one (.seq 5 [0, 3, 5, 6, 7] (.seq 4 [0, 3, 5, 6, 7, 45] .leaf (.br .leaf .leaf)) (.seq 6 [0, 3, 5, 6, 7, 69] .leaf (.br .leaf .leaf)))) .leaf))))) (.seq 0 [0, 3, 5, 6, 8] .leaf (.seq 0 [0, 3, 5, 8] (.seq 0 [0, 3, 5, 6, 8, 9] .leaf (.one (.loop 8 [0, 3, 5, 6, 8, 9] (.seq 0 [0, 3, 5, 6, 8, 9] (.seq 0 [0, 3, 5, 6, 8, 9, 80] .leaf (.br .leaf .leaf)) (.seq 0 [0, 3, 5, 6, 8, 9] (.one (.seq 10 [0, 3, 5, 6, 8, 9] (.seq 9 [0, 3, 5, 6, 8, 9, 89] .leaf (.br .leaf .leaf)) .leaf)) .leaf))))) (.seq 0 [0, 3, 8, 10] .leaf (.seq 12 [0, 3, 8] (.seq 11 [0, 3, 8, 117] .leaf (.br .leaf .leaf)) (.seq 0 [2] .leaf .leaf)))))))))))
theorem G_ref26_path.body_eq : Tryd.f27.body = some G_ref26_path.body := by kernel_rfl
theorem G_ref26_path.dist : noTwice (places G_ref26_path.ann G_ref26_path.body) = true := by kernel_rfl
noncomputable def G_ref26_path.J (Q : AV → AHeap → Prop) : JT := funJ prog C Tryd.f27 G_ref26_path.ann G_ref26_path.body Q
theorem G_ref26_path.goR {Q : AV → AHeap → Prop} {k : Nat} {p : List Nat} (hl : lookJ (places G_ref26_path.ann G_ref26_path.body) k = some (p, false)) {e : Env} {h : AHeap} (hk : atJ prog C 125 (G_ref26_path.J Q) false p G_ref26_path.ann G_ref26_path.body e h (kFun prog Tryd.f27 Q)) : G_ref26_path.J Q k e h := goJ_run (P := prog) (fn := Tryd.f27) (ann := G_ref26_path.ann) (body := G_ref26_path.body) (Q := Q) (k := k) (p := p) (e := e) (h := h) (acall_le X) G_ref26_path.dist hl hk
theorem G_ref26_path.goH {Q : AV → AHeap → Prop} {k : Nat} {p : List Nat} (hl : lookJ (places G_ref26_path.ann G_ref26_path.body) k = some (p, true)) {e : Env} {h : AHeap} (hk : atJ prog C 125 (G_ref26_path.J Q) true p G_ref26_path.ann G_ref26_path.body e h (kFun prog Tryd.f27 Q)) : G_ref26_path.J Q k e h := goJ_head (P := prog) (fn := Tryd.f27) (ann := G_ref26_path.ann) (body := G_ref26_path.body) (Q := Q) (k := k) (p := p) (e := e) (h := h) (acall_le X) G_ref26_path.dist hl hk
def G_ref26_path.p1 (Q : AV → AHeap → Prop) (x0 : List UInt8) (x3 : Int) (x4 : Int) (h : AHeap) : Prop := G_ref26_path.J Q 2 [(0, (AV.s x0)), (3, (AV.i .i64 x3)), (4, (AV.i .i64 x4))] h
theorem G_ref26_path.j1 (Q : AV → AHeap → Prop) (x0 : List UInt8) (x3 : Int) (x4 : Int) (h : AHeap) : G_ref26_path.J Q 2 [(0, (AV.s x0)), (3, (AV.i .i64 x3)), (4, (AV.i .i64 x4))] h = G_ref26_path.p1 Q x0 x3 x4 h := rfl
def G_ref26_path.p0 (Q : AV → AHeap → Prop) (x0 : List UInt8) (x3 : Int) (x4 : Int) (h : AHeap) : Prop := G_ref26_path.J Q 1 [(0, (AV.s x0)), (3, (AV.i .i64 x3)), (4, (AV.i .i64 x4))] h
theorem G_ref26_path.j0 (Q : AV → AHeap → Prop) (x0 : List UInt8) (x3 : Int) (x4 : Int) (h : AHeap) : G_ref26_path.J Q 1 [(0, (AV.s x0)), (3, (AV.i .i64 x3)), (4, (AV.i .i64 x4))] h = G_ref26_path.p0 Q x0 x3 x4 h := rfl
def G_ref26_path.p3 (Q : AV → AHeap → Prop) (x0 : List UInt8) (x3 : Int) (x5 : AV) (x6 : AV) (x7 : Int) (x45 : Bool) (h : AHeap) : Prop := G_ref26_path.J Q 4 [(0, (AV.s x0)), (3, (AV.i .i64 x3)), (5, x5), (6, x6), (7, (AV.i .i64 x7)), (45, (AV.b x45))] h
theorem G_ref26_path.j3 (Q : AV → AHeap → Prop) (x0 : List UInt8) (x3 : Int) (x5 : AV) (x6 : AV) (x7 : Int) (x45 : Bool) (h : AHeap) : G_ref26_path.J Q 4 [(0, (AV.s x0)), (3, (AV.i .i64 x3)), (5, x5), (6, x6), (7, (AV.i .i64 x7)), (45, (AV.b x45))] h = G_ref26_path.p3 Q x0 x3 x5 x6 x7 x45 h := rfl
def G_ref26_path.p5 (Q : AV → AHeap → Prop) (x0 : List UInt8) (x3 : Int) (x5 : AV) (x6 : AV) (x7 : Int) (x69 : Bool) (h : AHeap) : Prop := G_ref26_path.J Q 6 [(0, (AV.s x0)), (3, (AV.i .i64 x3)), (5, x5), (6, x6), (7, (AV.i .i64 x7)), (69, (AV.b x69))] h
theorem G_ref26_path.j5 (Q : AV → AHeap → Prop) (x0 : List UInt8) (x3 : Int) (x5 : AV) (x6 : AV) (x7 : Int) (x69 : Bool) (h : AHeap) : G_ref26_path.J Q 6 [(0, (AV.s x0)), (3, (AV.i .i64 x3)), (5, x5), (6, x6), (7, (AV.i .i64 x7)), (69, (AV.b x69))] h = G_ref26_path.p5 Q x0 x3 x5 x6 x7 x69 h := rfl
def G_ref26_path.p4 (Q : AV → AHeap → Prop) (x0 : List UInt8) (x3 : Int) (x5 : AV) (x6 : AV) (x7 : Int) (h : AHeap) : Prop := G_ref26_path.J Q 5 [(0, (AV.s x0)), (3, (AV.i .i64 x3)), (5, x5), (6, x6), (7, (AV.i .i64 x7))] h
theorem G_ref26_path.j4 (Q : AV → AHeap → Prop) (x0 : List UInt8) (x3 : Int) (x5 : AV) (x6 : AV) (x7 : Int) (h : AHeap) : G_ref26_path.J Q 5 [(0, (AV.s x0)), (3, (AV.i .i64 x3)), (5, x5), (6, x6), (7, (AV.i .i64 x7))] h = G_ref26_path.p4 Q x0 x3 x5 x6 x7 h := rfl
def G_ref26_path.p6 (Q : AV → AHeap → Prop) (x0 : List UInt8) (x3 : Int) (x5 : AV) (x6 : AV) (x7 : Int) (h : AHeap) : Prop := G_ref26_path.J Q 7 [(0, (AV.s x0)), (3, (AV.i .i64 x3)), (5, x5), (6, x6), (7, (AV.i .i64 x7))] h
theorem G_ref26_path.j6 (Q : AV → AHeap → Prop) (x0 : List UInt8) (x3 : Int) (x5 : AV) (x6 : AV) (x7 : Int) (h : AHeap) : G_ref26_path.J Q 7 [(0, (AV.s x0)), (3, (AV.i .i64 x3)), (5, x5), (6, x6), (7, (AV.i .i64 x7))] h = G_ref26_path.p6 Q x0 x3 x5 x6 x7 h := rfl
def G_ref26_path.p2 (Q : AV → AHeap → Prop) (x0 : List UInt8) (x3 : Int) (x5 : AV) (x6 : AV) (x7 : Int) (h : AHeap) : Prop := G_ref26_path.J Q 3 [(0, (AV.s x0)), (3, (AV.i .i64 x3)), (5, x5), (6, x6), (7, (AV.i .i64 x7))] h
theorem G_ref26_path.j2 (Q : AV → AHeap → Prop) (x0 : List UInt8) (x3 : Int) (x5 : AV) (x6 : AV) (x7 : Int) (h : AHeap) : G_ref26_path.J Q 3 [(0, (AV.s x0)), (3, (AV.i .i64 x3)), (5, x5), (6, x6), (7, (AV.i .i64 x7))] h = G_ref26_path.p2 Q x0 x3 x5 x6 x7 h := rfl
def G_ref26_path.p8 (Q : AV → AHeap → Prop) (x0 : List UInt8) (x3 : Int) (x5 : AV) (x6 : AV) (x8 : List UInt8) (x9 : Int) (x89 : Bool) (h : AHeap) : Prop := G_ref26_path.J Q 9 [(0, (AV.s x0)), (3, (AV.i .i64 x3)), (5, x5), (6, x6), (8, (AV.s x8)), (9, (AV.i .i64 x9)), (89, (AV.b x89))] h
theorem G_ref26_path.j8 (Q : AV → AHeap → Prop) (x0 : List UInt8) (x3 : Int) (x5 : AV) (x6 : AV) (x8 : List UInt8) (x9 : Int) (x89 : Bool) (h : AHeap) : G_ref26_path.J Q 9 [(0, (AV.s x0)), (3, (AV.i .i64 x3)), (5, x5), (6, x6), (8, (AV.s x8)), (9, (AV.i .i64 x9)), (89, (AV.b x89))] h = G_ref26_path.p8 Q x0 x3 x5 x6 x8 x9 x89 h := rfl
def G_ref26_path.p9 (Q : AV → AHeap → Prop) (x0 : List UInt8) (x3 : Int) (x5 : AV) (x6 : AV) (x8 : List UInt8) (x9 : Int) (h : AHeap) : Prop := G_ref26_path.J Q 10 [(0, (AV.s x0)), (3, (AV.i .i64 x3)), (5, x5), (6, x6), (8, (AV.s x8)), (9, (AV.i .i64 x9))] h
theorem G_ref26_path.j9 (Q : AV → AHeap → Prop) (x0 : List UInt8) (x3 : Int) (x5 : AV) (x6 : AV) (x8 : List UInt8) (x9 : Int) (h : AHeap) : G_ref26_path.J Q 10 [(0, (AV.s x0)), (3, (AV.i .i64 x3)), (5, x5), (6, x6), (8, (AV.s x8)), (9, (AV.i .i64 x9))] h = G_ref26_path.p9 Q x0 x3 x5 x6 x8 x9 h := rfl
def G_ref26_path.p7 (Q : AV → AHeap → Prop) (x0 : List UInt8) (x3 : Int) (x5 : AV) (x6 : AV) (x8 : List UInt8) (x9 : Int) (h : AHeap) : Prop := G_ref26_path.J Q 8 [(0, (AV.s x0)), (3, (AV.i .i64 x3)), (5, x5), (6, x6), (8, (AV.s x8)), (9, (AV.i .i64 x9))] h
theorem G_ref26_path.j7 (Q : AV → AHeap → Prop) (x0 : List UInt8) (x3 : Int) (x5 : AV) (x6 : AV) (x8 : List UInt8) (x9 : Int) (h : AHeap) : G_ref26_path.J Q 8 [(0, (AV.s x0)), (3, (AV.i .i64 x3)), (5, x5), (6, x6), (8, (AV.s x8)), (9, (AV.i .i64 x9))] h = G_ref26_path.p7 Q x0 x3 x5 x6 x8 x9 h := rfl
def G_ref26_path.p10 (Q : AV → AHeap → Prop) (x0 : List UInt8) (x3 : Int) (x8 : List UInt8) (x117 : Bool) (h : AHeap) : Prop := G_ref26_path.J Q 11 [(0, (AV.s x0)), (3, (AV.i .i64 x3)), (8, (AV.s x8)), (117, (AV.b x117))] h
theorem G_ref26_path.j10 (Q : AV → AHeap → Prop) (x0 : List UInt8) (x3 : Int) (x8 : List UInt8) (x117 : Bool) (h : AHeap) : G_ref26_path.J Q 11 [(0, (AV.s x0)), (3, (AV.i .i64 x3)), (8, (AV.s x8)), (117, (AV.b x117))] h = G_ref26_path.p10 Q x0 x3 x8 x117 h := rfl
def G_ref26_path.p11 (Q : AV → AHeap → Prop) (x0 : List UInt8) (x3 : Int) (x8 : List UInt8) (h : AHeap) : Prop := G_ref26_path.J Q 12 [(0, (AV.s x0)), (3, (AV.i .i64 x3)), (8, (AV.s x8))] h
theorem G_ref26_path.j11 (Q : AV → AHeap → Prop) (x0 : List UInt8) (x3 : Int) (x8 : List UInt8) (h : AHeap) : G_ref26_path.J Q 12 [(0, (AV.s x0)), (3, (AV.i .i64 x3)), (8, (AV.s x8))] h = G_ref26_path.p11 Q x0 x3 x8 h := rfl
def G_ref26_path.t1 (J : JT) (Q : AV → AHeap → Prop) (x0 : List UInt8) (x3 : Int) (x4 : Int) (h : AHeap) : Prop :=
withI (IntKind.wrap .i64 (x4 - 1)) fun n11 =>
J 1 [(0, (AV.s x0)), (3, (AV.i .i64 x3)), (4, (AV.i .i64 n11))] h
theorem G_ref26_path.t1_eq (J : JT) (Q : AV → AHeap → Prop) (x0 : List UInt8) (x3 : Int) (x4 : Int) (h : AHeap) : G_ref26_path.t1 J Q x0 x3 x4 h = atJ prog C 125 J false [1, 1, 0, 1, 0, 0, 1, 1] G_ref26_path.ann G_ref26_path.body [(0, (AV.s x0)), (3, (AV.i .i64 x3)), (4, (AV.i .i64 x4))] h (kFun prog Tryd.f27 Q) := by kernel_rfl
theorem G_ref26_path.i1 {Q : AV → AHeap → Prop} {x0 : List UInt8} {x3 : Int} {x4 : Int} {h : AHeap} (H : G_ref26_path.t1 (G_ref26_path.J Q) Q x0 x3 x4 h) : G_ref26_path.p1 Q x0 x3 x4 h := G_ref26_path.goR (k := 2) (p := [1, 1, 0, 1, 0, 0, 1, 1]) (by kernel_rfl) ((G_ref26_path.t1_eq (G_ref26_path.J Q) Q x0 x3 x4 h).mp H)
def G_ref26_path.t0 (J : JT) (Q : AV → AHeap → Prop) (x0 : List UInt8) (x3 : Int) (x4 : Int) (h : AHeap) : Prop :=
(bif (decide ((0 : Int) ≤ x4)) then
(pIdxStr (AV.s x0) (AV.i .i64 x4) fun n7 =>
(bif (decide ((n7 : Int) = 63)) then
(J 2 [(0, (AV.s x0)), (3, (AV.i .i64 x4)), (4, (AV.i .i64 x4))] h)
else
(J 2 [(0, (AV.s x0)), (3, (AV.i .i64 x3)), (4, (AV.i .i64 x4))] h)))
else
(pSliceStr (AV.s x0) none (some (AV.i .i64 x3)) fun l13 =>
C G_ref26_segments.id [(AV.s l13)] h fun v14 h15 =>
pBuildSl 1 0 [] [] h15 fun v17 h18 =>
J 3 [(0, (AV.s x0)), (3, (AV.i .i64 x3)), (5, v14), (6, v17), (7, (AV.i .i64 0))] h18))
theorem G_ref26_path.t0_eq (J : JT) (Q : AV → AHeap → Prop) (x0 : List UInt8) (x3 : Int) (x4 : Int) (h : AHeap) : G_ref26_path.t0 J Q x0 x3 x4 h = atJ prog C 125 J true [1, 1, 0, 1, 0] G_ref26_path.ann G_ref26_path.body [(0, (AV.s x0)), (3, (AV.i .i64 x3)), (4, (AV.i .i64 x4))] h (kFun prog Tryd.f27 Q) := by kernel_rfl
theorem G_ref26_path.i0 {Q : AV → AHeap → Prop} {x0 : List UInt8} {x3 : Int} {x4 : Int} {h : AHeap} (H : G_ref26_path.t0 (G_ref26_path.J Q) Q x0 x3 x4 h) : G_ref26_path.p0 Q x0 x3 x4 h := G_ref26_path.goH (k := 1) (p := [1, 1, 0, 1, 0]) (by kernel_rfl) ((G_ref26_path.t0_eq (G_ref26_path.J Q) Q x0 x3 x4 h).mp H)
def G_ref26_path.t3 (J : JT) (Q : AV → AHeap → Prop) (x0 : List UInt8) (x3 : Int) (x5 : AV) (x6 : AV) (x7 : Int) (x45 : Bool) (h : AHeap) : Prop :=
(bif x45 then
(pLenSl x6 fun n31 =>
withI (IntKind.wrap .i64 (n31 - 1)) fun n32 =>
pSliceSl 1 x6 none (some (AV.i .i64 n32)) none h fun v33 =>
J 5 [(0, (AV.s x0)), (3, (AV.i .i64 x3)), (5, x5), (6, v33), (7, (AV.i .i64 x7))] h)
else
(J 5 [(0, (AV.s x0)), (3, (AV.i .i64 x3)), (5, x5), (6, x6), (7, (AV.i .i64 x7))] h))
theorem G_ref26_path.t3_eq (J : JT) (Q : AV → AHeap → Prop) (x0 : List UInt8) (x3 : Int) (x5 : AV) (x6 : AV) (x7 : Int) (x45 : Bool) (h : AHeap) : G_ref26_path.t3 J Q x0 x3 x5 x6 x7 x45 h = atJ prog C 125 J false [1, 1, 1, 1, 1, 0, 1, 0, 0, 1, 0, 0, 0, 1] G_ref26_path.ann G_ref26_path.body [(0, (AV.s x0)), (3, (AV.i .i64 x3)), (5, x5), (6, x6), (7, (AV.i .i64 x7)), (45, (AV.b x45))] h (kFun prog Tryd.f27 Q) := by kernel_rfl
theorem G_ref26_path.i3 {Q : AV → AHeap → Prop} {x0 : List UInt8} {x3 : Int} {x5 : AV} {x6 : AV} {x7 : Int} {x45 : Bool} {h : AHeap} (H : G_ref26_path.t3 (G_ref26_path.J Q) Q x0 x3 x5 x6 x7 x45 h) : G_ref26_path.p3 Q x0 x3 x5 x6 x7 x45 h := G_ref26_path.goR (k := 4) (p := [1, 1, 1, 1, 1, 0, 1, 0, 0, 1, 0, 0, 0, 1]) (by kernel_rfl) ((G_ref26_path.t3_eq (G_ref26_path.J Q) Q x0 x3 x5 x6 x7 x45 h).mp H)
def G_ref26_path.t5 (J : JT) (Q : AV → AHeap → Prop) (x0 : List UInt8) (x3 : Int) (x5 : AV) (x6 : AV) (x7 : Int) (x69 : Bool) (h : AHeap) : Prop :=
(bif x69 then
(pIdxAddrSl 1 x5 (AV.i .i64 x7) h fun v48 =>
pLoad1 v48 h fun v49 =>
asS v49 fun l50 =>
pBuildSl 1 1 [(AV.s [])] [(0, 1, (AV.s l50))] h fun v51 h52 =>
pAppend 1 16 x6 v51 h52 fun v53 h54 =>
J 7 [(0, (AV.s x0)), (3, (AV.i .i64 x3)), (5, x5), (6, v53), (7, (AV.i .i64 x7))] h54)
else
(J 7 [(0, (AV.s x0)), (3, (AV.i .i64 x3)), (5, x5), (6, x6), (7, (AV.i .i64 x7))] h))
theorem G_ref26_path.t5_eq (J : JT) (Q : AV → AHeap → Prop) (x0 : List UInt8) (x3 : Int) (x5 : AV) (x6 : AV) (x7 : Int) (x69 : Bool) (h : AHeap) : G_ref26_path.t5 J Q x0 x3 x5 x6 x7 x69 h = atJ prog C 125 J false [1, 1, 1, 1, 1, 0, 1, 0, 0, 1, 0, 0, 1, 1] G_ref26_path.ann G_ref26_path.body [(0, (AV.s x0)), (3, (AV.i .i64 x3)), (5, x5), (6, x6), (7, (AV.i .i64 x7)), (69, (AV.b x69))] h (kFun prog Tryd.f27 Q) := by kernel_rfl
theorem G_ref26_path.i5 {Q : AV → AHeap → Prop} {x0 : List UInt8} {x3 : Int} {x5 : AV} {x6 : AV} {x7 : Int} {x69 : Bool} {h : AHeap} (H : G_ref26_path.t5 (G_ref26_path.J Q) Q x0 x3 x5 x6 x7 x69 h) : G_ref26_path.p5 Q x0 x3 x5 x6 x7 x69 h := G_ref26_path.goR (k := 6) (p := [1, 1, 1, 1, 1, 0, 1, 0, 0, 1, 0, 0, 1, 1]) (by kernel_rfl) ((G_ref26_path.t5_eq (G_ref26_path.J Q) Q x0 x3 x5 x6 x7 x69 h).mp H)
def G_ref26_path.t4 (J : JT) (Q : AV → AHeap → Prop) (x0 : List UInt8) (x3 : Int) (x5 : AV) (x6 : AV) (x7 : Int) (h : AHeap) : Prop :=
pIdxAddrSl 1 x5 (AV.i .i64 x7) h fun v36 =>
pLoad1 v36 h fun v37 =>
asS v37 fun l38 =>
(bif (!(decide ((l38 : List UInt8) = []))) then
(pIdxAddrSl 1 x5 (AV.i .i64 x7) h fun v39 =>
pLoad1 v39 h fun v40 =>
asS v40 fun l41 =>
(bif (!(decide ((l41 : List UInt8) = [46]))) then
(pIdxAddrSl 1 x5 (AV.i .i64 x7) h fun v42 =>
pLoad1 v42 h fun v43 =>
asS v43 fun l44 =>
J 6 [(0, (AV.s x0)), (3, (AV.i .i64 x3)), (5, x5), (6, x6), (7, (AV.i .i64 x7)), (69, (AV.b (!(decide ((l44 : List UInt8) = [46, 46])))))] h)
else
(J 6 [(0, (AV.s x0)), (3, (AV.i .i64 x3)), (5, x5), (6, x6), (7, (AV.i .i64 x7)), (69, (AV.b false))] h)))
else
(J 6 [(0, (AV.s x0)), (3, (AV.i .i64 x3)), (5, x5), (6, x6), (7, (AV.i .i64 x7)), (69, (AV.b false))] h))
theorem G_ref26_path.t4_eq (J : JT) (Q : AV → AHeap → Prop) (x0 : List UInt8) (x3 : Int) (x5 : AV) (x6 : AV) (x7 : Int) (h : AHeap) : G_ref26_path.t4 J Q x0 x3 x5 x6 x7 h = atJ prog C 125 J false [1, 1, 1, 1, 1, 0, 1, 0, 0, 1, 0, 0, 1] G_ref26_path.ann G_ref26_path.body [(0, (AV.s x0)), (3, (AV.i .i64 x3)), (5, x5), (6, x6), (7, (AV.i .i64 x7))] h (kFun prog Tryd.f27 Q) := by kernel_rfl
theorem G_ref26_path.i4 {Q : AV → AHeap → Prop} {x0 : List UInt8} {x3 : Int} {x5 : AV} {x6 : AV} {x7 : Int} {h : AHeap} (H : G_ref26_path.t4 (G_ref26_path.J Q) Q x0 x3 x5 x6 x7 h) : G_ref26_path.p4 Q x0 x3 x5 x6 x7 h := G_ref26_path.goR (k := 5) (p := [1, 1, 1, 1, 1, 0, 1, 0, 0, 1, 0, 0, 1]) (by kernel_rfl) ((G_ref26_path.t4_eq (G_ref26_path.J Q) Q x0 x3 x5 x6 x7 h).mp H)
def G_ref26_path.t6 (J : JT) (Q : AV → AHeap → Prop) (x0 : List UInt8) (x3 : Int) (x5 : AV) (x6 : AV) (x7 : Int) (h : AHeap) : Prop :=
withI (IntKind.wrap .i64 (x7 + 1)) fun n57 =>
J 3 [(0, (AV.s x0)), (3, (AV.i .i64 x3)), (5, x5), (6, x6), (7, (AV.i .i64 n57))] h
theorem G_ref26_path.t6_eq (J : JT) (Q : AV → AHeap → Prop) (x0 : List UInt8) (x3 : Int) (x5 : AV) (x6 : AV) (x7 : Int) (h : AHeap) : G_ref26_path.t6 J Q x0 x3 x5 x6 x7 h = atJ prog C 125 J false [1, 1, 1, 1, 1, 0, 1, 0, 0, 1, 1] G_ref26_path.ann G_ref26_path.body [(0, (AV.s x0)), (3, (AV.i .i64 x3)), (5, x5), (6, x6), (7, (AV.i .i64 x7))] h (kFun prog Tryd.f27 Q) := by kernel_rfl
theorem G_ref26_path.i6 {Q : AV → AHeap → Prop} {x0 : List UInt8} {x3 : Int} {x5 : AV} {x6 : AV} {x7 : Int} {h : AHeap} (H : G_ref26_path.t6 (G_ref26_path.J Q) Q x0 x3 x5 x6 x7 h) : G_ref26_path.p6 Q x0 x3 x5 x6 x7 h := G_ref26_path.goR (k := 7) (p := [1, 1, 1, 1, 1, 0, 1, 0, 0, 1, 1]) (by kernel_rfl) ((G_ref26_path.t6_eq (G_ref26_path.J Q) Q x0 x3 x5 x6 x7 h).mp H)
def G_ref26_path.t2 (J : JT) (Q : AV → AHeap → Prop) (x0 : List UInt8) (x3 : Int) (x5 : AV) (x6 : AV) (x7 : Int) (h : AHeap) : Prop :=
pLenSl x5 fun n21 =>
(bif (decide ((x7 : Int) < n21)) then
(pIdxAddrSl 1 x5 (AV.i .i64 x7) h fun v25 =>
pLoad1 v25 h fun v26 =>
asS v26 fun l27 =>
(bif (decide ((l27 : List UInt8) = [46, 46])) then
(pLenSl x6 fun n28 =>
J 4 [(0, (AV.s x0)), (3, (AV.i .i64 x3)), (5, x5), (6, x6), (7, (AV.i .i64 x7)), (45, (AV.b (decide ((0 : Int) < n28))))] h)
else
(J 4 [(0, (AV.s x0)), (3, (AV.i .i64 x3)), (5, x5), (6, x6), (7, (AV.i .i64 x7)), (45, (AV.b false))] h)))
else
(J 8 [(0, (AV.s x0)), (3, (AV.i .i64 x3)), (5, x5), (6, x6), (8, (AV.s [])), (9, (AV.i .i64 0))] h))
theorem G_ref26_path.t2_eq (J : JT) (Q : AV → AHeap → Prop) (x0 : List UInt8) (x3 : Int) (x5 : AV) (x6 : AV) (x7 : Int) (h : AHeap) : G_ref26_path.t2 J Q x0 x3 x5 x6 x7 h = atJ prog C 125 J true [1, 1, 1, 1, 1, 0, 1, 0] G_ref26_path.ann G_ref26_path.body [(0, (AV.s x0)), (3, (AV.i .i64 x3)), (5, x5), (6, x6), (7, (AV.i .i64 x7))] h (kFun prog Tryd.f27 Q) := by kernel_rfl
theorem G_ref26_path.i2 {Q : AV → AHeap → Prop} {x0 : List UInt8} {x3 : Int} {x5 : AV} {x6 : AV} {x7 : Int} {h : AHeap} (H : G_ref26_path.t2 (G_ref26_path.J Q) Q x0 x3 x5 x6 x7 h) : G_ref26_path.p2 Q x0 x3 x5 x6 x7 h := G_ref26_path.goH (k := 3) (p := [1, 1, 1, 1, 1, 0, 1, 0]) (by kernel_rfl) ((G_ref26_path.t2_eq (G_ref26_path.J Q) Q x0 x3 x5 x6 x7 h).mp H)
def G_ref26_path.t8 (J : JT) (Q : AV → AHeap → Prop) (x0 : List UInt8) (x3 : Int) (x5 : AV) (x6 : AV) (x8 : List UInt8) (x9 : Int) (x89 : Bool) (h : AHeap) : Prop :=
(bif x89 then
(pCat x8 [47] fun l68 =>
J 10 [(0, (AV.s x0)), (3, (AV.i .i64 x3)), (5, x5), (6, x6), (8, (AV.s l68)), (9, (AV.i .i64 x9))] h)
else
(J 10 [(0, (AV.s x0)), (3, (AV.i .i64 x3)), (5, x5), (6, x6), (8, (AV.s x8)), (9, (AV.i .i64 x9))] h))
theorem G_ref26_path.t8_eq (J : JT) (Q : AV → AHeap → Prop) (x0 : List UInt8) (x3 : Int) (x5 : AV) (x6 : AV) (x8 : List UInt8) (x9 : Int) (x89 : Bool) (h : AHeap) : G_ref26_path.t8 J Q x0 x3 x5 x6 x8 x9 x89 h = atJ prog C 125 J false [1, 1, 1, 1, 1, 1, 1, 0, 1, 0, 0, 1, 0, 0, 0, 1] G_ref26_path.ann G_ref26_path.body [(0, (AV.s x0)), (3, (AV.i .i64 x3)), (5, x5), (6, x6), (8, (AV.s x8)), (9, (AV.i .i64 x9)), (89, (AV.b x89))] h (kFun prog Tryd.f27 Q) := by kernel_rfl
theorem G_ref26_path.i8 {Q : AV → AHeap → Prop} {x0 : List UInt8} {x3 : Int} {x5 : AV} {x6 : AV} {x8 : List UInt8} {x9 : Int} {x89 : Bool} {h : AHeap} (H : G_ref26_path.t8 (G_ref26_path.J Q) Q x0 x3 x5 x6 x8 x9 x89 h) : G_ref26_path.p8 Q x0 x3 x5 x6 x8 x9 x89 h := G_ref26_path.goR (k := 9) (p := [1, 1, 1, 1, 1, 1, 1, 0, 1, 0, 0, 1, 0, 0, 0, 1]) (by kernel_rfl) ((G_ref26_path.t8_eq (G_ref26_path.J Q) Q x0 x3 x5 x6 x8 x9 x89 h).mp H)
def G_ref26_path.t9 (J : JT) (Q : AV → AHeap → Prop) (x0 : List UInt8) (x3 : Int) (x5 : AV) (x6 : AV) (x8 : List UInt8) (x9 : Int) (h : AHeap) : Prop :=
pIdxAddrSl 1 x6 (AV.i .i64 x9) h fun v71 =>
pLoad1 v71 h fun v72 =>
asS v72 fun l73 =>
pCat x8 l73 fun l74 =>
withI (IntKind.wrap .i64 (x9 + 1)) fun n76 =>
J 8 [(0, (AV.s x0)), (3, (AV.i .i64 x3)), (5, x5), (6, x6), (8, (AV.s l74)), (9, (AV.i .i64 n76))] h
theorem G_ref26_path.t9_eq (J : JT) (Q : AV → AHeap → Prop) (x0 : List UInt8) (x3 : Int) (x5 : AV) (x6 : AV) (x8 : List UInt8) (x9 : Int) (h : AHeap) : G_ref26_path.t9 J Q x0 x3 x5 x6 x8 x9 h = atJ prog C 125 J false [1, 1, 1, 1, 1, 1, 1, 0, 1, 0, 0, 1, 0, 0, 1] G_ref26_path.ann G_ref26_path.body [(0, (AV.s x0)), (3, (AV.i .i64 x3)), (5, x5), (6, x6), (8, (AV.s x8)), (9, (AV.i .i64 x9))] h (kFun prog Tryd.f27 Q) := by kernel_rfl
theorem G_ref26_path.i9 {Q : AV → AHeap → Prop} {x0 : List UInt8} {x3 : Int} {x5 : AV} {x6 : AV} {x8 : List UInt8} {x9 : Int} {h : AHeap} (H : G_ref26_path.t9 (G_ref26_path.J Q) Q x0 x3 x5 x6 x8 x9 h) : G_ref26_path.p9 Q x0 x3 x5 x6 x8 x9 h := G_ref26_path.goR (k := 10) (p := [1, 1, 1, 1, 1, 1, 1, 0, 1, 0, 0, 1, 0, 0, 1]) (by kernel_rfl) ((G_ref26_path.t9_eq (G_ref26_path.J Q) Q x0 x3 x5 x6 x8 x9 h).mp H)
def G_ref26_path.t7 (J : JT) (Q : AV → AHeap → Prop) (x0 : List UInt8) (x3 : Int) (x5 : AV) (x6 : AV) (x8 : List UInt8) (x9 : Int) (h : AHeap) : Prop :=
pLenSl x6 fun n61 =>
(bif (decide ((x9 : Int) < n61)) then
((bif (decide ((0 : Int) < x9)) then
(J 9 [(0, (AV.s x0)), (3, (AV.i .i64 x3)), (5, x5), (6, x6), (8, (AV.s x8)), (9, (AV.i .i64 x9)), (89, (AV.b true))] h)
else
(pIdxStr (AV.s x0) (AV.i .i64 0) fun n66 =>
J 9 [(0, (AV.s x0)), (3, (AV.i .i64 x3)), (5, x5), (6, x6), (8, (AV.s x8)), (9, (AV.i .i64 x9)), (89, (AV.b (decide ((n66 : Int) = 47))))] h)))
else
(pLenSl x5 fun n78 =>
withI (IntKind.wrap .i64 (n78 - 1)) fun n79 =>
pIdxAddrSl 1 x5 (AV.i .i64 n79) h fun v80 =>
pLoad1 v80 h fun v81 =>
asS v81 fun l82 =>
(bif (decide ((x8 : List UInt8) = [])) then
(J 11 [(0, (AV.s x0)), (3, (AV.i .i64 x3)), (8, (AV.s x8)), (117, (AV.b true))] h)
else
((bif (decide ((l82 : List UInt8) = [])) then
(J 11 [(0, (AV.s x0)), (3, (AV.i .i64 x3)), (8, (AV.s x8)), (117, (AV.b true))] h)
else
((bif (decide ((l82 : List UInt8) = [46])) then
(J 11 [(0, (AV.s x0)), (3, (AV.i .i64 x3)), (8, (AV.s x8)), (117, (AV.b true))] h)
else
(J 11 [(0, (AV.s x0)), (3, (AV.i .i64 x3)), (8, (AV.s x8)), (117, (AV.b (decide ((l82 : List UInt8) = [46, 46]))))] h))))))))
theorem G_ref26_path.t7_eq (J : JT) (Q : AV → AHeap → Prop) (x0 : List UInt8) (x3 : Int) (x5 : AV) (x6 : AV) (x8 : List UInt8) (x9 : Int) (h : AHeap) : G_ref26_path.t7 J Q x0 x3 x5 x6 x8 x9 h = atJ prog C 125 J true [1, 1, 1, 1, 1, 1, 1, 0, 1, 0] G_ref26_path.ann G_ref26_path.body [(0, (AV.s x0)), (3, (AV.i .i64 x3)), (5, x5), (6, x6), (8, (AV.s x8)), (9, (AV.i .i64 x9))] h (kFun prog Tryd.f27 Q) := by kernel_rfl
theorem G_ref26_path.i7 {Q : AV → AHeap → Prop} {x0 : List UInt8} {x3 : Int} {x5 : AV} {x6 : AV} {x8 : List UInt8} {x9 : Int} {h : AHeap} (H : G_ref26_path.t7 (G_ref26_path.J Q) Q x0 x3 x5 x6 x8 x9 h) : G_ref26_path.p7 Q x0 x3 x5 x6 x8 x9 h := G_ref26_path.goH (k := 8) (p := [1, 1, 1, 1, 1, 1, 1, 0, 1, 0]) (by kernel_rfl) ((G_ref26_path.t7_eq (G_ref26_path.J Q) Q x0 x3 x5 x6 x8 x9 h).mp H)
def G_ref26_path.t10 (J : JT) (Q : AV → AHeap → Prop) (x0 : List UInt8) (x3 : Int) (x8 : List UInt8) (x117 : Bool) (h : AHeap) : Prop :=
(bif x117 then
(pCat x8 [47] fun l88 =>
J 12 [(0, (AV.s x0)), (3, (AV.i .i64 x3)), (8, (AV.s l88))] h)
else
(J 12 [(0, (AV.s x0)), (3, (AV.i .i64 x3)), (8, (AV.s x8))] h))
theorem G_ref26_path.t10_eq (J : JT) (Q : AV → AHeap → Prop) (x0 : List UInt8) (x3 : Int) (x8 : List UInt8) (x117 : Bool) (h : AHeap) : G_ref26_path.t10 J Q x0 x3 x8 x117 h = atJ prog C 125 J false [1, 1, 1, 1, 1, 1, 1, 1, 1, 0, 1] G_ref26_path.ann G_ref26_path.body [(0, (AV.s x0)), (3, (AV.i .i64 x3)), (8, (AV.s x8)), (117, (AV.b x117))] h (kFun prog Tryd.f27 Q) := by kernel_rfl
theorem G_ref26_path.i10 {Q : AV → AHeap → Prop} {x0 : List UInt8} {x3 : Int} {x8 : List UInt8} {x117 : Bool} {h : AHeap} (H : G_ref26_path.t10 (G_ref26_path.J Q) Q x0 x3 x8 x117 h) : G_ref26_path.p10 Q x0 x3 x8 x117 h := G_ref26_path.goR (k := 11) (p := [1, 1, 1, 1, 1, 1, 1, 1, 1, 0, 1]) (by kernel_rfl) ((G_ref26_path.t10_eq (G_ref26_path.J Q) Q x0 x3 x8 x117 h).mp H)
def G_ref26_path.t11 (J : JT) (Q : AV → AHeap → Prop) (x0 : List UInt8) (x3 : Int) (x8 : List UInt8) (h : AHeap) : Prop :=
pSliceStr (AV.s x0) (some (AV.i .i64 x3)) none fun l91 =>
pCat x8 l91 fun l92 =>
Q (AV.s l92) h
theorem G_ref26_path.t11_eq (J : JT) (Q : AV → AHeap → Prop) (x0 : List UInt8) (x3 : Int) (x8 : List UInt8) (h : AHeap) : G_ref26_path.t11 J Q x0 x3 x8 h = atJ prog C 125 J false [1, 1, 1, 1, 1, 1, 1, 1, 1, 1] G_ref26_path.ann G_ref26_path.body [(0, (AV.s x0)), (3, (AV.i .i64 x3)), (8, (AV.s x8))] h (kFun prog Tryd.f27 Q) := by kernel_rfl
theorem G_ref26_path.i11 {Q : AV → AHeap → Prop} {x0 : List UInt8} {x3 : Int} {x8 : List UInt8} {h : AHeap} (H : G_ref26_path.t11 (G_ref26_path.J Q) Q x0 x3 x8 h) : G_ref26_path.p11 Q x0 x3 x8 h := G_ref26_path.goR (k := 12) (p := [1, 1, 1, 1, 1, 1, 1, 1, 1, 1]) (by kernel_rfl) ((G_ref26_path.t11_eq (G_ref26_path.J Q) Q x0 x3 x8 h).mp H)
def G_ref26_path.t (J : JT) (Q : AV → AHeap → Prop) (x0 : List UInt8) (h : AHeap) : Prop :=
withI (IntKind.wrap .i64 ((x0.length : Int) - 1)) fun n2 =>
J 1 [(0, (AV.s x0)), (3, (AV.i .i64 (x0.length : Int))), (4, (AV.i .i64 n2))] h
theorem G_ref26_path.t_eq (J : JT) (Q : AV → AHeap → Prop) (x0 : List UInt8) (h : AHeap) : G_ref26_path.t J Q x0 h = exJ prog C 125 J G_ref26_path.ann G_ref26_path.body (initEnv 0 [(AV.s x0)]) h (kFun prog Tryd.f27 Q) := by kernel_rfl
theorem G_ref26_path.call {K : AV → AHeap → Prop} {x0 : List UInt8} {h : AHeap} (H : G_ref26_path.t (G_ref26_path.J (kRet h K)) (kRet h K) x0 h) : C G_ref26_path.id [(AV.s x0)] h K :=
  callJ (P := prog) (fn := Tryd.f27) (ann := G_ref26_path.ann) (body := G_ref26_path.body) Tryd.func27 G_ref26_path.body_eq (by kernel_rfl) G_ref26_path.dist (by kernel_rfl) ((G_ref26_path.t_eq (G_ref26_path.J (kRet h K)) (kRet h K) x0 h).mp H)

--@@ G_ref26_hex
/-! ### 28: intrusion/intrusionref26.hex -/
noncomputable def G_ref26_hex.body : Code := (Tryd.f28.body).getD .skip
def G_ref26_hex.ann : Ann := (.seq 0 [0] .leaf (.seq 0 [0, 3] .leaf (.seq 0 [0, 3, 4] .leaf (.seq 0 [3] (.seq 0 [0, 3, 4, 5] .leaf (.one (.loop 1 [0, 3, 4, 5] (.seq 0 [0, 3, 4, 5] (.seq 0 [0, 3, 4, 5, 11] .leaf (.br .leaf .leaf)) (.seq 2 [0, 3, 4, 5] (.one (.seq 0 [0, 3, 4, 5, 6] .leaf (.seq 0 [0, 3, 4, 5, 6] (.seq 0 [0, 3, 4, 5, 6, 19] .leaf (.br .leaf .leaf)) (.seq 0 [0, 3, 4, 5, 6, 21] .leaf (.br .leaf (.seq 0 [0, 3, 5] .leaf .leaf)))))) .leaf))))) (.seq 0 [2] .leaf .leaf)))))
theorem G_ref26_hex.body_eq : Tryd.f28.body = some G_ref26_hex.body := by kernel_rfl
theorem G_ref26_hex.dist : noTwice (places G_ref26_hex.ann G_ref26_hex.body) = true := by kernel_rfl
noncomputable def G_ref26_hex.J (Q : AV → AHeap → Prop) : JT := funJ prog C Tryd.f28 G_ref26_hex.ann G_ref26_hex.body Q
theorem G_ref26_hex.goR {Q : AV → AHeap → Prop} {k : Nat} {p : List Nat} (hl : lookJ (places G_ref26_hex.ann G_ref26_hex.body) k = some (p, false)) {e : Env} {h : AHeap} (hk : atJ prog C 33 (G_ref26_hex.J Q) false p G_ref26_hex.ann G_ref26_hex.body e h (kFun prog Tryd.f28 Q)) : G_ref26_hex.J Q k e h := goJ_run (P := prog) (fn := Tryd.f28) (ann := G_ref26_hex.ann) (body := G_ref26_hex.body) (Q := Q) (k := k) (p := p) (e := e) (h := h) (acall_le X) G_ref26_hex.dist hl hk
theorem G_ref26_hex.goH {Q : AV → AHeap → Prop} {k : Nat} {p : List Nat} (hl : lookJ (places G_ref26_hex.ann G_ref26_hex.body) k = some (p, true)) {e : Env} {h : AHeap} (hk : atJ prog C 33 (G_ref26_hex.J Q) true p G_ref26_hex.ann G_ref26_hex.body e h (kFun prog Tryd.f28 Q)) : G_ref26_hex.J Q k e h := goJ_head (P := prog) (fn := Tryd.f28) (ann := G_ref26_hex.ann) (body := G_ref26_hex.body) (Q := Q) (k := k) (p := p) (e := e) (h := h) (acall_le X) G_ref26_hex.dist hl hk
def G_ref26_hex.p1 (Q : AV → AHeap → Prop) (x0 : List UInt8) (x3 : AV) (x4 : Int) (x5 : Int) (h : AHeap) : Prop := G_ref26_hex.J Q 2 [(0, (AV.s x0)), (3, x3), (4, (AV.i .i64 x4)), (5, (AV.i .i64 x5))] h
theorem G_ref26_hex.j1 (Q : AV → AHeap → Prop) (x0 : List UInt8) (x3 : AV) (x4 : Int) (x5 : Int) (h : AHeap) : G_ref26_hex.J Q 2 [(0, (AV.s x0)), (3, x3), (4, (AV.i .i64 x4)), (5, (AV.i .i64 x5))] h = G_ref26_hex.p1 Q x0 x3 x4 x5 h := rfl
def G_ref26_hex.p0 (Q : AV → AHeap → Prop) (x0 : List UInt8) (x3 : AV) (x4 : Int) (x5 : Int) (h : AHeap) : Prop := G_ref26_hex.J Q 1 [(0, (AV.s x0)), (3, x3), (4, (AV.i .i64 x4)), (5, (AV.i .i64 x5))] h
theorem G_ref26_hex.j0 (Q : AV → AHeap → Prop) (x0 : List UInt8) (x3 : AV) (x4 : Int) (x5 : Int) (h : AHeap) : G_ref26_hex.J Q 1 [(0, (AV.s x0)), (3, x3), (4, (AV.i .i64 x4)), (5, (AV.i .i64 x5))] h = G_ref26_hex.p0 Q x0 x3 x4 x5 h := rfl
def G_ref26_hex.t1 (J : JT) (Q : AV → AHeap → Prop) (x0 : List UInt8) (x3 : AV) (x4 : Int) (x5 : Int) (h : AHeap) : Prop :=
withI (IntKind.wrap .i64 (x5 + 1)) fun n27 =>
J 1 [(0, (AV.s x0)), (3, x3), (4, (AV.i .i64 x4)), (5, (AV.i .i64 n27))] h
theorem G_ref26_hex.t1_eq (J : JT) (Q : AV → AHeap → Prop) (x0 : List UInt8) (x3 : AV) (x4 : Int) (x5 : Int) (h : AHeap) : G_ref26_hex.t1 J Q x0 x3 x4 x5 h = atJ prog C 33 J false [1, 1, 1, 0, 1, 0, 0, 1, 1] G_ref26_hex.ann G_ref26_hex.body [(0, (AV.s x0)), (3, x3), (4, (AV.i .i64 x4)), (5, (AV.i .i64 x5))] h (kFun prog Tryd.f28 Q) := by kernel_rfl
theorem G_ref26_hex.i1 {Q : AV → AHeap → Prop} {x0 : List UInt8} {x3 : AV} {x4 : Int} {x5 : Int} {h : AHeap} (H : G_ref26_hex.t1 (G_ref26_hex.J Q) Q x0 x3 x4 x5 h) : G_ref26_hex.p1 Q x0 x3 x4 x5 h := G_ref26_hex.goR (k := 2) (p := [1, 1, 1, 0, 1, 0, 0, 1, 1]) (by kernel_rfl) ((G_ref26_hex.t1_eq (G_ref26_hex.J Q) Q x0 x3 x4 x5 h).mp H)
def G_ref26_hex.t0 (J : JT) (Q : AV → AHeap → Prop) (x0 : List UInt8) (x3 : AV) (x4 : Int) (x5 : Int) (h : AHeap) : Prop :=
(bif (decide ((x5 : Int) < (x0.length : Int))) then
(pIdxStr (AV.s x0) (AV.i .i64 x5) fun n9 =>
C G_ref26_digit.id [(AV.i .u8 n9)] h fun v10 h11 =>
asI .i64 v10 fun n12 =>
(bif (decide ((n12 : Int) < 0)) then
(J 2 [(0, (AV.s x0)), (3, x3), (4, (AV.i .i64 x4)), (5, (AV.i .i64 x5))] h11)
else
((bif (decide ((x4 : Int) < 0)) then
(J 2 [(0, (AV.s x0)), (3, x3), (4, (AV.i .i64 n12)), (5, (AV.i .i64 x5))] h11)
else
(withI (IntKind.wrap .i64 (x4 * 16)) fun n19 =>
withI (IntKind.wrap .i64 (n19 + n12)) fun n20 =>
pBuildSl 1 1 [(AV.i .u8 0)] [(0, 1, (AV.i .u8 (IntKind.wrap .u8 n20)))] h11 fun v21 h22 =>
pAppend 1 1 x3 v21 h22 fun v23 h24 =>
J 2 [(0, (AV.s x0)), (3, v23), (4, (AV.i .i64 (-1))), (5, (AV.i .i64 x5))] h24)))))
else
(pBytesStr x3 h fun l29 =>
Q (AV.s l29) h))
theorem G_ref26_hex.t0_eq (J : JT) (Q : AV → AHeap → Prop) (x0 : List UInt8) (x3 : AV) (x4 : Int) (x5 : Int) (h : AHeap) : G_ref26_hex.t0 J Q x0 x3 x4 x5 h = atJ prog C 33 J true [1, 1, 1, 0, 1, 0] G_ref26_hex.ann G_ref26_hex.body [(0, (AV.s x0)), (3, x3), (4, (AV.i .i64 x4)), (5, (AV.i .i64 x5))] h (kFun prog Tryd.f28 Q) := by kernel_rfl
theorem G_ref26_hex.i0 {Q : AV → AHeap → Prop} {x0 : List UInt8} {x3 : AV} {x4 : Int} {x5 : Int} {h : AHeap} (H : G_ref26_hex.t0 (G_ref26_hex.J Q) Q x0 x3 x4 x5 h) : G_ref26_hex.p0 Q x0 x3 x4 x5 h := G_ref26_hex.goH (k := 1) (p := [1, 1, 1, 0, 1, 0]) (by kernel_rfl) ((G_ref26_hex.t0_eq (G_ref26_hex.J Q) Q x0 x3 x4 x5 h).mp H)
def G_ref26_hex.t (J : JT) (Q : AV → AHeap → Prop) (x0 : List UInt8) (h : AHeap) : Prop :=
pBuildSl 1 0 [] [] h fun v1 h2 =>
J 1 [(0, (AV.s x0)), (3, v1), (4, (AV.i .i64 (-1))), (5, (AV.i .i64 0))] h2
theorem G_ref26_hex.t_eq (J : JT) (Q : AV → AHeap → Prop) (x0 : List UInt8) (h : AHeap) : G_ref26_hex.t J Q x0 h = exJ prog C 33 J G_ref26_hex.ann G_ref26_hex.body (initEnv 0 [(AV.s x0)]) h (kFun prog Tryd.f28 Q) := by kernel_rfl
theorem G_ref26_hex.call {K : AV → AHeap → Prop} {x0 : List UInt8} {h : AHeap} (H : G_ref26_hex.t (G_ref26_hex.J (kRet h K)) (kRet h K) x0 h) : C G_ref26_hex.id [(AV.s x0)] h K :=
  callJ (P := prog) (fn := Tryd.f28) (ann := G_ref26_hex.ann) (body := G_ref26_hex.body) Tryd.func28 G_ref26_hex.body_eq (by kernel_rfl) G_ref26_hex.dist (by kernel_rfl) ((G_ref26_hex.t_eq (G_ref26_hex.J (kRet h K)) (kRet h K) x0 h).mp H)

--@@ G_transform_plain
/-! ### 29: intrusion/transform.plain -/
noncomputable def G_transform_plain.body : Code := (Tryd.f29.body).getD .skip
def G_transform_plain.ann : Ann := (.seq 0 [0] .leaf (.seq 1 [2] .leaf .leaf))
theorem G_transform_plain.body_eq : Tryd.f29.body = some G_transform_plain.body := by kernel_rfl
theorem G_transform_plain.dist : noTwice (places G_transform_plain.ann G_transform_plain.body) = true := by kernel_rfl
noncomputable def G_transform_plain.J (Q : AV → AHeap → Prop) : JT := funJ prog C Tryd.f29 G_transform_plain.ann G_transform_plain.body Q
theorem G_transform_plain.goR {Q : AV → AHeap → Prop} {k : Nat} {p : List Nat} (hl : lookJ (places G_transform_plain.ann G_transform_plain.body) k = some (p, false)) {e : Env} {h : AHeap} (hk : atJ prog C 30 (G_transform_plain.J Q) false p G_transform_plain.ann G_transform_plain.body e h (kFun prog Tryd.f29 Q)) : G_transform_plain.J Q k e h := goJ_run (P := prog) (fn := Tryd.f29) (ann := G_transform_plain.ann) (body := G_transform_plain.body) (Q := Q) (k := k) (p := p) (e := e) (h := h) (acall_le X) G_transform_plain.dist hl hk
theorem G_transform_plain.goH {Q : AV → AHeap → Prop} {k : Nat} {p : List Nat} (hl : lookJ (places G_transform_plain.ann G_transform_plain.body) k = some (p, true)) {e : Env} {h : AHeap} (hk : atJ prog C 30 (G_transform_plain.J Q) true p G_transform_plain.ann G_transform_plain.body e h (kFun prog Tryd.f29 Q)) : G_transform_plain.J Q k e h := goJ_head (P := prog) (fn := Tryd.f29) (ann := G_transform_plain.ann) (body := G_transform_plain.body) (Q := Q) (k := k) (p := p) (e := e) (h := h) (acall_le X) G_transform_plain.dist hl hk
def G_transform_plain.p0 (Q : AV → AHeap → Prop) (x2 : Bool) (h : AHeap) : Prop := G_transform_plain.J Q 1 [(2, (AV.b x2))] h
theorem G_transform_plain.j0 (Q : AV → AHeap → Prop) (x2 : Bool) (h : AHeap) : G_transform_plain.J Q 1 [(2, (AV.b x2))] h = G_transform_plain.p0 Q x2 h := rfl
def G_transform_plain.t0 (J : JT) (Q : AV → AHeap → Prop) (x2 : Bool) (h : AHeap) : Prop :=
Q (AV.b x2) h
theorem G_transform_plain.t0_eq (J : JT) (Q : AV → AHeap → Prop) (x2 : Bool) (h : AHeap) : G_transform_plain.t0 J Q x2 h = atJ prog C 30 J false [1, 1] G_transform_plain.ann G_transform_plain.body [(2, (AV.b x2))] h (kFun prog Tryd.f29 Q) := by kernel_rfl
theorem G_transform_plain.i0 {Q : AV → AHeap → Prop} {x2 : Bool} {h : AHeap} (H : G_transform_plain.t0 (G_transform_plain.J Q) Q x2 h) : G_transform_plain.p0 Q x2 h := G_transform_plain.goR (k := 1) (p := [1, 1]) (by kernel_rfl) ((G_transform_plain.t0_eq (G_transform_plain.J Q) Q x2 h).mp H)
def G_transform_plain.t (J : JT) (Q : AV → AHeap → Prop) (x0 : Int) (h : AHeap) : Prop :=
(bif (decide ((97 : Int) ≤ x0)) then
((bif (decide ((x0 : Int) ≤ 122)) then
(J 1 [(2, (AV.b true))] h)
else
((bif (decide ((65 : Int) ≤ x0)) then
((bif (decide ((x0 : Int) ≤ 90)) then
(J 1 [(2, (AV.b true))] h)
else
((bif (decide ((48 : Int) ≤ x0)) then
((bif (decide ((x0 : Int) ≤ 57)) then
(J 1 [(2, (AV.b true))] h)
else
(C G_strings_IndexByte.id [(AV.s [45, 46, 95, 126]), (AV.i .u8 x0)] h fun v4 h5 =>
asI .i64 v4 fun n6 =>
J 1 [(2, (AV.b (decide ((0 : Int) ≤ n6))))] h5)))
else
(C G_strings_IndexByte.id [(AV.s [45, 46, 95, 126]), (AV.i .u8 x0)] h fun v8 h9 =>
asI .i64 v8 fun n10 =>
J 1 [(2, (AV.b (decide ((0 : Int) ≤ n10))))] h9)))))
else
((bif (decide ((48 : Int) ≤ x0)) then
((bif (decide ((x0 : Int) ≤ 57)) then
(J 1 [(2, (AV.b true))] h)
else
(C G_strings_IndexByte.id [(AV.s [45, 46, 95, 126]), (AV.i .u8 x0)] h fun v13 h14 =>
asI .i64 v13 fun n15 =>
J 1 [(2, (AV.b (decide ((0 : Int) ≤ n15))))] h14)))
else
(C G_strings_IndexByte.id [(AV.s [45, 46, 95, 126]), (AV.i .u8 x0)] h fun v17 h18 =>
asI .i64 v17 fun n19 =>
J 1 [(2, (AV.b (decide ((0 : Int) ≤ n19))))] h18)))))))
else
((bif (decide ((65 : Int) ≤ x0)) then
((bif (decide ((x0 : Int) ≤ 90)) then
(J 1 [(2, (AV.b true))] h)
else
((bif (decide ((48 : Int) ≤ x0)) then
((bif (decide ((x0 : Int) ≤ 57)) then
(J 1 [(2, (AV.b true))] h)
else
(C G_strings_IndexByte.id [(AV.s [45, 46, 95, 126]), (AV.i .u8 x0)] h fun v23 h24 =>
asI .i64 v23 fun n25 =>
J 1 [(2, (AV.b (decide ((0 : Int) ≤ n25))))] h24)))
else
(C G_strings_IndexByte.id [(AV.s [45, 46, 95, 126]), (AV.i .u8 x0)] h fun v27 h28 =>
asI .i64 v27 fun n29 =>
J 1 [(2, (AV.b (decide ((0 : Int) ≤ n29))))] h28)))))
else
((bif (decide ((48 : Int) ≤ x0)) then
((bif (decide ((x0 : Int) ≤ 57)) then
(J 1 [(2, (AV.b true))] h)
else
(C G_strings_IndexByte.id [(AV.s [45, 46, 95, 126]), (AV.i .u8 x0)] h fun v32 h33 =>
asI .i64 v32 fun n34 =>
J 1 [(2, (AV.b (decide ((0 : Int) ≤ n34))))] h33)))
else
(C G_strings_IndexByte.id [(AV.s [45, 46, 95, 126]), (AV.i .u8 x0)] h fun v36 h37 =>
asI .i64 v36 fun n38 =>
J 1 [(2, (AV.b (decide ((0 : Int) ≤ n38))))] h37))))))
theorem G_transform_plain.t_eq (J : JT) (Q : AV → AHeap → Prop) (x0 : Int) (h : AHeap) : G_transform_plain.t J Q x0 h = exJ prog C 30 J G_transform_plain.ann G_transform_plain.body (initEnv 0 [(AV.i .u8 x0)]) h (kFun prog Tryd.f29 Q) := by kernel_rfl
theorem G_transform_plain.call {K : AV → AHeap → Prop} {x0 : Int} {h : AHeap} (H : G_transform_plain.t (G_transform_plain.J (kRet h K)) (kRet h K) x0 h) : C G_transform_plain.id [(AV.i .u8 x0)] h K :=
  callJ (P := prog) (fn := Tryd.f29) (ann := G_transform_plain.ann) (body := G_transform_plain.body) Tryd.func29 G_transform_plain.body_eq (by kernel_rfl) G_transform_plain.dist (by kernel_rfl) ((G_transform_plain.t_eq (G_transform_plain.J (kRet h K)) (kRet h K) x0 h).mp H)

--@@ G_transform_text_lower
/-! ### 30: (intrusion/transform.text).lower -/
noncomputable def G_transform_text_lower.body : Code := (Tryd.f30.body).getD .skip
def G_transform_text_lower.ann : Ann := (.seq 0 [0] .leaf (.seq 0 [3] .leaf (.seq 0 [3] (.seq 0 [3, 8, 9, 10] .leaf (.one (.loop 1 [3, 8, 9, 10] (.seq 0 [3, 8, 9, 10, 11] .leaf (.seq 0 [3, 8, 9, 10] (.br .leaf .leaf) (.seq 3 [3, 8, 9, 10] (.one (.seq 0 [3, 4, 5, 8, 9, 10] .leaf (.seq 2 [3, 4, 5, 8, 9, 10, 20] .leaf (.br .leaf .leaf)))) .leaf)))))) (.seq 0 [2] .leaf .leaf))))
theorem G_transform_text_lower.body_eq : Tryd.f30.body = some G_transform_text_lower.body := by kernel_rfl
theorem G_transform_text_lower.dist : noTwice (places G_transform_text_lower.ann G_transform_text_lower.body) = true := by kernel_rfl
noncomputable def G_transform_text_lower.J (Q : AV → AHeap → Prop) : JT := funJ prog C Tryd.f30 G_transform_text_lower.ann G_transform_text_lower.body Q
theorem G_transform_text_lower.goR {Q : AV → AHeap → Prop} {k : Nat} {p : List Nat} (hl : lookJ (places G_transform_text_lower.ann G_transform_text_lower.body) k = some (p, false)) {e : Env} {h : AHeap} (hk : atJ prog C 30 (G_transform_text_lower.J Q) false p G_transform_text_lower.ann G_transform_text_lower.body e h (kFun prog Tryd.f30 Q)) : G_transform_text_lower.J Q k e h := goJ_run (P := prog) (fn := Tryd.f30) (ann := G_transform_text_lower.ann) (body := G_transform_text_lower.body) (Q := Q) (k := k) (p := p) (e := e) (h := h) (acall_le X) G_transform_text_lower.dist hl hk
theorem G_transform_text_lower.goH {Q : AV → AHeap → Prop} {k : Nat} {p : List Nat} (hl : lookJ (places G_transform_text_lower.ann G_transform_text_lower.body) k = some (p, true)) {e : Env} {h : AHeap} (hk : atJ prog C 30 (G_transform_text_lower.J Q) true p G_transform_text_lower.ann G_transform_text_lower.body e h (kFun prog Tryd.f30 Q)) : G_transform_text_lower.J Q k e h := goJ_head (P := prog) (fn := Tryd.f30) (ann := G_transform_text_lower.ann) (body := G_transform_text_lower.body) (Q := Q) (k := k) (p := p) (e := e) (h := h) (acall_le X) G_transform_text_lower.dist hl hk
def G_transform_text_lower.p1 (Q : AV → AHeap → Prop) (x3 : AV) (x4 : Int) (x5 : Int) (x8 : AV) (x9 : Int) (x10 : Int) (x20 : Bool) (h : AHeap) : Prop := G_transform_text_lower.J Q 2 [(3, x3), (4, (AV.i .i64 x4)), (5, (AV.i .u8 x5)), (8, x8), (9, (AV.i .i64 x9)), (10, (AV.i .i64 x10)), (20, (AV.b x20))] h
theorem G_transform_text_lower.j1 (Q : AV → AHeap → Prop) (x3 : AV) (x4 : Int) (x5 : Int) (x8 : AV) (x9 : Int) (x10 : Int) (x20 : Bool) (h : AHeap) : G_transform_text_lower.J Q 2 [(3, x3), (4, (AV.i .i64 x4)), (5, (AV.i .u8 x5)), (8, x8), (9, (AV.i .i64 x9)), (10, (AV.i .i64 x10)), (20, (AV.b x20))] h = G_transform_text_lower.p1 Q x3 x4 x5 x8 x9 x10 x20 h := rfl
def G_transform_text_lower.p2 (Q : AV → AHeap → Prop) (x3 : AV) (x8 : AV) (x9 : Int) (x10 : Int) (h : AHeap) : Prop := G_transform_text_lower.J Q 3 [(3, x3), (8, x8), (9, (AV.i .i64 x9)), (10, (AV.i .i64 x10))] h
theorem G_transform_text_lower.j2 (Q : AV → AHeap → Prop) (x3 : AV) (x8 : AV) (x9 : Int) (x10 : Int) (h : AHeap) : G_transform_text_lower.J Q 3 [(3, x3), (8, x8), (9, (AV.i .i64 x9)), (10, (AV.i .i64 x10))] h = G_transform_text_lower.p2 Q x3 x8 x9 x10 h := rfl
def G_transform_text_lower.p0 (Q : AV → AHeap → Prop) (x3 : AV) (x8 : AV) (x9 : Int) (x10 : Int) (h : AHeap) : Prop := G_transform_text_lower.J Q 1 [(3, x3), (8, x8), (9, (AV.i .i64 x9)), (10, (AV.i .i64 x10))] h
theorem G_transform_text_lower.j0 (Q : AV → AHeap → Prop) (x3 : AV) (x8 : AV) (x9 : Int) (x10 : Int) (h : AHeap) : G_transform_text_lower.J Q 1 [(3, x3), (8, x8), (9, (AV.i .i64 x9)), (10, (AV.i .i64 x10))] h = G_transform_text_lower.p0 Q x3 x8 x9 x10 h := rfl
def G_transform_text_lower.t1 (J : JT) (Q : AV → AHeap → Prop) (x3 : AV) (x4 : Int) (x5 : Int) (x8 : AV) (x9 : Int) (x10 : Int) (x20 : Bool) (h : AHeap) : Prop :=
(bif x20 then
(withI (IntKind.wrap .u8 (x5 + 97)) fun n15 =>
withI (IntKind.wrap .u8 (n15 - 65)) fun n16 =>
pIdxAddrSl 1 x3 (AV.i .i64 x4) h fun v17 =>
pStore 1 v17 (AV.i .u8 n16) h fun h18 =>
J 3 [(3, x3), (8, x8), (9, (AV.i .i64 x9)), (10, (AV.i .i64 x10))] h18)
else
(J 3 [(3, x3), (8, x8), (9, (AV.i .i64 x9)), (10, (AV.i .i64 x10))] h))
theorem G_transform_text_lower.t1_eq (J : JT) (Q : AV → AHeap → Prop) (x3 : AV) (x4 : Int) (x5 : Int) (x8 : AV) (x9 : Int) (x10 : Int) (x20 : Bool) (h : AHeap) : G_transform_text_lower.t1 J Q x3 x4 x5 x8 x9 x10 x20 h = atJ prog C 30 J false [1, 1, 0, 1, 0, 0, 1, 1, 0, 0, 1, 1] G_transform_text_lower.ann G_transform_text_lower.body [(3, x3), (4, (AV.i .i64 x4)), (5, (AV.i .u8 x5)), (8, x8), (9, (AV.i .i64 x9)), (10, (AV.i .i64 x10)), (20, (AV.b x20))] h (kFun prog Tryd.f30 Q) := by kernel_rfl
theorem G_transform_text_lower.i1 {Q : AV → AHeap → Prop} {x3 : AV} {x4 : Int} {x5 : Int} {x8 : AV} {x9 : Int} {x10 : Int} {x20 : Bool} {h : AHeap} (H : G_transform_text_lower.t1 (G_transform_text_lower.J Q) Q x3 x4 x5 x8 x9 x10 x20 h) : G_transform_text_lower.p1 Q x3 x4 x5 x8 x9 x10 x20 h := G_transform_text_lower.goR (k := 2) (p := [1, 1, 0, 1, 0, 0, 1, 1, 0, 0, 1, 1]) (by kernel_rfl) ((G_transform_text_lower.t1_eq (G_transform_text_lower.J Q) Q x3 x4 x5 x8 x9 x10 x20 h).mp H)
def G_transform_text_lower.t2 (J : JT) (Q : AV → AHeap → Prop) (x3 : AV) (x8 : AV) (x9 : Int) (x10 : Int) (h : AHeap) : Prop :=
withI (IntKind.wrap .i64 (x10 + 1)) fun n21 =>
J 1 [(3, x3), (8, x8), (9, (AV.i .i64 x9)), (10, (AV.i .i64 n21))] h
theorem G_transform_text_lower.t2_eq (J : JT) (Q : AV → AHeap → Prop) (x3 : AV) (x8 : AV) (x9 : Int) (x10 : Int) (h : AHeap) : G_transform_text_lower.t2 J Q x3 x8 x9 x10 h = atJ prog C 30 J false [1, 1, 0, 1, 0, 0, 1, 1, 1] G_transform_text_lower.ann G_transform_text_lower.body [(3, x3), (8, x8), (9, (AV.i .i64 x9)), (10, (AV.i .i64 x10))] h (kFun prog Tryd.f30 Q) := by kernel_rfl
theorem G_transform_text_lower.i2 {Q : AV → AHeap → Prop} {x3 : AV} {x8 : AV} {x9 : Int} {x10 : Int} {h : AHeap} (H : G_transform_text_lower.t2 (G_transform_text_lower.J Q) Q x3 x8 x9 x10 h) : G_transform_text_lower.p2 Q x3 x8 x9 x10 h := G_transform_text_lower.goR (k := 3) (p := [1, 1, 0, 1, 0, 0, 1, 1, 1]) (by kernel_rfl) ((G_transform_text_lower.t2_eq (G_transform_text_lower.J Q) Q x3 x8 x9 x10 h).mp H)
def G_transform_text_lower.t0 (J : JT) (Q : AV → AHeap → Prop) (x3 : AV) (x8 : AV) (x9 : Int) (x10 : Int) (h : AHeap) : Prop :=
(bif (decide ((x10 : Int) < x9)) then
(pIdxAddrSl 1 x8 (AV.i .i64 x10) h fun v9 =>
pLoad1 v9 h fun v10 =>
asI .u8 v10 fun n11 =>
(bif (decide ((65 : Int) ≤ n11)) then
(J 2 [(3, x3), (4, (AV.i .i64 x10)), (5, (AV.i .u8 n11)), (8, x8), (9, (AV.i .i64 x9)), (10, (AV.i .i64 x10)), (20, (AV.b (decide ((n11 : Int) ≤ 90))))] h)
else
(J 2 [(3, x3), (4, (AV.i .i64 x10)), (5, (AV.i .u8 n11)), (8, x8), (9, (AV.i .i64 x9)), (10, (AV.i .i64 x10)), (20, (AV.b false))] h)))
else
(pBytesStr x3 h fun l23 =>
Q (AV.s l23) h))
theorem G_transform_text_lower.t0_eq (J : JT) (Q : AV → AHeap → Prop) (x3 : AV) (x8 : AV) (x9 : Int) (x10 : Int) (h : AHeap) : G_transform_text_lower.t0 J Q x3 x8 x9 x10 h = atJ prog C 30 J true [1, 1, 0, 1, 0] G_transform_text_lower.ann G_transform_text_lower.body [(3, x3), (8, x8), (9, (AV.i .i64 x9)), (10, (AV.i .i64 x10))] h (kFun prog Tryd.f30 Q) := by kernel_rfl
theorem G_transform_text_lower.i0 {Q : AV → AHeap → Prop} {x3 : AV} {x8 : AV} {x9 : Int} {x10 : Int} {h : AHeap} (H : G_transform_text_lower.t0 (G_transform_text_lower.J Q) Q x3 x8 x9 x10 h) : G_transform_text_lower.p0 Q x3 x8 x9 x10 h := G_transform_text_lower.goH (k := 1) (p := [1, 1, 0, 1, 0]) (by kernel_rfl) ((G_transform_text_lower.t0_eq (G_transform_text_lower.J Q) Q x3 x8 x9 x10 h).mp H)
def G_transform_text_lower.t (J : JT) (Q : AV → AHeap → Prop) (x0 : List UInt8) (h : AHeap) : Prop :=
pStrBytes (AV.s x0) h fun v1 h2 =>
pLenSl v1 fun n4 =>
J 1 [(3, v1), (8, v1), (9, (AV.i .i64 n4)), (10, (AV.i .i64 0))] h2
theorem G_transform_text_lower.t_eq (J : JT) (Q : AV → AHeap → Prop) (x0 : List UInt8) (h : AHeap) : G_transform_text_lower.t J Q x0 h = exJ prog C 30 J G_transform_text_lower.ann G_transform_text_lower.body (initEnv 0 [(AV.s x0)]) h (kFun prog Tryd.f30 Q) := by kernel_rfl
theorem G_transform_text_lower.call {K : AV → AHeap → Prop} {x0 : List UInt8} {h : AHeap} (H : G_transform_text_lower.t (G_transform_text_lower.J (kRet h K)) (kRet h K) x0 h) : C G_transform_text_lower.id [(AV.s x0)] h K :=
  callJ (P := prog) (fn := Tryd.f30) (ann := G_transform_text_lower.ann) (body := G_transform_text_lower.body) Tryd.func30 G_transform_text_lower.body_eq (by kernel_rfl) G_transform_text_lower.dist (by kernel_rfl) ((G_transform_text_lower.t_eq (G_transform_text_lower.J (kRet h K)) (kRet h K) x0 h).mp H)

--@@ G_transform_text_strip
/-! ### 31: (intrusion/transform.text).strip -/
noncomputable def G_transform_text_strip.body : Code := (Tryd.f31.body).getD .skip
def G_transform_text_strip.ann : Ann := (.seq 0 [0] .leaf (.seq 0 [0, 3] .leaf (.seq 0 [3] (.seq 0 [0, 3, 6, 7] .leaf (.one (.loop 1 [0, 3, 6, 7] (.seq 0 [0, 3, 6, 7, 8] .leaf (.seq 0 [0, 3, 6, 7] (.br .leaf .leaf) (.seq 3 [0, 3, 6, 7] (.one (.seq 0 [0, 3, 4, 6, 7] .leaf (.seq 0 [0, 3, 4, 6, 7, 12] .leaf (.one (.seq 2 [0, 3, 4, 6, 7, 19] (.seq 0 [0, 3, 4, 6, 7, 12, 19] .leaf (.br .leaf (.seq 0 [0, 3, 4, 6, 7, 12, 19] .leaf (.br .leaf (.seq 0 [0, 3, 4, 6, 7, 12, 19] .leaf (.br .leaf .leaf)))))) (.br .leaf .leaf)))))) .leaf)))))) (.seq 0 [2] .leaf .leaf))))
theorem G_transform_text_strip.body_eq : Tryd.f31.body = some G_transform_text_strip.body := by kernel_rfl
theorem G_transform_text_strip.dist : noTwice (places G_transform_text_strip.ann G_transform_text_strip.body) = true := by kernel_rfl
noncomputable def G_transform_text_strip.J (Q : AV → AHeap → Prop) : JT := funJ prog C Tryd.f31 G_transform_text_strip.ann G_transform_text_strip.body Q
theorem G_transform_text_strip.goR {Q : AV → AHeap → Prop} {k : Nat} {p : List Nat} (hl : lookJ (places G_transform_text_strip.ann G_transform_text_strip.body) k = some (p, false)) {e : Env} {h : AHeap} (hk : atJ prog C 27 (G_transform_text_strip.J Q) false p G_transform_text_strip.ann G_transform_text_strip.body e h (kFun prog Tryd.f31 Q)) : G_transform_text_strip.J Q k e h := goJ_run (P := prog) (fn := Tryd.f31) (ann := G_transform_text_strip.ann) (body := G_transform_text_strip.body) (Q := Q) (k := k) (p := p) (e := e) (h := h) (acall_le X) G_transform_text_strip.dist hl hk
theorem G_transform_text_strip.goH {Q : AV → AHeap → Prop} {k : Nat} {p : List Nat} (hl : lookJ (places G_transform_text_strip.ann G_transform_text_strip.body) k = some (p, true)) {e : Env} {h : AHeap} (hk : atJ prog C 27 (G_transform_text_strip.J Q) true p G_transform_text_strip.ann G_transform_text_strip.body e h (kFun prog Tryd.f31 Q)) : G_transform_text_strip.J Q k e h := goJ_head (P := prog) (fn := Tryd.f31) (ann := G_transform_text_strip.ann) (body := G_transform_text_strip.body) (Q := Q) (k := k) (p := p) (e := e) (h := h) (acall_le X) G_transform_text_strip.dist hl hk
def G_transform_text_strip.p1 (Q : AV → AHeap → Prop) (x0 : List UInt8) (x3 : AV) (x4 : Int) (x6 : Int) (x7 : Int) (x19 : Bool) (h : AHeap) : Prop := G_transform_text_strip.J Q 2 [(0, (AV.s x0)), (3, x3), (4, (AV.i .i64 x4)), (6, (AV.i .i64 x6)), (7, (AV.i .i64 x7)), (19, (AV.b x19))] h
theorem G_transform_text_strip.j1 (Q : AV → AHeap → Prop) (x0 : List UInt8) (x3 : AV) (x4 : Int) (x6 : Int) (x7 : Int) (x19 : Bool) (h : AHeap) : G_transform_text_strip.J Q 2 [(0, (AV.s x0)), (3, x3), (4, (AV.i .i64 x4)), (6, (AV.i .i64 x6)), (7, (AV.i .i64 x7)), (19, (AV.b x19))] h = G_transform_text_strip.p1 Q x0 x3 x4 x6 x7 x19 h := rfl
def G_transform_text_strip.p2 (Q : AV → AHeap → Prop) (x0 : List UInt8) (x3 : AV) (x6 : Int) (x7 : Int) (h : AHeap) : Prop := G_transform_text_strip.J Q 3 [(0, (AV.s x0)), (3, x3), (6, (AV.i .i64 x6)), (7, (AV.i .i64 x7))] h
theorem G_transform_text_strip.j2 (Q : AV → AHeap → Prop) (x0 : List UInt8) (x3 : AV) (x6 : Int) (x7 : Int) (h : AHeap) : G_transform_text_strip.J Q 3 [(0, (AV.s x0)), (3, x3), (6, (AV.i .i64 x6)), (7, (AV.i .i64 x7))] h = G_transform_text_strip.p2 Q x0 x3 x6 x7 h := rfl
def G_transform_text_strip.p0 (Q : AV → AHeap → Prop) (x0 : List UInt8) (x3 : AV) (x6 : Int) (x7 : Int) (h : AHeap) : Prop := G_transform_text_strip.J Q 1 [(0, (AV.s x0)), (3, x3), (6, (AV.i .i64 x6)), (7, (AV.i .i64 x7))] h
theorem G_transform_text_strip.j0 (Q : AV → AHeap → Prop) (x0 : List UInt8) (x3 : AV) (x6 : Int) (x7 : Int) (h : AHeap) : G_transform_text_strip.J Q 1 [(0, (AV.s x0)), (3, x3), (6, (AV.i .i64 x6)), (7, (AV.i .i64 x7))] h = G_transform_text_strip.p0 Q x0 x3 x6 x7 h := rfl
def G_transform_text_strip.t1 (J : JT) (Q : AV → AHeap → Prop) (x0 : List UInt8) (x3 : AV) (x4 : Int) (x6 : Int) (x7 : Int) (x19 : Bool) (h : AHeap) : Prop :=
(bif x19 then
(J 3 [(0, (AV.s x0)), (3, x3), (6, (AV.i .i64 x6)), (7, (AV.i .i64 x7))] h)
else
(pIdxStr (AV.s x0) (AV.i .i64 x4) fun n17 =>
pBuildSl 1 1 [(AV.i .u8 0)] [(0, 1, (AV.i .u8 n17))] h fun v18 h19 =>
pAppend 1 1 x3 v18 h19 fun v20 h21 =>
J 3 [(0, (AV.s x0)), (3, v20), (6, (AV.i .i64 x6)), (7, (AV.i .i64 x7))] h21))
theorem G_transform_text_strip.t1_eq (J : JT) (Q : AV → AHeap → Prop) (x0 : List UInt8) (x3 : AV) (x4 : Int) (x6 : Int) (x7 : Int) (x19 : Bool) (h : AHeap) : G_transform_text_strip.t1 J Q x0 x3 x4 x6 x7 x19 h = atJ prog C 27 J false [1, 1, 0, 1, 0, 0, 1, 1, 0, 0, 1, 1, 0, 1] G_transform_text_strip.ann G_transform_text_strip.body [(0, (AV.s x0)), (3, x3), (4, (AV.i .i64 x4)), (6, (AV.i .i64 x6)), (7, (AV.i .i64 x7)), (19, (AV.b x19))] h (kFun prog Tryd.f31 Q) := by kernel_rfl
theorem G_transform_text_strip.i1 {Q : AV → AHeap → Prop} {x0 : List UInt8} {x3 : AV} {x4 : Int} {x6 : Int} {x7 : Int} {x19 : Bool} {h : AHeap} (H : G_transform_text_strip.t1 (G_transform_text_strip.J Q) Q x0 x3 x4 x6 x7 x19 h) : G_transform_text_strip.p1 Q x0 x3 x4 x6 x7 x19 h := G_transform_text_strip.goR (k := 2) (p := [1, 1, 0, 1, 0, 0, 1, 1, 0, 0, 1, 1, 0, 1]) (by kernel_rfl) ((G_transform_text_strip.t1_eq (G_transform_text_strip.J Q) Q x0 x3 x4 x6 x7 x19 h).mp H)
def G_transform_text_strip.t2 (J : JT) (Q : AV → AHeap → Prop) (x0 : List UInt8) (x3 : AV) (x6 : Int) (x7 : Int) (h : AHeap) : Prop :=
withI (IntKind.wrap .i64 (x7 + 1)) fun n23 =>
J 1 [(0, (AV.s x0)), (3, x3), (6, (AV.i .i64 x6)), (7, (AV.i .i64 n23))] h
theorem G_transform_text_strip.t2_eq (J : JT) (Q : AV → AHeap → Prop) (x0 : List UInt8) (x3 : AV) (x6 : Int) (x7 : Int) (h : AHeap) : G_transform_text_strip.t2 J Q x0 x3 x6 x7 h = atJ prog C 27 J false [1, 1, 0, 1, 0, 0, 1, 1, 1] G_transform_text_strip.ann G_transform_text_strip.body [(0, (AV.s x0)), (3, x3), (6, (AV.i .i64 x6)), (7, (AV.i .i64 x7))] h (kFun prog Tryd.f31 Q) := by kernel_rfl
theorem G_transform_text_strip.i2 {Q : AV → AHeap → Prop} {x0 : List UInt8} {x3 : AV} {x6 : Int} {x7 : Int} {h : AHeap} (H : G_transform_text_strip.t2 (G_transform_text_strip.J Q) Q x0 x3 x6 x7 h) : G_transform_text_strip.p2 Q x0 x3 x6 x7 h := G_transform_text_strip.goR (k := 3) (p := [1, 1, 0, 1, 0, 0, 1, 1, 1]) (by kernel_rfl) ((G_transform_text_strip.t2_eq (G_transform_text_strip.J Q) Q x0 x3 x6 x7 h).mp H)
def G_transform_text_strip.t0 (J : JT) (Q : AV → AHeap → Prop) (x0 : List UInt8) (x3 : AV) (x6 : Int) (x7 : Int) (h : AHeap) : Prop :=
(bif (decide ((x7 : Int) < x6)) then
(pIdxStr (AV.s x0) (AV.i .i64 x7) fun n7 =>
(bif (decide ((n7 : Int) = 9)) then
(J 2 [(0, (AV.s x0)), (3, x3), (4, (AV.i .i64 x7)), (6, (AV.i .i64 x6)), (7, (AV.i .i64 x7)), (19, (AV.b (decide ((n7 : Int) = 9))))] h)
else
((bif (decide ((n7 : Int) = 10)) then
(J 2 [(0, (AV.s x0)), (3, x3), (4, (AV.i .i64 x7)), (6, (AV.i .i64 x6)), (7, (AV.i .i64 x7)), (19, (AV.b (decide ((n7 : Int) = 10))))] h)
else
((bif (decide ((n7 : Int) = 13)) then
(J 2 [(0, (AV.s x0)), (3, x3), (4, (AV.i .i64 x7)), (6, (AV.i .i64 x6)), (7, (AV.i .i64 x7)), (19, (AV.b (decide ((n7 : Int) = 13))))] h)
else
(J 2 [(0, (AV.s x0)), (3, x3), (4, (AV.i .i64 x7)), (6, (AV.i .i64 x6)), (7, (AV.i .i64 x7)), (19, (AV.b (decide ((n7 : Int) = 32))))] h)))))))
else
(pBytesStr x3 h fun l25 =>
Q (AV.s l25) h))
theorem G_transform_text_strip.t0_eq (J : JT) (Q : AV → AHeap → Prop) (x0 : List UInt8) (x3 : AV) (x6 : Int) (x7 : Int) (h : AHeap) : G_transform_text_strip.t0 J Q x0 x3 x6 x7 h = atJ prog C 27 J true [1, 1, 0, 1, 0] G_transform_text_strip.ann G_transform_text_strip.body [(0, (AV.s x0)), (3, x3), (6, (AV.i .i64 x6)), (7, (AV.i .i64 x7))] h (kFun prog Tryd.f31 Q) := by kernel_rfl
theorem G_transform_text_strip.i0 {Q : AV → AHeap → Prop} {x0 : List UInt8} {x3 : AV} {x6 : Int} {x7 : Int} {h : AHeap} (H : G_transform_text_strip.t0 (G_transform_text_strip.J Q) Q x0 x3 x6 x7 h) : G_transform_text_strip.p0 Q x0 x3 x6 x7 h := G_transform_text_strip.goH (k := 1) (p := [1, 1, 0, 1, 0]) (by kernel_rfl) ((G_transform_text_strip.t0_eq (G_transform_text_strip.J Q) Q x0 x3 x6 x7 h).mp H)
def G_transform_text_strip.t (J : JT) (Q : AV → AHeap → Prop) (x0 : List UInt8) (h : AHeap) : Prop :=
J 1 [(0, (AV.s x0)), (3, (AV.sl none 0 none)), (6, (AV.i .i64 (x0.length : Int))), (7, (AV.i .i64 0))] h
theorem G_transform_text_strip.t_eq (J : JT) (Q : AV → AHeap → Prop) (x0 : List UInt8) (h : AHeap) : G_transform_text_strip.t J Q x0 h = exJ prog C 27 J G_transform_text_strip.ann G_transform_text_strip.body (initEnv 0 [(AV.s x0)]) h (kFun prog Tryd.f31 Q) := by kernel_rfl
theorem G_transform_text_strip.call {K : AV → AHeap → Prop} {x0 : List UInt8} {h : AHeap} (H : G_transform_text_strip.t (G_transform_text_strip.J (kRet h K)) (kRet h K) x0 h) : C G_transform_text_strip.id [(AV.s x0)] h K :=
  callJ (P := prog) (fn := Tryd.f31) (ann := G_transform_text_strip.ann) (body := G_transform_text_strip.body) Tryd.func31 G_transform_text_strip.body_eq (by kernel_rfl) G_transform_text_strip.dist (by kernel_rfl) ((G_transform_text_strip.t_eq (G_transform_text_strip.J (kRet h K)) (kRet h K) x0 h).mp H)

--@@ G_transform_text_percent
/-! ### 32: (intrusion/transform.text).percent -/
noncomputable def G_transform_text_percent.body : Code := (Tryd.f32.body).getD .skip
def G_transform_text_percent.ann : Ann := (.seq 0 [0] .leaf (.seq 0 [0, 3] .leaf (.seq 0 [3] (.seq 0 [0, 3, 4] .leaf (.one (.loop 1 [0, 3, 4] (.seq 0 [0, 3, 4] (.seq 0 [0, 3, 4, 10] .leaf (.br .leaf .leaf)) (.seq 5 [0, 3, 4] (.one (.seq 4 [0, 3, 4] (.seq 2 [0, 3, 4, 23] .leaf (.br (.seq 0 [0, 3, 4, 5, 6] (.ord (.neu 0 (.neu 1 (.neu 2 (.neu 3 (.neu 5 (.neu 6 (.neu 7 (.neu 8 (.eff 4 (.eff 9 (.neu 10 (.neu 11 .done)) .stop) .stop)))))))))) (.seq 3 [0, 3, 4, 5, 6, 39] .leaf (.br (.seq 0 [0, 3, 4] .leaf (.seq 0 [0, 3, 4] .leaf .leaf)) .leaf))) .leaf)) .leaf)) .leaf))))) (.seq 0 [2] .leaf .leaf))))
theorem G_transform_text_percent.body_eq : Tryd.f32.body = some G_transform_text_percent.body := by kernel_rfl
theorem G_transform_text_percent.dist : noTwice (places G_transform_text_percent.ann G_transform_text_percent.body) = true := by kernel_rfl
noncomputable def G_transform_text_percent.J (Q : AV → AHeap → Prop) : JT := funJ prog C Tryd.f32 G_transform_text_percent.ann G_transform_text_percent.body Q
theorem G_transform_text_percent.goR {Q : AV → AHeap → Prop} {k : Nat} {p : List Nat} (hl : lookJ (places G_transform_text_percent.ann G_transform_text_percent.body) k = some (p, false)) {e : Env} {h : AHeap} (hk : atJ prog C 58 (G_transform_text_percent.J Q) false p G_transform_text_percent.ann G_transform_text_percent.body e h (kFun prog Tryd.f32 Q)) : G_transform_text_percent.J Q k e h := goJ_run (P := prog) (fn := Tryd.f32) (ann := G_transform_text_percent.ann) (body := G_transform_text_percent.body) (Q := Q) (k := k) (p := p) (e := e) (h := h) (acall_le X) G_transform_text_percent.dist hl hk
theorem G_transform_text_percent.goH {Q : AV → AHeap → Prop} {k : Nat} {p : List Nat} (hl : lookJ (places G_transform_text_percent.ann G_transform_text_percent.body) k = some (p, true)) {e : Env} {h : AHeap} (hk : atJ prog C 58 (G_transform_text_percent.J Q) true p G_transform_text_percent.ann G_transform_text_percent.body e h (kFun prog Tryd.f32 Q)) : G_transform_text_percent.J Q k e h := goJ_head (P := prog) (fn := Tryd.f32) (ann := G_transform_text_percent.ann) (body := G_transform_text_percent.body) (Q := Q) (k := k) (p := p) (e := e) (h := h) (acall_le X) G_transform_text_percent.dist hl hk
def G_transform_text_percent.p2 (Q : AV → AHeap → Prop) (x0 : List UInt8) (x3 : AV) (x4 : Int) (x5 : Int) (x6 : Int) (x39 : Bool) (h : AHeap) : Prop := G_transform_text_percent.J Q 3 [(0, (AV.s x0)), (3, x3), (4, (AV.i .i64 x4)), (5, (AV.i .i64 x5)), (6, (AV.i .i64 x6)), (39, (AV.b x39))] h
theorem G_transform_text_percent.j2 (Q : AV → AHeap → Prop) (x0 : List UInt8) (x3 : AV) (x4 : Int) (x5 : Int) (x6 : Int) (x39 : Bool) (h : AHeap) : G_transform_text_percent.J Q 3 [(0, (AV.s x0)), (3, x3), (4, (AV.i .i64 x4)), (5, (AV.i .i64 x5)), (6, (AV.i .i64 x6)), (39, (AV.b x39))] h = G_transform_text_percent.p2 Q x0 x3 x4 x5 x6 x39 h := rfl
def G_transform_text_percent.p1 (Q : AV → AHeap → Prop) (x0 : List UInt8) (x3 : AV) (x4 : Int) (x23 : Bool) (h : AHeap) : Prop := G_transform_text_percent.J Q 2 [(0, (AV.s x0)), (3, x3), (4, (AV.i .i64 x4)), (23, (AV.b x23))] h
theorem G_transform_text_percent.j1 (Q : AV → AHeap → Prop) (x0 : List UInt8) (x3 : AV) (x4 : Int) (x23 : Bool) (h : AHeap) : G_transform_text_percent.J Q 2 [(0, (AV.s x0)), (3, x3), (4, (AV.i .i64 x4)), (23, (AV.b x23))] h = G_transform_text_percent.p1 Q x0 x3 x4 x23 h := rfl
def G_transform_text_percent.p3 (Q : AV → AHeap → Prop) (x0 : List UInt8) (x3 : AV) (x4 : Int) (h : AHeap) : Prop := G_transform_text_percent.J Q 4 [(0, (AV.s x0)), (3, x3), (4, (AV.i .i64 x4))] h
theorem G_transform_text_percent.j3 (Q : AV → AHeap → Prop) (x0 : List UInt8) (x3 : AV) (x4 : Int) (h : AHeap) : G_transform_text_percent.J Q 4 [(0, (AV.s x0)), (3, x3), (4, (AV.i .i64 x4))] h = G_transform_text_percent.p3 Q x0 x3 x4 h := rfl
def G_transform_text_percent.p4 (Q : AV → AHeap → Prop) (x0 : List UInt8) (x3 : AV) (x4 : Int) (h : AHeap) : Prop := G_transform_text_percent.J Q 5 [(0, (AV.s x0)), (3, x3), (4, (AV.i .i64 x4))] h
theorem G_transform_text_percent.j4 (Q : AV → AHeap → Prop) (x0 : List UInt8) (x3 : AV) (x4 : Int) (h : AHeap) : G_transform_text_percent.J Q 5 [(0, (AV.s x0)), (3, x3), (4, (AV.i .i64 x4))] h = G_transform_text_percent.p4 Q x0 x3 x4 h := rfl
def G_transform_text_percent.p0 (Q : AV → AHeap → Prop) (x0 : List UInt8) (x3 : AV) (x4 : Int) (h : AHeap) : Prop := G_transform_text_percent.J Q 1 [(0, (AV.s x0)), (3, x3), (4, (AV.i .i64 x4))] h
theorem G_transform_text_percent.j0 (Q : AV → AHeap → Prop) (x0 : List UInt8) (x3 : AV) (x4 : Int) (h : AHeap) : G_transform_text_percent.J Q 1 [(0, (AV.s x0)), (3, x3), (4, (AV.i .i64 x4))] h = G_transform_text_percent.p0 Q x0 x3 x4 h := rfl
def G_transform_text_percent.t2 (J : JT) (Q : AV → AHeap → Prop) (x0 : List UInt8) (x3 : AV) (x4 : Int) (x5 : Int) (x6 : Int) (x39 : Bool) (h : AHeap) : Prop :=
(bif x39 then
(withI (IntKind.wrap .i64 (16 * x5)) fun n23 =>
withI (IntKind.wrap .i64 (n23 + x6)) fun n24 =>
pBuildSl 1 1 [(AV.i .u8 0)] [(0, 1, (AV.i .u8 (IntKind.wrap .u8 n24)))] h fun v25 h26 =>
pAppend 1 1 x3 v25 h26 fun v27 h28 =>
withI (IntKind.wrap .i64 (x4 + 2)) fun n30 =>
J 5 [(0, (AV.s x0)), (3, v27), (4, (AV.i .i64 n30))] h28)
else
(J 4 [(0, (AV.s x0)), (3, x3), (4, (AV.i .i64 x4))] h))
theorem G_transform_text_percent.t2_eq (J : JT) (Q : AV → AHeap → Prop) (x0 : List UInt8) (x3 : AV) (x4 : Int) (x5 : Int) (x6 : Int) (x39 : Bool) (h : AHeap) : G_transform_text_percent.t2 J Q x0 x3 x4 x5 x6 x39 h = atJ prog C 58 J false [1, 1, 0, 1, 0, 0, 1, 0, 0, 0, 1, 0, 1, 1] G_transform_text_percent.ann G_transform_text_percent.body [(0, (AV.s x0)), (3, x3), (4, (AV.i .i64 x4)), (5, (AV.i .i64 x5)), (6, (AV.i .i64 x6)), (39, (AV.b x39))] h (kFun prog Tryd.f32 Q) := by kernel_rfl
theorem G_transform_text_percent.i2 {Q : AV → AHeap → Prop} {x0 : List UInt8} {x3 : AV} {x4 : Int} {x5 : Int} {x6 : Int} {x39 : Bool} {h : AHeap} (H : G_transform_text_percent.t2 (G_transform_text_percent.J Q) Q x0 x3 x4 x5 x6 x39 h) : G_transform_text_percent.p2 Q x0 x3 x4 x5 x6 x39 h := G_transform_text_percent.goR (k := 3) (p := [1, 1, 0, 1, 0, 0, 1, 0, 0, 0, 1, 0, 1, 1]) (by kernel_rfl) ((G_transform_text_percent.t2_eq (G_transform_text_percent.J Q) Q x0 x3 x4 x5 x6 x39 h).mp H)
def G_transform_text_percent.t1 (J : JT) (Q : AV → AHeap → Prop) (x0 : List UInt8) (x3 : AV) (x4 : Int) (x23 : Bool) (h : AHeap) : Prop :=
(bif x23 then
(withI (IntKind.wrap .i64 (x4 + 1)) fun n10 =>
pIdxStr (AV.s x0) (AV.i .i64 n10) fun n11 =>
withI (IntKind.wrap .i64 (x4 + 2)) fun n12 =>
pIdxStr (AV.s x0) (AV.i .i64 n12) fun n13 =>
C G_transform_digit.id [(AV.i .u8 n11)] h fun v14 h15 =>
asI .i64 v14 fun n16 =>
C G_transform_digit.id [(AV.i .u8 n13)] h15 fun v17 h18 =>
asI .i64 v17 fun n19 =>
(bif (decide ((0 : Int) ≤ n16)) then
(J 3 [(0, (AV.s x0)), (3, x3), (4, (AV.i .i64 x4)), (5, (AV.i .i64 n16)), (6, (AV.i .i64 n19)), (39, (AV.b (decide ((0 : Int) ≤ n19))))] h18)
else
(J 3 [(0, (AV.s x0)), (3, x3), (4, (AV.i .i64 x4)), (5, (AV.i .i64 n16)), (6, (AV.i .i64 n19)), (39, (AV.b false))] h18)))
else
(J 4 [(0, (AV.s x0)), (3, x3), (4, (AV.i .i64 x4))] h))
theorem G_transform_text_percent.t1_eq (J : JT) (Q : AV → AHeap → Prop) (x0 : List UInt8) (x3 : AV) (x4 : Int) (x23 : Bool) (h : AHeap) : G_transform_text_percent.t1 J Q x0 x3 x4 x23 h = atJ prog C 58 J false [1, 1, 0, 1, 0, 0, 1, 0, 0, 0, 1] G_transform_text_percent.ann G_transform_text_percent.body [(0, (AV.s x0)), (3, x3), (4, (AV.i .i64 x4)), (23, (AV.b x23))] h (kFun prog Tryd.f32 Q) := by kernel_rfl
theorem G_transform_text_percent.i1 {Q : AV → AHeap → Prop} {x0 : List UInt8} {x3 : AV} {x4 : Int} {x23 : Bool} {h : AHeap} (H : G_transform_text_percent.t1 (G_transform_text_percent.J Q) Q x0 x3 x4 x23 h) : G_transform_text_percent.p1 Q x0 x3 x4 x23 h := G_transform_text_percent.goR (k := 2) (p := [1, 1, 0, 1, 0, 0, 1, 0, 0, 0, 1]) (by kernel_rfl) ((G_transform_text_percent.t1_eq (G_transform_text_percent.J Q) Q x0 x3 x4 x23 h).mp H)
def G_transform_text_percent.t3 (J : JT) (Q : AV → AHeap → Prop) (x0 : List UInt8) (x3 : AV) (x4 : Int) (h : AHeap) : Prop :=
pIdxStr (AV.s x0) (AV.i .i64 x4) fun n35 =>
pBuildSl 1 1 [(AV.i .u8 0)] [(0, 1, (AV.i .u8 n35))] h fun v36 h37 =>
pAppend 1 1 x3 v36 h37 fun v38 h39 =>
J 5 [(0, (AV.s x0)), (3, v38), (4, (AV.i .i64 x4))] h39
theorem G_transform_text_percent.t3_eq (J : JT) (Q : AV → AHeap → Prop) (x0 : List UInt8) (x3 : AV) (x4 : Int) (h : AHeap) : G_transform_text_percent.t3 J Q x0 x3 x4 h = atJ prog C 58 J false [1, 1, 0, 1, 0, 0, 1, 0, 0, 1] G_transform_text_percent.ann G_transform_text_percent.body [(0, (AV.s x0)), (3, x3), (4, (AV.i .i64 x4))] h (kFun prog Tryd.f32 Q) := by kernel_rfl
theorem G_transform_text_percent.i3 {Q : AV → AHeap → Prop} {x0 : List UInt8} {x3 : AV} {x4 : Int} {h : AHeap} (H : G_transform_text_percent.t3 (G_transform_text_percent.J Q) Q x0 x3 x4 h) : G_transform_text_percent.p3 Q x0 x3 x4 h := G_transform_text_percent.goR (k := 4) (p := [1, 1, 0, 1, 0, 0, 1, 0, 0, 1]) (by kernel_rfl) ((G_transform_text_percent.t3_eq (G_transform_text_percent.J Q) Q x0 x3 x4 h).mp H)
def G_transform_text_percent.t4 (J : JT) (Q : AV → AHeap → Prop) (x0 : List UInt8) (x3 : AV) (x4 : Int) (h : AHeap) : Prop :=
withI (IntKind.wrap .i64 (x4 + 1)) fun n41 =>
J 1 [(0, (AV.s x0)), (3, x3), (4, (AV.i .i64 n41))] h
theorem G_transform_text_percent.t4_eq (J : JT) (Q : AV → AHeap → Prop) (x0 : List UInt8) (x3 : AV) (x4 : Int) (h : AHeap) : G_transform_text_percent.t4 J Q x0 x3 x4 h = atJ prog C 58 J false [1, 1, 0, 1, 0, 0, 1, 1] G_transform_text_percent.ann G_transform_text_percent.body [(0, (AV.s x0)), (3, x3), (4, (AV.i .i64 x4))] h (kFun prog Tryd.f32 Q) := by kernel_rfl
theorem G_transform_text_percent.i4 {Q : AV → AHeap → Prop} {x0 : List UInt8} {x3 : AV} {x4 : Int} {h : AHeap} (H : G_transform_text_percent.t4 (G_transform_text_percent.J Q) Q x0 x3 x4 h) : G_transform_text_percent.p4 Q x0 x3 x4 h := G_transform_text_percent.goR (k := 5) (p := [1, 1, 0, 1, 0, 0, 1, 1]) (by kernel_rfl) ((G_transform_text_percent.t4_eq (G_transform_text_percent.J Q) Q x0 x3 x4 h).mp H)
def G_transform_text_percent.t0 (J : JT) (Q : AV → AHeap → Prop) (x0 : List UInt8) (x3 : AV) (x4 : Int) (h : AHeap) : Prop :=
(bif (decide ((x4 : Int) < (x0.length : Int))) then
(pIdxStr (AV.s x0) (AV.i .i64 x4) fun n6 =>
(bif (decide ((n6 : Int) = 37)) then
(withI (IntKind.wrap .i64 ((x0.length : Int) - x4)) fun n7 =>
J 2 [(0, (AV.s x0)), (3, x3), (4, (AV.i .i64 x4)), (23, (AV.b (decide ((2 : Int) < n7))))] h)
else
(J 2 [(0, (AV.s x0)), (3, x3), (4, (AV.i .i64 x4)), (23, (AV.b false))] h)))
else
(pBytesStr x3 h fun l43 =>
Q (AV.s l43) h))
theorem G_transform_text_percent.t0_eq (J : JT) (Q : AV → AHeap → Prop) (x0 : List UInt8) (x3 : AV) (x4 : Int) (h : AHeap) : G_transform_text_percent.t0 J Q x0 x3 x4 h = atJ prog C 58 J true [1, 1, 0, 1, 0] G_transform_text_percent.ann G_transform_text_percent.body [(0, (AV.s x0)), (3, x3), (4, (AV.i .i64 x4))] h (kFun prog Tryd.f32 Q) := by kernel_rfl
theorem G_transform_text_percent.i0 {Q : AV → AHeap → Prop} {x0 : List UInt8} {x3 : AV} {x4 : Int} {h : AHeap} (H : G_transform_text_percent.t0 (G_transform_text_percent.J Q) Q x0 x3 x4 h) : G_transform_text_percent.p0 Q x0 x3 x4 h := G_transform_text_percent.goH (k := 1) (p := [1, 1, 0, 1, 0]) (by kernel_rfl) ((G_transform_text_percent.t0_eq (G_transform_text_percent.J Q) Q x0 x3 x4 h).mp H)
def G_transform_text_percent.t (J : JT) (Q : AV → AHeap → Prop) (x0 : List UInt8) (h : AHeap) : Prop :=
J 1 [(0, (AV.s x0)), (3, (AV.sl none 0 none)), (4, (AV.i .i64 0))] h
theorem G_transform_text_percent.t_eq (J : JT) (Q : AV → AHeap → Prop) (x0 : List UInt8) (h : AHeap) : G_transform_text_percent.t J Q x0 h = exJ prog C 58 J G_transform_text_percent.ann G_transform_text_percent.body (initEnv 0 [(AV.s x0)]) h (kFun prog Tryd.f32 Q) := by kernel_rfl
theorem G_transform_text_percent.call {K : AV → AHeap → Prop} {x0 : List UInt8} {h : AHeap} (H : G_transform_text_percent.t (G_transform_text_percent.J (kRet h K)) (kRet h K) x0 h) : C G_transform_text_percent.id [(AV.s x0)] h K :=
  callJ (P := prog) (fn := Tryd.f32) (ann := G_transform_text_percent.ann) (body := G_transform_text_percent.body) Tryd.func32 G_transform_text_percent.body_eq (by kernel_rfl) G_transform_text_percent.dist (by kernel_rfl) ((G_transform_text_percent.t_eq (G_transform_text_percent.J (kRet h K)) (kRet h K) x0 h).mp H)

--@@ G_transform_text_base64
/-! ### 33: (intrusion/transform.text).base64 -/
noncomputable def G_transform_text_base64.body : Code := (Tryd.f33.body).getD .skip
def G_transform_text_base64.ann : Ann := (.seq 0 [0] .leaf (.seq 0 [0, 3] .leaf (.seq 0 [0, 3, 4, 5] .leaf (.seq 3 [3] (.seq 0 [0, 3, 4, 5, 9, 10] .leaf (.one (.loop 1 [0, 3, 4, 5, 9, 10] (.seq 0 [0, 3, 4, 5, 9, 10, 11] .leaf (.seq 0 [0, 3, 4, 5, 9, 10] (.br .leaf .leaf) (.seq 2 [0, 3, 4, 5, 9, 10] (.one (.seq 0 [0, 3, 4, 5, 6, 9, 10] .leaf (.seq 0 [0, 3, 4, 5, 6, 9, 10] (.seq 0 [0, 3, 4, 5, 6, 9, 10, 16] .leaf (.br .leaf .leaf)) (.seq 0 [0, 3, 4, 5, 7, 9, 10] .leaf (.seq 0 [0, 3, 4, 5, 7, 9, 10] (.seq 0 [0, 3, 4, 5, 7, 9, 10, 22] .leaf (.br .leaf .leaf)) (.seq 0 [0, 3, 4, 5, 9, 10] .leaf (.seq 0 [0, 3, 4, 5, 9, 10, 30] .leaf (.br (.seq 0 [0, 3, 4, 5, 9, 10] .leaf (.seq 0 [0, 3, 4, 5, 9, 10] .leaf .leaf)) .leaf)))))))) .leaf)))))) (.seq 0 [2] .leaf .leaf)))))
theorem G_transform_text_base64.body_eq : Tryd.f33.body = some G_transform_text_base64.body := by kernel_rfl
theorem G_transform_text_base64.dist : noTwice (places G_transform_text_base64.ann G_transform_text_base64.body) = true := by kernel_rfl
noncomputable def G_transform_text_base64.J (Q : AV → AHeap → Prop) : JT := funJ prog C Tryd.f33 G_transform_text_base64.ann G_transform_text_base64.body Q
theorem G_transform_text_base64.goR {Q : AV → AHeap → Prop} {k : Nat} {p : List Nat} (hl : lookJ (places G_transform_text_base64.ann G_transform_text_base64.body) k = some (p, false)) {e : Env} {h : AHeap} (hk : atJ prog C 48 (G_transform_text_base64.J Q) false p G_transform_text_base64.ann G_transform_text_base64.body e h (kFun prog Tryd.f33 Q)) : G_transform_text_base64.J Q k e h := goJ_run (P := prog) (fn := Tryd.f33) (ann := G_transform_text_base64.ann) (body := G_transform_text_base64.body) (Q := Q) (k := k) (p := p) (e := e) (h := h) (acall_le X) G_transform_text_base64.dist hl hk
theorem G_transform_text_base64.goH {Q : AV → AHeap → Prop} {k : Nat} {p : List Nat} (hl : lookJ (places G_transform_text_base64.ann G_transform_text_base64.body) k = some (p, true)) {e : Env} {h : AHeap} (hk : atJ prog C 48 (G_transform_text_base64.J Q) true p G_transform_text_base64.ann G_transform_text_base64.body e h (kFun prog Tryd.f33 Q)) : G_transform_text_base64.J Q k e h := goJ_head (P := prog) (fn := Tryd.f33) (ann := G_transform_text_base64.ann) (body := G_transform_text_base64.body) (Q := Q) (k := k) (p := p) (e := e) (h := h) (acall_le X) G_transform_text_base64.dist hl hk
def G_transform_text_base64.p1 (Q : AV → AHeap → Prop) (x0 : List UInt8) (x3 : AV) (x4 : Int) (x5 : Int) (x9 : Int) (x10 : Int) (h : AHeap) : Prop := G_transform_text_base64.J Q 2 [(0, (AV.s x0)), (3, x3), (4, (AV.i .i64 x4)), (5, (AV.i .i64 x5)), (9, (AV.i .i64 x9)), (10, (AV.i .i64 x10))] h
theorem G_transform_text_base64.j1 (Q : AV → AHeap → Prop) (x0 : List UInt8) (x3 : AV) (x4 : Int) (x5 : Int) (x9 : Int) (x10 : Int) (h : AHeap) : G_transform_text_base64.J Q 2 [(0, (AV.s x0)), (3, x3), (4, (AV.i .i64 x4)), (5, (AV.i .i64 x5)), (9, (AV.i .i64 x9)), (10, (AV.i .i64 x10))] h = G_transform_text_base64.p1 Q x0 x3 x4 x5 x9 x10 h := rfl
def G_transform_text_base64.p0 (Q : AV → AHeap → Prop) (x0 : List UInt8) (x3 : AV) (x4 : Int) (x5 : Int) (x9 : Int) (x10 : Int) (h : AHeap) : Prop := G_transform_text_base64.J Q 1 [(0, (AV.s x0)), (3, x3), (4, (AV.i .i64 x4)), (5, (AV.i .i64 x5)), (9, (AV.i .i64 x9)), (10, (AV.i .i64 x10))] h
theorem G_transform_text_base64.j0 (Q : AV → AHeap → Prop) (x0 : List UInt8) (x3 : AV) (x4 : Int) (x5 : Int) (x9 : Int) (x10 : Int) (h : AHeap) : G_transform_text_base64.J Q 1 [(0, (AV.s x0)), (3, x3), (4, (AV.i .i64 x4)), (5, (AV.i .i64 x5)), (9, (AV.i .i64 x9)), (10, (AV.i .i64 x10))] h = G_transform_text_base64.p0 Q x0 x3 x4 x5 x9 x10 h := rfl
def G_transform_text_base64.p2 (Q : AV → AHeap → Prop) (x3 : AV) (h : AHeap) : Prop := G_transform_text_base64.J Q 3 [(3, x3)] h
theorem G_transform_text_base64.j2 (Q : AV → AHeap → Prop) (x3 : AV) (h : AHeap) : G_transform_text_base64.J Q 3 [(3, x3)] h = G_transform_text_base64.p2 Q x3 h := rfl
def G_transform_text_base64.t1 (J : JT) (Q : AV → AHeap → Prop) (x0 : List UInt8) (x3 : AV) (x4 : Int) (x5 : Int) (x9 : Int) (x10 : Int) (h : AHeap) : Prop :=
withI (IntKind.wrap .i64 (x10 + 1)) fun n38 =>
J 1 [(0, (AV.s x0)), (3, x3), (4, (AV.i .i64 x4)), (5, (AV.i .i64 x5)), (9, (AV.i .i64 x9)), (10, (AV.i .i64 n38))] h
theorem G_transform_text_base64.t1_eq (J : JT) (Q : AV → AHeap → Prop) (x0 : List UInt8) (x3 : AV) (x4 : Int) (x5 : Int) (x9 : Int) (x10 : Int) (h : AHeap) : G_transform_text_base64.t1 J Q x0 x3 x4 x5 x9 x10 h = atJ prog C 48 J false [1, 1, 1, 0, 1, 0, 0, 1, 1, 1] G_transform_text_base64.ann G_transform_text_base64.body [(0, (AV.s x0)), (3, x3), (4, (AV.i .i64 x4)), (5, (AV.i .i64 x5)), (9, (AV.i .i64 x9)), (10, (AV.i .i64 x10))] h (kFun prog Tryd.f33 Q) := by kernel_rfl
theorem G_transform_text_base64.i1 {Q : AV → AHeap → Prop} {x0 : List UInt8} {x3 : AV} {x4 : Int} {x5 : Int} {x9 : Int} {x10 : Int} {h : AHeap} (H : G_transform_text_base64.t1 (G_transform_text_base64.J Q) Q x0 x3 x4 x5 x9 x10 h) : G_transform_text_base64.p1 Q x0 x3 x4 x5 x9 x10 h := G_transform_text_base64.goR (k := 2) (p := [1, 1, 1, 0, 1, 0, 0, 1, 1, 1]) (by kernel_rfl) ((G_transform_text_base64.t1_eq (G_transform_text_base64.J Q) Q x0 x3 x4 x5 x9 x10 h).mp H)
def G_transform_text_base64.t0 (J : JT) (Q : AV → AHeap → Prop) (x0 : List UInt8) (x3 : AV) (x4 : Int) (x5 : Int) (x9 : Int) (x10 : Int) (h : AHeap) : Prop :=
(bif (decide ((x10 : Int) < x9)) then
(pIdxStr (AV.s x0) (AV.i .i64 x10) fun n8 =>
(bif (decide ((n8 : Int) = 61)) then
(J 3 [(3, x3)] h)
else
(pIdxStr (AV.s x0) (AV.i .i64 x10) fun n12 =>
C G_strings_IndexByte.id [(AV.s [65, 66, 67, 68, 69, 70, 71, 72, 73, 74, 75, 76, 77, 78, 79, 80, 81, 82, 83, 84, 85, 86, 87, 88, 89, 90, 97, 98, 99, 100, 101, 102, 103, 104, 105, 106, 107, 108, 109, 110, 111, 112, 113, 114, 115, 116, 117, 118, 119, 120, 121, 122, 48, 49, 50, 51, 52, 53, 54, 55, 56, 57, 43, 47]), (AV.i .u8 n12)] h fun v13 h14 =>
asI .i64 v13 fun n15 =>
(bif (decide ((n15 : Int) < 0)) then
(J 2 [(0, (AV.s x0)), (3, x3), (4, (AV.i .i64 x4)), (5, (AV.i .i64 x5)), (9, (AV.i .i64 x9)), (10, (AV.i .i64 x10))] h14)
else
(pShl .i64 x4 6 fun n20 =>
withI (bitsOp .or .i64 n20 n15) fun n21 =>
withI (IntKind.wrap .i64 (x5 + 6)) fun n22 =>
(bif (decide ((8 : Int) ≤ n22)) then
(withI (IntKind.wrap .i64 (n22 - 8)) fun n25 =>
pShr .i64 n21 n25 fun n27 =>
pBuildSl 1 1 [(AV.i .u8 0)] [(0, 1, (AV.i .u8 (IntKind.wrap .u8 n27)))] h14 fun v28 h29 =>
pAppend 1 1 x3 v28 h29 fun v30 h31 =>
pShl .i64 1 n25 fun n33 =>
withI (IntKind.wrap .i64 (n33 - 1)) fun n34 =>
withI (bitsOp .and .i64 n21 n34) fun n35 =>
J 2 [(0, (AV.s x0)), (3, v30), (4, (AV.i .i64 n35)), (5, (AV.i .i64 n25)), (9, (AV.i .i64 x9)), (10, (AV.i .i64 x10))] h31)
else
(J 2 [(0, (AV.s x0)), (3, x3), (4, (AV.i .i64 n21)), (5, (AV.i .i64 n22)), (9, (AV.i .i64 x9)), (10, (AV.i .i64 x10))] h14)))))))
else
(J 3 [(3, x3)] h))
theorem G_transform_text_base64.t0_eq (J : JT) (Q : AV → AHeap → Prop) (x0 : List UInt8) (x3 : AV) (x4 : Int) (x5 : Int) (x9 : Int) (x10 : Int) (h : AHeap) : G_transform_text_base64.t0 J Q x0 x3 x4 x5 x9 x10 h = atJ prog C 48 J true [1, 1, 1, 0, 1, 0] G_transform_text_base64.ann G_transform_text_base64.body [(0, (AV.s x0)), (3, x3), (4, (AV.i .i64 x4)), (5, (AV.i .i64 x5)), (9, (AV.i .i64 x9)), (10, (AV.i .i64 x10))] h (kFun prog Tryd.f33 Q) := by kernel_rfl
theorem G_transform_text_base64.i0 {Q : AV → AHeap → Prop} {x0 : List UInt8} {x3 : AV} {x4 : Int} {x5 : Int} {x9 : Int} {x10 : Int} {h : AHeap} (H : G_transform_text_base64.t0 (G_transform_text_base64.J Q) Q x0 x3 x4 x5 x9 x10 h) : G_transform_text_base64.p0 Q x0 x3 x4 x5 x9 x10 h := G_transform_text_base64.goH (k := 1) (p := [1, 1, 1, 0, 1, 0]) (by kernel_rfl) ((G_transform_text_base64.t0_eq (G_transform_text_base64.J Q) Q x0 x3 x4 x5 x9 x10 h).mp H)
def G_transform_text_base64.t2 (J : JT) (Q : AV → AHeap → Prop) (x3 : AV) (h : AHeap) : Prop :=
pBytesStr x3 h fun l40 =>
Q (AV.s l40) h
theorem G_transform_text_base64.t2_eq (J : JT) (Q : AV → AHeap → Prop) (x3 : AV) (h : AHeap) : G_transform_text_base64.t2 J Q x3 h = atJ prog C 48 J false [1, 1, 1, 1] G_transform_text_base64.ann G_transform_text_base64.body [(3, x3)] h (kFun prog Tryd.f33 Q) := by kernel_rfl
theorem G_transform_text_base64.i2 {Q : AV → AHeap → Prop} {x3 : AV} {h : AHeap} (H : G_transform_text_base64.t2 (G_transform_text_base64.J Q) Q x3 h) : G_transform_text_base64.p2 Q x3 h := G_transform_text_base64.goR (k := 3) (p := [1, 1, 1, 1]) (by kernel_rfl) ((G_transform_text_base64.t2_eq (G_transform_text_base64.J Q) Q x3 h).mp H)
def G_transform_text_base64.t (J : JT) (Q : AV → AHeap → Prop) (x0 : List UInt8) (h : AHeap) : Prop :=
J 1 [(0, (AV.s x0)), (3, (AV.sl none 0 none)), (4, (AV.i .i64 0)), (5, (AV.i .i64 0)), (9, (AV.i .i64 (x0.length : Int))), (10, (AV.i .i64 0))] h
theorem G_transform_text_base64.t_eq (J : JT) (Q : AV → AHeap → Prop) (x0 : List UInt8) (h : AHeap) : G_transform_text_base64.t J Q x0 h = exJ prog C 48 J G_transform_text_base64.ann G_transform_text_base64.body (initEnv 0 [(AV.s x0)]) h (kFun prog Tryd.f33 Q) := by kernel_rfl
theorem G_transform_text_base64.call {K : AV → AHeap → Prop} {x0 : List UInt8} {h : AHeap} (H : G_transform_text_base64.t (G_transform_text_base64.J (kRet h K)) (kRet h K) x0 h) : C G_transform_text_base64.id [(AV.s x0)] h K :=
  callJ (P := prog) (fn := Tryd.f33) (ann := G_transform_text_base64.ann) (body := G_transform_text_base64.body) Tryd.func33 G_transform_text_base64.body_eq (by kernel_rfl) G_transform_text_base64.dist (by kernel_rfl) ((G_transform_text_base64.t_eq (G_transform_text_base64.J (kRet h K)) (kRet h K) x0 h).mp H)

--@@ G_transform_text_path
/-! ### 34: (intrusion/transform.text).path -/
noncomputable def G_transform_text_path.body : Code := (Tryd.f34.body).getD .skip
def G_transform_text_path.ann : Ann := (.seq 0 [0] .leaf (.seq 0 [3, 4] .leaf (.seq 1 [3, 4] (.seq 0 [3, 4, 5] .leaf (.seq 0 [3, 4, 5, 16] .leaf (.br (.ord (.neu 0 (.neu 1 (.neu 2 (.neu 3 (.neu 4 (.neu 5 (.eff 6 (.neu 7 .done) .stop)))))))) .leaf))) (.seq 0 [3, 4, 6] .leaf (.seq 0 [3, 4, 6, 7] .leaf (.seq 0 [3, 4, 6, 7] (.seq 0 [3, 4, 6, 7, 25, 26, 27] .leaf (.one (.loop 2 [3, 4, 6, 7, 25, 26, 27] (.seq 0 [3, 4, 6, 7, 25, 26, 27, 28] .leaf (.seq 0 [3, 4, 6, 7, 25, 26, 27] (.br .leaf .leaf) (.seq 4 [3, 4, 6, 7, 25, 26, 27] (.one (.seq 0 [3, 4, 6, 7, 9, 25, 26, 27] .leaf (.seq 0 [3, 4, 6, 7, 9, 25, 26, 27, 31] .leaf (.one (.seq 3 [3, 4, 6, 7, 9, 25, 26, 27, 31, 36] (.seq 0 [3, 4, 6, 7, 9, 25, 26, 27, 31, 36] .leaf (.br .leaf .leaf)) (.br .leaf (.seq 0 [3, 4, 6, 7, 9, 25, 26, 27, 39] .leaf (.br .leaf .leaf)))))))) .leaf)))))) (.seq 0 [3, 4, 6, 7, 10] .leaf (.seq 5 [4, 6, 7, 10] (.seq 0 [4, 6, 7, 10, 49] .leaf (.br .leaf .leaf)) (.seq 0 [4, 6, 7, 10] .leaf (.seq 0 [4, 6, 10, 11] .leaf (.seq 7 [4, 10] (.seq 6 [4, 10, 74] .leaf (.br .leaf .leaf)) (.seq 8 [4, 10] (.seq 0 [4, 10, 78] .leaf (.br .leaf .leaf)) (.seq 0 [2] .leaf .leaf)))))))))))))
theorem G_transform_text_path.body_eq : Tryd.f34.body = some G_transform_text_path.body := by kernel_rfl
theorem G_transform_text_path.dist : noTwice (places G_transform_text_path.ann G_transform_text_path.body) = true := by kernel_rfl
noncomputable def G_transform_text_path.J (Q : AV → AHeap → Prop) : JT := funJ prog C Tryd.f34 G_transform_text_path.ann G_transform_text_path.body Q
theorem G_transform_text_path.goR {Q : AV → AHeap → Prop} {k : Nat} {p : List Nat} (hl : lookJ (places G_transform_text_path.ann G_transform_text_path.body) k = some (p, false)) {e : Env} {h : AHeap} (hk : atJ prog C 82 (G_transform_text_path.J Q) false p G_transform_text_path.ann G_transform_text_path.body e h (kFun prog Tryd.f34 Q)) : G_transform_text_path.J Q k e h := goJ_run (P := prog) (fn := Tryd.f34) (ann := G_transform_text_path.ann) (body := G_transform_text_path.body) (Q := Q) (k := k) (p := p) (e := e) (h := h) (acall_le X) G_transform_text_path.dist hl hk
theorem G_transform_text_path.goH {Q : AV → AHeap → Prop} {k : Nat} {p : List Nat} (hl : lookJ (places G_transform_text_path.ann G_transform_text_path.body) k = some (p, true)) {e : Env} {h : AHeap} (hk : atJ prog C 82 (G_transform_text_path.J Q) true p G_transform_text_path.ann G_transform_text_path.body e h (kFun prog Tryd.f34 Q)) : G_transform_text_path.J Q k e h := goJ_head (P := prog) (fn := Tryd.f34) (ann := G_transform_text_path.ann) (body := G_transform_text_path.body) (Q := Q) (k := k) (p := p) (e := e) (h := h) (acall_le X) G_transform_text_path.dist hl hk
def G_transform_text_path.p2 (Q : AV → AHeap → Prop) (x3 : List UInt8) (x4 : List UInt8) (x6 : AV) (x7 : AV) (x9 : List UInt8) (x25 : AV) (x26 : Int) (x27 : Int) (x31 : List UInt8) (x36 : Bool) (h : AHeap) : Prop := G_transform_text_path.J Q 3 [(3, (AV.s x3)), (4, (AV.s x4)), (6, x6), (7, x7), (9, (AV.s x9)), (25, x25), (26, (AV.i .i64 x26)), (27, (AV.i .i64 x27)), (31, (AV.s x31)), (36, (AV.b x36))] h
theorem G_transform_text_path.j2 (Q : AV → AHeap → Prop) (x3 : List UInt8) (x4 : List UInt8) (x6 : AV) (x7 : AV) (x9 : List UInt8) (x25 : AV) (x26 : Int) (x27 : Int) (x31 : List UInt8) (x36 : Bool) (h : AHeap) : G_transform_text_path.J Q 3 [(3, (AV.s x3)), (4, (AV.s x4)), (6, x6), (7, x7), (9, (AV.s x9)), (25, x25), (26, (AV.i .i64 x26)), (27, (AV.i .i64 x27)), (31, (AV.s x31)), (36, (AV.b x36))] h = G_transform_text_path.p2 Q x3 x4 x6 x7 x9 x25 x26 x27 x31 x36 h := rfl
def G_transform_text_path.p3 (Q : AV → AHeap → Prop) (x3 : List UInt8) (x4 : List UInt8) (x6 : AV) (x7 : AV) (x25 : AV) (x26 : Int) (x27 : Int) (h : AHeap) : Prop := G_transform_text_path.J Q 4 [(3, (AV.s x3)), (4, (AV.s x4)), (6, x6), (7, x7), (25, x25), (26, (AV.i .i64 x26)), (27, (AV.i .i64 x27))] h
theorem G_transform_text_path.j3 (Q : AV → AHeap → Prop) (x3 : List UInt8) (x4 : List UInt8) (x6 : AV) (x7 : AV) (x25 : AV) (x26 : Int) (x27 : Int) (h : AHeap) : G_transform_text_path.J Q 4 [(3, (AV.s x3)), (4, (AV.s x4)), (6, x6), (7, x7), (25, x25), (26, (AV.i .i64 x26)), (27, (AV.i .i64 x27))] h = G_transform_text_path.p3 Q x3 x4 x6 x7 x25 x26 x27 h := rfl
def G_transform_text_path.p1 (Q : AV → AHeap → Prop) (x3 : List UInt8) (x4 : List UInt8) (x6 : AV) (x7 : AV) (x25 : AV) (x26 : Int) (x27 : Int) (h : AHeap) : Prop := G_transform_text_path.J Q 2 [(3, (AV.s x3)), (4, (AV.s x4)), (6, x6), (7, x7), (25, x25), (26, (AV.i .i64 x26)), (27, (AV.i .i64 x27))] h
theorem G_transform_text_path.j1 (Q : AV → AHeap → Prop) (x3 : List UInt8) (x4 : List UInt8) (x6 : AV) (x7 : AV) (x25 : AV) (x26 : Int) (x27 : Int) (h : AHeap) : G_transform_text_path.J Q 2 [(3, (AV.s x3)), (4, (AV.s x4)), (6, x6), (7, x7), (25, x25), (26, (AV.i .i64 x26)), (27, (AV.i .i64 x27))] h = G_transform_text_path.p1 Q x3 x4 x6 x7 x25 x26 x27 h := rfl
def G_transform_text_path.p5 (Q : AV → AHeap → Prop) (x4 : List UInt8) (x10 : List UInt8) (x74 : Bool) (h : AHeap) : Prop := G_transform_text_path.J Q 6 [(4, (AV.s x4)), (10, (AV.s x10)), (74, (AV.b x74))] h
theorem G_transform_text_path.j5 (Q : AV → AHeap → Prop) (x4 : List UInt8) (x10 : List UInt8) (x74 : Bool) (h : AHeap) : G_transform_text_path.J Q 6 [(4, (AV.s x4)), (10, (AV.s x10)), (74, (AV.b x74))] h = G_transform_text_path.p5 Q x4 x10 x74 h := rfl
def G_transform_text_path.p7 (Q : AV → AHeap → Prop) (x4 : List UInt8) (x10 : List UInt8) (h : AHeap) : Prop := G_transform_text_path.J Q 8 [(4, (AV.s x4)), (10, (AV.s x10))] h
theorem G_transform_text_path.j7 (Q : AV → AHeap → Prop) (x4 : List UInt8) (x10 : List UInt8) (h : AHeap) : G_transform_text_path.J Q 8 [(4, (AV.s x4)), (10, (AV.s x10))] h = G_transform_text_path.p7 Q x4 x10 h := rfl
def G_transform_text_path.p6 (Q : AV → AHeap → Prop) (x4 : List UInt8) (x10 : List UInt8) (h : AHeap) : Prop := G_transform_text_path.J Q 7 [(4, (AV.s x4)), (10, (AV.s x10))] h
theorem G_transform_text_path.j6 (Q : AV → AHeap → Prop) (x4 : List UInt8) (x10 : List UInt8) (h : AHeap) : G_transform_text_path.J Q 7 [(4, (AV.s x4)), (10, (AV.s x10))] h = G_transform_text_path.p6 Q x4 x10 h := rfl
def G_transform_text_path.p4 (Q : AV → AHeap → Prop) (x4 : List UInt8) (x6 : AV) (x7 : AV) (x10 : List UInt8) (h : AHeap) : Prop := G_transform_text_path.J Q 5 [(4, (AV.s x4)), (6, x6), (7, x7), (10, (AV.s x10))] h
theorem G_transform_text_path.j4 (Q : AV → AHeap → Prop) (x4 : List UInt8) (x6 : AV) (x7 : AV) (x10 : List UInt8) (h : AHeap) : G_transform_text_path.J Q 5 [(4, (AV.s x4)), (6, x6), (7, x7), (10, (AV.s x10))] h = G_transform_text_path.p4 Q x4 x6 x7 x10 h := rfl
def G_transform_text_path.p0 (Q : AV → AHeap → Prop) (x3 : List UInt8) (x4 : List UInt8) (h : AHeap) : Prop := G_transform_text_path.J Q 1 [(3, (AV.s x3)), (4, (AV.s x4))] h
theorem G_transform_text_path.j0 (Q : AV → AHeap → Prop) (x3 : List UInt8) (x4 : List UInt8) (h : AHeap) : G_transform_text_path.J Q 1 [(3, (AV.s x3)), (4, (AV.s x4))] h = G_transform_text_path.p0 Q x3 x4 h := rfl
def G_transform_text_path.t2 (J : JT) (Q : AV → AHeap → Prop) (x3 : List UInt8) (x4 : List UInt8) (x6 : AV) (x7 : AV) (x9 : List UInt8) (x25 : AV) (x26 : Int) (x27 : Int) (x31 : List UInt8) (x36 : Bool) (h : AHeap) : Prop :=
(bif x36 then
(J 4 [(3, (AV.s x3)), (4, (AV.s x4)), (6, x6), (7, x7), (25, x25), (26, (AV.i .i64 x26)), (27, (AV.i .i64 x27))] h)
else
((bif (decide ((x31 : List UInt8) = [46, 46])) then
(pLenSl x6 fun n30 =>
withI (IntKind.wrap .i64 (n30 - 1)) fun n31 =>
pSliceSl 1 x6 none (some (AV.i .i64 (mmI true n31 0))) none h fun v32 =>
J 4 [(3, (AV.s x3)), (4, (AV.s x4)), (6, v32), (7, x7), (25, x25), (26, (AV.i .i64 x26)), (27, (AV.i .i64 x27))] h)
else
(pBuildSl 1 1 [(AV.s [])] [(0, 1, (AV.s x9))] h fun v34 h35 =>
pAppend 1 16 x6 v34 h35 fun v36 h37 =>
J 4 [(3, (AV.s x3)), (4, (AV.s x4)), (6, v36), (7, x7), (25, x25), (26, (AV.i .i64 x26)), (27, (AV.i .i64 x27))] h37))))
theorem G_transform_text_path.t2_eq (J : JT) (Q : AV → AHeap → Prop) (x3 : List UInt8) (x4 : List UInt8) (x6 : AV) (x7 : AV) (x9 : List UInt8) (x25 : AV) (x26 : Int) (x27 : Int) (x31 : List UInt8) (x36 : Bool) (h : AHeap) : G_transform_text_path.t2 J Q x3 x4 x6 x7 x9 x25 x26 x27 x31 x36 h = atJ prog C 82 J false [1, 1, 1, 1, 1, 0, 1, 0, 0, 1, 1, 0, 0, 1, 1, 0, 1] G_transform_text_path.ann G_transform_text_path.body [(3, (AV.s x3)), (4, (AV.s x4)), (6, x6), (7, x7), (9, (AV.s x9)), (25, x25), (26, (AV.i .i64 x26)), (27, (AV.i .i64 x27)), (31, (AV.s x31)), (36, (AV.b x36))] h (kFun prog Tryd.f34 Q) := by kernel_rfl
theorem G_transform_text_path.i2 {Q : AV → AHeap → Prop} {x3 : List UInt8} {x4 : List UInt8} {x6 : AV} {x7 : AV} {x9 : List UInt8} {x25 : AV} {x26 : Int} {x27 : Int} {x31 : List UInt8} {x36 : Bool} {h : AHeap} (H : G_transform_text_path.t2 (G_transform_text_path.J Q) Q x3 x4 x6 x7 x9 x25 x26 x27 x31 x36 h) : G_transform_text_path.p2 Q x3 x4 x6 x7 x9 x25 x26 x27 x31 x36 h := G_transform_text_path.goR (k := 3) (p := [1, 1, 1, 1, 1, 0, 1, 0, 0, 1, 1, 0, 0, 1, 1, 0, 1]) (by kernel_rfl) ((G_transform_text_path.t2_eq (G_transform_text_path.J Q) Q x3 x4 x6 x7 x9 x25 x26 x27 x31 x36 h).mp H)
def G_transform_text_path.t3 (J : JT) (Q : AV → AHeap → Prop) (x3 : List UInt8) (x4 : List UInt8) (x6 : AV) (x7 : AV) (x25 : AV) (x26 : Int) (x27 : Int) (h : AHeap) : Prop :=
withI (IntKind.wrap .i64 (x27 + 1)) fun n39 =>
J 2 [(3, (AV.s x3)), (4, (AV.s x4)), (6, x6), (7, x7), (25, x25), (26, (AV.i .i64 x26)), (27, (AV.i .i64 n39))] h
theorem G_transform_text_path.t3_eq (J : JT) (Q : AV → AHeap → Prop) (x3 : List UInt8) (x4 : List UInt8) (x6 : AV) (x7 : AV) (x25 : AV) (x26 : Int) (x27 : Int) (h : AHeap) : G_transform_text_path.t3 J Q x3 x4 x6 x7 x25 x26 x27 h = atJ prog C 82 J false [1, 1, 1, 1, 1, 0, 1, 0, 0, 1, 1, 1] G_transform_text_path.ann G_transform_text_path.body [(3, (AV.s x3)), (4, (AV.s x4)), (6, x6), (7, x7), (25, x25), (26, (AV.i .i64 x26)), (27, (AV.i .i64 x27))] h (kFun prog Tryd.f34 Q) := by kernel_rfl
theorem G_transform_text_path.i3 {Q : AV → AHeap → Prop} {x3 : List UInt8} {x4 : List UInt8} {x6 : AV} {x7 : AV} {x25 : AV} {x26 : Int} {x27 : Int} {h : AHeap} (H : G_transform_text_path.t3 (G_transform_text_path.J Q) Q x3 x4 x6 x7 x25 x26 x27 h) : G_transform_text_path.p3 Q x3 x4 x6 x7 x25 x26 x27 h := G_transform_text_path.goR (k := 4) (p := [1, 1, 1, 1, 1, 0, 1, 0, 0, 1, 1, 1]) (by kernel_rfl) ((G_transform_text_path.t3_eq (G_transform_text_path.J Q) Q x3 x4 x6 x7 x25 x26 x27 h).mp H)
def G_transform_text_path.t1 (J : JT) (Q : AV → AHeap → Prop) (x3 : List UInt8) (x4 : List UInt8) (x6 : AV) (x7 : AV) (x25 : AV) (x26 : Int) (x27 : Int) (h : AHeap) : Prop :=
(bif (decide ((x27 : Int) < x26)) then
(pIdxAddrSl 1 x25 (AV.i .i64 x27) h fun v20 =>
pLoad1 v20 h fun v21 =>
asS v21 fun l22 =>
(bif (decide ((l22 : List UInt8) = [])) then
(J 3 [(3, (AV.s x3)), (4, (AV.s x4)), (6, x6), (7, x7), (9, (AV.s l22)), (25, x25), (26, (AV.i .i64 x26)), (27, (AV.i .i64 x27)), (31, (AV.s l22)), (36, (AV.b (decide ((l22 : List UInt8) = []))))] h)
else
(J 3 [(3, (AV.s x3)), (4, (AV.s x4)), (6, x6), (7, x7), (9, (AV.s l22)), (25, x25), (26, (AV.i .i64 x26)), (27, (AV.i .i64 x27)), (31, (AV.s l22)), (36, (AV.b (decide ((l22 : List UInt8) = [46]))))] h)))
else
(C G_strings_HasPrefix.id [(AV.s x3), (AV.s [47])] h fun v42 h43 =>
asB v42 fun c44 =>
(bif c44 then
(J 5 [(4, (AV.s x4)), (6, x6), (7, x7), (10, (AV.s [47]))] h43)
else
(J 5 [(4, (AV.s x4)), (6, x6), (7, x7), (10, (AV.s []))] h43))))
theorem G_transform_text_path.t1_eq (J : JT) (Q : AV → AHeap → Prop) (x3 : List UInt8) (x4 : List UInt8) (x6 : AV) (x7 : AV) (x25 : AV) (x26 : Int) (x27 : Int) (h : AHeap) : G_transform_text_path.t1 J Q x3 x4 x6 x7 x25 x26 x27 h = atJ prog C 82 J true [1, 1, 1, 1, 1, 0, 1, 0] G_transform_text_path.ann G_transform_text_path.body [(3, (AV.s x3)), (4, (AV.s x4)), (6, x6), (7, x7), (25, x25), (26, (AV.i .i64 x26)), (27, (AV.i .i64 x27))] h (kFun prog Tryd.f34 Q) := by kernel_rfl
theorem G_transform_text_path.i1 {Q : AV → AHeap → Prop} {x3 : List UInt8} {x4 : List UInt8} {x6 : AV} {x7 : AV} {x25 : AV} {x26 : Int} {x27 : Int} {h : AHeap} (H : G_transform_text_path.t1 (G_transform_text_path.J Q) Q x3 x4 x6 x7 x25 x26 x27 h) : G_transform_text_path.p1 Q x3 x4 x6 x7 x25 x26 x27 h := G_transform_text_path.goH (k := 2) (p := [1, 1, 1, 1, 1, 0, 1, 0]) (by kernel_rfl) ((G_transform_text_path.t1_eq (G_transform_text_path.J Q) Q x3 x4 x6 x7 x25 x26 x27 h).mp H)
def G_transform_text_path.t5 (J : JT) (Q : AV → AHeap → Prop) (x4 : List UInt8) (x10 : List UInt8) (x74 : Bool) (h : AHeap) : Prop :=
(bif x74 then
(pCat x10 [47] fun l64 =>
J 7 [(4, (AV.s x4)), (10, (AV.s l64))] h)
else
(J 7 [(4, (AV.s x4)), (10, (AV.s x10))] h))
theorem G_transform_text_path.t5_eq (J : JT) (Q : AV → AHeap → Prop) (x4 : List UInt8) (x10 : List UInt8) (x74 : Bool) (h : AHeap) : G_transform_text_path.t5 J Q x4 x10 x74 h = atJ prog C 82 J false [1, 1, 1, 1, 1, 1, 1, 1, 1, 1, 0, 1] G_transform_text_path.ann G_transform_text_path.body [(4, (AV.s x4)), (10, (AV.s x10)), (74, (AV.b x74))] h (kFun prog Tryd.f34 Q) := by kernel_rfl
theorem G_transform_text_path.i5 {Q : AV → AHeap → Prop} {x4 : List UInt8} {x10 : List UInt8} {x74 : Bool} {h : AHeap} (H : G_transform_text_path.t5 (G_transform_text_path.J Q) Q x4 x10 x74 h) : G_transform_text_path.p5 Q x4 x10 x74 h := G_transform_text_path.goR (k := 6) (p := [1, 1, 1, 1, 1, 1, 1, 1, 1, 1, 0, 1]) (by kernel_rfl) ((G_transform_text_path.t5_eq (G_transform_text_path.J Q) Q x4 x10 x74 h).mp H)
def G_transform_text_path.t7 (J : JT) (Q : AV → AHeap → Prop) (x4 : List UInt8) (x10 : List UInt8) (h : AHeap) : Prop :=
pCat x10 x4 fun l70 =>
Q (AV.s l70) h
theorem G_transform_text_path.t7_eq (J : JT) (Q : AV → AHeap → Prop) (x4 : List UInt8) (x10 : List UInt8) (h : AHeap) : G_transform_text_path.t7 J Q x4 x10 h = atJ prog C 82 J false [1, 1, 1, 1, 1, 1, 1, 1, 1, 1, 1, 1] G_transform_text_path.ann G_transform_text_path.body [(4, (AV.s x4)), (10, (AV.s x10))] h (kFun prog Tryd.f34 Q) := by kernel_rfl
theorem G_transform_text_path.i7 {Q : AV → AHeap → Prop} {x4 : List UInt8} {x10 : List UInt8} {h : AHeap} (H : G_transform_text_path.t7 (G_transform_text_path.J Q) Q x4 x10 h) : G_transform_text_path.p7 Q x4 x10 h := G_transform_text_path.goR (k := 8) (p := [1, 1, 1, 1, 1, 1, 1, 1, 1, 1, 1, 1]) (by kernel_rfl) ((G_transform_text_path.t7_eq (G_transform_text_path.J Q) Q x4 x10 h).mp H)
def G_transform_text_path.t6 (J : JT) (Q : AV → AHeap → Prop) (x4 : List UInt8) (x10 : List UInt8) (h : AHeap) : Prop :=
(bif (decide ((x10 : List UInt8) = [])) then
(J 8 [(4, (AV.s x4)), (10, (AV.s [47]))] h)
else
(J 8 [(4, (AV.s x4)), (10, (AV.s x10))] h))
theorem G_transform_text_path.t6_eq (J : JT) (Q : AV → AHeap → Prop) (x4 : List UInt8) (x10 : List UInt8) (h : AHeap) : G_transform_text_path.t6 J Q x4 x10 h = atJ prog C 82 J false [1, 1, 1, 1, 1, 1, 1, 1, 1, 1, 1] G_transform_text_path.ann G_transform_text_path.body [(4, (AV.s x4)), (10, (AV.s x10))] h (kFun prog Tryd.f34 Q) := by kernel_rfl
theorem G_transform_text_path.i6 {Q : AV → AHeap → Prop} {x4 : List UInt8} {x10 : List UInt8} {h : AHeap} (H : G_transform_text_path.t6 (G_transform_text_path.J Q) Q x4 x10 h) : G_transform_text_path.p6 Q x4 x10 h := G_transform_text_path.goR (k := 7) (p := [1, 1, 1, 1, 1, 1, 1, 1, 1, 1, 1]) (by kernel_rfl) ((G_transform_text_path.t6_eq (G_transform_text_path.J Q) Q x4 x10 h).mp H)
def G_transform_text_path.t4 (J : JT) (Q : AV → AHeap → Prop) (x4 : List UInt8) (x6 : AV) (x7 : AV) (x10 : List UInt8) (h : AHeap) : Prop :=
C G_strings_Join.id [x6, (AV.s [47])] h fun v48 h49 =>
asS v48 fun l50 =>
pCat x10 l50 fun l51 =>
pLenSl x7 fun n53 =>
withI (IntKind.wrap .i64 (n53 - 1)) fun n54 =>
pIdxAddrSl 1 x7 (AV.i .i64 n54) h49 fun v55 =>
pLoad1 v55 h49 fun v56 =>
asS v56 fun l57 =>
pLenSl x6 fun n59 =>
(bif (decide ((0 : Int) < n59)) then
((bif (decide ((l57 : List UInt8) = [])) then
(J 6 [(4, (AV.s x4)), (10, (AV.s l51)), (74, (AV.b true))] h49)
else
((bif (decide ((l57 : List UInt8) = [46])) then
(J 6 [(4, (AV.s x4)), (10, (AV.s l51)), (74, (AV.b true))] h49)
else
(J 6 [(4, (AV.s x4)), (10, (AV.s l51)), (74, (AV.b (decide ((l57 : List UInt8) = [46, 46]))))] h49)))))
else
(J 6 [(4, (AV.s x4)), (10, (AV.s l51)), (74, (AV.b false))] h49))
theorem G_transform_text_path.t4_eq (J : JT) (Q : AV → AHeap → Prop) (x4 : List UInt8) (x6 : AV) (x7 : AV) (x10 : List UInt8) (h : AHeap) : G_transform_text_path.t4 J Q x4 x6 x7 x10 h = atJ prog C 82 J false [1, 1, 1, 1, 1, 1, 1, 1] G_transform_text_path.ann G_transform_text_path.body [(4, (AV.s x4)), (6, x6), (7, x7), (10, (AV.s x10))] h (kFun prog Tryd.f34 Q) := by kernel_rfl
theorem G_transform_text_path.i4 {Q : AV → AHeap → Prop} {x4 : List UInt8} {x6 : AV} {x7 : AV} {x10 : List UInt8} {h : AHeap} (H : G_transform_text_path.t4 (G_transform_text_path.J Q) Q x4 x6 x7 x10 h) : G_transform_text_path.p4 Q x4 x6 x7 x10 h := G_transform_text_path.goR (k := 5) (p := [1, 1, 1, 1, 1, 1, 1, 1]) (by kernel_rfl) ((G_transform_text_path.t4_eq (G_transform_text_path.J Q) Q x4 x6 x7 x10 h).mp H)
def G_transform_text_path.t0 (J : JT) (Q : AV → AHeap → Prop) (x3 : List UInt8) (x4 : List UInt8) (h : AHeap) : Prop :=
C G_strings_Split.id [(AV.s x3), (AV.s [47])] h fun v12 h13 =>
pLenSl v12 fun n15 =>
J 2 [(3, (AV.s x3)), (4, (AV.s x4)), (6, (AV.sl none 0 none)), (7, v12), (25, v12), (26, (AV.i .i64 n15)), (27, (AV.i .i64 0))] h13
theorem G_transform_text_path.t0_eq (J : JT) (Q : AV → AHeap → Prop) (x3 : List UInt8) (x4 : List UInt8) (h : AHeap) : G_transform_text_path.t0 J Q x3 x4 h = atJ prog C 82 J false [1, 1, 1] G_transform_text_path.ann G_transform_text_path.body [(3, (AV.s x3)), (4, (AV.s x4))] h (kFun prog Tryd.f34 Q) := by kernel_rfl
theorem G_transform_text_path.i0 {Q : AV → AHeap → Prop} {x3 : List UInt8} {x4 : List UInt8} {h : AHeap} (H : G_transform_text_path.t0 (G_transform_text_path.J Q) Q x3 x4 h) : G_transform_text_path.p0 Q x3 x4 h := G_transform_text_path.goR (k := 1) (p := [1, 1, 1]) (by kernel_rfl) ((G_transform_text_path.t0_eq (G_transform_text_path.J Q) Q x3 x4 h).mp H)
def G_transform_text_path.t (J : JT) (Q : AV → AHeap → Prop) (x0 : List UInt8) (h : AHeap) : Prop :=
C G_strings_IndexByte.id [(AV.s x0), (AV.i .u8 63)] h fun v2 h3 =>
asI .i64 v2 fun n4 =>
(bif (decide ((0 : Int) ≤ n4)) then
(pSliceStr (AV.s x0) none (some (AV.i .i64 n4)) fun l7 =>
pSliceStr (AV.s x0) (some (AV.i .i64 n4)) none fun l8 =>
J 1 [(3, (AV.s l7)), (4, (AV.s l8))] h3)
else
(J 1 [(3, (AV.s x0)), (4, (AV.s []))] h3))
theorem G_transform_text_path.t_eq (J : JT) (Q : AV → AHeap → Prop) (x0 : List UInt8) (h : AHeap) : G_transform_text_path.t J Q x0 h = exJ prog C 82 J G_transform_text_path.ann G_transform_text_path.body (initEnv 0 [(AV.s x0)]) h (kFun prog Tryd.f34 Q) := by kernel_rfl
theorem G_transform_text_path.call {K : AV → AHeap → Prop} {x0 : List UInt8} {h : AHeap} (H : G_transform_text_path.t (G_transform_text_path.J (kRet h K)) (kRet h K) x0 h) : C G_transform_text_path.id [(AV.s x0)] h K :=
  callJ (P := prog) (fn := Tryd.f34) (ann := G_transform_text_path.ann) (body := G_transform_text_path.body) Tryd.func34 G_transform_text_path.body_eq (by kernel_rfl) G_transform_text_path.dist (by kernel_rfl) ((G_transform_text_path.t_eq (G_transform_text_path.J (kRet h K)) (kRet h K) x0 h).mp H)

--@@ G_transform_text_hex
/-! ### 35: (intrusion/transform.text).hex -/
noncomputable def G_transform_text_hex.body : Code := (Tryd.f35.body).getD .skip
def G_transform_text_hex.ann : Ann := (.seq 0 [0] .leaf (.seq 0 [0, 3] .leaf (.seq 0 [0, 3, 4] .leaf (.seq 0 [3] (.seq 0 [0, 3, 4, 8, 9] .leaf (.one (.loop 1 [0, 3, 4, 8, 9] (.seq 0 [0, 3, 4, 8, 9, 10] .leaf (.seq 0 [0, 3, 4, 8, 9] (.br .leaf .leaf) (.seq 2 [0, 3, 4, 8, 9] (.one (.seq 0 [0, 3, 4, 5, 8, 9] .leaf (.seq 0 [0, 3, 4, 6, 8, 9] .leaf (.one (.seq 0 [0, 3, 4, 6, 8, 9, 24] .leaf (.br .leaf (.seq 0 [0, 3, 4, 6, 8, 9, 27] .leaf (.br .leaf (.seq 0 [0, 3, 8, 9] .leaf .leaf))))))))) .leaf)))))) (.seq 0 [2] .leaf .leaf)))))
theorem G_transform_text_hex.body_eq : Tryd.f35.body = some G_transform_text_hex.body := by kernel_rfl
theorem G_transform_text_hex.dist : noTwice (places G_transform_text_hex.ann G_transform_text_hex.body) = true := by kernel_rfl
noncomputable def G_transform_text_hex.J (Q : AV → AHeap → Prop) : JT := funJ prog C Tryd.f35 G_transform_text_hex.ann G_transform_text_hex.body Q
theorem G_transform_text_hex.goR {Q : AV → AHeap → Prop} {k : Nat} {p : List Nat} (hl : lookJ (places G_transform_text_hex.ann G_transform_text_hex.body) k = some (p, false)) {e : Env} {h : AHeap} (hk : atJ prog C 34 (G_transform_text_hex.J Q) false p G_transform_text_hex.ann G_transform_text_hex.body e h (kFun prog Tryd.f35 Q)) : G_transform_text_hex.J Q k e h := goJ_run (P := prog) (fn := Tryd.f35) (ann := G_transform_text_hex.ann) (body := G_transform_text_hex.body) (Q := Q) (k := k) (p := p) (e := e) (h := h) (acall_le X) G_transform_text_hex.dist hl hk
theorem G_transform_text_hex.goH {Q : AV → AHeap → Prop} {k : Nat} {p : List Nat} (hl : lookJ (places G_transform_text_hex.ann G_transform_text_hex.body) k = some (p, true)) {e : Env} {h : AHeap} (hk : atJ prog C 34 (G_transform_text_hex.J Q) true p G_transform_text_hex.ann G_transform_text_hex.body e h (kFun prog Tryd.f35 Q)) : G_transform_text_hex.J Q k e h := goJ_head (P := prog) (fn := Tryd.f35) (ann := G_transform_text_hex.ann) (body := G_transform_text_hex.body) (Q := Q) (k := k) (p := p) (e := e) (h := h) (acall_le X) G_transform_text_hex.dist hl hk
def G_transform_text_hex.p1 (Q : AV → AHeap → Prop) (x0 : List UInt8) (x3 : AV) (x4 : Int) (x8 : Int) (x9 : Int) (h : AHeap) : Prop := G_transform_text_hex.J Q 2 [(0, (AV.s x0)), (3, x3), (4, (AV.i .i64 x4)), (8, (AV.i .i64 x8)), (9, (AV.i .i64 x9))] h
theorem G_transform_text_hex.j1 (Q : AV → AHeap → Prop) (x0 : List UInt8) (x3 : AV) (x4 : Int) (x8 : Int) (x9 : Int) (h : AHeap) : G_transform_text_hex.J Q 2 [(0, (AV.s x0)), (3, x3), (4, (AV.i .i64 x4)), (8, (AV.i .i64 x8)), (9, (AV.i .i64 x9))] h = G_transform_text_hex.p1 Q x0 x3 x4 x8 x9 h := rfl
def G_transform_text_hex.p0 (Q : AV → AHeap → Prop) (x0 : List UInt8) (x3 : AV) (x4 : Int) (x8 : Int) (x9 : Int) (h : AHeap) : Prop := G_transform_text_hex.J Q 1 [(0, (AV.s x0)), (3, x3), (4, (AV.i .i64 x4)), (8, (AV.i .i64 x8)), (9, (AV.i .i64 x9))] h
theorem G_transform_text_hex.j0 (Q : AV → AHeap → Prop) (x0 : List UInt8) (x3 : AV) (x4 : Int) (x8 : Int) (x9 : Int) (h : AHeap) : G_transform_text_hex.J Q 1 [(0, (AV.s x0)), (3, x3), (4, (AV.i .i64 x4)), (8, (AV.i .i64 x8)), (9, (AV.i .i64 x9))] h = G_transform_text_hex.p0 Q x0 x3 x4 x8 x9 h := rfl
def G_transform_text_hex.t1 (J : JT) (Q : AV → AHeap → Prop) (x0 : List UInt8) (x3 : AV) (x4 : Int) (x8 : Int) (x9 : Int) (h : AHeap) : Prop :=
withI (IntKind.wrap .i64 (x9 + 1)) fun n25 =>
J 1 [(0, (AV.s x0)), (3, x3), (4, (AV.i .i64 x4)), (8, (AV.i .i64 x8)), (9, (AV.i .i64 n25))] h
theorem G_transform_text_hex.t1_eq (J : JT) (Q : AV → AHeap → Prop) (x0 : List UInt8) (x3 : AV) (x4 : Int) (x8 : Int) (x9 : Int) (h : AHeap) : G_transform_text_hex.t1 J Q x0 x3 x4 x8 x9 h = atJ prog C 34 J false [1, 1, 1, 0, 1, 0, 0, 1, 1, 1] G_transform_text_hex.ann G_transform_text_hex.body [(0, (AV.s x0)), (3, x3), (4, (AV.i .i64 x4)), (8, (AV.i .i64 x8)), (9, (AV.i .i64 x9))] h (kFun prog Tryd.f35 Q) := by kernel_rfl
theorem G_transform_text_hex.i1 {Q : AV → AHeap → Prop} {x0 : List UInt8} {x3 : AV} {x4 : Int} {x8 : Int} {x9 : Int} {h : AHeap} (H : G_transform_text_hex.t1 (G_transform_text_hex.J Q) Q x0 x3 x4 x8 x9 h) : G_transform_text_hex.p1 Q x0 x3 x4 x8 x9 h := G_transform_text_hex.goR (k := 2) (p := [1, 1, 1, 0, 1, 0, 0, 1, 1, 1]) (by kernel_rfl) ((G_transform_text_hex.t1_eq (G_transform_text_hex.J Q) Q x0 x3 x4 x8 x9 h).mp H)
def G_transform_text_hex.t0 (J : JT) (Q : AV → AHeap → Prop) (x0 : List UInt8) (x3 : AV) (x4 : Int) (x8 : Int) (x9 : Int) (h : AHeap) : Prop :=
(bif (decide ((x9 : Int) < x8)) then
(pIdxStr (AV.s x0) (AV.i .i64 x9) fun n8 =>
C G_transform_digit.id [(AV.i .u8 n8)] h fun v9 h10 =>
asI .i64 v9 fun n11 =>
(bif (decide ((n11 : Int) < 0)) then
(J 2 [(0, (AV.s x0)), (3, x3), (4, (AV.i .i64 x4)), (8, (AV.i .i64 x8)), (9, (AV.i .i64 x9))] h10)
else
((bif (decide ((x4 : Int) < 0)) then
(J 2 [(0, (AV.s x0)), (3, x3), (4, (AV.i .i64 n11)), (8, (AV.i .i64 x8)), (9, (AV.i .i64 x9))] h10)
else
(withI (IntKind.wrap .i64 (16 * x4)) fun n17 =>
withI (IntKind.wrap .i64 (n17 + n11)) fun n18 =>
pBuildSl 1 1 [(AV.i .u8 0)] [(0, 1, (AV.i .u8 (IntKind.wrap .u8 n18)))] h10 fun v19 h20 =>
pAppend 1 1 x3 v19 h20 fun v21 h22 =>
J 2 [(0, (AV.s x0)), (3, v21), (4, (AV.i .i64 (-1))), (8, (AV.i .i64 x8)), (9, (AV.i .i64 x9))] h22)))))
else
(pBytesStr x3 h fun l27 =>
Q (AV.s l27) h))
theorem G_transform_text_hex.t0_eq (J : JT) (Q : AV → AHeap → Prop) (x0 : List UInt8) (x3 : AV) (x4 : Int) (x8 : Int) (x9 : Int) (h : AHeap) : G_transform_text_hex.t0 J Q x0 x3 x4 x8 x9 h = atJ prog C 34 J true [1, 1, 1, 0, 1, 0] G_transform_text_hex.ann G_transform_text_hex.body [(0, (AV.s x0)), (3, x3), (4, (AV.i .i64 x4)), (8, (AV.i .i64 x8)), (9, (AV.i .i64 x9))] h (kFun prog Tryd.f35 Q) := by kernel_rfl
theorem G_transform_text_hex.i0 {Q : AV → AHeap → Prop} {x0 : List UInt8} {x3 : AV} {x4 : Int} {x8 : Int} {x9 : Int} {h : AHeap} (H : G_transform_text_hex.t0 (G_transform_text_hex.J Q) Q x0 x3 x4 x8 x9 h) : G_transform_text_hex.p0 Q x0 x3 x4 x8 x9 h := G_transform_text_hex.goH (k := 1) (p := [1, 1, 1, 0, 1, 0]) (by kernel_rfl) ((G_transform_text_hex.t0_eq (G_transform_text_hex.J Q) Q x0 x3 x4 x8 x9 h).mp H)
def G_transform_text_hex.t (J : JT) (Q : AV → AHeap → Prop) (x0 : List UInt8) (h : AHeap) : Prop :=
J 1 [(0, (AV.s x0)), (3, (AV.sl none 0 none)), (4, (AV.i .i64 (-1))), (8, (AV.i .i64 (x0.length : Int))), (9, (AV.i .i64 0))] h
theorem G_transform_text_hex.t_eq (J : JT) (Q : AV → AHeap → Prop) (x0 : List UInt8) (h : AHeap) : G_transform_text_hex.t J Q x0 h = exJ prog C 34 J G_transform_text_hex.ann G_transform_text_hex.body (initEnv 0 [(AV.s x0)]) h (kFun prog Tryd.f35 Q) := by kernel_rfl
theorem G_transform_text_hex.call {K : AV → AHeap → Prop} {x0 : List UInt8} {h : AHeap} (H : G_transform_text_hex.t (G_transform_text_hex.J (kRet h K)) (kRet h K) x0 h) : C G_transform_text_hex.id [(AV.s x0)] h K :=
  callJ (P := prog) (fn := Tryd.f35) (ann := G_transform_text_hex.ann) (body := G_transform_text_hex.body) Tryd.func35 G_transform_text_hex.body_eq (by kernel_rfl) G_transform_text_hex.dist (by kernel_rfl) ((G_transform_text_hex.t_eq (G_transform_text_hex.J (kRet h K)) (kRet h K) x0 h).mp H)

--@@ G_transform_text_same
/-! ### 36: (intrusion/transform.text).same -/
noncomputable def G_transform_text_same.body : Code := (Tryd.f36.body).getD .skip
def G_transform_text_same.ann : Ann := (.seq 0 [0] .leaf (.seq 0 [2] .leaf .leaf))
theorem G_transform_text_same.body_eq : Tryd.f36.body = some G_transform_text_same.body := by kernel_rfl
theorem G_transform_text_same.dist : noTwice (places G_transform_text_same.ann G_transform_text_same.body) = true := by kernel_rfl
noncomputable def G_transform_text_same.J (Q : AV → AHeap → Prop) : JT := funJ prog C Tryd.f36 G_transform_text_same.ann G_transform_text_same.body Q
theorem G_transform_text_same.goR {Q : AV → AHeap → Prop} {k : Nat} {p : List Nat} (hl : lookJ (places G_transform_text_same.ann G_transform_text_same.body) k = some (p, false)) {e : Env} {h : AHeap} (hk : atJ prog C 4 (G_transform_text_same.J Q) false p G_transform_text_same.ann G_transform_text_same.body e h (kFun prog Tryd.f36 Q)) : G_transform_text_same.J Q k e h := goJ_run (P := prog) (fn := Tryd.f36) (ann := G_transform_text_same.ann) (body := G_transform_text_same.body) (Q := Q) (k := k) (p := p) (e := e) (h := h) (acall_le X) G_transform_text_same.dist hl hk
theorem G_transform_text_same.goH {Q : AV → AHeap → Prop} {k : Nat} {p : List Nat} (hl : lookJ (places G_transform_text_same.ann G_transform_text_same.body) k = some (p, true)) {e : Env} {h : AHeap} (hk : atJ prog C 4 (G_transform_text_same.J Q) true p G_transform_text_same.ann G_transform_text_same.body e h (kFun prog Tryd.f36 Q)) : G_transform_text_same.J Q k e h := goJ_head (P := prog) (fn := Tryd.f36) (ann := G_transform_text_same.ann) (body := G_transform_text_same.body) (Q := Q) (k := k) (p := p) (e := e) (h := h) (acall_le X) G_transform_text_same.dist hl hk
def G_transform_text_same.t (J : JT) (Q : AV → AHeap → Prop) (x0 : List UInt8) (h : AHeap) : Prop :=
Q (AV.s x0) h
theorem G_transform_text_same.t_eq (J : JT) (Q : AV → AHeap → Prop) (x0 : List UInt8) (h : AHeap) : G_transform_text_same.t J Q x0 h = exJ prog C 4 J G_transform_text_same.ann G_transform_text_same.body (initEnv 0 [(AV.s x0)]) h (kFun prog Tryd.f36 Q) := by kernel_rfl
theorem G_transform_text_same.call {K : AV → AHeap → Prop} {x0 : List UInt8} {h : AHeap} (H : G_transform_text_same.t (G_transform_text_same.J (kRet h K)) (kRet h K) x0 h) : C G_transform_text_same.id [(AV.s x0)] h K :=
  callJ (P := prog) (fn := Tryd.f36) (ann := G_transform_text_same.ann) (body := G_transform_text_same.body) Tryd.func36 G_transform_text_same.body_eq (by kernel_rfl) G_transform_text_same.dist (by kernel_rfl) ((G_transform_text_same.t_eq (G_transform_text_same.J (kRet h K)) (kRet h K) x0 h).mp H)

--@@ G_ref26_digit
/-! ### 37: intrusion/intrusionref26.digit -/
noncomputable def G_ref26_digit.body : Code := (Tryd.f37.body).getD .skip
def G_ref26_digit.ann : Ann := (.seq 0 [0] .leaf (.seq 0 [] (.one (.seq 1 [0, 3] .leaf (.br (.seq 0 [2] .leaf .leaf) (.seq 2 [0, 13] .leaf (.br (.seq 0 [2] .leaf .leaf) (.seq 3 [0, 24] .leaf (.br (.seq 0 [2] .leaf .leaf) .leaf))))))) (.seq 0 [2] .leaf .leaf)))
theorem G_ref26_digit.body_eq : Tryd.f37.body = some G_ref26_digit.body := by kernel_rfl
theorem G_ref26_digit.dist : noTwice (places G_ref26_digit.ann G_ref26_digit.body) = true := by kernel_rfl
noncomputable def G_ref26_digit.J (Q : AV → AHeap → Prop) : JT := funJ prog C Tryd.f37 G_ref26_digit.ann G_ref26_digit.body Q
theorem G_ref26_digit.goR {Q : AV → AHeap → Prop} {k : Nat} {p : List Nat} (hl : lookJ (places G_ref26_digit.ann G_ref26_digit.body) k = some (p, false)) {e : Env} {h : AHeap} (hk : atJ prog C 35 (G_ref26_digit.J Q) false p G_ref26_digit.ann G_ref26_digit.body e h (kFun prog Tryd.f37 Q)) : G_ref26_digit.J Q k e h := goJ_run (P := prog) (fn := Tryd.f37) (ann := G_ref26_digit.ann) (body := G_ref26_digit.body) (Q := Q) (k := k) (p := p) (e := e) (h := h) (acall_le X) G_ref26_digit.dist hl hk
theorem G_ref26_digit.goH {Q : AV → AHeap → Prop} {k : Nat} {p : List Nat} (hl : lookJ (places G_ref26_digit.ann G_ref26_digit.body) k = some (p, true)) {e : Env} {h : AHeap} (hk : atJ prog C 35 (G_ref26_digit.J Q) true p G_ref26_digit.ann G_ref26_digit.body e h (kFun prog Tryd.f37 Q)) : G_ref26_digit.J Q k e h := goJ_head (P := prog) (fn := Tryd.f37) (ann := G_ref26_digit.ann) (body := G_ref26_digit.body) (Q := Q) (k := k) (p := p) (e := e) (h := h) (acall_le X) G_ref26_digit.dist hl hk
def G_ref26_digit.p2 (Q : AV → AHeap → Prop) (x0 : Int) (x24 : Bool) (h : AHeap) : Prop := G_ref26_digit.J Q 3 [(0, (AV.i .u8 x0)), (24, (AV.b x24))] h
theorem G_ref26_digit.j2 (Q : AV → AHeap → Prop) (x0 : Int) (x24 : Bool) (h : AHeap) : G_ref26_digit.J Q 3 [(0, (AV.i .u8 x0)), (24, (AV.b x24))] h = G_ref26_digit.p2 Q x0 x24 h := rfl
def G_ref26_digit.p1 (Q : AV → AHeap → Prop) (x0 : Int) (x13 : Bool) (h : AHeap) : Prop := G_ref26_digit.J Q 2 [(0, (AV.i .u8 x0)), (13, (AV.b x13))] h
theorem G_ref26_digit.j1 (Q : AV → AHeap → Prop) (x0 : Int) (x13 : Bool) (h : AHeap) : G_ref26_digit.J Q 2 [(0, (AV.i .u8 x0)), (13, (AV.b x13))] h = G_ref26_digit.p1 Q x0 x13 h := rfl
def G_ref26_digit.p0 (Q : AV → AHeap → Prop) (x0 : Int) (x3 : Bool) (h : AHeap) : Prop := G_ref26_digit.J Q 1 [(0, (AV.i .u8 x0)), (3, (AV.b x3))] h
theorem G_ref26_digit.j0 (Q : AV → AHeap → Prop) (x0 : Int) (x3 : Bool) (h : AHeap) : G_ref26_digit.J Q 1 [(0, (AV.i .u8 x0)), (3, (AV.b x3))] h = G_ref26_digit.p0 Q x0 x3 h := rfl
def G_ref26_digit.t2 (J : JT) (Q : AV → AHeap → Prop) (x0 : Int) (x24 : Bool) (h : AHeap) : Prop :=
(bif x24 then
(withI (IntKind.wrap .u8 (x0 - 65)) fun n12 =>
withI (IntKind.wrap .i64 ((IntKind.wrap .i64 n12) + 10)) fun n13 =>
Q (AV.i .i64 n13) h)
else
(Q (AV.i .i64 (-1)) h))
theorem G_ref26_digit.t2_eq (J : JT) (Q : AV → AHeap → Prop) (x0 : Int) (x24 : Bool) (h : AHeap) : G_ref26_digit.t2 J Q x0 x24 h = atJ prog C 35 J false [1, 0, 0, 1, 1, 1, 1, 1] G_ref26_digit.ann G_ref26_digit.body [(0, (AV.i .u8 x0)), (24, (AV.b x24))] h (kFun prog Tryd.f37 Q) := by kernel_rfl
theorem G_ref26_digit.i2 {Q : AV → AHeap → Prop} {x0 : Int} {x24 : Bool} {h : AHeap} (H : G_ref26_digit.t2 (G_ref26_digit.J Q) Q x0 x24 h) : G_ref26_digit.p2 Q x0 x24 h := G_ref26_digit.goR (k := 3) (p := [1, 0, 0, 1, 1, 1, 1, 1]) (by kernel_rfl) ((G_ref26_digit.t2_eq (G_ref26_digit.J Q) Q x0 x24 h).mp H)
def G_ref26_digit.t1 (J : JT) (Q : AV → AHeap → Prop) (x0 : Int) (x13 : Bool) (h : AHeap) : Prop :=
(bif x13 then
(withI (IntKind.wrap .u8 (x0 - 97)) fun n7 =>
withI (IntKind.wrap .i64 ((IntKind.wrap .i64 n7) + 10)) fun n8 =>
Q (AV.i .i64 n8) h)
else
((bif (decide ((65 : Int) ≤ x0)) then
(J 3 [(0, (AV.i .u8 x0)), (24, (AV.b (decide ((x0 : Int) ≤ 70))))] h)
else
(J 3 [(0, (AV.i .u8 x0)), (24, (AV.b false))] h))))
theorem G_ref26_digit.t1_eq (J : JT) (Q : AV → AHeap → Prop) (x0 : Int) (x13 : Bool) (h : AHeap) : G_ref26_digit.t1 J Q x0 x13 h = atJ prog C 35 J false [1, 0, 0, 1, 1, 1] G_ref26_digit.ann G_ref26_digit.body [(0, (AV.i .u8 x0)), (13, (AV.b x13))] h (kFun prog Tryd.f37 Q) := by kernel_rfl
theorem G_ref26_digit.i1 {Q : AV → AHeap → Prop} {x0 : Int} {x13 : Bool} {h : AHeap} (H : G_ref26_digit.t1 (G_ref26_digit.J Q) Q x0 x13 h) : G_ref26_digit.p1 Q x0 x13 h := G_ref26_digit.goR (k := 2) (p := [1, 0, 0, 1, 1, 1]) (by kernel_rfl) ((G_ref26_digit.t1_eq (G_ref26_digit.J Q) Q x0 x13 h).mp H)
def G_ref26_digit.t0 (J : JT) (Q : AV → AHeap → Prop) (x0 : Int) (x3 : Bool) (h : AHeap) : Prop :=
(bif x3 then
(withI (IntKind.wrap .u8 (x0 - 48)) fun n3 =>
Q (AV.i .i64 (IntKind.wrap .i64 n3)) h)
else
((bif (decide ((97 : Int) ≤ x0)) then
(J 2 [(0, (AV.i .u8 x0)), (13, (AV.b (decide ((x0 : Int) ≤ 102))))] h)
else
(J 2 [(0, (AV.i .u8 x0)), (13, (AV.b false))] h))))
theorem G_ref26_digit.t0_eq (J : JT) (Q : AV → AHeap → Prop) (x0 : Int) (x3 : Bool) (h : AHeap) : G_ref26_digit.t0 J Q x0 x3 h = atJ prog C 35 J false [1, 0, 0, 1] G_ref26_digit.ann G_ref26_digit.body [(0, (AV.i .u8 x0)), (3, (AV.b x3))] h (kFun prog Tryd.f37 Q) := by kernel_rfl
theorem G_ref26_digit.i0 {Q : AV → AHeap → Prop} {x0 : Int} {x3 : Bool} {h : AHeap} (H : G_ref26_digit.t0 (G_ref26_digit.J Q) Q x0 x3 h) : G_ref26_digit.p0 Q x0 x3 h := G_ref26_digit.goR (k := 1) (p := [1, 0, 0, 1]) (by kernel_rfl) ((G_ref26_digit.t0_eq (G_ref26_digit.J Q) Q x0 x3 h).mp H)
def G_ref26_digit.t (J : JT) (Q : AV → AHeap → Prop) (x0 : Int) (h : AHeap) : Prop :=
(bif (decide ((48 : Int) ≤ x0)) then
(J 1 [(0, (AV.i .u8 x0)), (3, (AV.b (decide ((x0 : Int) ≤ 57))))] h)
else
(J 1 [(0, (AV.i .u8 x0)), (3, (AV.b false))] h))
theorem G_ref26_digit.t_eq (J : JT) (Q : AV → AHeap → Prop) (x0 : Int) (h : AHeap) : G_ref26_digit.t J Q x0 h = exJ prog C 35 J G_ref26_digit.ann G_ref26_digit.body (initEnv 0 [(AV.i .u8 x0)]) h (kFun prog Tryd.f37 Q) := by kernel_rfl
theorem G_ref26_digit.call {K : AV → AHeap → Prop} {x0 : Int} {h : AHeap} (H : G_ref26_digit.t (G_ref26_digit.J (kRet h K)) (kRet h K) x0 h) : C G_ref26_digit.id [(AV.i .u8 x0)] h K :=
  callJ (P := prog) (fn := Tryd.f37) (ann := G_ref26_digit.ann) (body := G_ref26_digit.body) Tryd.func37 G_ref26_digit.body_eq (by kernel_rfl) G_ref26_digit.dist (by kernel_rfl) ((G_ref26_digit.t_eq (G_ref26_digit.J (kRet h K)) (kRet h K) x0 h).mp H)

--@@ G_ref26_segments
/-! ### 38: intrusion/intrusionref26.segments -/
noncomputable def G_ref26_segments.body : Code := (Tryd.f38.body).getD .skip
def G_ref26_segments.ann : Ann := (.seq 0 [0] .leaf (.seq 0 [0, 3] .leaf (.seq 0 [0, 3, 4] .leaf (.seq 0 [3] (.seq 0 [0, 3, 4, 5] .leaf (.one (.loop 1 [0, 3, 4, 5] (.seq 0 [0, 3, 4, 5] (.seq 0 [0, 3, 4, 5, 10] .leaf (.br .leaf .leaf)) (.seq 3 [0, 3, 4, 5] (.one (.seq 2 [0, 3, 4, 5, 22] .leaf (.br (.seq 0 [0, 3, 5] .leaf .leaf) .leaf))) .leaf))))) (.seq 0 [2] .leaf .leaf)))))
theorem G_ref26_segments.body_eq : Tryd.f38.body = some G_ref26_segments.body := by kernel_rfl
theorem G_ref26_segments.dist : noTwice (places G_ref26_segments.ann G_ref26_segments.body) = true := by kernel_rfl
noncomputable def G_ref26_segments.J (Q : AV → AHeap → Prop) : JT := funJ prog C Tryd.f38 G_ref26_segments.ann G_ref26_segments.body Q
theorem G_ref26_segments.goR {Q : AV → AHeap → Prop} {k : Nat} {p : List Nat} (hl : lookJ (places G_ref26_segments.ann G_ref26_segments.body) k = some (p, false)) {e : Env} {h : AHeap} (hk : atJ prog C 33 (G_ref26_segments.J Q) false p G_ref26_segments.ann G_ref26_segments.body e h (kFun prog Tryd.f38 Q)) : G_ref26_segments.J Q k e h := goJ_run (P := prog) (fn := Tryd.f38) (ann := G_ref26_segments.ann) (body := G_ref26_segments.body) (Q := Q) (k := k) (p := p) (e := e) (h := h) (acall_le X) G_ref26_segments.dist hl hk
theorem G_ref26_segments.goH {Q : AV → AHeap → Prop} {k : Nat} {p : List Nat} (hl : lookJ (places G_ref26_segments.ann G_ref26_segments.body) k = some (p, true)) {e : Env} {h : AHeap} (hk : atJ prog C 33 (G_ref26_segments.J Q) true p G_ref26_segments.ann G_ref26_segments.body e h (kFun prog Tryd.f38 Q)) : G_ref26_segments.J Q k e h := goJ_head (P := prog) (fn := Tryd.f38) (ann := G_ref26_segments.ann) (body := G_ref26_segments.body) (Q := Q) (k := k) (p := p) (e := e) (h := h) (acall_le X) G_ref26_segments.dist hl hk
def G_ref26_segments.p1 (Q : AV → AHeap → Prop) (x0 : List UInt8) (x3 : AV) (x4 : Int) (x5 : Int) (x22 : Bool) (h : AHeap) : Prop := G_ref26_segments.J Q 2 [(0, (AV.s x0)), (3, x3), (4, (AV.i .i64 x4)), (5, (AV.i .i64 x5)), (22, (AV.b x22))] h
theorem G_ref26_segments.j1 (Q : AV → AHeap → Prop) (x0 : List UInt8) (x3 : AV) (x4 : Int) (x5 : Int) (x22 : Bool) (h : AHeap) : G_ref26_segments.J Q 2 [(0, (AV.s x0)), (3, x3), (4, (AV.i .i64 x4)), (5, (AV.i .i64 x5)), (22, (AV.b x22))] h = G_ref26_segments.p1 Q x0 x3 x4 x5 x22 h := rfl
def G_ref26_segments.p2 (Q : AV → AHeap → Prop) (x0 : List UInt8) (x3 : AV) (x4 : Int) (x5 : Int) (h : AHeap) : Prop := G_ref26_segments.J Q 3 [(0, (AV.s x0)), (3, x3), (4, (AV.i .i64 x4)), (5, (AV.i .i64 x5))] h
theorem G_ref26_segments.j2 (Q : AV → AHeap → Prop) (x0 : List UInt8) (x3 : AV) (x4 : Int) (x5 : Int) (h : AHeap) : G_ref26_segments.J Q 3 [(0, (AV.s x0)), (3, x3), (4, (AV.i .i64 x4)), (5, (AV.i .i64 x5))] h = G_ref26_segments.p2 Q x0 x3 x4 x5 h := rfl
def G_ref26_segments.p0 (Q : AV → AHeap → Prop) (x0 : List UInt8) (x3 : AV) (x4 : Int) (x5 : Int) (h : AHeap) : Prop := G_ref26_segments.J Q 1 [(0, (AV.s x0)), (3, x3), (4, (AV.i .i64 x4)), (5, (AV.i .i64 x5))] h
theorem G_ref26_segments.j0 (Q : AV → AHeap → Prop) (x0 : List UInt8) (x3 : AV) (x4 : Int) (x5 : Int) (h : AHeap) : G_ref26_segments.J Q 1 [(0, (AV.s x0)), (3, x3), (4, (AV.i .i64 x4)), (5, (AV.i .i64 x5))] h = G_ref26_segments.p0 Q x0 x3 x4 x5 h := rfl
def G_ref26_segments.t1 (J : JT) (Q : AV → AHeap → Prop) (x0 : List UInt8) (x3 : AV) (x4 : Int) (x5 : Int) (x22 : Bool) (h : AHeap) : Prop :=
(bif x22 then
(pSliceStr (AV.s x0) (some (AV.i .i64 x4)) (some (AV.i .i64 x5)) fun l12 =>
pBuildSl 1 1 [(AV.s [])] [(0, 1, (AV.s l12))] h fun v13 h14 =>
pAppend 1 16 x3 v13 h14 fun v15 h16 =>
withI (IntKind.wrap .i64 (x5 + 1)) fun n18 =>
J 3 [(0, (AV.s x0)), (3, v15), (4, (AV.i .i64 n18)), (5, (AV.i .i64 x5))] h16)
else
(J 3 [(0, (AV.s x0)), (3, x3), (4, (AV.i .i64 x4)), (5, (AV.i .i64 x5))] h))
theorem G_ref26_segments.t1_eq (J : JT) (Q : AV → AHeap → Prop) (x0 : List UInt8) (x3 : AV) (x4 : Int) (x5 : Int) (x22 : Bool) (h : AHeap) : G_ref26_segments.t1 J Q x0 x3 x4 x5 x22 h = atJ prog C 33 J false [1, 1, 1, 0, 1, 0, 0, 1, 0, 0, 1] G_ref26_segments.ann G_ref26_segments.body [(0, (AV.s x0)), (3, x3), (4, (AV.i .i64 x4)), (5, (AV.i .i64 x5)), (22, (AV.b x22))] h (kFun prog Tryd.f38 Q) := by kernel_rfl
theorem G_ref26_segments.i1 {Q : AV → AHeap → Prop} {x0 : List UInt8} {x3 : AV} {x4 : Int} {x5 : Int} {x22 : Bool} {h : AHeap} (H : G_ref26_segments.t1 (G_ref26_segments.J Q) Q x0 x3 x4 x5 x22 h) : G_ref26_segments.p1 Q x0 x3 x4 x5 x22 h := G_ref26_segments.goR (k := 2) (p := [1, 1, 1, 0, 1, 0, 0, 1, 0, 0, 1]) (by kernel_rfl) ((G_ref26_segments.t1_eq (G_ref26_segments.J Q) Q x0 x3 x4 x5 x22 h).mp H)
def G_ref26_segments.t2 (J : JT) (Q : AV → AHeap → Prop) (x0 : List UInt8) (x3 : AV) (x4 : Int) (x5 : Int) (h : AHeap) : Prop :=
withI (IntKind.wrap .i64 (x5 + 1)) fun n21 =>
J 1 [(0, (AV.s x0)), (3, x3), (4, (AV.i .i64 x4)), (5, (AV.i .i64 n21))] h
theorem G_ref26_segments.t2_eq (J : JT) (Q : AV → AHeap → Prop) (x0 : List UInt8) (x3 : AV) (x4 : Int) (x5 : Int) (h : AHeap) : G_ref26_segments.t2 J Q x0 x3 x4 x5 h = atJ prog C 33 J false [1, 1, 1, 0, 1, 0, 0, 1, 1] G_ref26_segments.ann G_ref26_segments.body [(0, (AV.s x0)), (3, x3), (4, (AV.i .i64 x4)), (5, (AV.i .i64 x5))] h (kFun prog Tryd.f38 Q) := by kernel_rfl
theorem G_ref26_segments.i2 {Q : AV → AHeap → Prop} {x0 : List UInt8} {x3 : AV} {x4 : Int} {x5 : Int} {h : AHeap} (H : G_ref26_segments.t2 (G_ref26_segments.J Q) Q x0 x3 x4 x5 h) : G_ref26_segments.p2 Q x0 x3 x4 x5 h := G_ref26_segments.goR (k := 3) (p := [1, 1, 1, 0, 1, 0, 0, 1, 1]) (by kernel_rfl) ((G_ref26_segments.t2_eq (G_ref26_segments.J Q) Q x0 x3 x4 x5 h).mp H)
def G_ref26_segments.t0 (J : JT) (Q : AV → AHeap → Prop) (x0 : List UInt8) (x3 : AV) (x4 : Int) (x5 : Int) (h : AHeap) : Prop :=
(bif (decide ((x5 : Int) ≤ (x0.length : Int))) then
((bif (decide ((x5 : Int) = (x0.length : Int))) then
(J 2 [(0, (AV.s x0)), (3, x3), (4, (AV.i .i64 x4)), (5, (AV.i .i64 x5)), (22, (AV.b true))] h)
else
(pIdxStr (AV.s x0) (AV.i .i64 x5) fun n10 =>
J 2 [(0, (AV.s x0)), (3, x3), (4, (AV.i .i64 x4)), (5, (AV.i .i64 x5)), (22, (AV.b (decide ((n10 : Int) = 47))))] h)))
else
(Q x3 h))
theorem G_ref26_segments.t0_eq (J : JT) (Q : AV → AHeap → Prop) (x0 : List UInt8) (x3 : AV) (x4 : Int) (x5 : Int) (h : AHeap) : G_ref26_segments.t0 J Q x0 x3 x4 x5 h = atJ prog C 33 J true [1, 1, 1, 0, 1, 0] G_ref26_segments.ann G_ref26_segments.body [(0, (AV.s x0)), (3, x3), (4, (AV.i .i64 x4)), (5, (AV.i .i64 x5))] h (kFun prog Tryd.f38 Q) := by kernel_rfl
theorem G_ref26_segments.i0 {Q : AV → AHeap → Prop} {x0 : List UInt8} {x3 : AV} {x4 : Int} {x5 : Int} {h : AHeap} (H : G_ref26_segments.t0 (G_ref26_segments.J Q) Q x0 x3 x4 x5 h) : G_ref26_segments.p0 Q x0 x3 x4 x5 h := G_ref26_segments.goH (k := 1) (p := [1, 1, 1, 0, 1, 0]) (by kernel_rfl) ((G_ref26_segments.t0_eq (G_ref26_segments.J Q) Q x0 x3 x4 x5 h).mp H)
def G_ref26_segments.t (J : JT) (Q : AV → AHeap → Prop) (x0 : List UInt8) (h : AHeap) : Prop :=
pBuildSl 1 0 [] [] h fun v1 h2 =>
J 1 [(0, (AV.s x0)), (3, v1), (4, (AV.i .i64 0)), (5, (AV.i .i64 0))] h2
theorem G_ref26_segments.t_eq (J : JT) (Q : AV → AHeap → Prop) (x0 : List UInt8) (h : AHeap) : G_ref26_segments.t J Q x0 h = exJ prog C 33 J G_ref26_segments.ann G_ref26_segments.body (initEnv 0 [(AV.s x0)]) h (kFun prog Tryd.f38 Q) := by kernel_rfl
theorem G_ref26_segments.call {K : AV → AHeap → Prop} {x0 : List UInt8} {h : AHeap} (H : G_ref26_segments.t (G_ref26_segments.J (kRet h K)) (kRet h K) x0 h) : C G_ref26_segments.id [(AV.s x0)] h K :=
  callJ (P := prog) (fn := Tryd.f38) (ann := G_ref26_segments.ann) (body := G_ref26_segments.body) Tryd.func38 G_ref26_segments.body_eq (by kernel_rfl) G_ref26_segments.dist (by kernel_rfl) ((G_ref26_segments.t_eq (G_ref26_segments.J (kRet h K)) (kRet h K) x0 h).mp H)

--@@ G_transform_digit
/-! ### 40: intrusion/transform.digit -/
noncomputable def G_transform_digit.body : Code := (Tryd.f40.body).getD .skip
def G_transform_digit.ann : Ann := (.seq 0 [0] .leaf (.seq 0 [] (.one (.seq 1 [0, 3] .leaf (.br (.seq 0 [2] .leaf .leaf) (.seq 2 [0, 13] .leaf (.br (.seq 0 [2] .leaf .leaf) (.seq 3 [0, 24] .leaf (.br (.seq 0 [2] .leaf .leaf) .leaf))))))) (.seq 0 [2] .leaf .leaf)))
theorem G_transform_digit.body_eq : Tryd.f40.body = some G_transform_digit.body := by kernel_rfl
theorem G_transform_digit.dist : noTwice (places G_transform_digit.ann G_transform_digit.body) = true := by kernel_rfl
noncomputable def G_transform_digit.J (Q : AV → AHeap → Prop) : JT := funJ prog C Tryd.f40 G_transform_digit.ann G_transform_digit.body Q
theorem G_transform_digit.goR {Q : AV → AHeap → Prop} {k : Nat} {p : List Nat} (hl : lookJ (places G_transform_digit.ann G_transform_digit.body) k = some (p, false)) {e : Env} {h : AHeap} (hk : atJ prog C 35 (G_transform_digit.J Q) false p G_transform_digit.ann G_transform_digit.body e h (kFun prog Tryd.f40 Q)) : G_transform_digit.J Q k e h := goJ_run (P := prog) (fn := Tryd.f40) (ann := G_transform_digit.ann) (body := G_transform_digit.body) (Q := Q) (k := k) (p := p) (e := e) (h := h) (acall_le X) G_transform_digit.dist hl hk
theorem G_transform_digit.goH {Q : AV → AHeap → Prop} {k : Nat} {p : List Nat} (hl : lookJ (places G_transform_digit.ann G_transform_digit.body) k = some (p, true)) {e : Env} {h : AHeap} (hk : atJ prog C 35 (G_transform_digit.J Q) true p G_transform_digit.ann G_transform_digit.body e h (kFun prog Tryd.f40 Q)) : G_transform_digit.J Q k e h := goJ_head (P := prog) (fn := Tryd.f40) (ann := G_transform_digit.ann) (body := G_transform_digit.body) (Q := Q) (k := k) (p := p) (e := e) (h := h) (acall_le X) G_transform_digit.dist hl hk
def G_transform_digit.p2 (Q : AV → AHeap → Prop) (x0 : Int) (x24 : Bool) (h : AHeap) : Prop := G_transform_digit.J Q 3 [(0, (AV.i .u8 x0)), (24, (AV.b x24))] h
theorem G_transform_digit.j2 (Q : AV → AHeap → Prop) (x0 : Int) (x24 : Bool) (h : AHeap) : G_transform_digit.J Q 3 [(0, (AV.i .u8 x0)), (24, (AV.b x24))] h = G_transform_digit.p2 Q x0 x24 h := rfl
def G_transform_digit.p1 (Q : AV → AHeap → Prop) (x0 : Int) (x13 : Bool) (h : AHeap) : Prop := G_transform_digit.J Q 2 [(0, (AV.i .u8 x0)), (13, (AV.b x13))] h
theorem G_transform_digit.j1 (Q : AV → AHeap → Prop) (x0 : Int) (x13 : Bool) (h : AHeap) : G_transform_digit.J Q 2 [(0, (AV.i .u8 x0)), (13, (AV.b x13))] h = G_transform_digit.p1 Q x0 x13 h := rfl
def G_transform_digit.p0 (Q : AV → AHeap → Prop) (x0 : Int) (x3 : Bool) (h : AHeap) : Prop := G_transform_digit.J Q 1 [(0, (AV.i .u8 x0)), (3, (AV.b x3))] h
theorem G_transform_digit.j0 (Q : AV → AHeap → Prop) (x0 : Int) (x3 : Bool) (h : AHeap) : G_transform_digit.J Q 1 [(0, (AV.i .u8 x0)), (3, (AV.b x3))] h = G_transform_digit.p0 Q x0 x3 h := rfl
def G_transform_digit.t2 (J : JT) (Q : AV → AHeap → Prop) (x0 : Int) (x24 : Bool) (h : AHeap) : Prop :=
(bif x24 then
(withI (IntKind.wrap .u8 (x0 - 65)) fun n12 =>
withI (IntKind.wrap .i64 ((IntKind.wrap .i64 n12) + 10)) fun n13 =>
Q (AV.i .i64 n13) h)
else
(Q (AV.i .i64 (-1)) h))
theorem G_transform_digit.t2_eq (J : JT) (Q : AV → AHeap → Prop) (x0 : Int) (x24 : Bool) (h : AHeap) : G_transform_digit.t2 J Q x0 x24 h = atJ prog C 35 J false [1, 0, 0, 1, 1, 1, 1, 1] G_transform_digit.ann G_transform_digit.body [(0, (AV.i .u8 x0)), (24, (AV.b x24))] h (kFun prog Tryd.f40 Q) := by kernel_rfl
theorem G_transform_digit.i2 {Q : AV → AHeap → Prop} {x0 : Int} {x24 : Bool} {h : AHeap} (H : G_transform_digit.t2 (G_transform_digit.J Q) Q x0 x24 h) : G_transform_digit.p2 Q x0 x24 h := G_transform_digit.goR (k := 3) (p := [1, 0, 0, 1, 1, 1, 1, 1]) (by kernel_rfl) ((G_transform_digit.t2_eq (G_transform_digit.J Q) Q x0 x24 h).mp H)
def G_transform_digit.t1 (J : JT) (Q : AV → AHeap → Prop) (x0 : Int) (x13 : Bool) (h : AHeap) : Prop :=
(bif x13 then
(withI (IntKind.wrap .u8 (x0 - 97)) fun n7 =>
withI (IntKind.wrap .i64 ((IntKind.wrap .i64 n7) + 10)) fun n8 =>
Q (AV.i .i64 n8) h)
else
((bif (decide ((65 : Int) ≤ x0)) then
(J 3 [(0, (AV.i .u8 x0)), (24, (AV.b (decide ((x0 : Int) ≤ 70))))] h)
else
(J 3 [(0, (AV.i .u8 x0)), (24, (AV.b false))] h))))
theorem G_transform_digit.t1_eq (J : JT) (Q : AV → AHeap → Prop) (x0 : Int) (x13 : Bool) (h : AHeap) : G_transform_digit.t1 J Q x0 x13 h = atJ prog C 35 J false [1, 0, 0, 1, 1, 1] G_transform_digit.ann G_transform_digit.body [(0, (AV.i .u8 x0)), (13, (AV.b x13))] h (kFun prog Tryd.f40 Q) := by kernel_rfl
theorem G_transform_digit.i1 {Q : AV → AHeap → Prop} {x0 : Int} {x13 : Bool} {h : AHeap} (H : G_transform_digit.t1 (G_transform_digit.J Q) Q x0 x13 h) : G_transform_digit.p1 Q x0 x13 h := G_transform_digit.goR (k := 2) (p := [1, 0, 0, 1, 1, 1]) (by kernel_rfl) ((G_transform_digit.t1_eq (G_transform_digit.J Q) Q x0 x13 h).mp H)
def G_transform_digit.t0 (J : JT) (Q : AV → AHeap → Prop) (x0 : Int) (x3 : Bool) (h : AHeap) : Prop :=
(bif x3 then
(withI (IntKind.wrap .u8 (x0 - 48)) fun n3 =>
Q (AV.i .i64 (IntKind.wrap .i64 n3)) h)
else
((bif (decide ((97 : Int) ≤ x0)) then
(J 2 [(0, (AV.i .u8 x0)), (13, (AV.b (decide ((x0 : Int) ≤ 102))))] h)
else
(J 2 [(0, (AV.i .u8 x0)), (13, (AV.b false))] h))))
theorem G_transform_digit.t0_eq (J : JT) (Q : AV → AHeap → Prop) (x0 : Int) (x3 : Bool) (h : AHeap) : G_transform_digit.t0 J Q x0 x3 h = atJ prog C 35 J false [1, 0, 0, 1] G_transform_digit.ann G_transform_digit.body [(0, (AV.i .u8 x0)), (3, (AV.b x3))] h (kFun prog Tryd.f40 Q) := by kernel_rfl
theorem G_transform_digit.i0 {Q : AV → AHeap → Prop} {x0 : Int} {x3 : Bool} {h : AHeap} (H : G_transform_digit.t0 (G_transform_digit.J Q) Q x0 x3 h) : G_transform_digit.p0 Q x0 x3 h := G_transform_digit.goR (k := 1) (p := [1, 0, 0, 1]) (by kernel_rfl) ((G_transform_digit.t0_eq (G_transform_digit.J Q) Q x0 x3 h).mp H)
def G_transform_digit.t (J : JT) (Q : AV → AHeap → Prop) (x0 : Int) (h : AHeap) : Prop :=
(bif (decide ((48 : Int) ≤ x0)) then
(J 1 [(0, (AV.i .u8 x0)), (3, (AV.b (decide ((x0 : Int) ≤ 57))))] h)
else
(J 1 [(0, (AV.i .u8 x0)), (3, (AV.b false))] h))
theorem G_transform_digit.t_eq (J : JT) (Q : AV → AHeap → Prop) (x0 : Int) (h : AHeap) : G_transform_digit.t J Q x0 h = exJ prog C 35 J G_transform_digit.ann G_transform_digit.body (initEnv 0 [(AV.i .u8 x0)]) h (kFun prog Tryd.f40 Q) := by kernel_rfl
theorem G_transform_digit.call {K : AV → AHeap → Prop} {x0 : Int} {h : AHeap} (H : G_transform_digit.t (G_transform_digit.J (kRet h K)) (kRet h K) x0 h) : C G_transform_digit.id [(AV.i .u8 x0)] h K :=
  callJ (P := prog) (fn := Tryd.f40) (ann := G_transform_digit.ann) (body := G_transform_digit.body) Tryd.func40 G_transform_digit.body_eq (by kernel_rfl) G_transform_digit.dist (by kernel_rfl) ((G_transform_digit.t_eq (G_transform_digit.J (kRet h K)) (kRet h K) x0 h).mp H)

--@@ G_strings_Split
/-! ### 41: strings.Split -/
noncomputable def G_strings_Split.body : Code := (Tryd.f41.body).getD .skip
def G_strings_Split.ann : Ann := (.seq 0 [0, 1] .leaf (.seq 0 [4] .leaf .leaf))
theorem G_strings_Split.body_eq : Tryd.f41.body = some G_strings_Split.body := by kernel_rfl
theorem G_strings_Split.dist : noTwice (places G_strings_Split.ann G_strings_Split.body) = true := by kernel_rfl
noncomputable def G_strings_Split.J (Q : AV → AHeap → Prop) : JT := funJ prog C Tryd.f41 G_strings_Split.ann G_strings_Split.body Q
theorem G_strings_Split.goR {Q : AV → AHeap → Prop} {k : Nat} {p : List Nat} (hl : lookJ (places G_strings_Split.ann G_strings_Split.body) k = some (p, false)) {e : Env} {h : AHeap} (hk : atJ prog C 8 (G_strings_Split.J Q) false p G_strings_Split.ann G_strings_Split.body e h (kFun prog Tryd.f41 Q)) : G_strings_Split.J Q k e h := goJ_run (P := prog) (fn := Tryd.f41) (ann := G_strings_Split.ann) (body := G_strings_Split.body) (Q := Q) (k := k) (p := p) (e := e) (h := h) (acall_le X) G_strings_Split.dist hl hk
theorem G_strings_Split.goH {Q : AV → AHeap → Prop} {k : Nat} {p : List Nat} (hl : lookJ (places G_strings_Split.ann G_strings_Split.body) k = some (p, true)) {e : Env} {h : AHeap} (hk : atJ prog C 8 (G_strings_Split.J Q) true p G_strings_Split.ann G_strings_Split.body e h (kFun prog Tryd.f41 Q)) : G_strings_Split.J Q k e h := goJ_head (P := prog) (fn := Tryd.f41) (ann := G_strings_Split.ann) (body := G_strings_Split.body) (Q := Q) (k := k) (p := p) (e := e) (h := h) (acall_le X) G_strings_Split.dist hl hk
def G_strings_Split.t (J : JT) (Q : AV → AHeap → Prop) (x0 : List UInt8) (x1 : List UInt8) (h : AHeap) : Prop :=
C G_strings_genSplit.id [(AV.s x0), (AV.s x1), (AV.i .i64 0), (AV.i .i64 (-1))] h fun v1 h2 =>
Q v1 h2
theorem G_strings_Split.t_eq (J : JT) (Q : AV → AHeap → Prop) (x0 : List UInt8) (x1 : List UInt8) (h : AHeap) : G_strings_Split.t J Q x0 x1 h = exJ prog C 8 J G_strings_Split.ann G_strings_Split.body (initEnv 0 [(AV.s x0), (AV.s x1)]) h (kFun prog Tryd.f41 Q) := by kernel_rfl
theorem G_strings_Split.call {K : AV → AHeap → Prop} {x0 : List UInt8} {x1 : List UInt8} {h : AHeap} (H : G_strings_Split.t (G_strings_Split.J (kRet h K)) (kRet h K) x0 x1 h) : C G_strings_Split.id [(AV.s x0), (AV.s x1)] h K :=
  callJ (P := prog) (fn := Tryd.f41) (ann := G_strings_Split.ann) (body := G_strings_Split.body) Tryd.func41 G_strings_Split.body_eq (by kernel_rfl) G_strings_Split.dist (by kernel_rfl) ((G_strings_Split.t_eq (G_strings_Split.J (kRet h K)) (kRet h K) x0 x1 h).mp H)

--@@ G_strings_HasPrefix
/-! ### 42: strings.HasPrefix -/
noncomputable def G_strings_HasPrefix.body : Code := (Tryd.f42.body).getD .skip
def G_strings_HasPrefix.ann : Ann := (.seq 0 [0, 1] .leaf (.seq 0 [4] .leaf .leaf))
theorem G_strings_HasPrefix.body_eq : Tryd.f42.body = some G_strings_HasPrefix.body := by kernel_rfl
theorem G_strings_HasPrefix.dist : noTwice (places G_strings_HasPrefix.ann G_strings_HasPrefix.body) = true := by kernel_rfl
noncomputable def G_strings_HasPrefix.J (Q : AV → AHeap → Prop) : JT := funJ prog C Tryd.f42 G_strings_HasPrefix.ann G_strings_HasPrefix.body Q
theorem G_strings_HasPrefix.goR {Q : AV → AHeap → Prop} {k : Nat} {p : List Nat} (hl : lookJ (places G_strings_HasPrefix.ann G_strings_HasPrefix.body) k = some (p, false)) {e : Env} {h : AHeap} (hk : atJ prog C 8 (G_strings_HasPrefix.J Q) false p G_strings_HasPrefix.ann G_strings_HasPrefix.body e h (kFun prog Tryd.f42 Q)) : G_strings_HasPrefix.J Q k e h := goJ_run (P := prog) (fn := Tryd.f42) (ann := G_strings_HasPrefix.ann) (body := G_strings_HasPrefix.body) (Q := Q) (k := k) (p := p) (e := e) (h := h) (acall_le X) G_strings_HasPrefix.dist hl hk
theorem G_strings_HasPrefix.goH {Q : AV → AHeap → Prop} {k : Nat} {p : List Nat} (hl : lookJ (places G_strings_HasPrefix.ann G_strings_HasPrefix.body) k = some (p, true)) {e : Env} {h : AHeap} (hk : atJ prog C 8 (G_strings_HasPrefix.J Q) true p G_strings_HasPrefix.ann G_strings_HasPrefix.body e h (kFun prog Tryd.f42 Q)) : G_strings_HasPrefix.J Q k e h := goJ_head (P := prog) (fn := Tryd.f42) (ann := G_strings_HasPrefix.ann) (body := G_strings_HasPrefix.body) (Q := Q) (k := k) (p := p) (e := e) (h := h) (acall_le X) G_strings_HasPrefix.dist hl hk
def G_strings_HasPrefix.t (J : JT) (Q : AV → AHeap → Prop) (x0 : List UInt8) (x1 : List UInt8) (h : AHeap) : Prop :=
C G_i_stringslite_HasPrefix.id [(AV.s x0), (AV.s x1)] h fun v1 h2 =>
asB v1 fun c3 =>
Q (AV.b c3) h2
theorem G_strings_HasPrefix.t_eq (J : JT) (Q : AV → AHeap → Prop) (x0 : List UInt8) (x1 : List UInt8) (h : AHeap) : G_strings_HasPrefix.t J Q x0 x1 h = exJ prog C 8 J G_strings_HasPrefix.ann G_strings_HasPrefix.body (initEnv 0 [(AV.s x0), (AV.s x1)]) h (kFun prog Tryd.f42 Q) := by kernel_rfl
theorem G_strings_HasPrefix.call {K : AV → AHeap → Prop} {x0 : List UInt8} {x1 : List UInt8} {h : AHeap} (H : G_strings_HasPrefix.t (G_strings_HasPrefix.J (kRet h K)) (kRet h K) x0 x1 h) : C G_strings_HasPrefix.id [(AV.s x0), (AV.s x1)] h K :=
  callJ (P := prog) (fn := Tryd.f42) (ann := G_strings_HasPrefix.ann) (body := G_strings_HasPrefix.body) Tryd.func42 G_strings_HasPrefix.body_eq (by kernel_rfl) G_strings_HasPrefix.dist (by kernel_rfl) ((G_strings_HasPrefix.t_eq (G_strings_HasPrefix.J (kRet h K)) (kRet h K) x0 x1 h).mp H)

--@@ G_strings_genSplit
/-! ### 45: strings.genSplit -/
noncomputable def G_strings_genSplit.body : Code := (Tryd.f45.body).getD .skip
def G_strings_genSplit.ann : Ann := (.seq 0 [0, 1, 2, 3] .leaf (.seq 0 [0, 1, 2, 3] (.seq 0 [0, 1, 2, 3, 13] .leaf (.br (.seq 0 [8] .leaf .leaf) .leaf)) (.seq 0 [0, 1, 2, 3] (.seq 0 [0, 1, 2, 3, 15] .leaf (.br (.seq 0 [8] .leaf .leaf) .leaf)) (.seq 1 [0, 1, 2, 3] (.seq 0 [0, 1, 2, 3, 20] .leaf (.br .leaf .leaf)) (.seq 0 [0, 1, 2, 3] .leaf (.seq 0 [0, 1, 2, 3, 9] .leaf (.seq 0 [0, 1, 2, 3, 9] .leaf (.seq 0 [0, 1, 2, 3, 9, 10] .leaf (.seq 3 [0, 9, 10] (.one (.loop 2 [0, 1, 2, 3, 9, 10] (.seq 0 [0, 1, 2, 3, 9, 10] (.seq 0 [0, 1, 2, 3, 9, 10, 36] .leaf (.br .leaf .leaf)) (.one (.seq 0 [0, 1, 2, 3, 9, 10, 11] .leaf (.seq 0 [0, 1, 2, 3, 9, 10, 11] (.seq 0 [0, 1, 2, 3, 9, 10, 11, 41] .leaf (.br .leaf .leaf)) (.seq 0 [0, 1, 2, 3, 9, 10, 11] .leaf (.seq 0 [0, 1, 2, 3, 9, 10] .leaf .leaf)))))))) (.seq 0 [9, 10] .leaf (.seq 0 [8] .leaf .leaf)))))))))))
theorem G_strings_genSplit.body_eq : Tryd.f45.body = some G_strings_genSplit.body := by kernel_rfl
theorem G_strings_genSplit.dist : noTwice (places G_strings_genSplit.ann G_strings_genSplit.body) = true := by kernel_rfl
noncomputable def G_strings_genSplit.J (Q : AV → AHeap → Prop) : JT := funJ prog C Tryd.f45 G_strings_genSplit.ann G_strings_genSplit.body Q
theorem G_strings_genSplit.goR {Q : AV → AHeap → Prop} {k : Nat} {p : List Nat} (hl : lookJ (places G_strings_genSplit.ann G_strings_genSplit.body) k = some (p, false)) {e : Env} {h : AHeap} (hk : atJ prog C 66 (G_strings_genSplit.J Q) false p G_strings_genSplit.ann G_strings_genSplit.body e h (kFun prog Tryd.f45 Q)) : G_strings_genSplit.J Q k e h := goJ_run (P := prog) (fn := Tryd.f45) (ann := G_strings_genSplit.ann) (body := G_strings_genSplit.body) (Q := Q) (k := k) (p := p) (e := e) (h := h) (acall_le X) G_strings_genSplit.dist hl hk
theorem G_strings_genSplit.goH {Q : AV → AHeap → Prop} {k : Nat} {p : List Nat} (hl : lookJ (places G_strings_genSplit.ann G_strings_genSplit.body) k = some (p, true)) {e : Env} {h : AHeap} (hk : atJ prog C 66 (G_strings_genSplit.J Q) true p G_strings_genSplit.ann G_strings_genSplit.body e h (kFun prog Tryd.f45 Q)) : G_strings_genSplit.J Q k e h := goJ_head (P := prog) (fn := Tryd.f45) (ann := G_strings_genSplit.ann) (body := G_strings_genSplit.body) (Q := Q) (k := k) (p := p) (e := e) (h := h) (acall_le X) G_strings_genSplit.dist hl hk
def G_strings_genSplit.p1 (Q : AV → AHeap → Prop) (x0 : List UInt8) (x1 : List UInt8) (x2 : Int) (x3 : Int) (x9 : AV) (x10 : Int) (h : AHeap) : Prop := G_strings_genSplit.J Q 2 [(0, (AV.s x0)), (1, (AV.s x1)), (2, (AV.i .i64 x2)), (3, (AV.i .i64 x3)), (9, x9), (10, (AV.i .i64 x10))] h
theorem G_strings_genSplit.j1 (Q : AV → AHeap → Prop) (x0 : List UInt8) (x1 : List UInt8) (x2 : Int) (x3 : Int) (x9 : AV) (x10 : Int) (h : AHeap) : G_strings_genSplit.J Q 2 [(0, (AV.s x0)), (1, (AV.s x1)), (2, (AV.i .i64 x2)), (3, (AV.i .i64 x3)), (9, x9), (10, (AV.i .i64 x10))] h = G_strings_genSplit.p1 Q x0 x1 x2 x3 x9 x10 h := rfl
def G_strings_genSplit.p2 (Q : AV → AHeap → Prop) (x0 : List UInt8) (x9 : AV) (x10 : Int) (h : AHeap) : Prop := G_strings_genSplit.J Q 3 [(0, (AV.s x0)), (9, x9), (10, (AV.i .i64 x10))] h
theorem G_strings_genSplit.j2 (Q : AV → AHeap → Prop) (x0 : List UInt8) (x9 : AV) (x10 : Int) (h : AHeap) : G_strings_genSplit.J Q 3 [(0, (AV.s x0)), (9, x9), (10, (AV.i .i64 x10))] h = G_strings_genSplit.p2 Q x0 x9 x10 h := rfl
def G_strings_genSplit.p0 (Q : AV → AHeap → Prop) (x0 : List UInt8) (x1 : List UInt8) (x2 : Int) (x3 : Int) (h : AHeap) : Prop := G_strings_genSplit.J Q 1 [(0, (AV.s x0)), (1, (AV.s x1)), (2, (AV.i .i64 x2)), (3, (AV.i .i64 x3))] h
theorem G_strings_genSplit.j0 (Q : AV → AHeap → Prop) (x0 : List UInt8) (x1 : List UInt8) (x2 : Int) (x3 : Int) (h : AHeap) : G_strings_genSplit.J Q 1 [(0, (AV.s x0)), (1, (AV.s x1)), (2, (AV.i .i64 x2)), (3, (AV.i .i64 x3))] h = G_strings_genSplit.p0 Q x0 x1 x2 x3 h := rfl
def G_strings_genSplit.t1 (J : JT) (Q : AV → AHeap → Prop) (x0 : List UInt8) (x1 : List UInt8) (x2 : Int) (x3 : Int) (x9 : AV) (x10 : Int) (h : AHeap) : Prop :=
(bif (decide ((x10 : Int) < x3)) then
(C G_strings_Index.id [(AV.s x0), (AV.s x1)] h fun v27 h28 =>
asI .i64 v27 fun n29 =>
(bif (decide ((n29 : Int) < 0)) then
(J 3 [(0, (AV.s x0)), (9, x9), (10, (AV.i .i64 x10))] h28)
else
(withI (IntKind.wrap .i64 (n29 + x2)) fun n34 =>
pSliceStr (AV.s x0) none (some (AV.i .i64 n34)) fun l35 =>
pIdxAddrSl 1 x9 (AV.i .i64 x10) h28 fun v36 =>
pStore 1 v36 (AV.s l35) h28 fun h37 =>
withI (IntKind.wrap .i64 (n29 + (x1.length : Int))) fun n39 =>
pSliceStr (AV.s x0) (some (AV.i .i64 n39)) none fun l40 =>
withI (IntKind.wrap .i64 (x10 + 1)) fun n42 =>
J 2 [(0, (AV.s l40)), (1, (AV.s x1)), (2, (AV.i .i64 x2)), (3, (AV.i .i64 x3)), (9, x9), (10, (AV.i .i64 n42))] h37)))
else
(J 3 [(0, (AV.s x0)), (9, x9), (10, (AV.i .i64 x10))] h))
theorem G_strings_genSplit.t1_eq (J : JT) (Q : AV → AHeap → Prop) (x0 : List UInt8) (x1 : List UInt8) (x2 : Int) (x3 : Int) (x9 : AV) (x10 : Int) (h : AHeap) : G_strings_genSplit.t1 J Q x0 x1 x2 x3 x9 x10 h = atJ prog C 66 J true [1, 1, 1, 1, 1, 1, 1, 1, 0, 0] G_strings_genSplit.ann G_strings_genSplit.body [(0, (AV.s x0)), (1, (AV.s x1)), (2, (AV.i .i64 x2)), (3, (AV.i .i64 x3)), (9, x9), (10, (AV.i .i64 x10))] h (kFun prog Tryd.f45 Q) := by kernel_rfl
theorem G_strings_genSplit.i1 {Q : AV → AHeap → Prop} {x0 : List UInt8} {x1 : List UInt8} {x2 : Int} {x3 : Int} {x9 : AV} {x10 : Int} {h : AHeap} (H : G_strings_genSplit.t1 (G_strings_genSplit.J Q) Q x0 x1 x2 x3 x9 x10 h) : G_strings_genSplit.p1 Q x0 x1 x2 x3 x9 x10 h := G_strings_genSplit.goH (k := 2) (p := [1, 1, 1, 1, 1, 1, 1, 1, 0, 0]) (by kernel_rfl) ((G_strings_genSplit.t1_eq (G_strings_genSplit.J Q) Q x0 x1 x2 x3 x9 x10 h).mp H)
def G_strings_genSplit.t2 (J : JT) (Q : AV → AHeap → Prop) (x0 : List UInt8) (x9 : AV) (x10 : Int) (h : AHeap) : Prop :=
pIdxAddrSl 1 x9 (AV.i .i64 x10) h fun v44 =>
pStore 1 v44 (AV.s x0) h fun h45 =>
withI (IntKind.wrap .i64 (x10 + 1)) fun n47 =>
pSliceSl 1 x9 none (some (AV.i .i64 n47)) none h45 fun v48 =>
Q v48 h45
theorem G_strings_genSplit.t2_eq (J : JT) (Q : AV → AHeap → Prop) (x0 : List UInt8) (x9 : AV) (x10 : Int) (h : AHeap) : G_strings_genSplit.t2 J Q x0 x9 x10 h = atJ prog C 66 J false [1, 1, 1, 1, 1, 1, 1, 1, 1] G_strings_genSplit.ann G_strings_genSplit.body [(0, (AV.s x0)), (9, x9), (10, (AV.i .i64 x10))] h (kFun prog Tryd.f45 Q) := by kernel_rfl
theorem G_strings_genSplit.i2 {Q : AV → AHeap → Prop} {x0 : List UInt8} {x9 : AV} {x10 : Int} {h : AHeap} (H : G_strings_genSplit.t2 (G_strings_genSplit.J Q) Q x0 x9 x10 h) : G_strings_genSplit.p2 Q x0 x9 x10 h := G_strings_genSplit.goR (k := 3) (p := [1, 1, 1, 1, 1, 1, 1, 1, 1]) (by kernel_rfl) ((G_strings_genSplit.t2_eq (G_strings_genSplit.J Q) Q x0 x9 x10 h).mp H)
def G_strings_genSplit.t0 (J : JT) (Q : AV → AHeap → Prop) (x0 : List UInt8) (x1 : List UInt8) (x2 : Int) (x3 : Int) (h : AHeap) : Prop :=
withI (IntKind.wrap .i64 ((x0.length : Int) + 1)) fun n16 =>
pMake 1 16 [(AV.s [])] (AV.i .i64 (mmI false x3 n16)) (AV.i .i64 (mmI false x3 n16)) h fun v18 h19 =>
withI (IntKind.wrap .i64 ((mmI false x3 n16) - 1)) fun n21 =>
J 2 [(0, (AV.s x0)), (1, (AV.s x1)), (2, (AV.i .i64 x2)), (3, (AV.i .i64 n21)), (9, v18), (10, (AV.i .i64 0))] h19
theorem G_strings_genSplit.t0_eq (J : JT) (Q : AV → AHeap → Prop) (x0 : List UInt8) (x1 : List UInt8) (x2 : Int) (x3 : Int) (h : AHeap) : G_strings_genSplit.t0 J Q x0 x1 x2 x3 h = atJ prog C 66 J false [1, 1, 1, 1] G_strings_genSplit.ann G_strings_genSplit.body [(0, (AV.s x0)), (1, (AV.s x1)), (2, (AV.i .i64 x2)), (3, (AV.i .i64 x3))] h (kFun prog Tryd.f45 Q) := by kernel_rfl
theorem G_strings_genSplit.i0 {Q : AV → AHeap → Prop} {x0 : List UInt8} {x1 : List UInt8} {x2 : Int} {x3 : Int} {h : AHeap} (H : G_strings_genSplit.t0 (G_strings_genSplit.J Q) Q x0 x1 x2 x3 h) : G_strings_genSplit.p0 Q x0 x1 x2 x3 h := G_strings_genSplit.goR (k := 1) (p := [1, 1, 1, 1]) (by kernel_rfl) ((G_strings_genSplit.t0_eq (G_strings_genSplit.J Q) Q x0 x1 x2 x3 h).mp H)
def G_strings_genSplit.t (J : JT) (Q : AV → AHeap → Prop) (x0 : List UInt8) (x1 : List UInt8) (x2 : Int) (x3 : Int) (h : AHeap) : Prop :=
(bif (decide ((x3 : Int) = 0)) then
(Q (AV.sl none 0 none) h)
else
((bif (decide ((x1 : List UInt8) = [])) then
(C G_strings_explode.id [(AV.s x0), (AV.i .i64 x3)] h fun v5 h6 =>
Q v5 h6)
else
((bif (decide ((x3 : Int) < 0)) then
(C G_strings_Count.id [(AV.s x0), (AV.s x1)] h fun v10 h11 =>
asI .i64 v10 fun n12 =>
withI (IntKind.wrap .i64 (n12 + 1)) fun n13 =>
J 1 [(0, (AV.s x0)), (1, (AV.s x1)), (2, (AV.i .i64 x2)), (3, (AV.i .i64 n13))] h11)
else
(J 1 [(0, (AV.s x0)), (1, (AV.s x1)), (2, (AV.i .i64 x2)), (3, (AV.i .i64 x3))] h))))))
theorem G_strings_genSplit.t_eq (J : JT) (Q : AV → AHeap → Prop) (x0 : List UInt8) (x1 : List UInt8) (x2 : Int) (x3 : Int) (h : AHeap) : G_strings_genSplit.t J Q x0 x1 x2 x3 h = exJ prog C 66 J G_strings_genSplit.ann G_strings_genSplit.body (initEnv 0 [(AV.s x0), (AV.s x1), (AV.i .i64 x2), (AV.i .i64 x3)]) h (kFun prog Tryd.f45 Q) := by kernel_rfl
theorem G_strings_genSplit.call {K : AV → AHeap → Prop} {x0 : List UInt8} {x1 : List UInt8} {x2 : Int} {x3 : Int} {h : AHeap} (H : G_strings_genSplit.t (G_strings_genSplit.J (kRet h K)) (kRet h K) x0 x1 x2 x3 h) : C G_strings_genSplit.id [(AV.s x0), (AV.s x1), (AV.i .i64 x2), (AV.i .i64 x3)] h K :=
  callJ (P := prog) (fn := Tryd.f45) (ann := G_strings_genSplit.ann) (body := G_strings_genSplit.body) Tryd.func45 G_strings_genSplit.body_eq (by kernel_rfl) G_strings_genSplit.dist (by kernel_rfl) ((G_strings_genSplit.t_eq (G_strings_genSplit.J (kRet h K)) (kRet h K) x0 x1 x2 x3 h).mp H)

--@@ G_i_stringslite_HasPrefix
/-! ### 46: internal/stringslite.HasPrefix -/
noncomputable def G_i_stringslite_HasPrefix.body : Code := (Tryd.f46.body).getD .skip
def G_i_stringslite_HasPrefix.ann : Ann := (.seq 0 [0, 1] .leaf (.seq 1 [4] .leaf .leaf))
theorem G_i_stringslite_HasPrefix.body_eq : Tryd.f46.body = some G_i_stringslite_HasPrefix.body := by kernel_rfl
theorem G_i_stringslite_HasPrefix.dist : noTwice (places G_i_stringslite_HasPrefix.ann G_i_stringslite_HasPrefix.body) = true := by kernel_rfl
noncomputable def G_i_stringslite_HasPrefix.J (Q : AV → AHeap → Prop) : JT := funJ prog C Tryd.f46 G_i_stringslite_HasPrefix.ann G_i_stringslite_HasPrefix.body Q
theorem G_i_stringslite_HasPrefix.goR {Q : AV → AHeap → Prop} {k : Nat} {p : List Nat} (hl : lookJ (places G_i_stringslite_HasPrefix.ann G_i_stringslite_HasPrefix.body) k = some (p, false)) {e : Env} {h : AHeap} (hk : atJ prog C 18 (G_i_stringslite_HasPrefix.J Q) false p G_i_stringslite_HasPrefix.ann G_i_stringslite_HasPrefix.body e h (kFun prog Tryd.f46 Q)) : G_i_stringslite_HasPrefix.J Q k e h := goJ_run (P := prog) (fn := Tryd.f46) (ann := G_i_stringslite_HasPrefix.ann) (body := G_i_stringslite_HasPrefix.body) (Q := Q) (k := k) (p := p) (e := e) (h := h) (acall_le X) G_i_stringslite_HasPrefix.dist hl hk
theorem G_i_stringslite_HasPrefix.goH {Q : AV → AHeap → Prop} {k : Nat} {p : List Nat} (hl : lookJ (places G_i_stringslite_HasPrefix.ann G_i_stringslite_HasPrefix.body) k = some (p, true)) {e : Env} {h : AHeap} (hk : atJ prog C 18 (G_i_stringslite_HasPrefix.J Q) true p G_i_stringslite_HasPrefix.ann G_i_stringslite_HasPrefix.body e h (kFun prog Tryd.f46 Q)) : G_i_stringslite_HasPrefix.J Q k e h := goJ_head (P := prog) (fn := Tryd.f46) (ann := G_i_stringslite_HasPrefix.ann) (body := G_i_stringslite_HasPrefix.body) (Q := Q) (k := k) (p := p) (e := e) (h := h) (acall_le X) G_i_stringslite_HasPrefix.dist hl hk
def G_i_stringslite_HasPrefix.p0 (Q : AV → AHeap → Prop) (x4 : Bool) (h : AHeap) : Prop := G_i_stringslite_HasPrefix.J Q 1 [(4, (AV.b x4))] h
theorem G_i_stringslite_HasPrefix.j0 (Q : AV → AHeap → Prop) (x4 : Bool) (h : AHeap) : G_i_stringslite_HasPrefix.J Q 1 [(4, (AV.b x4))] h = G_i_stringslite_HasPrefix.p0 Q x4 h := rfl
def G_i_stringslite_HasPrefix.t0 (J : JT) (Q : AV → AHeap → Prop) (x4 : Bool) (h : AHeap) : Prop :=
Q (AV.b x4) h
theorem G_i_stringslite_HasPrefix.t0_eq (J : JT) (Q : AV → AHeap → Prop) (x4 : Bool) (h : AHeap) : G_i_stringslite_HasPrefix.t0 J Q x4 h = atJ prog C 18 J false [1, 1] G_i_stringslite_HasPrefix.ann G_i_stringslite_HasPrefix.body [(4, (AV.b x4))] h (kFun prog Tryd.f46 Q) := by kernel_rfl
theorem G_i_stringslite_HasPrefix.i0 {Q : AV → AHeap → Prop} {x4 : Bool} {h : AHeap} (H : G_i_stringslite_HasPrefix.t0 (G_i_stringslite_HasPrefix.J Q) Q x4 h) : G_i_stringslite_HasPrefix.p0 Q x4 h := G_i_stringslite_HasPrefix.goR (k := 1) (p := [1, 1]) (by kernel_rfl) ((G_i_stringslite_HasPrefix.t0_eq (G_i_stringslite_HasPrefix.J Q) Q x4 h).mp H)
def G_i_stringslite_HasPrefix.t (J : JT) (Q : AV → AHeap → Prop) (x0 : List UInt8) (x1 : List UInt8) (h : AHeap) : Prop :=
(bif (decide (((x1.length : Int) : Int) ≤ (x0.length : Int))) then
(pSliceStr (AV.s x0) none (some (AV.i .i64 (x1.length : Int))) fun l1 =>
J 1 [(4, (AV.b (decide ((l1 : List UInt8) = x1))))] h)
else
(J 1 [(4, (AV.b false))] h))
theorem G_i_stringslite_HasPrefix.t_eq (J : JT) (Q : AV → AHeap → Prop) (x0 : List UInt8) (x1 : List UInt8) (h : AHeap) : G_i_stringslite_HasPrefix.t J Q x0 x1 h = exJ prog C 18 J G_i_stringslite_HasPrefix.ann G_i_stringslite_HasPrefix.body (initEnv 0 [(AV.s x0), (AV.s x1)]) h (kFun prog Tryd.f46 Q) := by kernel_rfl
theorem G_i_stringslite_HasPrefix.call {K : AV → AHeap → Prop} {x0 : List UInt8} {x1 : List UInt8} {h : AHeap} (H : G_i_stringslite_HasPrefix.t (G_i_stringslite_HasPrefix.J (kRet h K)) (kRet h K) x0 x1 h) : C G_i_stringslite_HasPrefix.id [(AV.s x0), (AV.s x1)] h K :=
  callJ (P := prog) (fn := Tryd.f46) (ann := G_i_stringslite_HasPrefix.ann) (body := G_i_stringslite_HasPrefix.body) Tryd.func46 G_i_stringslite_HasPrefix.body_eq (by kernel_rfl) G_i_stringslite_HasPrefix.dist (by kernel_rfl) ((G_i_stringslite_HasPrefix.t_eq (G_i_stringslite_HasPrefix.J (kRet h K)) (kRet h K) x0 x1 h).mp H)


end Go.Proofs.YtbphaelhhfkdiaaDoor
