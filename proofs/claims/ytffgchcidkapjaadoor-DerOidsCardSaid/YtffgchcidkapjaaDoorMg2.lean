/- Lemmas (several texts in one). -/
import Derived.Test.YtffgchcidkapjaaDoorProg
import Derived.KernelRfl
import Derived.Test.YtffgchcidkapjaaDoorMg1
/- The bodies' texts in the abstract machine: printed by Gen.lean, checked by Lean's kernel. -/
set_option linter.unusedVariables false
set_option linter.unusedSectionVars false
set_option maxRecDepth 100000
namespace Go.Proofs.YtffgchcidkapjaaDoor
open Go.GAM
noncomputable abbrev prog : Program := Tryd.prog
/-- The rules for functions that are not walked. -/
class XR where
  X : CallR
abbrev X [XR] : CallR := XR.X
abbrev C [XR] : CallR := acall prog X
abbrev G_main_main.id : FuncId := 0
abbrev G_gosem_cut.id : FuncId := 1
abbrev G_gosem_cut_init.id : FuncId := 2
abbrev G_law33_DerDecodes.id : FuncId := 3
abbrev G_law33_DerEncodes.id : FuncId := 4
abbrev G_law33_DerNumbers.id : FuncId := 5
abbrev G_law33_DerTimes.id : FuncId := 6
abbrev G_law33_DerRoundTrip.id : FuncId := 7
abbrev G_law33_DerClock.id : FuncId := 8
abbrev G_law33_DerOids.id : FuncId := 9
abbrev G_law33_DerInverse.id : FuncId := 10
abbrev G_law33_lives.id : FuncId := 11
abbrev G_der_Decode.id : FuncId := 12
abbrev G_ref33_Decode.id : FuncId := 13
abbrev G_ref33_Same.id : FuncId := 14
abbrev G_ref33_Few.id : FuncId := 15
abbrev G_der_Encode.id : FuncId := 16
abbrev G_ref33_Encode.id : FuncId := 17
abbrev G_der_Int.id : FuncId := 18
abbrev G_ref33_Int.id : FuncId := 19
abbrev G_der_IntOf.id : FuncId := 20
abbrev G_ref33_IntOf.id : FuncId := 21
abbrev G_der_Time.id : FuncId := 22
abbrev G_ref33_Time.id : FuncId := 23
abbrev G_der_Text.id : FuncId := 24
abbrev G_ref33_Text.id : FuncId := 25
abbrev G_der_TimeOf.id : FuncId := 26
abbrev G_ref33_TimeOf.id : FuncId := 27
abbrev G_der_Oid.id : FuncId := 28
abbrev G_ref33_Oid.id : FuncId := 29
abbrev G_der_OidOf.id : FuncId := 30
abbrev G_ref33_OidOf.id : FuncId := 31
abbrev G_der_reader_value.id : FuncId := 32
abbrev G_ref33_Scan_value.id : FuncId := 33
abbrev G_ref33_Count_few.id : FuncId := 34
abbrev G_der_reader_check.id : FuncId := 35
abbrev G_der_write.id : FuncId := 36
abbrev G_ref33_Count_check.id : FuncId := 37
abbrev G_ref33_bytes.id : FuncId := 38
abbrev G_der_plain.id : FuncId := 39
abbrev G_ref33_plain.id : FuncId := 40
abbrev G_der_all_byte_.id : FuncId := 41
abbrev G_der_Time_1.id : FuncId := 42
abbrev G_der_days.id : FuncId := 43
abbrev G_der_before.id : FuncId := 44
abbrev G_ref33_days.id : FuncId := 45
abbrev G_ref33_Seconds.id : FuncId := 46
abbrev G_der_Text_1.id : FuncId := 47
abbrev G_der_TimeOf_1.id : FuncId := 48
abbrev G_ref33_leap.id : FuncId := 49
abbrev G_ref33_two.id : FuncId := 50
abbrev G_strconv_Itoa.id : FuncId := 51
abbrev G_ref06_Number.id : FuncId := 52
abbrev G_strings_Split.id : FuncId := 53
abbrev G_der_number.id : FuncId := 54
abbrev G_ref06_Split.id : FuncId := 55
abbrev G_ref06_Decimal.id : FuncId := 56
abbrev G_ref33_arc.id : FuncId := 57
abbrev G_der_length.id : FuncId := 58
abbrev G_ref33_Scan_size.id : FuncId := 59
abbrev G_der_all_api_Der_.id : FuncId := 60
abbrev G_der_reader_check_1.id : FuncId := 61
abbrev G_ref33_length.id : FuncId := 62
abbrev G_der_leap.id : FuncId := 63
abbrev G_der_before_1.id : FuncId := 64
abbrev G_i_strconv_Itoa.id : FuncId := 65
abbrev G_strings_genSplit.id : FuncId := 66
abbrev G_i_strconv_FormatInt.id : FuncId := 67
abbrev G_strings_explode.id : FuncId := 68
abbrev G_strings_Count.id : FuncId := 69
abbrev G_strings_Index.id : FuncId := 70
abbrev G_i_strconv_small.id : FuncId := 71
abbrev G_i_strconv_numDigits.id : FuncId := 72
abbrev G_i_strconv_formatBase10.id : FuncId := 73
abbrev G_i_strconv_formatBits.id : FuncId := 74
abbrev G_unicode_utf8_RuneCountInString.id : FuncId := 75
abbrev G_unicode_utf8_DecodeRuneInString.id : FuncId := 76
abbrev G_i_bytealg_CountString.id : FuncId := 77
abbrev G_i_stringslite_Index.id : FuncId := 78
abbrev G_i_strconv_log10Pow2.id : FuncId := 79
abbrev G_math_bits_Len64.id : FuncId := 80
abbrev G_i_strconv_bool2_int_.id : FuncId := 81
abbrev G_i_strconv_isPowerOfTwo.id : FuncId := 82
abbrev G_math_bits_TrailingZeros.id : FuncId := 83
abbrev G_unicode_utf8_decodeRuneInStringSlow.id : FuncId := 84
abbrev G_i_stringslite_IndexByte.id : FuncId := 85
abbrev G_i_bytealg_IndexString.id : FuncId := 86
abbrev G_i_bytealg_Cutover.id : FuncId := 87
abbrev G_i_bytealg_IndexRabinKarp_string_.id : FuncId := 88
abbrev G_math_bits_TrailingZeros32.id : FuncId := 89
abbrev G_math_bits_TrailingZeros64.id : FuncId := 90
abbrev G_i_bytealg_IndexByteString.id : FuncId := 91
abbrev G_i_bytealg_hashStr_string_.id : FuncId := 92
abbrev G_runtime_boundsError_Error.id : FuncId := 93
abbrev G_runtime_boundsError_RuntimeError.id : FuncId := 94
abbrev G_runtime_errorString_Error.id : FuncId := 95
abbrev G_runtime_errorString_RuntimeError.id : FuncId := 96
abbrev G_runtime_plainError_Error.id : FuncId := 97
abbrev G_runtime_plainError_RuntimeError.id : FuncId := 98
abbrev G_runtime_errorAddressString_Error.id : FuncId := 99
abbrev G_runtime_errorAddressString_RuntimeError.id : FuncId := 100
abbrev G_runtime_TypeAssertionError_Error.id : FuncId := 101
abbrev G_runtime_TypeAssertionError_RuntimeError.id : FuncId := 102
abbrev G_runtime_PanicNilError_Error.id : FuncId := 103
abbrev G_runtime_PanicNilError_RuntimeError.id : FuncId := 104
abbrev G_i_abi_Type_Align.id : FuncId := 105
abbrev G_i_runtime_maps_unhashableTypeError_Error.id : FuncId := 106
abbrev G_i_runtime_maps_unhashableTypeError_RuntimeError.id : FuncId := 107
abbrev G_api_Errno_Error.id : FuncId := 108
abbrev G_i_abi_Kind_String.id : FuncId := 109
abbrev G_var_s_door__gosem_cut_vars_holds_initialisers_alone__see_the_manifest_s_row_cutvarsword_look_11__test_files_too.id : FuncId := 110
abbrev G_var_s_door__i_strconv_uint64pow10_is_laid_by_its_own_initialiser__plain_data_look_11.id : FuncId := 111
abbrev G_var_s_door__math_bits_deBruijn32tab_is_laid_by_its_own_initialiser__plain_data_look_11.id : FuncId := 112
abbrev G_var_s_door__math_bits_deBruijn64tab_is_laid_by_its_own_initialiser__plain_data_look_11.id : FuncId := 113
abbrev G_var_s_door__the_look_of_gosem_cut_vars_went_over_the_folder_that_the_caller_named_as_the_repository_s_root_look_11.id : FuncId := 114
abbrev G_var_s_door__unicode_utf8_acceptRanges_is_laid_by_its_own_initialiser__plain_data_look_11.id : FuncId := 115
abbrev G_var_s_door__unicode_utf8_first_is_laid_by_its_text_alone_pinned_1.id : FuncId := 116
abbrev G_gosem_cut_vars.id : FuncId := 117
variable [XR]
--@@ G_law33_lives
/-! ### 11: intrusion/intrusionlaw33.lives -/
noncomputable def G_law33_lives.body : Code := (Tryd.f11.body).getD .skip
def G_law33_lives.ann : Ann := (.seq 0 [] .leaf (.seq 0 [1, 2] .leaf (.seq 0 [1] (.seq 1 [1, 34] .leaf (.br (.seq 0 [0] .leaf .leaf) .leaf)) (.seq 0 [1, 3, 4] .leaf (.seq 0 [3, 4, 5, 6] .leaf (.seq 0 [3, 4, 5, 6, 7, 8] .leaf (.seq 0 [3, 4, 5, 6, 7, 8, 9, 10] .leaf (.seq 0 [3, 4, 5, 6, 7, 8, 9, 10, 11, 12] .leaf (.seq 2 [0] .leaf .leaf)))))))))
theorem G_law33_lives.body_eq : Tryd.f11.body = some G_law33_lives.body := by kernel_rfl
theorem G_law33_lives.dist : noTwice (places G_law33_lives.ann G_law33_lives.body) = true := by kernel_rfl
noncomputable def G_law33_lives.J (Q : AV → AHeap → Prop) : JT := funJ prog C Tryd.f11 G_law33_lives.ann G_law33_lives.body Q
theorem G_law33_lives.goR {Q : AV → AHeap → Prop} {k : Nat} {p : List Nat} (hl : lookJ (places G_law33_lives.ann G_law33_lives.body) k = some (p, false)) {e : Env} {h : AHeap} (hk : atJ prog C 108 (G_law33_lives.J Q) false p G_law33_lives.ann G_law33_lives.body e h (kFun prog Tryd.f11 Q)) : G_law33_lives.J Q k e h := goJ_run (P := prog) (fn := Tryd.f11) (ann := G_law33_lives.ann) (body := G_law33_lives.body) (Q := Q) (k := k) (p := p) (e := e) (h := h) (acall_le X) G_law33_lives.dist hl hk
theorem G_law33_lives.goH {Q : AV → AHeap → Prop} {k : Nat} {p : List Nat} (hl : lookJ (places G_law33_lives.ann G_law33_lives.body) k = some (p, true)) {e : Env} {h : AHeap} (hk : atJ prog C 108 (G_law33_lives.J Q) true p G_law33_lives.ann G_law33_lives.body e h (kFun prog Tryd.f11 Q)) : G_law33_lives.J Q k e h := goJ_head (P := prog) (fn := Tryd.f11) (ann := G_law33_lives.ann) (body := G_law33_lives.body) (Q := Q) (k := k) (p := p) (e := e) (h := h) (acall_le X) G_law33_lives.dist hl hk
def G_law33_lives.p0 (Q : AV → AHeap → Prop) (x1 : AV) (x34 : Bool) (h : AHeap) : Prop := G_law33_lives.J Q 1 [(1, x1), (34, (AV.b x34))] h
theorem G_law33_lives.j0 (Q : AV → AHeap → Prop) (x1 : AV) (x34 : Bool) (h : AHeap) : G_law33_lives.J Q 1 [(1, x1), (34, (AV.b x34))] h = G_law33_lives.p0 Q x1 x34 h := rfl
def G_law33_lives.p1 (Q : AV → AHeap → Prop) (x0 : Bool) (h : AHeap) : Prop := G_law33_lives.J Q 2 [(0, (AV.b x0))] h
theorem G_law33_lives.j1 (Q : AV → AHeap → Prop) (x0 : Bool) (h : AHeap) : G_law33_lives.J Q 2 [(0, (AV.b x0))] h = G_law33_lives.p1 Q x0 h := rfl
def G_law33_lives.t0 (J : JT) (Q : AV → AHeap → Prop) (x1 : AV) (x34 : Bool) (h : AHeap) : Prop :=
(bif x34 then
(Q (AV.b false) h)
else
(pFieldAddr 4 x1 fun v25 =>
pLoad1 v25 h fun v26 =>
pIdxAddrSl 5 v26 (AV.i .i64 0) h fun v27 =>
pLoadN 5 v27 h fun v28 =>
C G_der_Int.id [v28] h fun v29 h30 =>
pExtract 0 v29 fun v31 =>
asI .i64 v31 fun n32 =>
pExtract 1 v29 fun v33 =>
asB v33 fun c34 =>
pLoadN 5 x1 h30 fun v36 =>
C G_der_Encode.id [v36] h30 fun v37 h38 =>
pExtract 0 v37 fun v39 =>
asS v39 fun l40 =>
pExtract 1 v37 fun v41 =>
asI .i64 v41 fun n42 =>
C G_der_OidOf.id [(AV.s [50, 46, 53, 46, 50, 57, 46, 49, 55])] h38 fun v44 h45 =>
pExtract 0 v44 fun v46 =>
pExtract 1 v44 fun v47 =>
asI .i64 v47 fun n48 =>
pAlloc [(AV.i .i64 0), (AV.i .i64 0), (AV.b false), (AV.s []), (AV.sl none 0 none)] h45 fun v49 h50 =>
pStore 5 v49 v46 h50 fun h51 =>
C G_der_TimeOf.id [(AV.i .i64 31536000)] h51 fun v53 h54 =>
C G_der_Time.id [v53] h54 fun v55 h56 =>
pExtract 0 v55 fun v57 =>
asI .i64 v57 fun n58 =>
pExtract 1 v55 fun v59 =>
asB v59 fun c60 =>
C G_der_Text.id [(AV.ag [(AV.i .i64 0), (AV.i .i64 12), (AV.b false), (AV.s [97]), (AV.sl none 0 none)])] h56 fun v62 h63 =>
pExtract 0 v62 fun v64 =>
asS v64 fun l65 =>
pExtract 1 v62 fun v66 =>
asB v66 fun c67 =>
(bif (decide ((n32 : Int) = 5)) then
((bif c34 then
((bif (decide ((l40 : List UInt8) = [48, 3, 2, 1, 5])) then
((bif (decide ((n42 : Int) = 0)) then
(pFieldAddr 3 v49 fun v69 =>
pLoad1 v69 h63 fun v70 =>
asS v70 fun l71 =>
(bif (decide ((l71 : List UInt8) = [85, 29, 17])) then
((bif (decide ((n48 : Int) = 0)) then
((bif (decide ((n58 : Int) = 31536000)) then
((bif c60 then
((bif (decide ((l65 : List UInt8) = [97])) then
((bif c67 then
(C G_der_IntOf.id [(AV.i .i64 128)] h63 fun v72 h73 =>
pField1 3 v72 fun v74 =>
asS v74 fun l75 =>
(bif (decide ((l75 : List UInt8) = [0, 128])) then
(C G_der_TimeOf.id [(AV.i .i64 31536000)] h73 fun v76 h77 =>
pField1 3 v76 fun v78 =>
asS v78 fun l79 =>
withB (decide ((l79 : List UInt8) = [55, 49, 48, 49, 48, 49, 48, 48, 48, 48, 48, 48, 90])) fun c80 =>
J 2 [(0, (AV.b c80))] h77)
else
(J 2 [(0, (AV.b false))] h73)))
else
(J 2 [(0, (AV.b false))] h63)))
else
(J 2 [(0, (AV.b false))] h63)))
else
(J 2 [(0, (AV.b false))] h63)))
else
(J 2 [(0, (AV.b false))] h63)))
else
(J 2 [(0, (AV.b false))] h63)))
else
(J 2 [(0, (AV.b false))] h63)))
else
(J 2 [(0, (AV.b false))] h63)))
else
(J 2 [(0, (AV.b false))] h63)))
else
(J 2 [(0, (AV.b false))] h63)))
else
(J 2 [(0, (AV.b false))] h63))))
theorem G_law33_lives.t0_eq (J : JT) (Q : AV → AHeap → Prop) (x1 : AV) (x34 : Bool) (h : AHeap) : G_law33_lives.t0 J Q x1 x34 h = atJ prog C 108 J false [1, 1, 0, 1] G_law33_lives.ann G_law33_lives.body [(1, x1), (34, (AV.b x34))] h (kFun prog Tryd.f11 Q) := by kernel_rfl
theorem G_law33_lives.i0 {Q : AV → AHeap → Prop} {x1 : AV} {x34 : Bool} {h : AHeap} (H : G_law33_lives.t0 (G_law33_lives.J Q) Q x1 x34 h) : G_law33_lives.p0 Q x1 x34 h := G_law33_lives.goR (k := 1) (p := [1, 1, 0, 1]) (by kernel_rfl) ((G_law33_lives.t0_eq (G_law33_lives.J Q) Q x1 x34 h).mp H)
def G_law33_lives.t1 (J : JT) (Q : AV → AHeap → Prop) (x0 : Bool) (h : AHeap) : Prop :=
Q (AV.b x0) h
theorem G_law33_lives.t1_eq (J : JT) (Q : AV → AHeap → Prop) (x0 : Bool) (h : AHeap) : G_law33_lives.t1 J Q x0 h = atJ prog C 108 J false [1, 1, 1, 1, 1, 1, 1, 1, 1] G_law33_lives.ann G_law33_lives.body [(0, (AV.b x0))] h (kFun prog Tryd.f11 Q) := by kernel_rfl
theorem G_law33_lives.i1 {Q : AV → AHeap → Prop} {x0 : Bool} {h : AHeap} (H : G_law33_lives.t1 (G_law33_lives.J Q) Q x0 h) : G_law33_lives.p1 Q x0 h := G_law33_lives.goR (k := 2) (p := [1, 1, 1, 1, 1, 1, 1, 1, 1]) (by kernel_rfl) ((G_law33_lives.t1_eq (G_law33_lives.J Q) Q x0 h).mp H)
def G_law33_lives.t (J : JT) (Q : AV → AHeap → Prop) (h : AHeap) : Prop :=
C G_der_Decode.id [(AV.s [48, 3, 2, 1, 5])] h fun v1 h2 =>
pExtract 0 v1 fun v3 =>
pExtract 1 v1 fun v4 =>
asI .i64 v4 fun n5 =>
pAlloc [(AV.i .i64 0), (AV.i .i64 0), (AV.b false), (AV.s []), (AV.sl none 0 none)] h2 fun v6 h7 =>
pStore 5 v6 v3 h7 fun h8 =>
(bif (!decide ((n5 : Int) = 0)) then
(J 1 [(1, v6), (34, (AV.b true))] h8)
else
(pFieldAddr 1 v6 fun v11 =>
pLoad1 v11 h8 fun v12 =>
asI .i64 v12 fun n13 =>
(bif (!decide ((n13 : Int) = 16)) then
(J 1 [(1, v6), (34, (AV.b true))] h8)
else
(pFieldAddr 2 v6 fun v15 =>
pLoad1 v15 h8 fun v16 =>
asB v16 fun c17 =>
(bif (!c17) then
(J 1 [(1, v6), (34, (AV.b true))] h8)
else
(pFieldAddr 4 v6 fun v19 =>
pLoad1 v19 h8 fun v20 =>
pLenSl v20 fun n21 =>
J 1 [(1, v6), (34, (AV.b (!decide ((n21 : Int) = 1))))] h8))))))
theorem G_law33_lives.t_eq (J : JT) (Q : AV → AHeap → Prop) (h : AHeap) : G_law33_lives.t J Q h = exJ prog C 108 J G_law33_lives.ann G_law33_lives.body (initEnv 0 []) h (kFun prog Tryd.f11 Q) := by kernel_rfl
theorem G_law33_lives.call {K : AV → AHeap → Prop} {h : AHeap} (H : G_law33_lives.t (G_law33_lives.J (kRet h K)) (kRet h K) h) : C G_law33_lives.id [] h K :=
  callJ (P := prog) (fn := Tryd.f11) (ann := G_law33_lives.ann) (body := G_law33_lives.body) Tryd.func11 G_law33_lives.body_eq (by kernel_rfl) G_law33_lives.dist (by kernel_rfl) ((G_law33_lives.t_eq (G_law33_lives.J (kRet h K)) (kRet h K) h).mp H)

--@@ G_der_Decode
/-! ### 12: intrusion/der.Decode -/
noncomputable def G_der_Decode.body : Code := (Tryd.f12.body).getD .skip
def G_der_Decode.ann : Ann := (.seq 0 [0, 2] .leaf (.seq 0 [0, 2] (.seq 0 [0, 2, 10] .leaf (.br (.seq 0 [2, 3] .leaf .leaf) .leaf)) (.seq 0 [0, 2, 4] .leaf (.seq 0 [2, 5, 6, 7] .leaf (.seq 2 [2, 5, 7] (.seq 1 [2, 5, 7, 26] .leaf (.br .leaf .leaf)) (.seq 0 [2, 5] (.seq 0 [2, 5, 7, 28] .leaf (.br (.seq 0 [2, 3] .leaf .leaf) .leaf)) (.seq 0 [2, 3] .leaf .leaf)))))))
theorem G_der_Decode.body_eq : Tryd.f12.body = some G_der_Decode.body := by kernel_rfl
theorem G_der_Decode.dist : noTwice (places G_der_Decode.ann G_der_Decode.body) = true := by kernel_rfl
noncomputable def G_der_Decode.J (Q : AV → AHeap → Prop) : JT := funJ prog C Tryd.f12 G_der_Decode.ann G_der_Decode.body Q
theorem G_der_Decode.goR {Q : AV → AHeap → Prop} {k : Nat} {p : List Nat} (hl : lookJ (places G_der_Decode.ann G_der_Decode.body) k = some (p, false)) {e : Env} {h : AHeap} (hk : atJ prog C 32 (G_der_Decode.J Q) false p G_der_Decode.ann G_der_Decode.body e h (kFun prog Tryd.f12 Q)) : G_der_Decode.J Q k e h := goJ_run (P := prog) (fn := Tryd.f12) (ann := G_der_Decode.ann) (body := G_der_Decode.body) (Q := Q) (k := k) (p := p) (e := e) (h := h) (acall_le X) G_der_Decode.dist hl hk
theorem G_der_Decode.goH {Q : AV → AHeap → Prop} {k : Nat} {p : List Nat} (hl : lookJ (places G_der_Decode.ann G_der_Decode.body) k = some (p, true)) {e : Env} {h : AHeap} (hk : atJ prog C 32 (G_der_Decode.J Q) true p G_der_Decode.ann G_der_Decode.body e h (kFun prog Tryd.f12 Q)) : G_der_Decode.J Q k e h := goJ_head (P := prog) (fn := Tryd.f12) (ann := G_der_Decode.ann) (body := G_der_Decode.body) (Q := Q) (k := k) (p := p) (e := e) (h := h) (acall_le X) G_der_Decode.dist hl hk
def G_der_Decode.p0 (Q : AV → AHeap → Prop) (x2 : AV) (x5 : AV) (x7 : Int) (x26 : Bool) (h : AHeap) : Prop := G_der_Decode.J Q 1 [(2, x2), (5, x5), (7, (AV.i .i64 x7)), (26, (AV.b x26))] h
theorem G_der_Decode.j0 (Q : AV → AHeap → Prop) (x2 : AV) (x5 : AV) (x7 : Int) (x26 : Bool) (h : AHeap) : G_der_Decode.J Q 1 [(2, x2), (5, x5), (7, (AV.i .i64 x7)), (26, (AV.b x26))] h = G_der_Decode.p0 Q x2 x5 x7 x26 h := rfl
def G_der_Decode.p1 (Q : AV → AHeap → Prop) (x2 : AV) (x5 : AV) (x7 : Int) (h : AHeap) : Prop := G_der_Decode.J Q 2 [(2, x2), (5, x5), (7, (AV.i .i64 x7))] h
theorem G_der_Decode.j1 (Q : AV → AHeap → Prop) (x2 : AV) (x5 : AV) (x7 : Int) (h : AHeap) : G_der_Decode.J Q 2 [(2, x2), (5, x5), (7, (AV.i .i64 x7))] h = G_der_Decode.p1 Q x2 x5 x7 h := rfl
def G_der_Decode.t0 (J : JT) (Q : AV → AHeap → Prop) (x2 : AV) (x5 : AV) (x7 : Int) (x26 : Bool) (h : AHeap) : Prop :=
(bif x26 then
(J 2 [(2, x2), (5, x5), (7, (AV.i .i64 2))] h)
else
(J 2 [(2, x2), (5, x5), (7, (AV.i .i64 x7))] h))
theorem G_der_Decode.t0_eq (J : JT) (Q : AV → AHeap → Prop) (x2 : AV) (x5 : AV) (x7 : Int) (x26 : Bool) (h : AHeap) : G_der_Decode.t0 J Q x2 x5 x7 x26 h = atJ prog C 32 J false [1, 1, 1, 1, 0, 1] G_der_Decode.ann G_der_Decode.body [(2, x2), (5, x5), (7, (AV.i .i64 x7)), (26, (AV.b x26))] h (kFun prog Tryd.f12 Q) := by kernel_rfl
theorem G_der_Decode.i0 {Q : AV → AHeap → Prop} {x2 : AV} {x5 : AV} {x7 : Int} {x26 : Bool} {h : AHeap} (H : G_der_Decode.t0 (G_der_Decode.J Q) Q x2 x5 x7 x26 h) : G_der_Decode.p0 Q x2 x5 x7 x26 h := G_der_Decode.goR (k := 1) (p := [1, 1, 1, 1, 0, 1]) (by kernel_rfl) ((G_der_Decode.t0_eq (G_der_Decode.J Q) Q x2 x5 x7 x26 h).mp H)
def G_der_Decode.t1 (J : JT) (Q : AV → AHeap → Prop) (x2 : AV) (x5 : AV) (x7 : Int) (h : AHeap) : Prop :=
(bif (!decide ((x7 : Int) = 0)) then
(pStore 5 x2 (AV.ag [(AV.i .i64 0), (AV.i .i64 0), (AV.b false), (AV.s []), (AV.sl none 0 none)]) h fun h27 =>
pLoadN 5 x2 h27 fun v29 =>
Q (AV.tu [v29, (AV.i .i64 x7)]) h27)
else
(pLoadN 5 x5 h fun v31 =>
pStore 5 x2 v31 h fun h32 =>
pLoadN 5 x2 h32 fun v34 =>
Q (AV.tu [v34, (AV.i .i64 0)]) h32))
theorem G_der_Decode.t1_eq (J : JT) (Q : AV → AHeap → Prop) (x2 : AV) (x5 : AV) (x7 : Int) (h : AHeap) : G_der_Decode.t1 J Q x2 x5 x7 h = atJ prog C 32 J false [1, 1, 1, 1, 1] G_der_Decode.ann G_der_Decode.body [(2, x2), (5, x5), (7, (AV.i .i64 x7))] h (kFun prog Tryd.f12 Q) := by kernel_rfl
theorem G_der_Decode.i1 {Q : AV → AHeap → Prop} {x2 : AV} {x5 : AV} {x7 : Int} {h : AHeap} (H : G_der_Decode.t1 (G_der_Decode.J Q) Q x2 x5 x7 h) : G_der_Decode.p1 Q x2 x5 x7 h := G_der_Decode.goR (k := 2) (p := [1, 1, 1, 1, 1]) (by kernel_rfl) ((G_der_Decode.t1_eq (G_der_Decode.J Q) Q x2 x5 x7 h).mp H)
def G_der_Decode.t (J : JT) (Q : AV → AHeap → Prop) (x0 : List UInt8) (h : AHeap) : Prop :=
pAlloc [(AV.i .i64 0), (AV.i .i64 0), (AV.b false), (AV.s []), (AV.sl none 0 none)] h fun v0 h1 =>
(bif (decide ((65535 : Int) < (x0.length : Int))) then
(pStore 5 v0 (AV.ag [(AV.i .i64 0), (AV.i .i64 0), (AV.b false), (AV.s []), (AV.sl none 0 none)]) h1 fun h4 =>
pLoadN 5 v0 h4 fun v6 =>
Q (AV.tu [v6, (AV.i .i64 3)]) h4)
else
(pBox (AV.ag [(AV.i .i64 0)]) h1 fun v8 h9 =>
C G_der_reader_value.id [v8, (AV.s x0), (AV.i .i64 1)] h9 fun v11 h12 =>
pExtract 0 v11 fun v13 =>
pExtract 1 v11 fun v14 =>
asS v14 fun l15 =>
pExtract 2 v11 fun v16 =>
asI .i64 v16 fun n17 =>
pAlloc [(AV.i .i64 0), (AV.i .i64 0), (AV.b false), (AV.s []), (AV.sl none 0 none)] h12 fun v18 h19 =>
pStore 5 v18 v13 h19 fun h20 =>
(bif (decide ((n17 : Int) = 0)) then
(J 1 [(2, v0), (5, v18), (7, (AV.i .i64 n17)), (26, (AV.b (!(decide ((l15 : List UInt8) = [])))))] h20)
else
(J 1 [(2, v0), (5, v18), (7, (AV.i .i64 n17)), (26, (AV.b false))] h20))))
theorem G_der_Decode.t_eq (J : JT) (Q : AV → AHeap → Prop) (x0 : List UInt8) (h : AHeap) : G_der_Decode.t J Q x0 h = exJ prog C 32 J G_der_Decode.ann G_der_Decode.body (initEnv 0 [(AV.s x0)]) h (kFun prog Tryd.f12 Q) := by kernel_rfl
theorem G_der_Decode.call {K : AV → AHeap → Prop} {x0 : List UInt8} {h : AHeap} (H : G_der_Decode.t (G_der_Decode.J (kRet h K)) (kRet h K) x0 h) : C G_der_Decode.id [(AV.s x0)] h K :=
  callJ (P := prog) (fn := Tryd.f12) (ann := G_der_Decode.ann) (body := G_der_Decode.body) Tryd.func12 G_der_Decode.body_eq (by kernel_rfl) G_der_Decode.dist (by kernel_rfl) ((G_der_Decode.t_eq (G_der_Decode.J (kRet h K)) (kRet h K) x0 h).mp H)

--@@ G_ref33_Decode
/-! ### 13: intrusion/intrusionref33.Decode -/
noncomputable def G_ref33_Decode.body : Code := (Tryd.f13.body).getD .skip
def G_ref33_Decode.ann : Ann := (.seq 0 [0, 2] .leaf (.seq 0 [0, 2] (.seq 0 [0, 2, 9] .leaf (.br (.seq 0 [2, 3] .leaf .leaf) .leaf)) (.seq 0 [0, 2, 4] .leaf (.seq 0 [0, 2, 4, 5, 6] .leaf (.seq 0 [0, 2, 4, 5] (.seq 0 [0, 2, 4, 5, 6, 22] .leaf (.br (.seq 0 [2, 3] .leaf .leaf) .leaf)) (.seq 0 [2, 5] (.seq 0 [2, 5, 31] .leaf (.br (.seq 0 [2, 3] .leaf .leaf) .leaf)) (.seq 0 [2, 3] .leaf .leaf)))))))
theorem G_ref33_Decode.body_eq : Tryd.f13.body = some G_ref33_Decode.body := by kernel_rfl
theorem G_ref33_Decode.dist : noTwice (places G_ref33_Decode.ann G_ref33_Decode.body) = true := by kernel_rfl
noncomputable def G_ref33_Decode.J (Q : AV → AHeap → Prop) : JT := funJ prog C Tryd.f13 G_ref33_Decode.ann G_ref33_Decode.body Q
theorem G_ref33_Decode.goR {Q : AV → AHeap → Prop} {k : Nat} {p : List Nat} (hl : lookJ (places G_ref33_Decode.ann G_ref33_Decode.body) k = some (p, false)) {e : Env} {h : AHeap} (hk : atJ prog C 34 (G_ref33_Decode.J Q) false p G_ref33_Decode.ann G_ref33_Decode.body e h (kFun prog Tryd.f13 Q)) : G_ref33_Decode.J Q k e h := goJ_run (P := prog) (fn := Tryd.f13) (ann := G_ref33_Decode.ann) (body := G_ref33_Decode.body) (Q := Q) (k := k) (p := p) (e := e) (h := h) (acall_le X) G_ref33_Decode.dist hl hk
theorem G_ref33_Decode.goH {Q : AV → AHeap → Prop} {k : Nat} {p : List Nat} (hl : lookJ (places G_ref33_Decode.ann G_ref33_Decode.body) k = some (p, true)) {e : Env} {h : AHeap} (hk : atJ prog C 34 (G_ref33_Decode.J Q) true p G_ref33_Decode.ann G_ref33_Decode.body e h (kFun prog Tryd.f13 Q)) : G_ref33_Decode.J Q k e h := goJ_head (P := prog) (fn := Tryd.f13) (ann := G_ref33_Decode.ann) (body := G_ref33_Decode.body) (Q := Q) (k := k) (p := p) (e := e) (h := h) (acall_le X) G_ref33_Decode.dist hl hk
def G_ref33_Decode.t (J : JT) (Q : AV → AHeap → Prop) (x0 : List UInt8) (h : AHeap) : Prop :=
pAlloc [(AV.i .i64 0), (AV.i .i64 0), (AV.b false), (AV.s []), (AV.sl none 0 none)] h fun v0 h1 =>
(bif (decide ((65535 : Int) < (x0.length : Int))) then
(pStore 5 v0 (AV.ag [(AV.i .i64 0), (AV.i .i64 0), (AV.b false), (AV.s []), (AV.sl none 0 none)]) h1 fun h4 =>
pLoadN 5 v0 h4 fun v6 =>
Q (AV.tu [v6, (AV.i .i64 3)]) h4)
else
(pBox (AV.ag [(AV.s x0), (AV.i .i64 0), (AV.i .i64 0)]) h1 fun v8 h9 =>
C G_ref33_Scan_value.id [v8, (AV.i .i64 (x0.length : Int)), (AV.i .i64 1)] h9 fun v11 h12 =>
pExtract 0 v11 fun v13 =>
pExtract 1 v11 fun v14 =>
asI .i64 v14 fun n15 =>
pAlloc [(AV.i .i64 0), (AV.i .i64 0), (AV.b false), (AV.s []), (AV.sl none 0 none)] h12 fun v16 h17 =>
pStore 5 v16 v13 h17 fun h18 =>
(bif (!decide ((n15 : Int) = 0)) then
(pStore 5 v0 (AV.ag [(AV.i .i64 0), (AV.i .i64 0), (AV.b false), (AV.s []), (AV.sl none 0 none)]) h18 fun h21 =>
pLoadN 5 v0 h21 fun v23 =>
Q (AV.tu [v23, (AV.i .i64 n15)]) h21)
else
(pNil v8 fun v25 =>
pFieldAddr 1 v25 fun v26 =>
pLoad1 v26 h18 fun v27 =>
asI .i64 v27 fun n28 =>
(bif (decide ((n28 : Int) < (x0.length : Int))) then
(pStore 5 v0 (AV.ag [(AV.i .i64 0), (AV.i .i64 0), (AV.b false), (AV.s []), (AV.sl none 0 none)]) h18 fun h30 =>
pLoadN 5 v0 h30 fun v32 =>
Q (AV.tu [v32, (AV.i .i64 2)]) h30)
else
(pLoadN 5 v16 h18 fun v34 =>
pStore 5 v0 v34 h18 fun h35 =>
pLoadN 5 v0 h35 fun v37 =>
Q (AV.tu [v37, (AV.i .i64 0)]) h35))))))
theorem G_ref33_Decode.t_eq (J : JT) (Q : AV → AHeap → Prop) (x0 : List UInt8) (h : AHeap) : G_ref33_Decode.t J Q x0 h = exJ prog C 34 J G_ref33_Decode.ann G_ref33_Decode.body (initEnv 0 [(AV.s x0)]) h (kFun prog Tryd.f13 Q) := by kernel_rfl
theorem G_ref33_Decode.call {K : AV → AHeap → Prop} {x0 : List UInt8} {h : AHeap} (H : G_ref33_Decode.t (G_ref33_Decode.J (kRet h K)) (kRet h K) x0 h) : C G_ref33_Decode.id [(AV.s x0)] h K :=
  callJ (P := prog) (fn := Tryd.f13) (ann := G_ref33_Decode.ann) (body := G_ref33_Decode.body) Tryd.func13 G_ref33_Decode.body_eq (by kernel_rfl) G_ref33_Decode.dist (by kernel_rfl) ((G_ref33_Decode.t_eq (G_ref33_Decode.J (kRet h K)) (kRet h K) x0 h).mp H)

--@@ G_ref33_Same
/-! ### 14: intrusion/intrusionref33.Same -/
noncomputable def G_ref33_Same.body : Code := (Tryd.f14.body).getD .skip
def G_ref33_Same.ann : Ann := (.seq 0 [2, 3] .leaf (.seq 0 [2, 3] (.seq 1 [2, 3, 40] .leaf (.br (.seq 0 [4] .leaf .leaf) .leaf)) (.seq 0 [] (.seq 0 [2, 3, 5] .leaf (.one (.loop 2 [2, 3, 5] (.seq 0 [2, 3, 5] (.seq 0 [2, 3, 5, 45] .leaf (.br .leaf .leaf)) (.seq 0 [2, 3, 5] (.one (.seq 0 [2, 3, 5, 59] (.ord (.neu 0 (.neu 1 (.neu 2 (.neu 3 (.neu 4 (.neu 5 (.neu 6 (.neu 7 (.neu 8 (.neu 9 (.eff 10 (.neu 11 .done) .stop)))))))))))) (.br (.seq 0 [4] .leaf .leaf) .leaf))) .leaf))))) (.seq 0 [4] .leaf .leaf))))
theorem G_ref33_Same.body_eq : Tryd.f14.body = some G_ref33_Same.body := by kernel_rfl
theorem G_ref33_Same.dist : noTwice (places G_ref33_Same.ann G_ref33_Same.body) = true := by kernel_rfl
noncomputable def G_ref33_Same.J (Q : AV → AHeap → Prop) : JT := funJ prog C Tryd.f14 G_ref33_Same.ann G_ref33_Same.body Q
theorem G_ref33_Same.goR {Q : AV → AHeap → Prop} {k : Nat} {p : List Nat} (hl : lookJ (places G_ref33_Same.ann G_ref33_Same.body) k = some (p, false)) {e : Env} {h : AHeap} (hk : atJ prog C 60 (G_ref33_Same.J Q) false p G_ref33_Same.ann G_ref33_Same.body e h (kFun prog Tryd.f14 Q)) : G_ref33_Same.J Q k e h := goJ_run (P := prog) (fn := Tryd.f14) (ann := G_ref33_Same.ann) (body := G_ref33_Same.body) (Q := Q) (k := k) (p := p) (e := e) (h := h) (acall_le X) G_ref33_Same.dist hl hk
theorem G_ref33_Same.goH {Q : AV → AHeap → Prop} {k : Nat} {p : List Nat} (hl : lookJ (places G_ref33_Same.ann G_ref33_Same.body) k = some (p, true)) {e : Env} {h : AHeap} (hk : atJ prog C 60 (G_ref33_Same.J Q) true p G_ref33_Same.ann G_ref33_Same.body e h (kFun prog Tryd.f14 Q)) : G_ref33_Same.J Q k e h := goJ_head (P := prog) (fn := Tryd.f14) (ann := G_ref33_Same.ann) (body := G_ref33_Same.body) (Q := Q) (k := k) (p := p) (e := e) (h := h) (acall_le X) G_ref33_Same.dist hl hk
def G_ref33_Same.p0 (Q : AV → AHeap → Prop) (x2 : AV) (x3 : AV) (x40 : Bool) (h : AHeap) : Prop := G_ref33_Same.J Q 1 [(2, x2), (3, x3), (40, (AV.b x40))] h
theorem G_ref33_Same.j0 (Q : AV → AHeap → Prop) (x2 : AV) (x3 : AV) (x40 : Bool) (h : AHeap) : G_ref33_Same.J Q 1 [(2, x2), (3, x3), (40, (AV.b x40))] h = G_ref33_Same.p0 Q x2 x3 x40 h := rfl
def G_ref33_Same.p1 (Q : AV → AHeap → Prop) (x2 : AV) (x3 : AV) (x5 : Int) (h : AHeap) : Prop := G_ref33_Same.J Q 2 [(2, x2), (3, x3), (5, (AV.i .i64 x5))] h
theorem G_ref33_Same.j1 (Q : AV → AHeap → Prop) (x2 : AV) (x3 : AV) (x5 : Int) (h : AHeap) : G_ref33_Same.J Q 2 [(2, x2), (3, x3), (5, (AV.i .i64 x5))] h = G_ref33_Same.p1 Q x2 x3 x5 h := rfl
def G_ref33_Same.t0 (J : JT) (Q : AV → AHeap → Prop) (x2 : AV) (x3 : AV) (x40 : Bool) (h : AHeap) : Prop :=
(bif x40 then
(Q (AV.b false) h)
else
(J 2 [(2, x2), (3, x3), (5, (AV.i .i64 0))] h))
theorem G_ref33_Same.t0_eq (J : JT) (Q : AV → AHeap → Prop) (x2 : AV) (x3 : AV) (x40 : Bool) (h : AHeap) : G_ref33_Same.t0 J Q x2 x3 x40 h = atJ prog C 60 J false [1, 0, 1] G_ref33_Same.ann G_ref33_Same.body [(2, x2), (3, x3), (40, (AV.b x40))] h (kFun prog Tryd.f14 Q) := by kernel_rfl
theorem G_ref33_Same.i0 {Q : AV → AHeap → Prop} {x2 : AV} {x3 : AV} {x40 : Bool} {h : AHeap} (H : G_ref33_Same.t0 (G_ref33_Same.J Q) Q x2 x3 x40 h) : G_ref33_Same.p0 Q x2 x3 x40 h := G_ref33_Same.goR (k := 1) (p := [1, 0, 1]) (by kernel_rfl) ((G_ref33_Same.t0_eq (G_ref33_Same.J Q) Q x2 x3 x40 h).mp H)
def G_ref33_Same.t1 (J : JT) (Q : AV → AHeap → Prop) (x2 : AV) (x3 : AV) (x5 : Int) (h : AHeap) : Prop :=
pFieldAddr 4 x2 fun v43 =>
pLoad1 v43 h fun v44 =>
pLenSl v44 fun n45 =>
(bif (decide ((x5 : Int) < n45)) then
(pFieldAddr 4 x2 fun v49 =>
pLoad1 v49 h fun v50 =>
pIdxAddrSl 5 v50 (AV.i .i64 x5) h fun v51 =>
pLoadN 5 v51 h fun v52 =>
pFieldAddr 4 x3 fun v53 =>
pLoad1 v53 h fun v54 =>
pIdxAddrSl 5 v54 (AV.i .i64 x5) h fun v55 =>
pLoadN 5 v55 h fun v56 =>
C G_ref33_Same.id [v52, v56] h fun v57 h58 =>
asB v57 fun c59 =>
pIdxAddrSl 5 v54 (AV.i .i64 x5) h58 fun v60 =>
(v55 = v60 ∧
(pLoad1 v53 h58 fun v61 =>
(v54 = v61 ∧
(pIdxAddrSl 5 v50 (AV.i .i64 x5) h58 fun v62 =>
(v51 = v62 ∧
(pLoad1 v49 h58 fun v63 =>
(v50 = v63 ∧
((bif (!c59) then
(Q (AV.b false) h58)
else
(withI (IntKind.wrap .i64 (x5 + 1)) fun n67 =>
J 2 [(2, x2), (3, x3), (5, (AV.i .i64 n67))] h58)))))))))))
else
(Q (AV.b true) h))
theorem G_ref33_Same.t1_eq (J : JT) (Q : AV → AHeap → Prop) (x2 : AV) (x3 : AV) (x5 : Int) (h : AHeap) : G_ref33_Same.t1 J Q x2 x3 x5 h = atJ prog C 60 J true [1, 1, 0, 1, 0] G_ref33_Same.ann G_ref33_Same.body [(2, x2), (3, x3), (5, (AV.i .i64 x5))] h (kFun prog Tryd.f14 Q) := by kernel_rfl
theorem G_ref33_Same.i1 {Q : AV → AHeap → Prop} {x2 : AV} {x3 : AV} {x5 : Int} {h : AHeap} (H : G_ref33_Same.t1 (G_ref33_Same.J Q) Q x2 x3 x5 h) : G_ref33_Same.p1 Q x2 x3 x5 h := G_ref33_Same.goH (k := 2) (p := [1, 1, 0, 1, 0]) (by kernel_rfl) ((G_ref33_Same.t1_eq (G_ref33_Same.J Q) Q x2 x3 x5 h).mp H)
def G_ref33_Same.t (J : JT) (Q : AV → AHeap → Prop) (x0 : AV) (x1 : AV) (h : AHeap) : Prop :=
pBox x0 h fun v0 h1 =>
pBox x1 h1 fun v2 h3 =>
pFieldAddr 0 v0 fun v5 =>
pLoad1 v5 h3 fun v6 =>
asI .i64 v6 fun n7 =>
pFieldAddr 0 v2 fun v8 =>
pLoad1 v8 h3 fun v9 =>
asI .i64 v9 fun n10 =>
(bif (!decide ((n7 : Int) = n10)) then
(J 1 [(2, v0), (3, v2), (40, (AV.b true))] h3)
else
(pFieldAddr 1 v0 fun v12 =>
pLoad1 v12 h3 fun v13 =>
asI .i64 v13 fun n14 =>
pFieldAddr 1 v2 fun v15 =>
pLoad1 v15 h3 fun v16 =>
asI .i64 v16 fun n17 =>
(bif (!decide ((n14 : Int) = n17)) then
(J 1 [(2, v0), (3, v2), (40, (AV.b true))] h3)
else
(pFieldAddr 2 v0 fun v19 =>
pLoad1 v19 h3 fun v20 =>
asB v20 fun c21 =>
pFieldAddr 2 v2 fun v22 =>
pLoad1 v22 h3 fun v23 =>
asB v23 fun c24 =>
(bif (!(c21 == c24)) then
(J 1 [(2, v0), (3, v2), (40, (AV.b true))] h3)
else
(pFieldAddr 3 v0 fun v26 =>
pLoad1 v26 h3 fun v27 =>
asS v27 fun l28 =>
pFieldAddr 3 v2 fun v29 =>
pLoad1 v29 h3 fun v30 =>
asS v30 fun l31 =>
(bif (!(decide ((l28 : List UInt8) = l31))) then
(J 1 [(2, v0), (3, v2), (40, (AV.b true))] h3)
else
(pFieldAddr 4 v0 fun v33 =>
pLoad1 v33 h3 fun v34 =>
pLenSl v34 fun n35 =>
pFieldAddr 4 v2 fun v36 =>
pLoad1 v36 h3 fun v37 =>
pLenSl v37 fun n38 =>
J 1 [(2, v0), (3, v2), (40, (AV.b (!decide ((n35 : Int) = n38))))] h3))))))))
theorem G_ref33_Same.t_eq (J : JT) (Q : AV → AHeap → Prop) (x0 : AV) (x1 : AV) (h : AHeap) : G_ref33_Same.t J Q x0 x1 h = exJ prog C 60 J G_ref33_Same.ann G_ref33_Same.body (initEnv 0 [x0, x1]) h (kFun prog Tryd.f14 Q) := by kernel_rfl
theorem G_ref33_Same.call {K : AV → AHeap → Prop} {x0 : AV} {x1 : AV} {h : AHeap} (H : G_ref33_Same.t (G_ref33_Same.J (kRet h K)) (kRet h K) x0 x1 h) : C G_ref33_Same.id [x0, x1] h K :=
  callJ (P := prog) (fn := Tryd.f14) (ann := G_ref33_Same.ann) (body := G_ref33_Same.body) Tryd.func14 G_ref33_Same.body_eq (by kernel_rfl) G_ref33_Same.dist (by kernel_rfl) ((G_ref33_Same.t_eq (G_ref33_Same.J (kRet h K)) (kRet h K) x0 x1 h).mp H)

--@@ G_ref33_Few
/-! ### 15: intrusion/intrusionref33.Few -/
noncomputable def G_ref33_Few.body : Code := (Tryd.f15.body).getD .skip
def G_ref33_Few.ann : Ann := (.seq 0 [1] .leaf (.seq 0 [1, 3] .leaf (.seq 0 [2] .leaf .leaf)))
theorem G_ref33_Few.body_eq : Tryd.f15.body = some G_ref33_Few.body := by kernel_rfl
theorem G_ref33_Few.dist : noTwice (places G_ref33_Few.ann G_ref33_Few.body) = true := by kernel_rfl
noncomputable def G_ref33_Few.J (Q : AV → AHeap → Prop) : JT := funJ prog C Tryd.f15 G_ref33_Few.ann G_ref33_Few.body Q
theorem G_ref33_Few.goR {Q : AV → AHeap → Prop} {k : Nat} {p : List Nat} (hl : lookJ (places G_ref33_Few.ann G_ref33_Few.body) k = some (p, false)) {e : Env} {h : AHeap} (hk : atJ prog C 9 (G_ref33_Few.J Q) false p G_ref33_Few.ann G_ref33_Few.body e h (kFun prog Tryd.f15 Q)) : G_ref33_Few.J Q k e h := goJ_run (P := prog) (fn := Tryd.f15) (ann := G_ref33_Few.ann) (body := G_ref33_Few.body) (Q := Q) (k := k) (p := p) (e := e) (h := h) (acall_le X) G_ref33_Few.dist hl hk
theorem G_ref33_Few.goH {Q : AV → AHeap → Prop} {k : Nat} {p : List Nat} (hl : lookJ (places G_ref33_Few.ann G_ref33_Few.body) k = some (p, true)) {e : Env} {h : AHeap} (hk : atJ prog C 9 (G_ref33_Few.J Q) true p G_ref33_Few.ann G_ref33_Few.body e h (kFun prog Tryd.f15 Q)) : G_ref33_Few.J Q k e h := goJ_head (P := prog) (fn := Tryd.f15) (ann := G_ref33_Few.ann) (body := G_ref33_Few.body) (Q := Q) (k := k) (p := p) (e := e) (h := h) (acall_le X) G_ref33_Few.dist hl hk
def G_ref33_Few.t (J : JT) (Q : AV → AHeap → Prop) (x0 : AV) (h : AHeap) : Prop :=
pBox x0 h fun v0 h1 =>
pBox (AV.ag [(AV.i .i64 0)]) h1 fun v3 h4 =>
pLoadN 5 v0 h4 fun v6 =>
C G_ref33_Count_few.id [v3, v6, (AV.i .i64 1)] h4 fun v7 h8 =>
asB v7 fun c9 =>
Q (AV.b c9) h8
theorem G_ref33_Few.t_eq (J : JT) (Q : AV → AHeap → Prop) (x0 : AV) (h : AHeap) : G_ref33_Few.t J Q x0 h = exJ prog C 9 J G_ref33_Few.ann G_ref33_Few.body (initEnv 0 [x0]) h (kFun prog Tryd.f15 Q) := by kernel_rfl
theorem G_ref33_Few.call {K : AV → AHeap → Prop} {x0 : AV} {h : AHeap} (H : G_ref33_Few.t (G_ref33_Few.J (kRet h K)) (kRet h K) x0 h) : C G_ref33_Few.id [x0] h K :=
  callJ (P := prog) (fn := Tryd.f15) (ann := G_ref33_Few.ann) (body := G_ref33_Few.body) Tryd.func15 G_ref33_Few.body_eq (by kernel_rfl) G_ref33_Few.dist (by kernel_rfl) ((G_ref33_Few.t_eq (G_ref33_Few.J (kRet h K)) (kRet h K) x0 h).mp H)

--@@ G_der_Encode
/-! ### 16: intrusion/der.Encode -/
noncomputable def G_der_Encode.body : Code := (Tryd.f16.body).getD .skip
def G_der_Encode.ann : Ann := (.seq 0 [1] .leaf (.seq 0 [1, 4] .leaf (.seq 0 [1] (.seq 0 [1, 5] .leaf (.seq 0 [1, 5, 13] .leaf (.br (.seq 0 [2, 3] .leaf .leaf) .leaf))) (.seq 0 [6] .leaf (.seq 0 [6] (.seq 0 [6, 19] .leaf (.br (.seq 0 [2, 3] .leaf .leaf) .leaf)) (.seq 0 [2, 3] .leaf .leaf))))))
theorem G_der_Encode.body_eq : Tryd.f16.body = some G_der_Encode.body := by kernel_rfl
theorem G_der_Encode.dist : noTwice (places G_der_Encode.ann G_der_Encode.body) = true := by kernel_rfl
noncomputable def G_der_Encode.J (Q : AV → AHeap → Prop) : JT := funJ prog C Tryd.f16 G_der_Encode.ann G_der_Encode.body Q
theorem G_der_Encode.goR {Q : AV → AHeap → Prop} {k : Nat} {p : List Nat} (hl : lookJ (places G_der_Encode.ann G_der_Encode.body) k = some (p, false)) {e : Env} {h : AHeap} (hk : atJ prog C 21 (G_der_Encode.J Q) false p G_der_Encode.ann G_der_Encode.body e h (kFun prog Tryd.f16 Q)) : G_der_Encode.J Q k e h := goJ_run (P := prog) (fn := Tryd.f16) (ann := G_der_Encode.ann) (body := G_der_Encode.body) (Q := Q) (k := k) (p := p) (e := e) (h := h) (acall_le X) G_der_Encode.dist hl hk
theorem G_der_Encode.goH {Q : AV → AHeap → Prop} {k : Nat} {p : List Nat} (hl : lookJ (places G_der_Encode.ann G_der_Encode.body) k = some (p, true)) {e : Env} {h : AHeap} (hk : atJ prog C 21 (G_der_Encode.J Q) true p G_der_Encode.ann G_der_Encode.body e h (kFun prog Tryd.f16 Q)) : G_der_Encode.J Q k e h := goJ_head (P := prog) (fn := Tryd.f16) (ann := G_der_Encode.ann) (body := G_der_Encode.body) (Q := Q) (k := k) (p := p) (e := e) (h := h) (acall_le X) G_der_Encode.dist hl hk
def G_der_Encode.t (J : JT) (Q : AV → AHeap → Prop) (x0 : AV) (h : AHeap) : Prop :=
pBox x0 h fun v0 h1 =>
pBox (AV.ag [(AV.i .i64 0)]) h1 fun v3 h4 =>
pLoadN 5 v0 h4 fun v6 =>
C G_der_reader_check.id [v3, v6, (AV.i .i64 1)] h4 fun v7 h8 =>
asI .i64 v7 fun n9 =>
(bif (!decide ((n9 : Int) = 0)) then
(Q (AV.tu [(AV.s []), (AV.i .i64 n9)]) h8)
else
(pLoadN 5 v0 h8 fun v14 =>
C G_der_write.id [v14] h8 fun v15 h16 =>
asS v15 fun l17 =>
(bif (decide ((65535 : Int) < (l17.length : Int))) then
(Q (AV.tu [(AV.s []), (AV.i .i64 3)]) h16)
else
(Q (AV.tu [(AV.s l17), (AV.i .i64 0)]) h16))))
theorem G_der_Encode.t_eq (J : JT) (Q : AV → AHeap → Prop) (x0 : AV) (h : AHeap) : G_der_Encode.t J Q x0 h = exJ prog C 21 J G_der_Encode.ann G_der_Encode.body (initEnv 0 [x0]) h (kFun prog Tryd.f16 Q) := by kernel_rfl
theorem G_der_Encode.call {K : AV → AHeap → Prop} {x0 : AV} {h : AHeap} (H : G_der_Encode.t (G_der_Encode.J (kRet h K)) (kRet h K) x0 h) : C G_der_Encode.id [x0] h K :=
  callJ (P := prog) (fn := Tryd.f16) (ann := G_der_Encode.ann) (body := G_der_Encode.body) Tryd.func16 G_der_Encode.body_eq (by kernel_rfl) G_der_Encode.dist (by kernel_rfl) ((G_der_Encode.t_eq (G_der_Encode.J (kRet h K)) (kRet h K) x0 h).mp H)

--@@ G_ref33_Encode
/-! ### 17: intrusion/intrusionref33.Encode -/
noncomputable def G_ref33_Encode.body : Code := (Tryd.f17.body).getD .skip
def G_ref33_Encode.ann : Ann := (.seq 0 [1] .leaf (.seq 0 [1, 4] .leaf (.seq 0 [1, 5] .leaf (.seq 0 [1] (.seq 0 [1, 5, 13] .leaf (.br (.seq 0 [2, 3] .leaf .leaf) .leaf)) (.seq 0 [6] .leaf (.seq 0 [6] (.seq 0 [6, 19] .leaf (.br (.seq 0 [2, 3] .leaf .leaf) .leaf)) (.seq 0 [2, 3] .leaf .leaf)))))))
theorem G_ref33_Encode.body_eq : Tryd.f17.body = some G_ref33_Encode.body := by kernel_rfl
theorem G_ref33_Encode.dist : noTwice (places G_ref33_Encode.ann G_ref33_Encode.body) = true := by kernel_rfl
noncomputable def G_ref33_Encode.J (Q : AV → AHeap → Prop) : JT := funJ prog C Tryd.f17 G_ref33_Encode.ann G_ref33_Encode.body Q
theorem G_ref33_Encode.goR {Q : AV → AHeap → Prop} {k : Nat} {p : List Nat} (hl : lookJ (places G_ref33_Encode.ann G_ref33_Encode.body) k = some (p, false)) {e : Env} {h : AHeap} (hk : atJ prog C 21 (G_ref33_Encode.J Q) false p G_ref33_Encode.ann G_ref33_Encode.body e h (kFun prog Tryd.f17 Q)) : G_ref33_Encode.J Q k e h := goJ_run (P := prog) (fn := Tryd.f17) (ann := G_ref33_Encode.ann) (body := G_ref33_Encode.body) (Q := Q) (k := k) (p := p) (e := e) (h := h) (acall_le X) G_ref33_Encode.dist hl hk
theorem G_ref33_Encode.goH {Q : AV → AHeap → Prop} {k : Nat} {p : List Nat} (hl : lookJ (places G_ref33_Encode.ann G_ref33_Encode.body) k = some (p, true)) {e : Env} {h : AHeap} (hk : atJ prog C 21 (G_ref33_Encode.J Q) true p G_ref33_Encode.ann G_ref33_Encode.body e h (kFun prog Tryd.f17 Q)) : G_ref33_Encode.J Q k e h := goJ_head (P := prog) (fn := Tryd.f17) (ann := G_ref33_Encode.ann) (body := G_ref33_Encode.body) (Q := Q) (k := k) (p := p) (e := e) (h := h) (acall_le X) G_ref33_Encode.dist hl hk
def G_ref33_Encode.t (J : JT) (Q : AV → AHeap → Prop) (x0 : AV) (h : AHeap) : Prop :=
pBox x0 h fun v0 h1 =>
pBox (AV.ag [(AV.i .i64 0)]) h1 fun v3 h4 =>
pLoadN 5 v0 h4 fun v6 =>
C G_ref33_Count_check.id [v3, v6, (AV.i .i64 1)] h4 fun v7 h8 =>
asI .i64 v7 fun n9 =>
(bif (!decide ((n9 : Int) = 0)) then
(Q (AV.tu [(AV.s []), (AV.i .i64 n9)]) h8)
else
(pLoadN 5 v0 h8 fun v14 =>
C G_ref33_bytes.id [v14] h8 fun v15 h16 =>
asS v15 fun l17 =>
(bif (decide ((65535 : Int) < (l17.length : Int))) then
(Q (AV.tu [(AV.s []), (AV.i .i64 3)]) h16)
else
(Q (AV.tu [(AV.s l17), (AV.i .i64 0)]) h16))))
theorem G_ref33_Encode.t_eq (J : JT) (Q : AV → AHeap → Prop) (x0 : AV) (h : AHeap) : G_ref33_Encode.t J Q x0 h = exJ prog C 21 J G_ref33_Encode.ann G_ref33_Encode.body (initEnv 0 [x0]) h (kFun prog Tryd.f17 Q) := by kernel_rfl
theorem G_ref33_Encode.call {K : AV → AHeap → Prop} {x0 : AV} {h : AHeap} (H : G_ref33_Encode.t (G_ref33_Encode.J (kRet h K)) (kRet h K) x0 h) : C G_ref33_Encode.id [x0] h K :=
  callJ (P := prog) (fn := Tryd.f17) (ann := G_ref33_Encode.ann) (body := G_ref33_Encode.body) Tryd.func17 G_ref33_Encode.body_eq (by kernel_rfl) G_ref33_Encode.dist (by kernel_rfl) ((G_ref33_Encode.t_eq (G_ref33_Encode.J (kRet h K)) (kRet h K) x0 h).mp H)

--@@ G_der_Int
/-! ### 18: intrusion/der.Int -/
noncomputable def G_der_Int.body : Code := (Tryd.f18.body).getD .skip
def G_der_Int.ann : Ann := (.seq 0 [1] .leaf (.seq 0 [1, 4] .leaf (.seq 0 [4] (.seq 1 [4, 20] .leaf (.br (.seq 0 [2, 3] .leaf .leaf) .leaf)) (.seq 0 [4] (.seq 2 [4, 43] .leaf (.br (.seq 0 [2, 3] .leaf .leaf) .leaf)) (.seq 0 [4, 5] .leaf (.seq 0 [5] (.seq 0 [4, 5, 6] .leaf (.one (.loop 3 [4, 5, 6] (.seq 0 [4, 5, 6] (.seq 0 [4, 5, 6, 51] .leaf (.br .leaf .leaf)) (.seq 0 [4, 5, 6] (.one .leaf) .leaf))))) (.seq 0 [2, 3] .leaf .leaf)))))))
theorem G_der_Int.body_eq : Tryd.f18.body = some G_der_Int.body := by kernel_rfl
theorem G_der_Int.dist : noTwice (places G_der_Int.ann G_der_Int.body) = true := by kernel_rfl
noncomputable def G_der_Int.J (Q : AV → AHeap → Prop) : JT := funJ prog C Tryd.f18 G_der_Int.ann G_der_Int.body Q
theorem G_der_Int.goR {Q : AV → AHeap → Prop} {k : Nat} {p : List Nat} (hl : lookJ (places G_der_Int.ann G_der_Int.body) k = some (p, false)) {e : Env} {h : AHeap} (hk : atJ prog C 62 (G_der_Int.J Q) false p G_der_Int.ann G_der_Int.body e h (kFun prog Tryd.f18 Q)) : G_der_Int.J Q k e h := goJ_run (P := prog) (fn := Tryd.f18) (ann := G_der_Int.ann) (body := G_der_Int.body) (Q := Q) (k := k) (p := p) (e := e) (h := h) (acall_le X) G_der_Int.dist hl hk
theorem G_der_Int.goH {Q : AV → AHeap → Prop} {k : Nat} {p : List Nat} (hl : lookJ (places G_der_Int.ann G_der_Int.body) k = some (p, true)) {e : Env} {h : AHeap} (hk : atJ prog C 62 (G_der_Int.J Q) true p G_der_Int.ann G_der_Int.body e h (kFun prog Tryd.f18 Q)) : G_der_Int.J Q k e h := goJ_head (P := prog) (fn := Tryd.f18) (ann := G_der_Int.ann) (body := G_der_Int.body) (Q := Q) (k := k) (p := p) (e := e) (h := h) (acall_le X) G_der_Int.dist hl hk
def G_der_Int.p0 (Q : AV → AHeap → Prop) (x4 : List UInt8) (x20 : Bool) (h : AHeap) : Prop := G_der_Int.J Q 1 [(4, (AV.s x4)), (20, (AV.b x20))] h
theorem G_der_Int.j0 (Q : AV → AHeap → Prop) (x4 : List UInt8) (x20 : Bool) (h : AHeap) : G_der_Int.J Q 1 [(4, (AV.s x4)), (20, (AV.b x20))] h = G_der_Int.p0 Q x4 x20 h := rfl
def G_der_Int.p1 (Q : AV → AHeap → Prop) (x4 : List UInt8) (x43 : Bool) (h : AHeap) : Prop := G_der_Int.J Q 2 [(4, (AV.s x4)), (43, (AV.b x43))] h
theorem G_der_Int.j1 (Q : AV → AHeap → Prop) (x4 : List UInt8) (x43 : Bool) (h : AHeap) : G_der_Int.J Q 2 [(4, (AV.s x4)), (43, (AV.b x43))] h = G_der_Int.p1 Q x4 x43 h := rfl
def G_der_Int.p2 (Q : AV → AHeap → Prop) (x4 : List UInt8) (x5 : Int) (x6 : Int) (h : AHeap) : Prop := G_der_Int.J Q 3 [(4, (AV.s x4)), (5, (AV.i .i64 x5)), (6, (AV.i .i64 x6))] h
theorem G_der_Int.j2 (Q : AV → AHeap → Prop) (x4 : List UInt8) (x5 : Int) (x6 : Int) (h : AHeap) : G_der_Int.J Q 3 [(4, (AV.s x4)), (5, (AV.i .i64 x5)), (6, (AV.i .i64 x6))] h = G_der_Int.p2 Q x4 x5 x6 h := rfl
def G_der_Int.t0 (J : JT) (Q : AV → AHeap → Prop) (x4 : List UInt8) (x20 : Bool) (h : AHeap) : Prop :=
(bif x20 then
(Q (AV.tu [(AV.i .i64 0), (AV.b false)]) h)
else
((bif (decide ((1 : Int) < (x4.length : Int))) then
(pIdxStr (AV.s x4) (AV.i .i64 0) fun n16 =>
(bif (decide ((n16 : Int) = 0)) then
(pIdxStr (AV.s x4) (AV.i .i64 1) fun n17 =>
(bif (decide ((n17 : Int) < 128)) then
(J 2 [(4, (AV.s x4)), (43, (AV.b true))] h)
else
(pIdxStr (AV.s x4) (AV.i .i64 0) fun n19 =>
(bif (decide ((n19 : Int) = 255)) then
(pIdxStr (AV.s x4) (AV.i .i64 1) fun n20 =>
J 2 [(4, (AV.s x4)), (43, (AV.b (decide ((128 : Int) ≤ n20))))] h)
else
(J 2 [(4, (AV.s x4)), (43, (AV.b false))] h)))))
else
(pIdxStr (AV.s x4) (AV.i .i64 0) fun n23 =>
(bif (decide ((n23 : Int) = 255)) then
(pIdxStr (AV.s x4) (AV.i .i64 1) fun n24 =>
J 2 [(4, (AV.s x4)), (43, (AV.b (decide ((128 : Int) ≤ n24))))] h)
else
(J 2 [(4, (AV.s x4)), (43, (AV.b false))] h)))))
else
(J 2 [(4, (AV.s x4)), (43, (AV.b false))] h))))
theorem G_der_Int.t0_eq (J : JT) (Q : AV → AHeap → Prop) (x4 : List UInt8) (x20 : Bool) (h : AHeap) : G_der_Int.t0 J Q x4 x20 h = atJ prog C 62 J false [1, 1, 0, 1] G_der_Int.ann G_der_Int.body [(4, (AV.s x4)), (20, (AV.b x20))] h (kFun prog Tryd.f18 Q) := by kernel_rfl
theorem G_der_Int.i0 {Q : AV → AHeap → Prop} {x4 : List UInt8} {x20 : Bool} {h : AHeap} (H : G_der_Int.t0 (G_der_Int.J Q) Q x4 x20 h) : G_der_Int.p0 Q x4 x20 h := G_der_Int.goR (k := 1) (p := [1, 1, 0, 1]) (by kernel_rfl) ((G_der_Int.t0_eq (G_der_Int.J Q) Q x4 x20 h).mp H)
def G_der_Int.t1 (J : JT) (Q : AV → AHeap → Prop) (x4 : List UInt8) (x43 : Bool) (h : AHeap) : Prop :=
(bif x43 then
(Q (AV.tu [(AV.i .i64 0), (AV.b false)]) h)
else
(pIdxStr (AV.s x4) (AV.i .i64 0) fun n30 =>
withI (IntKind.wrap .i64 (IntKind.wrap .i8 n30)) fun n31 =>
J 3 [(4, (AV.s x4)), (5, (AV.i .i64 n31)), (6, (AV.i .i64 1))] h))
theorem G_der_Int.t1_eq (J : JT) (Q : AV → AHeap → Prop) (x4 : List UInt8) (x43 : Bool) (h : AHeap) : G_der_Int.t1 J Q x4 x43 h = atJ prog C 62 J false [1, 1, 1, 0, 1] G_der_Int.ann G_der_Int.body [(4, (AV.s x4)), (43, (AV.b x43))] h (kFun prog Tryd.f18 Q) := by kernel_rfl
theorem G_der_Int.i1 {Q : AV → AHeap → Prop} {x4 : List UInt8} {x43 : Bool} {h : AHeap} (H : G_der_Int.t1 (G_der_Int.J Q) Q x4 x43 h) : G_der_Int.p1 Q x4 x43 h := G_der_Int.goR (k := 2) (p := [1, 1, 1, 0, 1]) (by kernel_rfl) ((G_der_Int.t1_eq (G_der_Int.J Q) Q x4 x43 h).mp H)
def G_der_Int.t2 (J : JT) (Q : AV → AHeap → Prop) (x4 : List UInt8) (x5 : Int) (x6 : Int) (h : AHeap) : Prop :=
(bif (decide ((x6 : Int) < (x4.length : Int))) then
(pShl .i64 x5 8 fun n37 =>
pIdxStr (AV.s x4) (AV.i .i64 x6) fun n38 =>
withI (bitsOp .or .i64 n37 (IntKind.wrap .i64 n38)) fun n39 =>
withI (IntKind.wrap .i64 (x6 + 1)) fun n41 =>
J 3 [(4, (AV.s x4)), (5, (AV.i .i64 n39)), (6, (AV.i .i64 n41))] h)
else
(Q (AV.tu [(AV.i .i64 x5), (AV.b true)]) h))
theorem G_der_Int.t2_eq (J : JT) (Q : AV → AHeap → Prop) (x4 : List UInt8) (x5 : Int) (x6 : Int) (h : AHeap) : G_der_Int.t2 J Q x4 x5 x6 h = atJ prog C 62 J true [1, 1, 1, 1, 1, 0, 1, 0] G_der_Int.ann G_der_Int.body [(4, (AV.s x4)), (5, (AV.i .i64 x5)), (6, (AV.i .i64 x6))] h (kFun prog Tryd.f18 Q) := by kernel_rfl
theorem G_der_Int.i2 {Q : AV → AHeap → Prop} {x4 : List UInt8} {x5 : Int} {x6 : Int} {h : AHeap} (H : G_der_Int.t2 (G_der_Int.J Q) Q x4 x5 x6 h) : G_der_Int.p2 Q x4 x5 x6 h := G_der_Int.goH (k := 3) (p := [1, 1, 1, 1, 1, 0, 1, 0]) (by kernel_rfl) ((G_der_Int.t2_eq (G_der_Int.J Q) Q x4 x5 x6 h).mp H)
def G_der_Int.t (J : JT) (Q : AV → AHeap → Prop) (x0 : AV) (h : AHeap) : Prop :=
pBox x0 h fun v0 h1 =>
pFieldAddr 3 v0 fun v3 =>
pLoad1 v3 h1 fun v4 =>
asS v4 fun l5 =>
pLoadN 5 v0 h1 fun v7 =>
C G_der_plain.id [v7, (AV.i .i64 2)] h1 fun v8 h9 =>
asB v8 fun c10 =>
(bif (!c10) then
(J 1 [(4, (AV.s l5)), (20, (AV.b true))] h9)
else
((bif (decide ((l5 : List UInt8) = [])) then
(J 1 [(4, (AV.s l5)), (20, (AV.b true))] h9)
else
(J 1 [(4, (AV.s l5)), (20, (AV.b (decide ((6 : Int) < (l5.length : Int)))))] h9))))
theorem G_der_Int.t_eq (J : JT) (Q : AV → AHeap → Prop) (x0 : AV) (h : AHeap) : G_der_Int.t J Q x0 h = exJ prog C 62 J G_der_Int.ann G_der_Int.body (initEnv 0 [x0]) h (kFun prog Tryd.f18 Q) := by kernel_rfl
theorem G_der_Int.call {K : AV → AHeap → Prop} {x0 : AV} {h : AHeap} (H : G_der_Int.t (G_der_Int.J (kRet h K)) (kRet h K) x0 h) : C G_der_Int.id [x0] h K :=
  callJ (P := prog) (fn := Tryd.f18) (ann := G_der_Int.ann) (body := G_der_Int.body) Tryd.func18 G_der_Int.body_eq (by kernel_rfl) G_der_Int.dist (by kernel_rfl) ((G_der_Int.t_eq (G_der_Int.J (kRet h K)) (kRet h K) x0 h).mp H)

--@@ G_ref33_Int
/-! ### 19: intrusion/intrusionref33.Int -/
noncomputable def G_ref33_Int.body : Code := (Tryd.f19.body).getD .skip
def G_ref33_Int.ann : Ann := (.seq 0 [1] .leaf (.seq 0 [1, 4] .leaf (.seq 0 [4] (.seq 1 [4, 46] .leaf (.br (.seq 0 [2, 3] .leaf .leaf) .leaf)) (.seq 0 [4, 5] .leaf (.seq 2 [4, 5] (.seq 0 [4, 5, 49] .leaf (.br .leaf .leaf)) (.seq 0 [5] (.seq 0 [4, 5, 6] .leaf (.one (.loop 3 [4, 5, 6] (.seq 0 [4, 5, 6] (.seq 0 [4, 5, 6, 53] .leaf (.br .leaf .leaf)) (.seq 0 [4, 5, 6] (.one .leaf) .leaf))))) (.seq 0 [2, 3] .leaf .leaf)))))))
theorem G_ref33_Int.body_eq : Tryd.f19.body = some G_ref33_Int.body := by kernel_rfl
theorem G_ref33_Int.dist : noTwice (places G_ref33_Int.ann G_ref33_Int.body) = true := by kernel_rfl
noncomputable def G_ref33_Int.J (Q : AV → AHeap → Prop) : JT := funJ prog C Tryd.f19 G_ref33_Int.ann G_ref33_Int.body Q
theorem G_ref33_Int.goR {Q : AV → AHeap → Prop} {k : Nat} {p : List Nat} (hl : lookJ (places G_ref33_Int.ann G_ref33_Int.body) k = some (p, false)) {e : Env} {h : AHeap} (hk : atJ prog C 64 (G_ref33_Int.J Q) false p G_ref33_Int.ann G_ref33_Int.body e h (kFun prog Tryd.f19 Q)) : G_ref33_Int.J Q k e h := goJ_run (P := prog) (fn := Tryd.f19) (ann := G_ref33_Int.ann) (body := G_ref33_Int.body) (Q := Q) (k := k) (p := p) (e := e) (h := h) (acall_le X) G_ref33_Int.dist hl hk
theorem G_ref33_Int.goH {Q : AV → AHeap → Prop} {k : Nat} {p : List Nat} (hl : lookJ (places G_ref33_Int.ann G_ref33_Int.body) k = some (p, true)) {e : Env} {h : AHeap} (hk : atJ prog C 64 (G_ref33_Int.J Q) true p G_ref33_Int.ann G_ref33_Int.body e h (kFun prog Tryd.f19 Q)) : G_ref33_Int.J Q k e h := goJ_head (P := prog) (fn := Tryd.f19) (ann := G_ref33_Int.ann) (body := G_ref33_Int.body) (Q := Q) (k := k) (p := p) (e := e) (h := h) (acall_le X) G_ref33_Int.dist hl hk
def G_ref33_Int.p0 (Q : AV → AHeap → Prop) (x4 : List UInt8) (x46 : Bool) (h : AHeap) : Prop := G_ref33_Int.J Q 1 [(4, (AV.s x4)), (46, (AV.b x46))] h
theorem G_ref33_Int.j0 (Q : AV → AHeap → Prop) (x4 : List UInt8) (x46 : Bool) (h : AHeap) : G_ref33_Int.J Q 1 [(4, (AV.s x4)), (46, (AV.b x46))] h = G_ref33_Int.p0 Q x4 x46 h := rfl
def G_ref33_Int.p2 (Q : AV → AHeap → Prop) (x4 : List UInt8) (x5 : Int) (x6 : Int) (h : AHeap) : Prop := G_ref33_Int.J Q 3 [(4, (AV.s x4)), (5, (AV.i .i64 x5)), (6, (AV.i .i64 x6))] h
theorem G_ref33_Int.j2 (Q : AV → AHeap → Prop) (x4 : List UInt8) (x5 : Int) (x6 : Int) (h : AHeap) : G_ref33_Int.J Q 3 [(4, (AV.s x4)), (5, (AV.i .i64 x5)), (6, (AV.i .i64 x6))] h = G_ref33_Int.p2 Q x4 x5 x6 h := rfl
def G_ref33_Int.p1 (Q : AV → AHeap → Prop) (x4 : List UInt8) (x5 : Int) (h : AHeap) : Prop := G_ref33_Int.J Q 2 [(4, (AV.s x4)), (5, (AV.i .i64 x5))] h
theorem G_ref33_Int.j1 (Q : AV → AHeap → Prop) (x4 : List UInt8) (x5 : Int) (h : AHeap) : G_ref33_Int.J Q 2 [(4, (AV.s x4)), (5, (AV.i .i64 x5))] h = G_ref33_Int.p1 Q x4 x5 h := rfl
def G_ref33_Int.t0 (J : JT) (Q : AV → AHeap → Prop) (x4 : List UInt8) (x46 : Bool) (h : AHeap) : Prop :=
(bif x46 then
(Q (AV.tu [(AV.i .i64 0), (AV.b false)]) h)
else
(pIdxStr (AV.s x4) (AV.i .i64 0) fun n29 =>
(bif (decide ((128 : Int) ≤ n29)) then
(J 2 [(4, (AV.s x4)), (5, (AV.i .i64 (-1)))] h)
else
(J 2 [(4, (AV.s x4)), (5, (AV.i .i64 0))] h))))
theorem G_ref33_Int.t0_eq (J : JT) (Q : AV → AHeap → Prop) (x4 : List UInt8) (x46 : Bool) (h : AHeap) : G_ref33_Int.t0 J Q x4 x46 h = atJ prog C 64 J false [1, 1, 0, 1] G_ref33_Int.ann G_ref33_Int.body [(4, (AV.s x4)), (46, (AV.b x46))] h (kFun prog Tryd.f19 Q) := by kernel_rfl
theorem G_ref33_Int.i0 {Q : AV → AHeap → Prop} {x4 : List UInt8} {x46 : Bool} {h : AHeap} (H : G_ref33_Int.t0 (G_ref33_Int.J Q) Q x4 x46 h) : G_ref33_Int.p0 Q x4 x46 h := G_ref33_Int.goR (k := 1) (p := [1, 1, 0, 1]) (by kernel_rfl) ((G_ref33_Int.t0_eq (G_ref33_Int.J Q) Q x4 x46 h).mp H)
def G_ref33_Int.t2 (J : JT) (Q : AV → AHeap → Prop) (x4 : List UInt8) (x5 : Int) (x6 : Int) (h : AHeap) : Prop :=
(bif (decide ((x6 : Int) < (x4.length : Int))) then
(withI (IntKind.wrap .i64 (x5 * 256)) fun n37 =>
pIdxStr (AV.s x4) (AV.i .i64 x6) fun n38 =>
withI (IntKind.wrap .i64 (n37 + (IntKind.wrap .i64 n38))) fun n39 =>
withI (IntKind.wrap .i64 (x6 + 1)) fun n41 =>
J 3 [(4, (AV.s x4)), (5, (AV.i .i64 n39)), (6, (AV.i .i64 n41))] h)
else
(Q (AV.tu [(AV.i .i64 x5), (AV.b true)]) h))
theorem G_ref33_Int.t2_eq (J : JT) (Q : AV → AHeap → Prop) (x4 : List UInt8) (x5 : Int) (x6 : Int) (h : AHeap) : G_ref33_Int.t2 J Q x4 x5 x6 h = atJ prog C 64 J true [1, 1, 1, 1, 1, 0, 1, 0] G_ref33_Int.ann G_ref33_Int.body [(4, (AV.s x4)), (5, (AV.i .i64 x5)), (6, (AV.i .i64 x6))] h (kFun prog Tryd.f19 Q) := by kernel_rfl
theorem G_ref33_Int.i2 {Q : AV → AHeap → Prop} {x4 : List UInt8} {x5 : Int} {x6 : Int} {h : AHeap} (H : G_ref33_Int.t2 (G_ref33_Int.J Q) Q x4 x5 x6 h) : G_ref33_Int.p2 Q x4 x5 x6 h := G_ref33_Int.goH (k := 3) (p := [1, 1, 1, 1, 1, 0, 1, 0]) (by kernel_rfl) ((G_ref33_Int.t2_eq (G_ref33_Int.J Q) Q x4 x5 x6 h).mp H)
def G_ref33_Int.t1 (J : JT) (Q : AV → AHeap → Prop) (x4 : List UInt8) (x5 : Int) (h : AHeap) : Prop :=
J 3 [(4, (AV.s x4)), (5, (AV.i .i64 x5)), (6, (AV.i .i64 0))] h
theorem G_ref33_Int.t1_eq (J : JT) (Q : AV → AHeap → Prop) (x4 : List UInt8) (x5 : Int) (h : AHeap) : G_ref33_Int.t1 J Q x4 x5 h = atJ prog C 64 J false [1, 1, 1, 1, 1] G_ref33_Int.ann G_ref33_Int.body [(4, (AV.s x4)), (5, (AV.i .i64 x5))] h (kFun prog Tryd.f19 Q) := by kernel_rfl
theorem G_ref33_Int.i1 {Q : AV → AHeap → Prop} {x4 : List UInt8} {x5 : Int} {h : AHeap} (H : G_ref33_Int.t1 (G_ref33_Int.J Q) Q x4 x5 h) : G_ref33_Int.p1 Q x4 x5 h := G_ref33_Int.goR (k := 2) (p := [1, 1, 1, 1, 1]) (by kernel_rfl) ((G_ref33_Int.t1_eq (G_ref33_Int.J Q) Q x4 x5 h).mp H)
def G_ref33_Int.t (J : JT) (Q : AV → AHeap → Prop) (x0 : AV) (h : AHeap) : Prop :=
pBox x0 h fun v0 h1 =>
pFieldAddr 3 v0 fun v3 =>
pLoad1 v3 h1 fun v4 =>
asS v4 fun l5 =>
pLoadN 5 v0 h1 fun v7 =>
C G_ref33_plain.id [v7, (AV.i .i64 2)] h1 fun v8 h9 =>
asB v8 fun c10 =>
(bif (!c10) then
(J 1 [(4, (AV.s l5)), (46, (AV.b true))] h9)
else
((bif (decide (((l5.length : Int) : Int) < 1)) then
(J 1 [(4, (AV.s l5)), (46, (AV.b true))] h9)
else
((bif (decide ((6 : Int) < (l5.length : Int))) then
(J 1 [(4, (AV.s l5)), (46, (AV.b true))] h9)
else
((bif (decide ((1 : Int) < (l5.length : Int))) then
(pIdxStr (AV.s l5) (AV.i .i64 0) fun n14 =>
(bif (decide ((n14 : Int) = 0)) then
(pIdxStr (AV.s l5) (AV.i .i64 1) fun n15 =>
(bif (decide ((n15 : Int) < 128)) then
(J 1 [(4, (AV.s l5)), (46, (AV.b true))] h9)
else
(pIdxStr (AV.s l5) (AV.i .i64 0) fun n17 =>
(bif (decide ((n17 : Int) = 255)) then
(pIdxStr (AV.s l5) (AV.i .i64 1) fun n18 =>
J 1 [(4, (AV.s l5)), (46, (AV.b (decide ((128 : Int) ≤ n18))))] h9)
else
(J 1 [(4, (AV.s l5)), (46, (AV.b false))] h9)))))
else
(pIdxStr (AV.s l5) (AV.i .i64 0) fun n21 =>
(bif (decide ((n21 : Int) = 255)) then
(pIdxStr (AV.s l5) (AV.i .i64 1) fun n22 =>
J 1 [(4, (AV.s l5)), (46, (AV.b (decide ((128 : Int) ≤ n22))))] h9)
else
(J 1 [(4, (AV.s l5)), (46, (AV.b false))] h9)))))
else
(J 1 [(4, (AV.s l5)), (46, (AV.b false))] h9))))))))
theorem G_ref33_Int.t_eq (J : JT) (Q : AV → AHeap → Prop) (x0 : AV) (h : AHeap) : G_ref33_Int.t J Q x0 h = exJ prog C 64 J G_ref33_Int.ann G_ref33_Int.body (initEnv 0 [x0]) h (kFun prog Tryd.f19 Q) := by kernel_rfl
theorem G_ref33_Int.call {K : AV → AHeap → Prop} {x0 : AV} {h : AHeap} (H : G_ref33_Int.t (G_ref33_Int.J (kRet h K)) (kRet h K) x0 h) : C G_ref33_Int.id [x0] h K :=
  callJ (P := prog) (fn := Tryd.f19) (ann := G_ref33_Int.ann) (body := G_ref33_Int.body) Tryd.func19 G_ref33_Int.body_eq (by kernel_rfl) G_ref33_Int.dist (by kernel_rfl) ((G_ref33_Int.t_eq (G_ref33_Int.J (kRet h K)) (kRet h K) x0 h).mp H)

--@@ G_der_IntOf
/-! ### 20: intrusion/der.IntOf -/
noncomputable def G_der_IntOf.body : Code := (Tryd.f20.body).getD .skip
def G_der_IntOf.ann : Ann := (.seq 0 [0, 2] .leaf (.seq 0 [0, 2] (.seq 1 [0, 2, 11] .leaf (.br (.seq 0 [2] .leaf .leaf) .leaf)) (.seq 0 [0, 2, 3] .leaf (.seq 0 [0, 2, 3] (.one (.loop 2 [0, 2, 3] (.seq 0 [0, 2, 3] (.seq 3 [0, 2, 3, 26] .leaf (.br .leaf .leaf)) (.one .leaf)))) (.seq 0 [0, 2, 3, 4] .leaf (.seq 0 [2, 4] (.seq 0 [0, 2, 4, 5] .leaf (.one (.loop 4 [0, 2, 4, 5] (.seq 0 [0, 2, 4, 5] (.seq 0 [0, 2, 4, 5, 32] .leaf (.br .leaf .leaf)) (.seq 0 [0, 2, 4, 5] (.one .leaf) .leaf))))) (.seq 0 [2] .leaf .leaf)))))))
theorem G_der_IntOf.body_eq : Tryd.f20.body = some G_der_IntOf.body := by kernel_rfl
theorem G_der_IntOf.dist : noTwice (places G_der_IntOf.ann G_der_IntOf.body) = true := by kernel_rfl
noncomputable def G_der_IntOf.J (Q : AV → AHeap → Prop) : JT := funJ prog C Tryd.f20 G_der_IntOf.ann G_der_IntOf.body Q
theorem G_der_IntOf.goR {Q : AV → AHeap → Prop} {k : Nat} {p : List Nat} (hl : lookJ (places G_der_IntOf.ann G_der_IntOf.body) k = some (p, false)) {e : Env} {h : AHeap} (hk : atJ prog C 46 (G_der_IntOf.J Q) false p G_der_IntOf.ann G_der_IntOf.body e h (kFun prog Tryd.f20 Q)) : G_der_IntOf.J Q k e h := goJ_run (P := prog) (fn := Tryd.f20) (ann := G_der_IntOf.ann) (body := G_der_IntOf.body) (Q := Q) (k := k) (p := p) (e := e) (h := h) (acall_le X) G_der_IntOf.dist hl hk
theorem G_der_IntOf.goH {Q : AV → AHeap → Prop} {k : Nat} {p : List Nat} (hl : lookJ (places G_der_IntOf.ann G_der_IntOf.body) k = some (p, true)) {e : Env} {h : AHeap} (hk : atJ prog C 46 (G_der_IntOf.J Q) true p G_der_IntOf.ann G_der_IntOf.body e h (kFun prog Tryd.f20 Q)) : G_der_IntOf.J Q k e h := goJ_head (P := prog) (fn := Tryd.f20) (ann := G_der_IntOf.ann) (body := G_der_IntOf.body) (Q := Q) (k := k) (p := p) (e := e) (h := h) (acall_le X) G_der_IntOf.dist hl hk
def G_der_IntOf.p0 (Q : AV → AHeap → Prop) (x0 : Int) (x2 : AV) (x11 : Bool) (h : AHeap) : Prop := G_der_IntOf.J Q 1 [(0, (AV.i .i64 x0)), (2, x2), (11, (AV.b x11))] h
theorem G_der_IntOf.j0 (Q : AV → AHeap → Prop) (x0 : Int) (x2 : AV) (x11 : Bool) (h : AHeap) : G_der_IntOf.J Q 1 [(0, (AV.i .i64 x0)), (2, x2), (11, (AV.b x11))] h = G_der_IntOf.p0 Q x0 x2 x11 h := rfl
def G_der_IntOf.p2 (Q : AV → AHeap → Prop) (x0 : Int) (x2 : AV) (x3 : Int) (x26 : Bool) (h : AHeap) : Prop := G_der_IntOf.J Q 3 [(0, (AV.i .i64 x0)), (2, x2), (3, (AV.i .i64 x3)), (26, (AV.b x26))] h
theorem G_der_IntOf.j2 (Q : AV → AHeap → Prop) (x0 : Int) (x2 : AV) (x3 : Int) (x26 : Bool) (h : AHeap) : G_der_IntOf.J Q 3 [(0, (AV.i .i64 x0)), (2, x2), (3, (AV.i .i64 x3)), (26, (AV.b x26))] h = G_der_IntOf.p2 Q x0 x2 x3 x26 h := rfl
def G_der_IntOf.p1 (Q : AV → AHeap → Prop) (x0 : Int) (x2 : AV) (x3 : Int) (h : AHeap) : Prop := G_der_IntOf.J Q 2 [(0, (AV.i .i64 x0)), (2, x2), (3, (AV.i .i64 x3))] h
theorem G_der_IntOf.j1 (Q : AV → AHeap → Prop) (x0 : Int) (x2 : AV) (x3 : Int) (h : AHeap) : G_der_IntOf.J Q 2 [(0, (AV.i .i64 x0)), (2, x2), (3, (AV.i .i64 x3))] h = G_der_IntOf.p1 Q x0 x2 x3 h := rfl
def G_der_IntOf.p3 (Q : AV → AHeap → Prop) (x0 : Int) (x2 : AV) (x4 : AV) (x5 : Int) (h : AHeap) : Prop := G_der_IntOf.J Q 4 [(0, (AV.i .i64 x0)), (2, x2), (4, x4), (5, (AV.i .i64 x5))] h
theorem G_der_IntOf.j3 (Q : AV → AHeap → Prop) (x0 : Int) (x2 : AV) (x4 : AV) (x5 : Int) (h : AHeap) : G_der_IntOf.J Q 4 [(0, (AV.i .i64 x0)), (2, x2), (4, x4), (5, (AV.i .i64 x5))] h = G_der_IntOf.p3 Q x0 x2 x4 x5 h := rfl
def G_der_IntOf.t0 (J : JT) (Q : AV → AHeap → Prop) (x0 : Int) (x2 : AV) (x11 : Bool) (h : AHeap) : Prop :=
(bif x11 then
(pStore 5 x2 (AV.ag [(AV.i .i64 0), (AV.i .i64 0), (AV.b false), (AV.s []), (AV.sl none 0 none)]) h fun h5 =>
pLoadN 5 x2 h5 fun v7 =>
Q v7 h5)
else
(J 2 [(0, (AV.i .i64 x0)), (2, x2), (3, (AV.i .i64 1))] h))
theorem G_der_IntOf.t0_eq (J : JT) (Q : AV → AHeap → Prop) (x0 : Int) (x2 : AV) (x11 : Bool) (h : AHeap) : G_der_IntOf.t0 J Q x0 x2 x11 h = atJ prog C 46 J false [1, 0, 1] G_der_IntOf.ann G_der_IntOf.body [(0, (AV.i .i64 x0)), (2, x2), (11, (AV.b x11))] h (kFun prog Tryd.f20 Q) := by kernel_rfl
theorem G_der_IntOf.i0 {Q : AV → AHeap → Prop} {x0 : Int} {x2 : AV} {x11 : Bool} {h : AHeap} (H : G_der_IntOf.t0 (G_der_IntOf.J Q) Q x0 x2 x11 h) : G_der_IntOf.p0 Q x0 x2 x11 h := G_der_IntOf.goR (k := 1) (p := [1, 0, 1]) (by kernel_rfl) ((G_der_IntOf.t0_eq (G_der_IntOf.J Q) Q x0 x2 x11 h).mp H)
def G_der_IntOf.t2 (J : JT) (Q : AV → AHeap → Prop) (x0 : Int) (x2 : AV) (x3 : Int) (x26 : Bool) (h : AHeap) : Prop :=
(bif x26 then
(withI (IntKind.wrap .i64 (x3 + 1)) fun n20 =>
J 2 [(0, (AV.i .i64 x0)), (2, x2), (3, (AV.i .i64 n20))] h)
else
(withI (IntKind.wrap .i64 (x3 - 1)) fun n23 =>
J 4 [(0, (AV.i .i64 x0)), (2, x2), (4, (AV.sl none 0 none)), (5, (AV.i .i64 n23))] h))
theorem G_der_IntOf.t2_eq (J : JT) (Q : AV → AHeap → Prop) (x0 : Int) (x2 : AV) (x3 : Int) (x26 : Bool) (h : AHeap) : G_der_IntOf.t2 J Q x0 x2 x3 x26 h = atJ prog C 46 J false [1, 1, 1, 0, 0, 0, 0, 1] G_der_IntOf.ann G_der_IntOf.body [(0, (AV.i .i64 x0)), (2, x2), (3, (AV.i .i64 x3)), (26, (AV.b x26))] h (kFun prog Tryd.f20 Q) := by kernel_rfl
theorem G_der_IntOf.i2 {Q : AV → AHeap → Prop} {x0 : Int} {x2 : AV} {x3 : Int} {x26 : Bool} {h : AHeap} (H : G_der_IntOf.t2 (G_der_IntOf.J Q) Q x0 x2 x3 x26 h) : G_der_IntOf.p2 Q x0 x2 x3 x26 h := G_der_IntOf.goR (k := 3) (p := [1, 1, 1, 0, 0, 0, 0, 1]) (by kernel_rfl) ((G_der_IntOf.t2_eq (G_der_IntOf.J Q) Q x0 x2 x3 x26 h).mp H)
def G_der_IntOf.t1 (J : JT) (Q : AV → AHeap → Prop) (x0 : Int) (x2 : AV) (x3 : Int) (h : AHeap) : Prop :=
withI (IntKind.wrap .i64 (8 * x3)) fun n10 =>
withI (IntKind.wrap .i64 (n10 - 1)) fun n11 =>
pShl .i64 (-1) n11 fun n12 =>
(bif (decide ((x0 : Int) < n12)) then
(J 3 [(0, (AV.i .i64 x0)), (2, x2), (3, (AV.i .i64 x3)), (26, (AV.b true))] h)
else
(withI (IntKind.wrap .i64 (8 * x3)) fun n14 =>
withI (IntKind.wrap .i64 (n14 - 1)) fun n15 =>
pShl .i64 1 n15 fun n16 =>
J 3 [(0, (AV.i .i64 x0)), (2, x2), (3, (AV.i .i64 x3)), (26, (AV.b (decide ((n16 : Int) ≤ x0))))] h))
theorem G_der_IntOf.t1_eq (J : JT) (Q : AV → AHeap → Prop) (x0 : Int) (x2 : AV) (x3 : Int) (h : AHeap) : G_der_IntOf.t1 J Q x0 x2 x3 h = atJ prog C 46 J true [1, 1, 1, 0, 0] G_der_IntOf.ann G_der_IntOf.body [(0, (AV.i .i64 x0)), (2, x2), (3, (AV.i .i64 x3))] h (kFun prog Tryd.f20 Q) := by kernel_rfl
theorem G_der_IntOf.i1 {Q : AV → AHeap → Prop} {x0 : Int} {x2 : AV} {x3 : Int} {h : AHeap} (H : G_der_IntOf.t1 (G_der_IntOf.J Q) Q x0 x2 x3 h) : G_der_IntOf.p1 Q x0 x2 x3 h := G_der_IntOf.goH (k := 2) (p := [1, 1, 1, 0, 0]) (by kernel_rfl) ((G_der_IntOf.t1_eq (G_der_IntOf.J Q) Q x0 x2 x3 h).mp H)
def G_der_IntOf.t3 (J : JT) (Q : AV → AHeap → Prop) (x0 : Int) (x2 : AV) (x4 : AV) (x5 : Int) (h : AHeap) : Prop :=
(bif (decide ((0 : Int) ≤ x5)) then
(withI (IntKind.wrap .i64 (8 * x5)) fun n28 =>
pShr .i64 x0 n28 fun n29 =>
pBuildSl 1 1 [(AV.i .u8 0)] [(0, 1, (AV.i .u8 (IntKind.wrap .u8 n29)))] h fun v30 h31 =>
pAppend 1 1 x4 v30 h31 fun v32 h33 =>
withI (IntKind.wrap .i64 (x5 - 1)) fun n35 =>
J 4 [(0, (AV.i .i64 x0)), (2, x2), (4, v32), (5, (AV.i .i64 n35))] h33)
else
(pBytesStr x4 h fun l37 =>
pStore 5 x2 (AV.ag [(AV.i .i64 0), (AV.i .i64 2), (AV.b false), (AV.s l37), (AV.sl none 0 none)]) h fun h38 =>
pLoadN 5 x2 h38 fun v40 =>
Q v40 h38))
theorem G_der_IntOf.t3_eq (J : JT) (Q : AV → AHeap → Prop) (x0 : Int) (x2 : AV) (x4 : AV) (x5 : Int) (h : AHeap) : G_der_IntOf.t3 J Q x0 x2 x4 x5 h = atJ prog C 46 J true [1, 1, 1, 1, 1, 0, 1, 0] G_der_IntOf.ann G_der_IntOf.body [(0, (AV.i .i64 x0)), (2, x2), (4, x4), (5, (AV.i .i64 x5))] h (kFun prog Tryd.f20 Q) := by kernel_rfl
theorem G_der_IntOf.i3 {Q : AV → AHeap → Prop} {x0 : Int} {x2 : AV} {x4 : AV} {x5 : Int} {h : AHeap} (H : G_der_IntOf.t3 (G_der_IntOf.J Q) Q x0 x2 x4 x5 h) : G_der_IntOf.p3 Q x0 x2 x4 x5 h := G_der_IntOf.goH (k := 4) (p := [1, 1, 1, 1, 1, 0, 1, 0]) (by kernel_rfl) ((G_der_IntOf.t3_eq (G_der_IntOf.J Q) Q x0 x2 x4 x5 h).mp H)
def G_der_IntOf.t (J : JT) (Q : AV → AHeap → Prop) (x0 : Int) (h : AHeap) : Prop :=
pAlloc [(AV.i .i64 0), (AV.i .i64 0), (AV.b false), (AV.s []), (AV.sl none 0 none)] h fun v0 h1 =>
(bif (decide ((x0 : Int) < (-140737488355328))) then
(J 1 [(0, (AV.i .i64 x0)), (2, v0), (11, (AV.b true))] h1)
else
(J 1 [(0, (AV.i .i64 x0)), (2, v0), (11, (AV.b (decide ((140737488355328 : Int) ≤ x0))))] h1))
theorem G_der_IntOf.t_eq (J : JT) (Q : AV → AHeap → Prop) (x0 : Int) (h : AHeap) : G_der_IntOf.t J Q x0 h = exJ prog C 46 J G_der_IntOf.ann G_der_IntOf.body (initEnv 0 [(AV.i .i64 x0)]) h (kFun prog Tryd.f20 Q) := by kernel_rfl
theorem G_der_IntOf.call {K : AV → AHeap → Prop} {x0 : Int} {h : AHeap} (H : G_der_IntOf.t (G_der_IntOf.J (kRet h K)) (kRet h K) x0 h) : C G_der_IntOf.id [(AV.i .i64 x0)] h K :=
  callJ (P := prog) (fn := Tryd.f20) (ann := G_der_IntOf.ann) (body := G_der_IntOf.body) Tryd.func20 G_der_IntOf.body_eq (by kernel_rfl) G_der_IntOf.dist (by kernel_rfl) ((G_der_IntOf.t_eq (G_der_IntOf.J (kRet h K)) (kRet h K) x0 h).mp H)

--@@ G_ref33_IntOf
/-! ### 21: intrusion/intrusionref33.IntOf -/
noncomputable def G_ref33_IntOf.body : Code := (Tryd.f21.body).getD .skip
def G_ref33_IntOf.ann : Ann := (.seq 0 [0, 2] .leaf (.seq 0 [0, 2] (.seq 1 [0, 2, 12] .leaf (.br (.seq 0 [2] .leaf .leaf) .leaf)) (.seq 0 [2] (.seq 0 [0, 2, 3] .leaf (.one (.loop 2 [0, 2, 3] (.seq 0 [0, 2, 3] (.seq 0 [0, 2, 3, 15] .leaf (.br .leaf .leaf)) (.seq 0 [0, 2, 3] (.one (.seq 0 [0, 2, 3, 4] .leaf (.seq 0 [0, 2, 3] (.seq 3 [0, 2, 3, 31] .leaf (.br .leaf .leaf)) (.seq 0 [0, 2, 3, 5] .leaf (.seq 0 [2, 5] (.seq 0 [0, 2, 5, 6] .leaf (.one (.loop 4 [0, 2, 5, 6] (.seq 0 [0, 2, 5, 6] (.seq 0 [0, 2, 5, 6, 35] .leaf (.br .leaf .leaf)) (.seq 0 [0, 2, 5, 6] (.one .leaf) .leaf))))) (.seq 0 [2] .leaf .leaf)))))) .leaf))))) (.seq 0 [2] .leaf .leaf))))
theorem G_ref33_IntOf.body_eq : Tryd.f21.body = some G_ref33_IntOf.body := by kernel_rfl
theorem G_ref33_IntOf.dist : noTwice (places G_ref33_IntOf.ann G_ref33_IntOf.body) = true := by kernel_rfl
noncomputable def G_ref33_IntOf.J (Q : AV → AHeap → Prop) : JT := funJ prog C Tryd.f21 G_ref33_IntOf.ann G_ref33_IntOf.body Q
theorem G_ref33_IntOf.goR {Q : AV → AHeap → Prop} {k : Nat} {p : List Nat} (hl : lookJ (places G_ref33_IntOf.ann G_ref33_IntOf.body) k = some (p, false)) {e : Env} {h : AHeap} (hk : atJ prog C 51 (G_ref33_IntOf.J Q) false p G_ref33_IntOf.ann G_ref33_IntOf.body e h (kFun prog Tryd.f21 Q)) : G_ref33_IntOf.J Q k e h := goJ_run (P := prog) (fn := Tryd.f21) (ann := G_ref33_IntOf.ann) (body := G_ref33_IntOf.body) (Q := Q) (k := k) (p := p) (e := e) (h := h) (acall_le X) G_ref33_IntOf.dist hl hk
theorem G_ref33_IntOf.goH {Q : AV → AHeap → Prop} {k : Nat} {p : List Nat} (hl : lookJ (places G_ref33_IntOf.ann G_ref33_IntOf.body) k = some (p, true)) {e : Env} {h : AHeap} (hk : atJ prog C 51 (G_ref33_IntOf.J Q) true p G_ref33_IntOf.ann G_ref33_IntOf.body e h (kFun prog Tryd.f21 Q)) : G_ref33_IntOf.J Q k e h := goJ_head (P := prog) (fn := Tryd.f21) (ann := G_ref33_IntOf.ann) (body := G_ref33_IntOf.body) (Q := Q) (k := k) (p := p) (e := e) (h := h) (acall_le X) G_ref33_IntOf.dist hl hk
def G_ref33_IntOf.p0 (Q : AV → AHeap → Prop) (x0 : Int) (x2 : AV) (x12 : Bool) (h : AHeap) : Prop := G_ref33_IntOf.J Q 1 [(0, (AV.i .i64 x0)), (2, x2), (12, (AV.b x12))] h
theorem G_ref33_IntOf.j0 (Q : AV → AHeap → Prop) (x0 : Int) (x2 : AV) (x12 : Bool) (h : AHeap) : G_ref33_IntOf.J Q 1 [(0, (AV.i .i64 x0)), (2, x2), (12, (AV.b x12))] h = G_ref33_IntOf.p0 Q x0 x2 x12 h := rfl
def G_ref33_IntOf.p2 (Q : AV → AHeap → Prop) (x0 : Int) (x2 : AV) (x3 : Int) (x31 : Bool) (h : AHeap) : Prop := G_ref33_IntOf.J Q 3 [(0, (AV.i .i64 x0)), (2, x2), (3, (AV.i .i64 x3)), (31, (AV.b x31))] h
theorem G_ref33_IntOf.j2 (Q : AV → AHeap → Prop) (x0 : Int) (x2 : AV) (x3 : Int) (x31 : Bool) (h : AHeap) : G_ref33_IntOf.J Q 3 [(0, (AV.i .i64 x0)), (2, x2), (3, (AV.i .i64 x3)), (31, (AV.b x31))] h = G_ref33_IntOf.p2 Q x0 x2 x3 x31 h := rfl
def G_ref33_IntOf.p3 (Q : AV → AHeap → Prop) (x0 : Int) (x2 : AV) (x5 : AV) (x6 : Int) (h : AHeap) : Prop := G_ref33_IntOf.J Q 4 [(0, (AV.i .i64 x0)), (2, x2), (5, x5), (6, (AV.i .i64 x6))] h
theorem G_ref33_IntOf.j3 (Q : AV → AHeap → Prop) (x0 : Int) (x2 : AV) (x5 : AV) (x6 : Int) (h : AHeap) : G_ref33_IntOf.J Q 4 [(0, (AV.i .i64 x0)), (2, x2), (5, x5), (6, (AV.i .i64 x6))] h = G_ref33_IntOf.p3 Q x0 x2 x5 x6 h := rfl
def G_ref33_IntOf.p1 (Q : AV → AHeap → Prop) (x0 : Int) (x2 : AV) (x3 : Int) (h : AHeap) : Prop := G_ref33_IntOf.J Q 2 [(0, (AV.i .i64 x0)), (2, x2), (3, (AV.i .i64 x3))] h
theorem G_ref33_IntOf.j1 (Q : AV → AHeap → Prop) (x0 : Int) (x2 : AV) (x3 : Int) (h : AHeap) : G_ref33_IntOf.J Q 2 [(0, (AV.i .i64 x0)), (2, x2), (3, (AV.i .i64 x3))] h = G_ref33_IntOf.p1 Q x0 x2 x3 h := rfl
def G_ref33_IntOf.t0 (J : JT) (Q : AV → AHeap → Prop) (x0 : Int) (x2 : AV) (x12 : Bool) (h : AHeap) : Prop :=
(bif x12 then
(pStore 5 x2 (AV.ag [(AV.i .i64 0), (AV.i .i64 0), (AV.b false), (AV.s []), (AV.sl none 0 none)]) h fun h5 =>
pLoadN 5 x2 h5 fun v7 =>
Q v7 h5)
else
(J 2 [(0, (AV.i .i64 x0)), (2, x2), (3, (AV.i .i64 1))] h))
theorem G_ref33_IntOf.t0_eq (J : JT) (Q : AV → AHeap → Prop) (x0 : Int) (x2 : AV) (x12 : Bool) (h : AHeap) : G_ref33_IntOf.t0 J Q x0 x2 x12 h = atJ prog C 51 J false [1, 0, 1] G_ref33_IntOf.ann G_ref33_IntOf.body [(0, (AV.i .i64 x0)), (2, x2), (12, (AV.b x12))] h (kFun prog Tryd.f21 Q) := by kernel_rfl
theorem G_ref33_IntOf.i0 {Q : AV → AHeap → Prop} {x0 : Int} {x2 : AV} {x12 : Bool} {h : AHeap} (H : G_ref33_IntOf.t0 (G_ref33_IntOf.J Q) Q x0 x2 x12 h) : G_ref33_IntOf.p0 Q x0 x2 x12 h := G_ref33_IntOf.goR (k := 1) (p := [1, 0, 1]) (by kernel_rfl) ((G_ref33_IntOf.t0_eq (G_ref33_IntOf.J Q) Q x0 x2 x12 h).mp H)
def G_ref33_IntOf.t2 (J : JT) (Q : AV → AHeap → Prop) (x0 : Int) (x2 : AV) (x3 : Int) (x31 : Bool) (h : AHeap) : Prop :=
(bif x31 then
(withI (IntKind.wrap .i64 (x3 + 1)) fun n41 =>
J 2 [(0, (AV.i .i64 x0)), (2, x2), (3, (AV.i .i64 n41))] h)
else
(withI (IntKind.wrap .i64 (x3 - 1)) fun n23 =>
J 4 [(0, (AV.i .i64 x0)), (2, x2), (5, (AV.sl none 0 none)), (6, (AV.i .i64 n23))] h))
theorem G_ref33_IntOf.t2_eq (J : JT) (Q : AV → AHeap → Prop) (x0 : Int) (x2 : AV) (x3 : Int) (x31 : Bool) (h : AHeap) : G_ref33_IntOf.t2 J Q x0 x2 x3 x31 h = atJ prog C 51 J false [1, 1, 0, 1, 0, 0, 1, 0, 0, 1, 0, 1] G_ref33_IntOf.ann G_ref33_IntOf.body [(0, (AV.i .i64 x0)), (2, x2), (3, (AV.i .i64 x3)), (31, (AV.b x31))] h (kFun prog Tryd.f21 Q) := by kernel_rfl
theorem G_ref33_IntOf.i2 {Q : AV → AHeap → Prop} {x0 : Int} {x2 : AV} {x3 : Int} {x31 : Bool} {h : AHeap} (H : G_ref33_IntOf.t2 (G_ref33_IntOf.J Q) Q x0 x2 x3 x31 h) : G_ref33_IntOf.p2 Q x0 x2 x3 x31 h := G_ref33_IntOf.goR (k := 3) (p := [1, 1, 0, 1, 0, 0, 1, 0, 0, 1, 0, 1]) (by kernel_rfl) ((G_ref33_IntOf.t2_eq (G_ref33_IntOf.J Q) Q x0 x2 x3 x31 h).mp H)
def G_ref33_IntOf.t3 (J : JT) (Q : AV → AHeap → Prop) (x0 : Int) (x2 : AV) (x5 : AV) (x6 : Int) (h : AHeap) : Prop :=
(bif (decide ((0 : Int) ≤ x6)) then
(withI (IntKind.wrap .i64 (8 * x6)) fun n28 =>
pShr .i64 x0 (IntKind.wrap .u64 n28) fun n29 =>
pBuildSl 1 1 [(AV.i .u8 0)] [(0, 1, (AV.i .u8 (IntKind.wrap .u8 n29)))] h fun v30 h31 =>
pAppend 1 1 x5 v30 h31 fun v32 h33 =>
withI (IntKind.wrap .i64 (x6 - 1)) fun n35 =>
J 4 [(0, (AV.i .i64 x0)), (2, x2), (5, v32), (6, (AV.i .i64 n35))] h33)
else
(pBytesStr x5 h fun l37 =>
pStore 5 x2 (AV.ag [(AV.i .i64 0), (AV.i .i64 2), (AV.b false), (AV.s l37), (AV.sl none 0 none)]) h fun h38 =>
pLoadN 5 x2 h38 fun v40 =>
Q v40 h38))
theorem G_ref33_IntOf.t3_eq (J : JT) (Q : AV → AHeap → Prop) (x0 : Int) (x2 : AV) (x5 : AV) (x6 : Int) (h : AHeap) : G_ref33_IntOf.t3 J Q x0 x2 x5 x6 h = atJ prog C 51 J true [1, 1, 0, 1, 0, 0, 1, 0, 0, 1, 1, 1, 0, 1, 0] G_ref33_IntOf.ann G_ref33_IntOf.body [(0, (AV.i .i64 x0)), (2, x2), (5, x5), (6, (AV.i .i64 x6))] h (kFun prog Tryd.f21 Q) := by kernel_rfl
theorem G_ref33_IntOf.i3 {Q : AV → AHeap → Prop} {x0 : Int} {x2 : AV} {x5 : AV} {x6 : Int} {h : AHeap} (H : G_ref33_IntOf.t3 (G_ref33_IntOf.J Q) Q x0 x2 x5 x6 h) : G_ref33_IntOf.p3 Q x0 x2 x5 x6 h := G_ref33_IntOf.goH (k := 4) (p := [1, 1, 0, 1, 0, 0, 1, 0, 0, 1, 1, 1, 0, 1, 0]) (by kernel_rfl) ((G_ref33_IntOf.t3_eq (G_ref33_IntOf.J Q) Q x0 x2 x5 x6 h).mp H)
def G_ref33_IntOf.t1 (J : JT) (Q : AV → AHeap → Prop) (x0 : Int) (x2 : AV) (x3 : Int) (h : AHeap) : Prop :=
(bif (decide ((x3 : Int) ≤ 6)) then
(withI (IntKind.wrap .i64 (8 * x3)) fun n13 =>
withI (IntKind.wrap .i64 (n13 - 1)) fun n14 =>
pShl .i64 1 (IntKind.wrap .u64 n14) fun n15 =>
withI (IntKind.wrap .i64 (0 - n15)) fun n17 =>
(bif (decide ((x0 : Int) < n17)) then
(J 3 [(0, (AV.i .i64 x0)), (2, x2), (3, (AV.i .i64 x3)), (31, (AV.b true))] h)
else
(J 3 [(0, (AV.i .i64 x0)), (2, x2), (3, (AV.i .i64 x3)), (31, (AV.b (decide ((n15 : Int) ≤ x0))))] h)))
else
(pStore 5 x2 (AV.ag [(AV.i .i64 0), (AV.i .i64 0), (AV.b false), (AV.s []), (AV.sl none 0 none)]) h fun h43 =>
pLoadN 5 x2 h43 fun v45 =>
Q v45 h43))
theorem G_ref33_IntOf.t1_eq (J : JT) (Q : AV → AHeap → Prop) (x0 : Int) (x2 : AV) (x3 : Int) (h : AHeap) : G_ref33_IntOf.t1 J Q x0 x2 x3 h = atJ prog C 51 J true [1, 1, 0, 1, 0] G_ref33_IntOf.ann G_ref33_IntOf.body [(0, (AV.i .i64 x0)), (2, x2), (3, (AV.i .i64 x3))] h (kFun prog Tryd.f21 Q) := by kernel_rfl
theorem G_ref33_IntOf.i1 {Q : AV → AHeap → Prop} {x0 : Int} {x2 : AV} {x3 : Int} {h : AHeap} (H : G_ref33_IntOf.t1 (G_ref33_IntOf.J Q) Q x0 x2 x3 h) : G_ref33_IntOf.p1 Q x0 x2 x3 h := G_ref33_IntOf.goH (k := 2) (p := [1, 1, 0, 1, 0]) (by kernel_rfl) ((G_ref33_IntOf.t1_eq (G_ref33_IntOf.J Q) Q x0 x2 x3 h).mp H)
def G_ref33_IntOf.t (J : JT) (Q : AV → AHeap → Prop) (x0 : Int) (h : AHeap) : Prop :=
pAlloc [(AV.i .i64 0), (AV.i .i64 0), (AV.b false), (AV.s []), (AV.sl none 0 none)] h fun v0 h1 =>
(bif (decide ((x0 : Int) < (-140737488355328))) then
(J 1 [(0, (AV.i .i64 x0)), (2, v0), (12, (AV.b true))] h1)
else
(J 1 [(0, (AV.i .i64 x0)), (2, v0), (12, (AV.b (decide ((140737488355328 : Int) ≤ x0))))] h1))
theorem G_ref33_IntOf.t_eq (J : JT) (Q : AV → AHeap → Prop) (x0 : Int) (h : AHeap) : G_ref33_IntOf.t J Q x0 h = exJ prog C 51 J G_ref33_IntOf.ann G_ref33_IntOf.body (initEnv 0 [(AV.i .i64 x0)]) h (kFun prog Tryd.f21 Q) := by kernel_rfl
theorem G_ref33_IntOf.call {K : AV → AHeap → Prop} {x0 : Int} {h : AHeap} (H : G_ref33_IntOf.t (G_ref33_IntOf.J (kRet h K)) (kRet h K) x0 h) : C G_ref33_IntOf.id [(AV.i .i64 x0)] h K :=
  callJ (P := prog) (fn := Tryd.f21) (ann := G_ref33_IntOf.ann) (body := G_ref33_IntOf.body) Tryd.func21 G_ref33_IntOf.body_eq (by kernel_rfl) G_ref33_IntOf.dist (by kernel_rfl) ((G_ref33_IntOf.t_eq (G_ref33_IntOf.J (kRet h K)) (kRet h K) x0 h).mp H)

--@@ G_der_Time
/-! ### 22: intrusion/der.Time -/
noncomputable def G_der_Time.body : Code := (Tryd.f22.body).getD .skip
def G_der_Time.ann : Ann := (.seq 0 [1] .leaf (.seq 0 [1, 4] .leaf (.seq 1 [1, 4] (.seq 0 [1, 4, 11] .leaf (.br .leaf (.seq 0 [1, 4, 14] .leaf (.br (.seq 0 [2, 3] .leaf .leaf) .leaf)))) (.seq 0 [1, 4] (.seq 2 [1, 4, 27] .leaf (.br (.seq 0 [2, 3] .leaf .leaf) .leaf)) (.seq 0 [4, 5] .leaf (.seq 0 [4, 5] (.seq 0 [4, 5, 36] .leaf (.br (.seq 0 [2, 3] .leaf .leaf) .leaf)) (.seq 0 [4, 5, 6] .leaf (.seq 0 [4, 6] (.one (.loop 3 [4, 5, 6] (.seq 0 [4, 5, 6] (.seq 0 [4, 5, 6, 38] .leaf (.br .leaf .leaf)) (.seq 0 [4, 5, 6] (.one (.ord (.neu 0 (.neu 1 (.neu 2 (.neu 3 (.neu 4 (.neu 5 (.neu 6 (.neu 7 (.neu 8 (.neu 9 (.neu 10 (.eff 11 (.eff 12 (.eff 13 .done .stop) .stop) .stop)))))))))))))) .leaf)))) (.seq 0 [4, 6, 7] .leaf (.seq 4 [6, 7] (.seq 0 [6, 7, 59] .leaf (.br (.seq 0 [6, 7] (.ord (.neu 0 (.neu 1 (.neu 2 (.neu 3 (.neu 4 (.neu 5 (.neu 6 (.neu 7 (.neu 8 .done)))))))))) .leaf) (.seq 0 [6, 7, 73] .leaf (.br .leaf .leaf)))) (.seq 0 [6, 7] (.seq 5 [6, 7, 126] (.ord (.neu 0 (.neu 1 (.neu 2 (.neu 3 (.neu 4 (.neu 5 (.neu 6 (.neu 7 (.neu 8 (.neu 9 (.neu 10 (.neu 11 (.neu 12 (.neu 13 (.neu 14 (.neu 15 (.neu 16 (.neu 17 (.neu 18 (.neu 19 (.neu 20 (.neu 21 (.neu 22 (.neu 23 (.neu 24 (.neu 25 (.neu 26 (.neu 27 (.eff 28 (.neu 29 (.neu 30 (.neu 31 (.neu 32 (.neu 33 (.neu 34 (.neu 35 (.neu 36 (.neu 37 (.neu 38 (.neu 39 (.neu 40 (.neu 41 (.neu 42 (.neu 43 (.neu 44 (.neu 45 (.neu 46 (.neu 47 (.neu 48 .done)))))))))))))))))))) .stop)))))))))))))))))))))))))))))) (.br (.seq 0 [2, 3] .leaf .leaf) .leaf)) (.seq 0 [6, 7, 8] (.ord (.neu 0 (.neu 2 (.neu 3 (.neu 4 (.eff 1 (.neu 5 (.neu 6 (.neu 7 .done))) .stop)))))) (.seq 0 [6, 8] (.seq 0 [6, 7, 8, 9] .leaf (.one (.loop 6 [6, 7, 8, 9] (.seq 0 [6, 7, 8, 9] (.seq 0 [6, 7, 8, 9, 138] .leaf (.br .leaf .leaf)) (.seq 0 [6, 7, 8, 9] (.one .leaf) .leaf))))) (.seq 0 [2, 3] (.ord (.neu 0 (.neu 1 (.neu 2 (.neu 3 (.neu 4 (.neu 5 (.neu 6 (.neu 7 (.neu 8 (.neu 9 (.neu 10 (.neu 11 (.neu 12 (.neu 13 (.neu 14 (.neu 15 (.neu 16 (.neu 17 .done))))))))))))))))))) .leaf))))))))))))))
theorem G_der_Time.body_eq : Tryd.f22.body = some G_der_Time.body := by kernel_rfl
theorem G_der_Time.dist : noTwice (places G_der_Time.ann G_der_Time.body) = true := by kernel_rfl
noncomputable def G_der_Time.J (Q : AV → AHeap → Prop) : JT := funJ prog C Tryd.f22 G_der_Time.ann G_der_Time.body Q
theorem G_der_Time.goR {Q : AV → AHeap → Prop} {k : Nat} {p : List Nat} (hl : lookJ (places G_der_Time.ann G_der_Time.body) k = some (p, false)) {e : Env} {h : AHeap} (hk : atJ prog C 162 (G_der_Time.J Q) false p G_der_Time.ann G_der_Time.body e h (kFun prog Tryd.f22 Q)) : G_der_Time.J Q k e h := goJ_run (P := prog) (fn := Tryd.f22) (ann := G_der_Time.ann) (body := G_der_Time.body) (Q := Q) (k := k) (p := p) (e := e) (h := h) (acall_le X) G_der_Time.dist hl hk
theorem G_der_Time.goH {Q : AV → AHeap → Prop} {k : Nat} {p : List Nat} (hl : lookJ (places G_der_Time.ann G_der_Time.body) k = some (p, true)) {e : Env} {h : AHeap} (hk : atJ prog C 162 (G_der_Time.J Q) true p G_der_Time.ann G_der_Time.body e h (kFun prog Tryd.f22 Q)) : G_der_Time.J Q k e h := goJ_head (P := prog) (fn := Tryd.f22) (ann := G_der_Time.ann) (body := G_der_Time.body) (Q := Q) (k := k) (p := p) (e := e) (h := h) (acall_le X) G_der_Time.dist hl hk
def G_der_Time.p1 (Q : AV → AHeap → Prop) (x1 : AV) (x4 : Int) (x27 : Bool) (h : AHeap) : Prop := G_der_Time.J Q 2 [(1, x1), (4, (AV.i .i64 x4)), (27, (AV.b x27))] h
theorem G_der_Time.j1 (Q : AV → AHeap → Prop) (x1 : AV) (x4 : Int) (x27 : Bool) (h : AHeap) : G_der_Time.J Q 2 [(1, x1), (4, (AV.i .i64 x4)), (27, (AV.b x27))] h = G_der_Time.p1 Q x1 x4 x27 h := rfl
def G_der_Time.p2 (Q : AV → AHeap → Prop) (x4 : Int) (x5 : List UInt8) (x6 : AV) (h : AHeap) : Prop := G_der_Time.J Q 3 [(4, (AV.i .i64 x4)), (5, (AV.s x5)), (6, x6)] h
theorem G_der_Time.j2 (Q : AV → AHeap → Prop) (x4 : Int) (x5 : List UInt8) (x6 : AV) (h : AHeap) : G_der_Time.J Q 3 [(4, (AV.i .i64 x4)), (5, (AV.s x5)), (6, x6)] h = G_der_Time.p2 Q x4 x5 x6 h := rfl
def G_der_Time.p4 (Q : AV → AHeap → Prop) (x6 : AV) (x7 : Int) (x126 : Bool) (h : AHeap) : Prop := G_der_Time.J Q 5 [(6, x6), (7, (AV.i .i64 x7)), (126, (AV.b x126))] h
theorem G_der_Time.j4 (Q : AV → AHeap → Prop) (x6 : AV) (x7 : Int) (x126 : Bool) (h : AHeap) : G_der_Time.J Q 5 [(6, x6), (7, (AV.i .i64 x7)), (126, (AV.b x126))] h = G_der_Time.p4 Q x6 x7 x126 h := rfl
def G_der_Time.p5 (Q : AV → AHeap → Prop) (x6 : AV) (x7 : Int) (x8 : Int) (x9 : Int) (h : AHeap) : Prop := G_der_Time.J Q 6 [(6, x6), (7, (AV.i .i64 x7)), (8, (AV.i .i64 x8)), (9, (AV.i .i64 x9))] h
theorem G_der_Time.j5 (Q : AV → AHeap → Prop) (x6 : AV) (x7 : Int) (x8 : Int) (x9 : Int) (h : AHeap) : G_der_Time.J Q 6 [(6, x6), (7, (AV.i .i64 x7)), (8, (AV.i .i64 x8)), (9, (AV.i .i64 x9))] h = G_der_Time.p5 Q x6 x7 x8 x9 h := rfl
def G_der_Time.p3 (Q : AV → AHeap → Prop) (x6 : AV) (x7 : Int) (h : AHeap) : Prop := G_der_Time.J Q 4 [(6, x6), (7, (AV.i .i64 x7))] h
theorem G_der_Time.j3 (Q : AV → AHeap → Prop) (x6 : AV) (x7 : Int) (h : AHeap) : G_der_Time.J Q 4 [(6, x6), (7, (AV.i .i64 x7))] h = G_der_Time.p3 Q x6 x7 h := rfl
def G_der_Time.p0 (Q : AV → AHeap → Prop) (x1 : AV) (x4 : Int) (h : AHeap) : Prop := G_der_Time.J Q 1 [(1, x1), (4, (AV.i .i64 x4))] h
theorem G_der_Time.j0 (Q : AV → AHeap → Prop) (x1 : AV) (x4 : Int) (h : AHeap) : G_der_Time.J Q 1 [(1, x1), (4, (AV.i .i64 x4))] h = G_der_Time.p0 Q x1 x4 h := rfl
def G_der_Time.t1 (J : JT) (Q : AV → AHeap → Prop) (x1 : AV) (x4 : Int) (x27 : Bool) (h : AHeap) : Prop :=
(bif x27 then
(Q (AV.tu [(AV.i .i64 0), (AV.b false)]) h)
else
(pFieldAddr 3 x1 fun v29 =>
pLoad1 v29 h fun v30 =>
asS v30 fun l31 =>
withI (IntKind.wrap .i64 (x4 - 1)) fun n32 =>
pSliceStr (AV.s l31) none (some (AV.i .i64 n32)) fun l33 =>
pStrBytes (AV.s l33) h fun v35 h36 =>
C G_der_all_byte_.id [v35, (AV.fn (.func G_der_Time_1.id) [] [])] h36 fun v37 h38 =>
asB v37 fun c39 =>
(bif (!c39) then
(Q (AV.tu [(AV.i .i64 0), (AV.b false)]) h38)
else
(J 3 [(4, (AV.i .i64 x4)), (5, (AV.s l33)), (6, (AV.sl none 0 none))] h38))))
theorem G_der_Time.t1_eq (J : JT) (Q : AV → AHeap → Prop) (x1 : AV) (x4 : Int) (x27 : Bool) (h : AHeap) : G_der_Time.t1 J Q x1 x4 x27 h = atJ prog C 162 J false [1, 1, 1, 0, 1] G_der_Time.ann G_der_Time.body [(1, x1), (4, (AV.i .i64 x4)), (27, (AV.b x27))] h (kFun prog Tryd.f22 Q) := by kernel_rfl
theorem G_der_Time.i1 {Q : AV → AHeap → Prop} {x1 : AV} {x4 : Int} {x27 : Bool} {h : AHeap} (H : G_der_Time.t1 (G_der_Time.J Q) Q x1 x4 x27 h) : G_der_Time.p1 Q x1 x4 x27 h := G_der_Time.goR (k := 2) (p := [1, 1, 1, 0, 1]) (by kernel_rfl) ((G_der_Time.t1_eq (G_der_Time.J Q) Q x1 x4 x27 h).mp H)
def G_der_Time.t2 (J : JT) (Q : AV → AHeap → Prop) (x4 : Int) (x5 : List UInt8) (x6 : AV) (h : AHeap) : Prop :=
(bif (!(decide ((x5 : List UInt8) = []))) then
(pIdxStr (AV.s x5) (AV.i .i64 0) fun n47 =>
withI (IntKind.wrap .u8 (n47 - 48)) fun n48 =>
withI (IntKind.wrap .i64 ((IntKind.wrap .i64 n48) * 10)) fun n49 =>
pIdxStr (AV.s x5) (AV.i .i64 1) fun n50 =>
withI (IntKind.wrap .u8 (n50 - 48)) fun n51 =>
withI (IntKind.wrap .i64 (n49 + (IntKind.wrap .i64 n51))) fun n52 =>
pBuildSl 1 1 [(AV.i .i64 0)] [(0, 1, (AV.i .i64 n52))] h fun v53 h54 =>
pAppend 1 8 x6 v53 h54 fun v55 h56 =>
pSliceStr (AV.s x5) (some (AV.i .i64 2)) none fun l58 =>
J 3 [(4, (AV.i .i64 x4)), (5, (AV.s l58)), (6, v55)] h56)
else
(pIdxAddrSl 1 x6 (AV.i .i64 0) h fun v60 =>
pLoad1 v60 h fun v61 =>
asI .i64 v61 fun n62 =>
withI (IntKind.wrap .i64 (n62 + 2000)) fun n63 =>
(bif (decide ((x4 : Int) = 15)) then
(pIdxAddrSl 1 x6 (AV.i .i64 0) h fun v66 =>
pLoad1 v66 h fun v67 =>
asI .i64 v67 fun n68 =>
withI (IntKind.wrap .i64 (100 * n68)) fun n69 =>
pIdxAddrSl 1 x6 (AV.i .i64 1) h fun v70 =>
pLoad1 v70 h fun v71 =>
asI .i64 v71 fun n72 =>
withI (IntKind.wrap .i64 (n69 + n72)) fun n73 =>
pSliceSl 1 x6 (some (AV.i .i64 1)) none none h fun v75 =>
J 4 [(6, v75), (7, (AV.i .i64 n73))] h)
else
(pIdxAddrSl 1 x6 (AV.i .i64 0) h fun v77 =>
pLoad1 v77 h fun v78 =>
asI .i64 v78 fun n79 =>
(bif (decide ((50 : Int) ≤ n79)) then
(pIdxAddrSl 1 x6 (AV.i .i64 0) h fun v81 =>
pLoad1 v81 h fun v82 =>
asI .i64 v82 fun n83 =>
withI (IntKind.wrap .i64 (n83 + 1900)) fun n84 =>
J 4 [(6, x6), (7, (AV.i .i64 n84))] h)
else
(J 4 [(6, x6), (7, (AV.i .i64 n63))] h))))))
theorem G_der_Time.t2_eq (J : JT) (Q : AV → AHeap → Prop) (x4 : Int) (x5 : List UInt8) (x6 : AV) (h : AHeap) : G_der_Time.t2 J Q x4 x5 x6 h = atJ prog C 162 J true [1, 1, 1, 1, 1, 1, 1, 0, 0] G_der_Time.ann G_der_Time.body [(4, (AV.i .i64 x4)), (5, (AV.s x5)), (6, x6)] h (kFun prog Tryd.f22 Q) := by kernel_rfl
theorem G_der_Time.i2 {Q : AV → AHeap → Prop} {x4 : Int} {x5 : List UInt8} {x6 : AV} {h : AHeap} (H : G_der_Time.t2 (G_der_Time.J Q) Q x4 x5 x6 h) : G_der_Time.p2 Q x4 x5 x6 h := G_der_Time.goH (k := 3) (p := [1, 1, 1, 1, 1, 1, 1, 0, 0]) (by kernel_rfl) ((G_der_Time.t2_eq (G_der_Time.J Q) Q x4 x5 x6 h).mp H)
def G_der_Time.t4 (J : JT) (Q : AV → AHeap → Prop) (x6 : AV) (x7 : Int) (x126 : Bool) (h : AHeap) : Prop :=
(bif x126 then
(Q (AV.tu [(AV.i .i64 0), (AV.b false)]) h)
else
(pIdxAddrSl 1 x6 (AV.i .i64 2) h fun v137 =>
pLoad1 v137 h fun v138 =>
asI .i64 v138 fun n139 =>
C G_der_before.id [(AV.i .i64 x7)] h fun v140 h141 =>
asI .i64 v140 fun n142 =>
pLoad1 v137 h141 fun v143 =>
asI .i64 v143 fun n144 =>
((AV.i .i64 n139) = (AV.i .i64 n144) ∧
(pIdxAddrSl 1 x6 (AV.i .i64 2) h141 fun v145 =>
(v137 = v145 ∧
(withI (IntKind.wrap .i64 (n142 + n139)) fun n146 =>
withI (IntKind.wrap .i64 (n146 - 1)) fun n147 =>
J 6 [(6, x6), (7, (AV.i .i64 x7)), (8, (AV.i .i64 n147)), (9, (AV.i .i64 1))] h141))))))
theorem G_der_Time.t4_eq (J : JT) (Q : AV → AHeap → Prop) (x6 : AV) (x7 : Int) (x126 : Bool) (h : AHeap) : G_der_Time.t4 J Q x6 x7 x126 h = atJ prog C 162 J false [1, 1, 1, 1, 1, 1, 1, 1, 1, 1, 0, 1] G_der_Time.ann G_der_Time.body [(6, x6), (7, (AV.i .i64 x7)), (126, (AV.b x126))] h (kFun prog Tryd.f22 Q) := by kernel_rfl
theorem G_der_Time.i4 {Q : AV → AHeap → Prop} {x6 : AV} {x7 : Int} {x126 : Bool} {h : AHeap} (H : G_der_Time.t4 (G_der_Time.J Q) Q x6 x7 x126 h) : G_der_Time.p4 Q x6 x7 x126 h := G_der_Time.goR (k := 5) (p := [1, 1, 1, 1, 1, 1, 1, 1, 1, 1, 0, 1]) (by kernel_rfl) ((G_der_Time.t4_eq (G_der_Time.J Q) Q x6 x7 x126 h).mp H)
def G_der_Time.t5 (J : JT) (Q : AV → AHeap → Prop) (x6 : AV) (x7 : Int) (x8 : Int) (x9 : Int) (h : AHeap) : Prop :=
pIdxAddrSl 1 x6 (AV.i .i64 1) h fun v150 =>
pLoad1 v150 h fun v151 =>
asI .i64 v151 fun n152 =>
(bif (decide ((x9 : Int) < n152)) then
(C G_der_days.id [(AV.i .i64 x7), (AV.i .i64 x9)] h fun v156 h157 =>
asI .i64 v156 fun n158 =>
withI (IntKind.wrap .i64 (x8 + n158)) fun n159 =>
withI (IntKind.wrap .i64 (x9 + 1)) fun n161 =>
J 6 [(6, x6), (7, (AV.i .i64 x7)), (8, (AV.i .i64 n159)), (9, (AV.i .i64 n161))] h157)
else
(withI (IntKind.wrap .i64 (x8 * 86400)) fun n163 =>
pIdxAddrSl 1 x6 (AV.i .i64 3) h fun v164 =>
pLoad1 v164 h fun v165 =>
asI .i64 v165 fun n166 =>
withI (IntKind.wrap .i64 (n166 * 3600)) fun n167 =>
withI (IntKind.wrap .i64 (n163 + n167)) fun n168 =>
pIdxAddrSl 1 x6 (AV.i .i64 4) h fun v169 =>
pLoad1 v169 h fun v170 =>
asI .i64 v170 fun n171 =>
withI (IntKind.wrap .i64 (n171 * 60)) fun n172 =>
withI (IntKind.wrap .i64 (n168 + n172)) fun n173 =>
pIdxAddrSl 1 x6 (AV.i .i64 5) h fun v174 =>
pLoad1 v174 h fun v175 =>
asI .i64 v175 fun n176 =>
withI (IntKind.wrap .i64 (n173 + n176)) fun n177 =>
Q (AV.tu [(AV.i .i64 n177), (AV.b true)]) h))
theorem G_der_Time.t5_eq (J : JT) (Q : AV → AHeap → Prop) (x6 : AV) (x7 : Int) (x8 : Int) (x9 : Int) (h : AHeap) : G_der_Time.t5 J Q x6 x7 x8 x9 h = atJ prog C 162 J true [1, 1, 1, 1, 1, 1, 1, 1, 1, 1, 1, 1, 0, 1, 0] G_der_Time.ann G_der_Time.body [(6, x6), (7, (AV.i .i64 x7)), (8, (AV.i .i64 x8)), (9, (AV.i .i64 x9))] h (kFun prog Tryd.f22 Q) := by kernel_rfl
theorem G_der_Time.i5 {Q : AV → AHeap → Prop} {x6 : AV} {x7 : Int} {x8 : Int} {x9 : Int} {h : AHeap} (H : G_der_Time.t5 (G_der_Time.J Q) Q x6 x7 x8 x9 h) : G_der_Time.p5 Q x6 x7 x8 x9 h := G_der_Time.goH (k := 6) (p := [1, 1, 1, 1, 1, 1, 1, 1, 1, 1, 1, 1, 0, 1, 0]) (by kernel_rfl) ((G_der_Time.t5_eq (G_der_Time.J Q) Q x6 x7 x8 x9 h).mp H)
def G_der_Time.t3 (J : JT) (Q : AV → AHeap → Prop) (x6 : AV) (x7 : Int) (h : AHeap) : Prop :=
(bif (decide ((x7 : Int) < 1970)) then
(J 5 [(6, x6), (7, (AV.i .i64 x7)), (126, (AV.b true))] h)
else
(pIdxAddrSl 1 x6 (AV.i .i64 1) h fun v88 =>
pLoad1 v88 h fun v89 =>
asI .i64 v89 fun n90 =>
(bif (decide ((n90 : Int) < 1)) then
(J 5 [(6, x6), (7, (AV.i .i64 x7)), (126, (AV.b true))] h)
else
(pIdxAddrSl 1 x6 (AV.i .i64 1) h fun v92 =>
pLoad1 v92 h fun v93 =>
asI .i64 v93 fun n94 =>
(bif (decide ((12 : Int) < n94)) then
(J 5 [(6, x6), (7, (AV.i .i64 x7)), (126, (AV.b true))] h)
else
(pIdxAddrSl 1 x6 (AV.i .i64 2) h fun v96 =>
pLoad1 v96 h fun v97 =>
asI .i64 v97 fun n98 =>
(bif (decide ((n98 : Int) < 1)) then
(J 5 [(6, x6), (7, (AV.i .i64 x7)), (126, (AV.b true))] h)
else
(pIdxAddrSl 1 x6 (AV.i .i64 2) h fun v100 =>
pLoad1 v100 h fun v101 =>
asI .i64 v101 fun n102 =>
pIdxAddrSl 1 x6 (AV.i .i64 1) h fun v103 =>
pLoad1 v103 h fun v104 =>
asI .i64 v104 fun n105 =>
C G_der_days.id [(AV.i .i64 x7), (AV.i .i64 n105)] h fun v106 h107 =>
asI .i64 v106 fun n108 =>
pIdxAddrSl 1 x6 (AV.i .i64 1) h107 fun v109 =>
(v103 = v109 ∧
(pLoad1 v100 h107 fun v110 =>
asI .i64 v110 fun n111 =>
((AV.i .i64 n102) = (AV.i .i64 n111) ∧
(pIdxAddrSl 1 x6 (AV.i .i64 2) h107 fun v112 =>
(v100 = v112 ∧
(pLoad1 v96 h107 fun v113 =>
asI .i64 v113 fun n114 =>
((AV.i .i64 n98) = (AV.i .i64 n114) ∧
(pIdxAddrSl 1 x6 (AV.i .i64 2) h107 fun v115 =>
(v96 = v115 ∧
(pLoad1 v92 h107 fun v116 =>
asI .i64 v116 fun n117 =>
((AV.i .i64 n94) = (AV.i .i64 n117) ∧
(pIdxAddrSl 1 x6 (AV.i .i64 1) h107 fun v118 =>
(v92 = v118 ∧
(pLoad1 v88 h107 fun v119 =>
asI .i64 v119 fun n120 =>
((AV.i .i64 n90) = (AV.i .i64 n120) ∧
(pIdxAddrSl 1 x6 (AV.i .i64 1) h107 fun v121 =>
(v88 = v121 ∧
((bif (decide ((n108 : Int) < n102)) then
(J 5 [(6, x6), (7, (AV.i .i64 x7)), (126, (AV.b true))] h107)
else
(pIdxAddrSl 1 x6 (AV.i .i64 3) h107 fun v123 =>
pLoad1 v123 h107 fun v124 =>
asI .i64 v124 fun n125 =>
(bif (decide ((23 : Int) < n125)) then
(J 5 [(6, x6), (7, (AV.i .i64 x7)), (126, (AV.b true))] h107)
else
(pIdxAddrSl 1 x6 (AV.i .i64 4) h107 fun v127 =>
pLoad1 v127 h107 fun v128 =>
asI .i64 v128 fun n129 =>
(bif (decide ((59 : Int) < n129)) then
(J 5 [(6, x6), (7, (AV.i .i64 x7)), (126, (AV.b true))] h107)
else
(pIdxAddrSl 1 x6 (AV.i .i64 5) h107 fun v131 =>
pLoad1 v131 h107 fun v132 =>
asI .i64 v132 fun n133 =>
J 5 [(6, x6), (7, (AV.i .i64 x7)), (126, (AV.b (decide ((59 : Int) < n133))))] h107))))))))))))))))))))))))))))))))
theorem G_der_Time.t3_eq (J : JT) (Q : AV → AHeap → Prop) (x6 : AV) (x7 : Int) (h : AHeap) : G_der_Time.t3 J Q x6 x7 h = atJ prog C 162 J false [1, 1, 1, 1, 1, 1, 1, 1, 1, 1] G_der_Time.ann G_der_Time.body [(6, x6), (7, (AV.i .i64 x7))] h (kFun prog Tryd.f22 Q) := by kernel_rfl
theorem G_der_Time.i3 {Q : AV → AHeap → Prop} {x6 : AV} {x7 : Int} {h : AHeap} (H : G_der_Time.t3 (G_der_Time.J Q) Q x6 x7 h) : G_der_Time.p3 Q x6 x7 h := G_der_Time.goR (k := 4) (p := [1, 1, 1, 1, 1, 1, 1, 1, 1, 1]) (by kernel_rfl) ((G_der_Time.t3_eq (G_der_Time.J Q) Q x6 x7 h).mp H)
def G_der_Time.t0 (J : JT) (Q : AV → AHeap → Prop) (x1 : AV) (x4 : Int) (h : AHeap) : Prop :=
pFieldAddr 3 x1 fun v17 =>
pLoad1 v17 h fun v18 =>
asS v18 fun l19 =>
(bif (!decide (((l19.length : Int) : Int) = x4)) then
(J 2 [(1, x1), (4, (AV.i .i64 x4)), (27, (AV.b true))] h)
else
(pFieldAddr 3 x1 fun v21 =>
pLoad1 v21 h fun v22 =>
asS v22 fun l23 =>
withI (IntKind.wrap .i64 (x4 - 1)) fun n24 =>
pIdxStr (AV.s l23) (AV.i .i64 n24) fun n25 =>
J 2 [(1, x1), (4, (AV.i .i64 x4)), (27, (AV.b (!decide ((n25 : Int) = 90))))] h))
theorem G_der_Time.t0_eq (J : JT) (Q : AV → AHeap → Prop) (x1 : AV) (x4 : Int) (h : AHeap) : G_der_Time.t0 J Q x1 x4 h = atJ prog C 162 J false [1, 1, 1] G_der_Time.ann G_der_Time.body [(1, x1), (4, (AV.i .i64 x4))] h (kFun prog Tryd.f22 Q) := by kernel_rfl
theorem G_der_Time.i0 {Q : AV → AHeap → Prop} {x1 : AV} {x4 : Int} {h : AHeap} (H : G_der_Time.t0 (G_der_Time.J Q) Q x1 x4 h) : G_der_Time.p0 Q x1 x4 h := G_der_Time.goR (k := 1) (p := [1, 1, 1]) (by kernel_rfl) ((G_der_Time.t0_eq (G_der_Time.J Q) Q x1 x4 h).mp H)
def G_der_Time.t (J : JT) (Q : AV → AHeap → Prop) (x0 : AV) (h : AHeap) : Prop :=
pBox x0 h fun v0 h1 =>
pLoadN 5 v0 h1 fun v4 =>
C G_der_plain.id [v4, (AV.i .i64 24)] h1 fun v5 h6 =>
asB v5 fun c7 =>
(bif c7 then
(J 1 [(1, v0), (4, (AV.i .i64 15))] h6)
else
(pLoadN 5 v0 h6 fun v10 =>
C G_der_plain.id [v10, (AV.i .i64 23)] h6 fun v11 h12 =>
asB v11 fun c13 =>
(bif (!c13) then
(Q (AV.tu [(AV.i .i64 0), (AV.b false)]) h12)
else
(J 1 [(1, v0), (4, (AV.i .i64 13))] h12))))
theorem G_der_Time.t_eq (J : JT) (Q : AV → AHeap → Prop) (x0 : AV) (h : AHeap) : G_der_Time.t J Q x0 h = exJ prog C 162 J G_der_Time.ann G_der_Time.body (initEnv 0 [x0]) h (kFun prog Tryd.f22 Q) := by kernel_rfl
theorem G_der_Time.call {K : AV → AHeap → Prop} {x0 : AV} {h : AHeap} (H : G_der_Time.t (G_der_Time.J (kRet h K)) (kRet h K) x0 h) : C G_der_Time.id [x0] h K :=
  callJ (P := prog) (fn := Tryd.f22) (ann := G_der_Time.ann) (body := G_der_Time.body) Tryd.func22 G_der_Time.body_eq (by kernel_rfl) G_der_Time.dist (by kernel_rfl) ((G_der_Time.t_eq (G_der_Time.J (kRet h K)) (kRet h K) x0 h).mp H)

--@@ G_ref33_Time
/-! ### 23: intrusion/intrusionref33.Time -/
noncomputable def G_ref33_Time.body : Code := (Tryd.f23.body).getD .skip
def G_ref33_Time.ann : Ann := (.seq 0 [1] .leaf (.seq 0 [1, 4] .leaf (.seq 3 [4] (.one (.seq 1 [1, 4, 11] .leaf (.br (.seq 0 [4, 21] .leaf (.br .leaf .leaf)) (.seq 2 [4, 26] .leaf (.br .leaf (.seq 0 [2, 3] .leaf .leaf)))))) (.seq 0 [4] (.seq 0 [4, 36] .leaf (.br (.seq 0 [2, 3] .leaf .leaf) .leaf)) (.seq 0 [4, 5] .leaf (.seq 0 [4, 5, 6] .leaf (.seq 0 [5, 6] (.seq 0 [4, 5, 6, 7] .leaf (.one (.loop 4 [4, 5, 6, 7] (.seq 0 [4, 5, 6, 7] (.seq 0 [4, 5, 6, 7, 38] .leaf (.br .leaf .leaf)) (.seq 6 [4, 5, 6, 7] (.one (.seq 0 [4, 5, 6, 7] (.seq 5 [4, 5, 6, 7, 50] .leaf (.br (.seq 0 [2, 3] .leaf .leaf) .leaf)) (.seq 0 [4, 5, 6, 7, 8] .leaf (.seq 0 [4, 5, 6, 7, 8, 57] .leaf (.br .leaf (.seq 0 [4, 5, 6, 7, 8, 64] .leaf (.br .leaf .leaf))))))) .leaf))))) (.seq 0 [5, 6] (.seq 7 [5, 6, 127] (.ord (.neu 0 (.neu 1 (.neu 2 (.neu 3 (.neu 4 (.neu 5 (.neu 6 (.neu 7 (.neu 8 (.neu 9 (.neu 10 (.neu 11 (.neu 12 (.neu 13 (.neu 14 (.neu 15 (.neu 16 (.neu 17 (.neu 18 (.neu 19 (.neu 20 (.neu 21 (.neu 22 (.neu 23 (.neu 24 (.neu 25 (.neu 26 (.neu 27 (.eff 28 (.neu 29 (.neu 30 (.neu 31 (.neu 32 (.neu 33 (.neu 34 (.neu 35 (.neu 36 (.neu 37 (.neu 38 (.neu 39 (.neu 40 (.neu 41 (.neu 42 (.neu 43 (.neu 44 (.neu 45 (.neu 46 (.neu 47 (.neu 48 .done)))))))))))))))))))) .stop)))))))))))))))))))))))))))))) (.br (.seq 0 [2, 3] .leaf .leaf) .leaf)) (.seq 0 [2, 3] (.ord (.neu 0 (.neu 1 (.neu 2 (.neu 3 (.neu 4 (.neu 5 (.neu 6 (.neu 7 (.neu 8 (.neu 9 (.neu 10 (.neu 11 (.neu 12 (.neu 13 (.neu 14 (.neu 15 (.eff 16 (.neu 17 (.neu 18 .done)) .stop)))))))))))))))))) .leaf)))))))))
theorem G_ref33_Time.body_eq : Tryd.f23.body = some G_ref33_Time.body := by kernel_rfl
theorem G_ref33_Time.dist : noTwice (places G_ref33_Time.ann G_ref33_Time.body) = true := by kernel_rfl
noncomputable def G_ref33_Time.J (Q : AV → AHeap → Prop) : JT := funJ prog C Tryd.f23 G_ref33_Time.ann G_ref33_Time.body Q
theorem G_ref33_Time.goR {Q : AV → AHeap → Prop} {k : Nat} {p : List Nat} (hl : lookJ (places G_ref33_Time.ann G_ref33_Time.body) k = some (p, false)) {e : Env} {h : AHeap} (hk : atJ prog C 145 (G_ref33_Time.J Q) false p G_ref33_Time.ann G_ref33_Time.body e h (kFun prog Tryd.f23 Q)) : G_ref33_Time.J Q k e h := goJ_run (P := prog) (fn := Tryd.f23) (ann := G_ref33_Time.ann) (body := G_ref33_Time.body) (Q := Q) (k := k) (p := p) (e := e) (h := h) (acall_le X) G_ref33_Time.dist hl hk
theorem G_ref33_Time.goH {Q : AV → AHeap → Prop} {k : Nat} {p : List Nat} (hl : lookJ (places G_ref33_Time.ann G_ref33_Time.body) k = some (p, true)) {e : Env} {h : AHeap} (hk : atJ prog C 145 (G_ref33_Time.J Q) true p G_ref33_Time.ann G_ref33_Time.body e h (kFun prog Tryd.f23 Q)) : G_ref33_Time.J Q k e h := goJ_head (P := prog) (fn := Tryd.f23) (ann := G_ref33_Time.ann) (body := G_ref33_Time.body) (Q := Q) (k := k) (p := p) (e := e) (h := h) (acall_le X) G_ref33_Time.dist hl hk
def G_ref33_Time.p1 (Q : AV → AHeap → Prop) (x4 : List UInt8) (x26 : Bool) (h : AHeap) : Prop := G_ref33_Time.J Q 2 [(4, (AV.s x4)), (26, (AV.b x26))] h
theorem G_ref33_Time.j1 (Q : AV → AHeap → Prop) (x4 : List UInt8) (x26 : Bool) (h : AHeap) : G_ref33_Time.J Q 2 [(4, (AV.s x4)), (26, (AV.b x26))] h = G_ref33_Time.p1 Q x4 x26 h := rfl
def G_ref33_Time.p0 (Q : AV → AHeap → Prop) (x1 : AV) (x4 : List UInt8) (x11 : Bool) (h : AHeap) : Prop := G_ref33_Time.J Q 1 [(1, x1), (4, (AV.s x4)), (11, (AV.b x11))] h
theorem G_ref33_Time.j0 (Q : AV → AHeap → Prop) (x1 : AV) (x4 : List UInt8) (x11 : Bool) (h : AHeap) : G_ref33_Time.J Q 1 [(1, x1), (4, (AV.s x4)), (11, (AV.b x11))] h = G_ref33_Time.p0 Q x1 x4 x11 h := rfl
def G_ref33_Time.p4 (Q : AV → AHeap → Prop) (x4 : List UInt8) (x5 : AV) (x6 : Int) (x7 : Int) (x50 : Bool) (h : AHeap) : Prop := G_ref33_Time.J Q 5 [(4, (AV.s x4)), (5, x5), (6, (AV.i .i64 x6)), (7, (AV.i .i64 x7)), (50, (AV.b x50))] h
theorem G_ref33_Time.j4 (Q : AV → AHeap → Prop) (x4 : List UInt8) (x5 : AV) (x6 : Int) (x7 : Int) (x50 : Bool) (h : AHeap) : G_ref33_Time.J Q 5 [(4, (AV.s x4)), (5, x5), (6, (AV.i .i64 x6)), (7, (AV.i .i64 x7)), (50, (AV.b x50))] h = G_ref33_Time.p4 Q x4 x5 x6 x7 x50 h := rfl
def G_ref33_Time.p5 (Q : AV → AHeap → Prop) (x4 : List UInt8) (x5 : AV) (x6 : Int) (x7 : Int) (h : AHeap) : Prop := G_ref33_Time.J Q 6 [(4, (AV.s x4)), (5, x5), (6, (AV.i .i64 x6)), (7, (AV.i .i64 x7))] h
theorem G_ref33_Time.j5 (Q : AV → AHeap → Prop) (x4 : List UInt8) (x5 : AV) (x6 : Int) (x7 : Int) (h : AHeap) : G_ref33_Time.J Q 6 [(4, (AV.s x4)), (5, x5), (6, (AV.i .i64 x6)), (7, (AV.i .i64 x7))] h = G_ref33_Time.p5 Q x4 x5 x6 x7 h := rfl
def G_ref33_Time.p3 (Q : AV → AHeap → Prop) (x4 : List UInt8) (x5 : AV) (x6 : Int) (x7 : Int) (h : AHeap) : Prop := G_ref33_Time.J Q 4 [(4, (AV.s x4)), (5, x5), (6, (AV.i .i64 x6)), (7, (AV.i .i64 x7))] h
theorem G_ref33_Time.j3 (Q : AV → AHeap → Prop) (x4 : List UInt8) (x5 : AV) (x6 : Int) (x7 : Int) (h : AHeap) : G_ref33_Time.J Q 4 [(4, (AV.s x4)), (5, x5), (6, (AV.i .i64 x6)), (7, (AV.i .i64 x7))] h = G_ref33_Time.p3 Q x4 x5 x6 x7 h := rfl
def G_ref33_Time.p6 (Q : AV → AHeap → Prop) (x5 : AV) (x6 : Int) (x127 : Bool) (h : AHeap) : Prop := G_ref33_Time.J Q 7 [(5, x5), (6, (AV.i .i64 x6)), (127, (AV.b x127))] h
theorem G_ref33_Time.j6 (Q : AV → AHeap → Prop) (x5 : AV) (x6 : Int) (x127 : Bool) (h : AHeap) : G_ref33_Time.J Q 7 [(5, x5), (6, (AV.i .i64 x6)), (127, (AV.b x127))] h = G_ref33_Time.p6 Q x5 x6 x127 h := rfl
def G_ref33_Time.p2 (Q : AV → AHeap → Prop) (x4 : List UInt8) (h : AHeap) : Prop := G_ref33_Time.J Q 3 [(4, (AV.s x4))] h
theorem G_ref33_Time.j2 (Q : AV → AHeap → Prop) (x4 : List UInt8) (h : AHeap) : G_ref33_Time.J Q 3 [(4, (AV.s x4))] h = G_ref33_Time.p2 Q x4 h := rfl
def G_ref33_Time.t1 (J : JT) (Q : AV → AHeap → Prop) (x4 : List UInt8) (x26 : Bool) (h : AHeap) : Prop :=
(bif x26 then
(J 3 [(4, (AV.s x4))] h)
else
(Q (AV.tu [(AV.i .i64 0), (AV.b false)]) h))
theorem G_ref33_Time.t1_eq (J : JT) (Q : AV → AHeap → Prop) (x4 : List UInt8) (x26 : Bool) (h : AHeap) : G_ref33_Time.t1 J Q x4 x26 h = atJ prog C 145 J false [1, 1, 0, 0, 1, 1, 1] G_ref33_Time.ann G_ref33_Time.body [(4, (AV.s x4)), (26, (AV.b x26))] h (kFun prog Tryd.f23 Q) := by kernel_rfl
theorem G_ref33_Time.i1 {Q : AV → AHeap → Prop} {x4 : List UInt8} {x26 : Bool} {h : AHeap} (H : G_ref33_Time.t1 (G_ref33_Time.J Q) Q x4 x26 h) : G_ref33_Time.p1 Q x4 x26 h := G_ref33_Time.goR (k := 2) (p := [1, 1, 0, 0, 1, 1, 1]) (by kernel_rfl) ((G_ref33_Time.t1_eq (G_ref33_Time.J Q) Q x4 x26 h).mp H)
def G_ref33_Time.t0 (J : JT) (Q : AV → AHeap → Prop) (x1 : AV) (x4 : List UInt8) (x11 : Bool) (h : AHeap) : Prop :=
(bif x11 then
(pIdxStr (AV.s x4) (AV.i .i64 0) fun n13 =>
(bif (decide ((53 : Int) ≤ n13)) then
(pCat [49, 57] x4 fun l15 =>
J 3 [(4, (AV.s l15))] h)
else
(pCat [50, 48] x4 fun l17 =>
J 3 [(4, (AV.s l17))] h)))
else
(pLoadN 5 x1 h fun v19 =>
C G_ref33_plain.id [v19, (AV.i .i64 24)] h fun v20 h21 =>
asB v20 fun c22 =>
(bif c22 then
(J 2 [(4, (AV.s x4)), (26, (AV.b (decide (((x4.length : Int) : Int) = 15))))] h21)
else
(J 2 [(4, (AV.s x4)), (26, (AV.b false))] h21))))
theorem G_ref33_Time.t0_eq (J : JT) (Q : AV → AHeap → Prop) (x1 : AV) (x4 : List UInt8) (x11 : Bool) (h : AHeap) : G_ref33_Time.t0 J Q x1 x4 x11 h = atJ prog C 145 J false [1, 1, 0, 0, 1] G_ref33_Time.ann G_ref33_Time.body [(1, x1), (4, (AV.s x4)), (11, (AV.b x11))] h (kFun prog Tryd.f23 Q) := by kernel_rfl
theorem G_ref33_Time.i0 {Q : AV → AHeap → Prop} {x1 : AV} {x4 : List UInt8} {x11 : Bool} {h : AHeap} (H : G_ref33_Time.t0 (G_ref33_Time.J Q) Q x1 x4 x11 h) : G_ref33_Time.p0 Q x1 x4 x11 h := G_ref33_Time.goR (k := 1) (p := [1, 1, 0, 0, 1]) (by kernel_rfl) ((G_ref33_Time.t0_eq (G_ref33_Time.J Q) Q x1 x4 x11 h).mp H)
def G_ref33_Time.t4 (J : JT) (Q : AV → AHeap → Prop) (x4 : List UInt8) (x5 : AV) (x6 : Int) (x7 : Int) (x50 : Bool) (h : AHeap) : Prop :=
(bif x50 then
(Q (AV.tu [(AV.i .i64 0), (AV.b false)]) h)
else
(pIdxStr (AV.s x4) (AV.i .i64 x7) fun n43 =>
withI (IntKind.wrap .i64 ((IntKind.wrap .i64 n43) - 48)) fun n44 =>
(bif (decide ((x7 : Int) < 4)) then
(withI (IntKind.wrap .i64 (10 * x6)) fun n47 =>
withI (IntKind.wrap .i64 (n47 + n44)) fun n48 =>
J 6 [(4, (AV.s x4)), (5, x5), (6, (AV.i .i64 n48)), (7, (AV.i .i64 x7))] h)
else
(pRem x7 2 fun n50 =>
(bif (decide ((n50 : Int) = 0)) then
(withI (IntKind.wrap .i64 (10 * n44)) fun n52 =>
pBuildSl 1 1 [(AV.i .i64 0)] [(0, 1, (AV.i .i64 n52))] h fun v53 h54 =>
pAppend 1 8 x5 v53 h54 fun v55 h56 =>
J 6 [(4, (AV.s x4)), (5, v55), (6, (AV.i .i64 x6)), (7, (AV.i .i64 x7))] h56)
else
(pLenSl x5 fun n58 =>
withI (IntKind.wrap .i64 (n58 - 1)) fun n59 =>
pIdxAddrSl 1 x5 (AV.i .i64 n59) h fun v60 =>
pLoad1 v60 h fun v61 =>
asI .i64 v61 fun n62 =>
withI (IntKind.wrap .i64 (n62 + n44)) fun n63 =>
pIdxAddrSl 1 x5 (AV.i .i64 n59) h fun v64 =>
pStore 1 v64 (AV.i .i64 n63) h fun h65 =>
J 6 [(4, (AV.s x4)), (5, x5), (6, (AV.i .i64 x6)), (7, (AV.i .i64 x7))] h65))))))
theorem G_ref33_Time.t4_eq (J : JT) (Q : AV → AHeap → Prop) (x4 : List UInt8) (x5 : AV) (x6 : Int) (x7 : Int) (x50 : Bool) (h : AHeap) : G_ref33_Time.t4 J Q x4 x5 x6 x7 x50 h = atJ prog C 145 J false [1, 1, 1, 1, 1, 1, 0, 1, 0, 0, 1, 0, 0, 0, 1] G_ref33_Time.ann G_ref33_Time.body [(4, (AV.s x4)), (5, x5), (6, (AV.i .i64 x6)), (7, (AV.i .i64 x7)), (50, (AV.b x50))] h (kFun prog Tryd.f23 Q) := by kernel_rfl
theorem G_ref33_Time.i4 {Q : AV → AHeap → Prop} {x4 : List UInt8} {x5 : AV} {x6 : Int} {x7 : Int} {x50 : Bool} {h : AHeap} (H : G_ref33_Time.t4 (G_ref33_Time.J Q) Q x4 x5 x6 x7 x50 h) : G_ref33_Time.p4 Q x4 x5 x6 x7 x50 h := G_ref33_Time.goR (k := 5) (p := [1, 1, 1, 1, 1, 1, 0, 1, 0, 0, 1, 0, 0, 0, 1]) (by kernel_rfl) ((G_ref33_Time.t4_eq (G_ref33_Time.J Q) Q x4 x5 x6 x7 x50 h).mp H)
def G_ref33_Time.t5 (J : JT) (Q : AV → AHeap → Prop) (x4 : List UInt8) (x5 : AV) (x6 : Int) (x7 : Int) (h : AHeap) : Prop :=
withI (IntKind.wrap .i64 (x7 + 1)) fun n67 =>
J 4 [(4, (AV.s x4)), (5, x5), (6, (AV.i .i64 x6)), (7, (AV.i .i64 n67))] h
theorem G_ref33_Time.t5_eq (J : JT) (Q : AV → AHeap → Prop) (x4 : List UInt8) (x5 : AV) (x6 : Int) (x7 : Int) (h : AHeap) : G_ref33_Time.t5 J Q x4 x5 x6 x7 h = atJ prog C 145 J false [1, 1, 1, 1, 1, 1, 0, 1, 0, 0, 1, 1] G_ref33_Time.ann G_ref33_Time.body [(4, (AV.s x4)), (5, x5), (6, (AV.i .i64 x6)), (7, (AV.i .i64 x7))] h (kFun prog Tryd.f23 Q) := by kernel_rfl
theorem G_ref33_Time.i5 {Q : AV → AHeap → Prop} {x4 : List UInt8} {x5 : AV} {x6 : Int} {x7 : Int} {h : AHeap} (H : G_ref33_Time.t5 (G_ref33_Time.J Q) Q x4 x5 x6 x7 h) : G_ref33_Time.p5 Q x4 x5 x6 x7 h := G_ref33_Time.goR (k := 6) (p := [1, 1, 1, 1, 1, 1, 0, 1, 0, 0, 1, 1]) (by kernel_rfl) ((G_ref33_Time.t5_eq (G_ref33_Time.J Q) Q x4 x5 x6 x7 h).mp H)
def G_ref33_Time.t3 (J : JT) (Q : AV → AHeap → Prop) (x4 : List UInt8) (x5 : AV) (x6 : Int) (x7 : Int) (h : AHeap) : Prop :=
(bif (decide ((x7 : Int) < 14)) then
(pIdxStr (AV.s x4) (AV.i .i64 x7) fun n37 =>
(bif (decide ((n37 : Int) < 48)) then
(J 5 [(4, (AV.s x4)), (5, x5), (6, (AV.i .i64 x6)), (7, (AV.i .i64 x7)), (50, (AV.b true))] h)
else
(pIdxStr (AV.s x4) (AV.i .i64 x7) fun n39 =>
J 5 [(4, (AV.s x4)), (5, x5), (6, (AV.i .i64 x6)), (7, (AV.i .i64 x7)), (50, (AV.b (decide ((57 : Int) < n39))))] h)))
else
((bif (decide ((x6 : Int) < 1970)) then
(J 7 [(5, x5), (6, (AV.i .i64 x6)), (127, (AV.b true))] h)
else
(pIdxAddrSl 1 x5 (AV.i .i64 0) h fun v70 =>
pLoad1 v70 h fun v71 =>
asI .i64 v71 fun n72 =>
(bif (decide ((n72 : Int) < 1)) then
(J 7 [(5, x5), (6, (AV.i .i64 x6)), (127, (AV.b true))] h)
else
(pIdxAddrSl 1 x5 (AV.i .i64 0) h fun v74 =>
pLoad1 v74 h fun v75 =>
asI .i64 v75 fun n76 =>
(bif (decide ((12 : Int) < n76)) then
(J 7 [(5, x5), (6, (AV.i .i64 x6)), (127, (AV.b true))] h)
else
(pIdxAddrSl 1 x5 (AV.i .i64 1) h fun v78 =>
pLoad1 v78 h fun v79 =>
asI .i64 v79 fun n80 =>
(bif (decide ((n80 : Int) < 1)) then
(J 7 [(5, x5), (6, (AV.i .i64 x6)), (127, (AV.b true))] h)
else
(pIdxAddrSl 1 x5 (AV.i .i64 1) h fun v82 =>
pLoad1 v82 h fun v83 =>
asI .i64 v83 fun n84 =>
pIdxAddrSl 1 x5 (AV.i .i64 0) h fun v85 =>
pLoad1 v85 h fun v86 =>
asI .i64 v86 fun n87 =>
C G_ref33_days.id [(AV.i .i64 x6), (AV.i .i64 n87)] h fun v88 h89 =>
asI .i64 v88 fun n90 =>
pIdxAddrSl 1 x5 (AV.i .i64 0) h89 fun v91 =>
(v85 = v91 ∧
(pLoad1 v82 h89 fun v92 =>
asI .i64 v92 fun n93 =>
((AV.i .i64 n84) = (AV.i .i64 n93) ∧
(pIdxAddrSl 1 x5 (AV.i .i64 1) h89 fun v94 =>
(v82 = v94 ∧
(pLoad1 v78 h89 fun v95 =>
asI .i64 v95 fun n96 =>
((AV.i .i64 n80) = (AV.i .i64 n96) ∧
(pIdxAddrSl 1 x5 (AV.i .i64 1) h89 fun v97 =>
(v78 = v97 ∧
(pLoad1 v74 h89 fun v98 =>
asI .i64 v98 fun n99 =>
((AV.i .i64 n76) = (AV.i .i64 n99) ∧
(pIdxAddrSl 1 x5 (AV.i .i64 0) h89 fun v100 =>
(v74 = v100 ∧
(pLoad1 v70 h89 fun v101 =>
asI .i64 v101 fun n102 =>
((AV.i .i64 n72) = (AV.i .i64 n102) ∧
(pIdxAddrSl 1 x5 (AV.i .i64 0) h89 fun v103 =>
(v70 = v103 ∧
((bif (decide ((n90 : Int) < n84)) then
(J 7 [(5, x5), (6, (AV.i .i64 x6)), (127, (AV.b true))] h89)
else
(pIdxAddrSl 1 x5 (AV.i .i64 2) h89 fun v105 =>
pLoad1 v105 h89 fun v106 =>
asI .i64 v106 fun n107 =>
(bif (decide ((23 : Int) < n107)) then
(J 7 [(5, x5), (6, (AV.i .i64 x6)), (127, (AV.b true))] h89)
else
(pIdxAddrSl 1 x5 (AV.i .i64 3) h89 fun v109 =>
pLoad1 v109 h89 fun v110 =>
asI .i64 v110 fun n111 =>
(bif (decide ((59 : Int) < n111)) then
(J 7 [(5, x5), (6, (AV.i .i64 x6)), (127, (AV.b true))] h89)
else
(pIdxAddrSl 1 x5 (AV.i .i64 4) h89 fun v113 =>
pLoad1 v113 h89 fun v114 =>
asI .i64 v114 fun n115 =>
J 7 [(5, x5), (6, (AV.i .i64 x6)), (127, (AV.b (decide ((59 : Int) < n115))))] h89))))))))))))))))))))))))))))))))))
theorem G_ref33_Time.t3_eq (J : JT) (Q : AV → AHeap → Prop) (x4 : List UInt8) (x5 : AV) (x6 : Int) (x7 : Int) (h : AHeap) : G_ref33_Time.t3 J Q x4 x5 x6 x7 h = atJ prog C 145 J true [1, 1, 1, 1, 1, 1, 0, 1, 0] G_ref33_Time.ann G_ref33_Time.body [(4, (AV.s x4)), (5, x5), (6, (AV.i .i64 x6)), (7, (AV.i .i64 x7))] h (kFun prog Tryd.f23 Q) := by kernel_rfl
theorem G_ref33_Time.i3 {Q : AV → AHeap → Prop} {x4 : List UInt8} {x5 : AV} {x6 : Int} {x7 : Int} {h : AHeap} (H : G_ref33_Time.t3 (G_ref33_Time.J Q) Q x4 x5 x6 x7 h) : G_ref33_Time.p3 Q x4 x5 x6 x7 h := G_ref33_Time.goH (k := 4) (p := [1, 1, 1, 1, 1, 1, 0, 1, 0]) (by kernel_rfl) ((G_ref33_Time.t3_eq (G_ref33_Time.J Q) Q x4 x5 x6 x7 h).mp H)
def G_ref33_Time.t6 (J : JT) (Q : AV → AHeap → Prop) (x5 : AV) (x6 : Int) (x127 : Bool) (h : AHeap) : Prop :=
(bif x127 then
(Q (AV.tu [(AV.i .i64 0), (AV.b false)]) h)
else
(pIdxAddrSl 1 x5 (AV.i .i64 0) h fun v119 =>
pLoad1 v119 h fun v120 =>
asI .i64 v120 fun n121 =>
pIdxAddrSl 1 x5 (AV.i .i64 1) h fun v122 =>
pLoad1 v122 h fun v123 =>
asI .i64 v123 fun n124 =>
pIdxAddrSl 1 x5 (AV.i .i64 2) h fun v125 =>
pLoad1 v125 h fun v126 =>
asI .i64 v126 fun n127 =>
pIdxAddrSl 1 x5 (AV.i .i64 3) h fun v128 =>
pLoad1 v128 h fun v129 =>
asI .i64 v129 fun n130 =>
pIdxAddrSl 1 x5 (AV.i .i64 4) h fun v131 =>
pLoad1 v131 h fun v132 =>
asI .i64 v132 fun n133 =>
C G_ref33_Seconds.id [(AV.i .i64 x6), (AV.i .i64 n121), (AV.i .i64 n124), (AV.i .i64 n127), (AV.i .i64 n130), (AV.i .i64 n133)] h fun v134 h135 =>
asI .i64 v134 fun n136 =>
pIdxAddrSl 1 x5 (AV.i .i64 4) h135 fun v137 =>
(v131 = v137 ∧
(pIdxAddrSl 1 x5 (AV.i .i64 3) h135 fun v138 =>
(v128 = v138 ∧
(pIdxAddrSl 1 x5 (AV.i .i64 2) h135 fun v139 =>
(v125 = v139 ∧
(pIdxAddrSl 1 x5 (AV.i .i64 1) h135 fun v140 =>
(v122 = v140 ∧
(pIdxAddrSl 1 x5 (AV.i .i64 0) h135 fun v141 =>
(v119 = v141 ∧
(Q (AV.tu [(AV.i .i64 n136), (AV.b true)]) h135))))))))))))
theorem G_ref33_Time.t6_eq (J : JT) (Q : AV → AHeap → Prop) (x5 : AV) (x6 : Int) (x127 : Bool) (h : AHeap) : G_ref33_Time.t6 J Q x5 x6 x127 h = atJ prog C 145 J false [1, 1, 1, 1, 1, 1, 1, 0, 1] G_ref33_Time.ann G_ref33_Time.body [(5, x5), (6, (AV.i .i64 x6)), (127, (AV.b x127))] h (kFun prog Tryd.f23 Q) := by kernel_rfl
theorem G_ref33_Time.i6 {Q : AV → AHeap → Prop} {x5 : AV} {x6 : Int} {x127 : Bool} {h : AHeap} (H : G_ref33_Time.t6 (G_ref33_Time.J Q) Q x5 x6 x127 h) : G_ref33_Time.p6 Q x5 x6 x127 h := G_ref33_Time.goR (k := 7) (p := [1, 1, 1, 1, 1, 1, 1, 0, 1]) (by kernel_rfl) ((G_ref33_Time.t6_eq (G_ref33_Time.J Q) Q x5 x6 x127 h).mp H)
def G_ref33_Time.t2 (J : JT) (Q : AV → AHeap → Prop) (x4 : List UInt8) (h : AHeap) : Prop :=
pIdxStr (AV.s x4) (AV.i .i64 14) fun n27 =>
(bif (!decide ((n27 : Int) = 90)) then
(Q (AV.tu [(AV.i .i64 0), (AV.b false)]) h)
else
(J 4 [(4, (AV.s x4)), (5, (AV.sl none 0 none)), (6, (AV.i .i64 0)), (7, (AV.i .i64 0))] h))
theorem G_ref33_Time.t2_eq (J : JT) (Q : AV → AHeap → Prop) (x4 : List UInt8) (h : AHeap) : G_ref33_Time.t2 J Q x4 h = atJ prog C 145 J false [1, 1, 1] G_ref33_Time.ann G_ref33_Time.body [(4, (AV.s x4))] h (kFun prog Tryd.f23 Q) := by kernel_rfl
theorem G_ref33_Time.i2 {Q : AV → AHeap → Prop} {x4 : List UInt8} {h : AHeap} (H : G_ref33_Time.t2 (G_ref33_Time.J Q) Q x4 h) : G_ref33_Time.p2 Q x4 h := G_ref33_Time.goR (k := 3) (p := [1, 1, 1]) (by kernel_rfl) ((G_ref33_Time.t2_eq (G_ref33_Time.J Q) Q x4 h).mp H)
def G_ref33_Time.t (J : JT) (Q : AV → AHeap → Prop) (x0 : AV) (h : AHeap) : Prop :=
pBox x0 h fun v0 h1 =>
pFieldAddr 3 v0 fun v3 =>
pLoad1 v3 h1 fun v4 =>
asS v4 fun l5 =>
pLoadN 5 v0 h1 fun v7 =>
C G_ref33_plain.id [v7, (AV.i .i64 23)] h1 fun v8 h9 =>
asB v8 fun c10 =>
(bif c10 then
(J 1 [(1, v0), (4, (AV.s l5)), (11, (AV.b (decide (((l5.length : Int) : Int) = 13))))] h9)
else
(J 1 [(1, v0), (4, (AV.s l5)), (11, (AV.b false))] h9))
theorem G_ref33_Time.t_eq (J : JT) (Q : AV → AHeap → Prop) (x0 : AV) (h : AHeap) : G_ref33_Time.t J Q x0 h = exJ prog C 145 J G_ref33_Time.ann G_ref33_Time.body (initEnv 0 [x0]) h (kFun prog Tryd.f23 Q) := by kernel_rfl
theorem G_ref33_Time.call {K : AV → AHeap → Prop} {x0 : AV} {h : AHeap} (H : G_ref33_Time.t (G_ref33_Time.J (kRet h K)) (kRet h K) x0 h) : C G_ref33_Time.id [x0] h K :=
  callJ (P := prog) (fn := Tryd.f23) (ann := G_ref33_Time.ann) (body := G_ref33_Time.body) Tryd.func23 G_ref33_Time.body_eq (by kernel_rfl) G_ref33_Time.dist (by kernel_rfl) ((G_ref33_Time.t_eq (G_ref33_Time.J (kRet h K)) (kRet h K) x0 h).mp H)

--@@ G_der_Text
/-! ### 24: intrusion/der.Text -/
noncomputable def G_der_Text.body : Code := (Tryd.f24.body).getD .skip
def G_der_Text.ann : Ann := (.seq 0 [1] .leaf (.seq 0 [1] (.seq 1 [1, 16] .leaf (.br (.seq 0 [2, 3] .leaf .leaf) .leaf)) (.seq 0 [1] (.seq 0 [1, 21] .leaf (.br (.seq 0 [2, 3] .leaf .leaf) .leaf)) (.seq 0 [2, 3] .leaf .leaf))))
theorem G_der_Text.body_eq : Tryd.f24.body = some G_der_Text.body := by kernel_rfl
theorem G_der_Text.dist : noTwice (places G_der_Text.ann G_der_Text.body) = true := by kernel_rfl
noncomputable def G_der_Text.J (Q : AV → AHeap → Prop) : JT := funJ prog C Tryd.f24 G_der_Text.ann G_der_Text.body Q
theorem G_der_Text.goR {Q : AV → AHeap → Prop} {k : Nat} {p : List Nat} (hl : lookJ (places G_der_Text.ann G_der_Text.body) k = some (p, false)) {e : Env} {h : AHeap} (hk : atJ prog C 24 (G_der_Text.J Q) false p G_der_Text.ann G_der_Text.body e h (kFun prog Tryd.f24 Q)) : G_der_Text.J Q k e h := goJ_run (P := prog) (fn := Tryd.f24) (ann := G_der_Text.ann) (body := G_der_Text.body) (Q := Q) (k := k) (p := p) (e := e) (h := h) (acall_le X) G_der_Text.dist hl hk
theorem G_der_Text.goH {Q : AV → AHeap → Prop} {k : Nat} {p : List Nat} (hl : lookJ (places G_der_Text.ann G_der_Text.body) k = some (p, true)) {e : Env} {h : AHeap} (hk : atJ prog C 24 (G_der_Text.J Q) true p G_der_Text.ann G_der_Text.body e h (kFun prog Tryd.f24 Q)) : G_der_Text.J Q k e h := goJ_head (P := prog) (fn := Tryd.f24) (ann := G_der_Text.ann) (body := G_der_Text.body) (Q := Q) (k := k) (p := p) (e := e) (h := h) (acall_le X) G_der_Text.dist hl hk
def G_der_Text.p0 (Q : AV → AHeap → Prop) (x1 : AV) (x16 : Bool) (h : AHeap) : Prop := G_der_Text.J Q 1 [(1, x1), (16, (AV.b x16))] h
theorem G_der_Text.j0 (Q : AV → AHeap → Prop) (x1 : AV) (x16 : Bool) (h : AHeap) : G_der_Text.J Q 1 [(1, x1), (16, (AV.b x16))] h = G_der_Text.p0 Q x1 x16 h := rfl
def G_der_Text.t0 (J : JT) (Q : AV → AHeap → Prop) (x1 : AV) (x16 : Bool) (h : AHeap) : Prop :=
(bif x16 then
(Q (AV.tu [(AV.s []), (AV.b false)]) h)
else
(pFieldAddr 3 x1 fun v20 =>
pLoad1 v20 h fun v21 =>
asS v21 fun l22 =>
pStrBytes (AV.s l22) h fun v23 h24 =>
C G_der_all_byte_.id [v23, (AV.fn (.func G_der_Text_1.id) [] [])] h24 fun v25 h26 =>
asB v25 fun c27 =>
(bif (!c27) then
(Q (AV.tu [(AV.s []), (AV.b false)]) h26)
else
(pFieldAddr 3 x1 fun v31 =>
pLoad1 v31 h26 fun v32 =>
asS v32 fun l33 =>
Q (AV.tu [(AV.s l33), (AV.b true)]) h26))))
theorem G_der_Text.t0_eq (J : JT) (Q : AV → AHeap → Prop) (x1 : AV) (x16 : Bool) (h : AHeap) : G_der_Text.t0 J Q x1 x16 h = atJ prog C 24 J false [1, 0, 1] G_der_Text.ann G_der_Text.body [(1, x1), (16, (AV.b x16))] h (kFun prog Tryd.f24 Q) := by kernel_rfl
theorem G_der_Text.i0 {Q : AV → AHeap → Prop} {x1 : AV} {x16 : Bool} {h : AHeap} (H : G_der_Text.t0 (G_der_Text.J Q) Q x1 x16 h) : G_der_Text.p0 Q x1 x16 h := G_der_Text.goR (k := 1) (p := [1, 0, 1]) (by kernel_rfl) ((G_der_Text.t0_eq (G_der_Text.J Q) Q x1 x16 h).mp H)
def G_der_Text.t (J : JT) (Q : AV → AHeap → Prop) (x0 : AV) (h : AHeap) : Prop :=
pBox x0 h fun v0 h1 =>
pLoadN 5 v0 h1 fun v3 =>
C G_der_plain.id [v3, (AV.i .i64 12)] h1 fun v4 h5 =>
asB v4 fun c6 =>
(bif (!c6) then
(pLoadN 5 v0 h5 fun v7 =>
C G_der_plain.id [v7, (AV.i .i64 19)] h5 fun v8 h9 =>
asB v8 fun c10 =>
(bif (!c10) then
(pLoadN 5 v0 h9 fun v11 =>
C G_der_plain.id [v11, (AV.i .i64 22)] h9 fun v12 h13 =>
asB v12 fun c14 =>
J 1 [(1, v0), (16, (AV.b (!c14)))] h13)
else
(J 1 [(1, v0), (16, (AV.b false))] h9)))
else
(J 1 [(1, v0), (16, (AV.b false))] h5))
theorem G_der_Text.t_eq (J : JT) (Q : AV → AHeap → Prop) (x0 : AV) (h : AHeap) : G_der_Text.t J Q x0 h = exJ prog C 24 J G_der_Text.ann G_der_Text.body (initEnv 0 [x0]) h (kFun prog Tryd.f24 Q) := by kernel_rfl
theorem G_der_Text.call {K : AV → AHeap → Prop} {x0 : AV} {h : AHeap} (H : G_der_Text.t (G_der_Text.J (kRet h K)) (kRet h K) x0 h) : C G_der_Text.id [x0] h K :=
  callJ (P := prog) (fn := Tryd.f24) (ann := G_der_Text.ann) (body := G_der_Text.body) Tryd.func24 G_der_Text.body_eq (by kernel_rfl) G_der_Text.dist (by kernel_rfl) ((G_der_Text.t_eq (G_der_Text.J (kRet h K)) (kRet h K) x0 h).mp H)

--@@ G_ref33_Text
/-! ### 25: intrusion/intrusionref33.Text -/
noncomputable def G_ref33_Text.body : Code := (Tryd.f25.body).getD .skip
def G_ref33_Text.ann : Ann := (.seq 0 [1] .leaf (.seq 0 [1] (.seq 1 [1, 17] .leaf (.br (.seq 0 [2, 3] .leaf .leaf) .leaf)) (.seq 0 [1] (.seq 0 [1, 4] .leaf (.one (.loop 2 [1, 4] (.seq 0 [1, 4] (.seq 0 [1, 4, 22] .leaf (.br .leaf .leaf)) (.seq 0 [1, 4] (.one (.seq 3 [1, 4, 36] .leaf (.br (.seq 0 [2, 3] .leaf .leaf) .leaf))) .leaf))))) (.seq 0 [2, 3] .leaf .leaf))))
theorem G_ref33_Text.body_eq : Tryd.f25.body = some G_ref33_Text.body := by kernel_rfl
theorem G_ref33_Text.dist : noTwice (places G_ref33_Text.ann G_ref33_Text.body) = true := by kernel_rfl
noncomputable def G_ref33_Text.J (Q : AV → AHeap → Prop) : JT := funJ prog C Tryd.f25 G_ref33_Text.ann G_ref33_Text.body Q
theorem G_ref33_Text.goR {Q : AV → AHeap → Prop} {k : Nat} {p : List Nat} (hl : lookJ (places G_ref33_Text.ann G_ref33_Text.body) k = some (p, false)) {e : Env} {h : AHeap} (hk : atJ prog C 39 (G_ref33_Text.J Q) false p G_ref33_Text.ann G_ref33_Text.body e h (kFun prog Tryd.f25 Q)) : G_ref33_Text.J Q k e h := goJ_run (P := prog) (fn := Tryd.f25) (ann := G_ref33_Text.ann) (body := G_ref33_Text.body) (Q := Q) (k := k) (p := p) (e := e) (h := h) (acall_le X) G_ref33_Text.dist hl hk
theorem G_ref33_Text.goH {Q : AV → AHeap → Prop} {k : Nat} {p : List Nat} (hl : lookJ (places G_ref33_Text.ann G_ref33_Text.body) k = some (p, true)) {e : Env} {h : AHeap} (hk : atJ prog C 39 (G_ref33_Text.J Q) true p G_ref33_Text.ann G_ref33_Text.body e h (kFun prog Tryd.f25 Q)) : G_ref33_Text.J Q k e h := goJ_head (P := prog) (fn := Tryd.f25) (ann := G_ref33_Text.ann) (body := G_ref33_Text.body) (Q := Q) (k := k) (p := p) (e := e) (h := h) (acall_le X) G_ref33_Text.dist hl hk
def G_ref33_Text.p0 (Q : AV → AHeap → Prop) (x1 : AV) (x17 : Bool) (h : AHeap) : Prop := G_ref33_Text.J Q 1 [(1, x1), (17, (AV.b x17))] h
theorem G_ref33_Text.j0 (Q : AV → AHeap → Prop) (x1 : AV) (x17 : Bool) (h : AHeap) : G_ref33_Text.J Q 1 [(1, x1), (17, (AV.b x17))] h = G_ref33_Text.p0 Q x1 x17 h := rfl
def G_ref33_Text.p2 (Q : AV → AHeap → Prop) (x1 : AV) (x4 : Int) (x36 : Bool) (h : AHeap) : Prop := G_ref33_Text.J Q 3 [(1, x1), (4, (AV.i .i64 x4)), (36, (AV.b x36))] h
theorem G_ref33_Text.j2 (Q : AV → AHeap → Prop) (x1 : AV) (x4 : Int) (x36 : Bool) (h : AHeap) : G_ref33_Text.J Q 3 [(1, x1), (4, (AV.i .i64 x4)), (36, (AV.b x36))] h = G_ref33_Text.p2 Q x1 x4 x36 h := rfl
def G_ref33_Text.p1 (Q : AV → AHeap → Prop) (x1 : AV) (x4 : Int) (h : AHeap) : Prop := G_ref33_Text.J Q 2 [(1, x1), (4, (AV.i .i64 x4))] h
theorem G_ref33_Text.j1 (Q : AV → AHeap → Prop) (x1 : AV) (x4 : Int) (h : AHeap) : G_ref33_Text.J Q 2 [(1, x1), (4, (AV.i .i64 x4))] h = G_ref33_Text.p1 Q x1 x4 h := rfl
def G_ref33_Text.t0 (J : JT) (Q : AV → AHeap → Prop) (x1 : AV) (x17 : Bool) (h : AHeap) : Prop :=
(bif x17 then
(Q (AV.tu [(AV.s []), (AV.b false)]) h)
else
(J 2 [(1, x1), (4, (AV.i .i64 0))] h))
theorem G_ref33_Text.t0_eq (J : JT) (Q : AV → AHeap → Prop) (x1 : AV) (x17 : Bool) (h : AHeap) : G_ref33_Text.t0 J Q x1 x17 h = atJ prog C 39 J false [1, 0, 1] G_ref33_Text.ann G_ref33_Text.body [(1, x1), (17, (AV.b x17))] h (kFun prog Tryd.f25 Q) := by kernel_rfl
theorem G_ref33_Text.i0 {Q : AV → AHeap → Prop} {x1 : AV} {x17 : Bool} {h : AHeap} (H : G_ref33_Text.t0 (G_ref33_Text.J Q) Q x1 x17 h) : G_ref33_Text.p0 Q x1 x17 h := G_ref33_Text.goR (k := 1) (p := [1, 0, 1]) (by kernel_rfl) ((G_ref33_Text.t0_eq (G_ref33_Text.J Q) Q x1 x17 h).mp H)
def G_ref33_Text.t2 (J : JT) (Q : AV → AHeap → Prop) (x1 : AV) (x4 : Int) (x36 : Bool) (h : AHeap) : Prop :=
(bif x36 then
(Q (AV.tu [(AV.s []), (AV.b false)]) h)
else
(withI (IntKind.wrap .i64 (x4 + 1)) fun n39 =>
J 2 [(1, x1), (4, (AV.i .i64 n39))] h))
theorem G_ref33_Text.t2_eq (J : JT) (Q : AV → AHeap → Prop) (x1 : AV) (x4 : Int) (x36 : Bool) (h : AHeap) : G_ref33_Text.t2 J Q x1 x4 x36 h = atJ prog C 39 J false [1, 1, 0, 1, 0, 0, 1, 0, 0, 1] G_ref33_Text.ann G_ref33_Text.body [(1, x1), (4, (AV.i .i64 x4)), (36, (AV.b x36))] h (kFun prog Tryd.f25 Q) := by kernel_rfl
theorem G_ref33_Text.i2 {Q : AV → AHeap → Prop} {x1 : AV} {x4 : Int} {x36 : Bool} {h : AHeap} (H : G_ref33_Text.t2 (G_ref33_Text.J Q) Q x1 x4 x36 h) : G_ref33_Text.p2 Q x1 x4 x36 h := G_ref33_Text.goR (k := 3) (p := [1, 1, 0, 1, 0, 0, 1, 0, 0, 1]) (by kernel_rfl) ((G_ref33_Text.t2_eq (G_ref33_Text.J Q) Q x1 x4 x36 h).mp H)
def G_ref33_Text.t1 (J : JT) (Q : AV → AHeap → Prop) (x1 : AV) (x4 : Int) (h : AHeap) : Prop :=
pFieldAddr 3 x1 fun v21 =>
pLoad1 v21 h fun v22 =>
asS v22 fun l23 =>
(bif (decide ((x4 : Int) < (l23.length : Int))) then
(pFieldAddr 3 x1 fun v27 =>
pLoad1 v27 h fun v28 =>
asS v28 fun l29 =>
pIdxStr (AV.s l29) (AV.i .i64 x4) fun n30 =>
(bif (decide ((n30 : Int) < 32)) then
(J 3 [(1, x1), (4, (AV.i .i64 x4)), (36, (AV.b true))] h)
else
(pFieldAddr 3 x1 fun v32 =>
pLoad1 v32 h fun v33 =>
asS v33 fun l34 =>
pIdxStr (AV.s l34) (AV.i .i64 x4) fun n35 =>
J 3 [(1, x1), (4, (AV.i .i64 x4)), (36, (AV.b (decide ((126 : Int) < n35))))] h)))
else
(pFieldAddr 3 x1 fun v41 =>
pLoad1 v41 h fun v42 =>
asS v42 fun l43 =>
Q (AV.tu [(AV.s l43), (AV.b true)]) h))
theorem G_ref33_Text.t1_eq (J : JT) (Q : AV → AHeap → Prop) (x1 : AV) (x4 : Int) (h : AHeap) : G_ref33_Text.t1 J Q x1 x4 h = atJ prog C 39 J true [1, 1, 0, 1, 0] G_ref33_Text.ann G_ref33_Text.body [(1, x1), (4, (AV.i .i64 x4))] h (kFun prog Tryd.f25 Q) := by kernel_rfl
theorem G_ref33_Text.i1 {Q : AV → AHeap → Prop} {x1 : AV} {x4 : Int} {h : AHeap} (H : G_ref33_Text.t1 (G_ref33_Text.J Q) Q x1 x4 h) : G_ref33_Text.p1 Q x1 x4 h := G_ref33_Text.goH (k := 2) (p := [1, 1, 0, 1, 0]) (by kernel_rfl) ((G_ref33_Text.t1_eq (G_ref33_Text.J Q) Q x1 x4 h).mp H)
def G_ref33_Text.t (J : JT) (Q : AV → AHeap → Prop) (x0 : AV) (h : AHeap) : Prop :=
pBox x0 h fun v0 h1 =>
pLoadN 5 v0 h1 fun v3 =>
C G_ref33_plain.id [v3, (AV.i .i64 12)] h1 fun v4 h5 =>
asB v4 fun c6 =>
(bif (!c6) then
(pLoadN 5 v0 h5 fun v7 =>
C G_ref33_plain.id [v7, (AV.i .i64 19)] h5 fun v8 h9 =>
asB v8 fun c10 =>
(bif (!c10) then
(pLoadN 5 v0 h9 fun v11 =>
C G_ref33_plain.id [v11, (AV.i .i64 22)] h9 fun v12 h13 =>
asB v12 fun c14 =>
J 1 [(1, v0), (17, (AV.b (!c14)))] h13)
else
(J 1 [(1, v0), (17, (AV.b false))] h9)))
else
(J 1 [(1, v0), (17, (AV.b false))] h5))
theorem G_ref33_Text.t_eq (J : JT) (Q : AV → AHeap → Prop) (x0 : AV) (h : AHeap) : G_ref33_Text.t J Q x0 h = exJ prog C 39 J G_ref33_Text.ann G_ref33_Text.body (initEnv 0 [x0]) h (kFun prog Tryd.f25 Q) := by kernel_rfl
theorem G_ref33_Text.call {K : AV → AHeap → Prop} {x0 : AV} {h : AHeap} (H : G_ref33_Text.t (G_ref33_Text.J (kRet h K)) (kRet h K) x0 h) : C G_ref33_Text.id [x0] h K :=
  callJ (P := prog) (fn := Tryd.f25) (ann := G_ref33_Text.ann) (body := G_ref33_Text.body) Tryd.func25 G_ref33_Text.body_eq (by kernel_rfl) G_ref33_Text.dist (by kernel_rfl) ((G_ref33_Text.t_eq (G_ref33_Text.J (kRet h K)) (kRet h K) x0 h).mp H)

--@@ G_der_TimeOf
/-! ### 26: intrusion/der.TimeOf -/
noncomputable def G_der_TimeOf.body : Code := (Tryd.f26.body).getD .skip
def G_der_TimeOf.ann : Ann := (.seq 0 [0, 2] .leaf (.seq 0 [0, 2] (.seq 1 [0, 2, 16] .leaf (.br (.seq 0 [2] .leaf .leaf) .leaf)) (.seq 0 [2, 3, 4] .leaf (.seq 0 [2, 3, 4, 5] .leaf (.seq 0 [2, 3, 4, 5] (.one (.loop 2 [2, 3, 4, 5] (.seq 0 [2, 3, 4, 5] (.seq 0 [2, 3, 4, 5, 29] .leaf (.br .leaf .leaf)) (.one .leaf)))) (.seq 0 [2, 3, 4, 5] .leaf (.seq 0 [2, 3, 4, 5, 6] .leaf (.seq 0 [2, 3, 4, 5, 6] (.one (.loop 3 [2, 3, 4, 5, 6] (.seq 0 [2, 3, 4, 5, 6] (.seq 0 [2, 3, 4, 5, 6, 40] .leaf (.br .leaf .leaf)) (.one (.seq 0 [2, 3, 4, 5, 6] .leaf .leaf))))) (.seq 0 [2, 3, 4, 5, 6, 7] .leaf (.seq 0 [2, 5, 7, 8] .leaf (.seq 0 [2, 5, 7, 8] (.seq 0 [2, 5, 7, 8, 79] .leaf (.br (.seq 0 [2] .leaf .leaf) .leaf)) (.seq 0 [2] .leaf .leaf))))))))))))
theorem G_der_TimeOf.body_eq : Tryd.f26.body = some G_der_TimeOf.body := by kernel_rfl
theorem G_der_TimeOf.dist : noTwice (places G_der_TimeOf.ann G_der_TimeOf.body) = true := by kernel_rfl
noncomputable def G_der_TimeOf.J (Q : AV → AHeap → Prop) : JT := funJ prog C Tryd.f26 G_der_TimeOf.ann G_der_TimeOf.body Q
theorem G_der_TimeOf.goR {Q : AV → AHeap → Prop} {k : Nat} {p : List Nat} (hl : lookJ (places G_der_TimeOf.ann G_der_TimeOf.body) k = some (p, false)) {e : Env} {h : AHeap} (hk : atJ prog C 89 (G_der_TimeOf.J Q) false p G_der_TimeOf.ann G_der_TimeOf.body e h (kFun prog Tryd.f26 Q)) : G_der_TimeOf.J Q k e h := goJ_run (P := prog) (fn := Tryd.f26) (ann := G_der_TimeOf.ann) (body := G_der_TimeOf.body) (Q := Q) (k := k) (p := p) (e := e) (h := h) (acall_le X) G_der_TimeOf.dist hl hk
theorem G_der_TimeOf.goH {Q : AV → AHeap → Prop} {k : Nat} {p : List Nat} (hl : lookJ (places G_der_TimeOf.ann G_der_TimeOf.body) k = some (p, true)) {e : Env} {h : AHeap} (hk : atJ prog C 89 (G_der_TimeOf.J Q) true p G_der_TimeOf.ann G_der_TimeOf.body e h (kFun prog Tryd.f26 Q)) : G_der_TimeOf.J Q k e h := goJ_head (P := prog) (fn := Tryd.f26) (ann := G_der_TimeOf.ann) (body := G_der_TimeOf.body) (Q := Q) (k := k) (p := p) (e := e) (h := h) (acall_le X) G_der_TimeOf.dist hl hk
def G_der_TimeOf.p0 (Q : AV → AHeap → Prop) (x0 : Int) (x2 : AV) (x16 : Bool) (h : AHeap) : Prop := G_der_TimeOf.J Q 1 [(0, (AV.i .i64 x0)), (2, x2), (16, (AV.b x16))] h
theorem G_der_TimeOf.j0 (Q : AV → AHeap → Prop) (x0 : Int) (x2 : AV) (x16 : Bool) (h : AHeap) : G_der_TimeOf.J Q 1 [(0, (AV.i .i64 x0)), (2, x2), (16, (AV.b x16))] h = G_der_TimeOf.p0 Q x0 x2 x16 h := rfl
def G_der_TimeOf.p1 (Q : AV → AHeap → Prop) (x2 : AV) (x3 : Int) (x4 : Int) (x5 : Int) (h : AHeap) : Prop := G_der_TimeOf.J Q 2 [(2, x2), (3, (AV.i .i64 x3)), (4, (AV.i .i64 x4)), (5, (AV.i .i64 x5))] h
theorem G_der_TimeOf.j1 (Q : AV → AHeap → Prop) (x2 : AV) (x3 : Int) (x4 : Int) (x5 : Int) (h : AHeap) : G_der_TimeOf.J Q 2 [(2, x2), (3, (AV.i .i64 x3)), (4, (AV.i .i64 x4)), (5, (AV.i .i64 x5))] h = G_der_TimeOf.p1 Q x2 x3 x4 x5 h := rfl
def G_der_TimeOf.p2 (Q : AV → AHeap → Prop) (x2 : AV) (x3 : Int) (x4 : Int) (x5 : Int) (x6 : Int) (h : AHeap) : Prop := G_der_TimeOf.J Q 3 [(2, x2), (3, (AV.i .i64 x3)), (4, (AV.i .i64 x4)), (5, (AV.i .i64 x5)), (6, (AV.i .i64 x6))] h
theorem G_der_TimeOf.j2 (Q : AV → AHeap → Prop) (x2 : AV) (x3 : Int) (x4 : Int) (x5 : Int) (x6 : Int) (h : AHeap) : G_der_TimeOf.J Q 3 [(2, x2), (3, (AV.i .i64 x3)), (4, (AV.i .i64 x4)), (5, (AV.i .i64 x5)), (6, (AV.i .i64 x6))] h = G_der_TimeOf.p2 Q x2 x3 x4 x5 x6 h := rfl
def G_der_TimeOf.t0 (J : JT) (Q : AV → AHeap → Prop) (x0 : Int) (x2 : AV) (x16 : Bool) (h : AHeap) : Prop :=
(bif x16 then
(pStore 5 x2 (AV.ag [(AV.i .i64 0), (AV.i .i64 0), (AV.b false), (AV.s []), (AV.sl none 0 none)]) h fun h9 =>
pLoadN 5 x2 h9 fun v11 =>
Q v11 h9)
else
(pQuo .i64 x0 86400 fun n13 =>
pRem x0 86400 fun n14 =>
pQuo .i64 n13 366 fun n16 =>
withI (IntKind.wrap .i64 (1970 + n16)) fun n17 =>
J 2 [(2, x2), (3, (AV.i .i64 n13)), (4, (AV.i .i64 n14)), (5, (AV.i .i64 n17))] h))
theorem G_der_TimeOf.t0_eq (J : JT) (Q : AV → AHeap → Prop) (x0 : Int) (x2 : AV) (x16 : Bool) (h : AHeap) : G_der_TimeOf.t0 J Q x0 x2 x16 h = atJ prog C 89 J false [1, 0, 1] G_der_TimeOf.ann G_der_TimeOf.body [(0, (AV.i .i64 x0)), (2, x2), (16, (AV.b x16))] h (kFun prog Tryd.f26 Q) := by kernel_rfl
theorem G_der_TimeOf.i0 {Q : AV → AHeap → Prop} {x0 : Int} {x2 : AV} {x16 : Bool} {h : AHeap} (H : G_der_TimeOf.t0 (G_der_TimeOf.J Q) Q x0 x2 x16 h) : G_der_TimeOf.p0 Q x0 x2 x16 h := G_der_TimeOf.goR (k := 1) (p := [1, 0, 1]) (by kernel_rfl) ((G_der_TimeOf.t0_eq (G_der_TimeOf.J Q) Q x0 x2 x16 h).mp H)
def G_der_TimeOf.t1 (J : JT) (Q : AV → AHeap → Prop) (x2 : AV) (x3 : Int) (x4 : Int) (x5 : Int) (h : AHeap) : Prop :=
withI (IntKind.wrap .i64 (x5 + 1)) fun n19 =>
C G_der_before.id [(AV.i .i64 n19)] h fun v20 h21 =>
asI .i64 v20 fun n22 =>
(bif (decide ((n22 : Int) ≤ x3)) then
(withI (IntKind.wrap .i64 (x5 + 1)) fun n26 =>
J 2 [(2, x2), (3, (AV.i .i64 x3)), (4, (AV.i .i64 x4)), (5, (AV.i .i64 n26))] h21)
else
(C G_der_before.id [(AV.i .i64 x5)] h21 fun v28 h29 =>
asI .i64 v28 fun n30 =>
withI (IntKind.wrap .i64 (x3 - n30)) fun n31 =>
J 3 [(2, x2), (3, (AV.i .i64 n31)), (4, (AV.i .i64 x4)), (5, (AV.i .i64 x5)), (6, (AV.i .i64 1))] h29))
theorem G_der_TimeOf.t1_eq (J : JT) (Q : AV → AHeap → Prop) (x2 : AV) (x3 : Int) (x4 : Int) (x5 : Int) (h : AHeap) : G_der_TimeOf.t1 J Q x2 x3 x4 x5 h = atJ prog C 89 J true [1, 1, 1, 1, 0, 0] G_der_TimeOf.ann G_der_TimeOf.body [(2, x2), (3, (AV.i .i64 x3)), (4, (AV.i .i64 x4)), (5, (AV.i .i64 x5))] h (kFun prog Tryd.f26 Q) := by kernel_rfl
theorem G_der_TimeOf.i1 {Q : AV → AHeap → Prop} {x2 : AV} {x3 : Int} {x4 : Int} {x5 : Int} {h : AHeap} (H : G_der_TimeOf.t1 (G_der_TimeOf.J Q) Q x2 x3 x4 x5 h) : G_der_TimeOf.p1 Q x2 x3 x4 x5 h := G_der_TimeOf.goH (k := 2) (p := [1, 1, 1, 1, 0, 0]) (by kernel_rfl) ((G_der_TimeOf.t1_eq (G_der_TimeOf.J Q) Q x2 x3 x4 x5 h).mp H)
def G_der_TimeOf.t2 (J : JT) (Q : AV → AHeap → Prop) (x2 : AV) (x3 : Int) (x4 : Int) (x5 : Int) (x6 : Int) (h : AHeap) : Prop :=
C G_der_days.id [(AV.i .i64 x5), (AV.i .i64 x6)] h fun v34 h35 =>
asI .i64 v34 fun n36 =>
(bif (decide ((n36 : Int) ≤ x3)) then
(C G_der_days.id [(AV.i .i64 x5), (AV.i .i64 x6)] h35 fun v40 h41 =>
asI .i64 v40 fun n42 =>
withI (IntKind.wrap .i64 (x3 - n42)) fun n43 =>
withI (IntKind.wrap .i64 (x6 + 1)) fun n45 =>
J 3 [(2, x2), (3, (AV.i .i64 n43)), (4, (AV.i .i64 x4)), (5, (AV.i .i64 x5)), (6, (AV.i .i64 n45))] h41)
else
(pRem x5 100 fun n48 =>
pCallV C (AV.fn (.func G_der_TimeOf_1.id) [] []) [(AV.i .i64 n48)] h35 fun v49 h50 =>
asS v49 fun l51 =>
pCallV C (AV.fn (.func G_der_TimeOf_1.id) [] []) [(AV.i .i64 x6)] h50 fun v52 h53 =>
asS v52 fun l54 =>
pCat l51 l54 fun l55 =>
withI (IntKind.wrap .i64 (x3 + 1)) fun n56 =>
pCallV C (AV.fn (.func G_der_TimeOf_1.id) [] []) [(AV.i .i64 n56)] h53 fun v57 h58 =>
asS v57 fun l59 =>
pCat l55 l59 fun l60 =>
pQuo .i64 x4 3600 fun n61 =>
pCallV C (AV.fn (.func G_der_TimeOf_1.id) [] []) [(AV.i .i64 n61)] h58 fun v62 h63 =>
asS v62 fun l64 =>
pCat l60 l64 fun l65 =>
pQuo .i64 x4 60 fun n66 =>
pRem n66 60 fun n67 =>
pCallV C (AV.fn (.func G_der_TimeOf_1.id) [] []) [(AV.i .i64 n67)] h63 fun v68 h69 =>
asS v68 fun l70 =>
pCat l65 l70 fun l71 =>
pRem x4 60 fun n72 =>
pCallV C (AV.fn (.func G_der_TimeOf_1.id) [] []) [(AV.i .i64 n72)] h69 fun v73 h74 =>
asS v73 fun l75 =>
pCat l71 l75 fun l76 =>
pCat l76 [90] fun l77 =>
(bif (decide ((x5 : Int) < 2050)) then
(pStore 5 x2 (AV.ag [(AV.i .i64 0), (AV.i .i64 23), (AV.b false), (AV.s l77), (AV.sl none 0 none)]) h74 fun h80 =>
pLoadN 5 x2 h80 fun v82 =>
Q v82 h80)
else
(pQuo .i64 x5 100 fun n84 =>
pCallV C (AV.fn (.func G_der_TimeOf_1.id) [] []) [(AV.i .i64 n84)] h74 fun v85 h86 =>
asS v85 fun l87 =>
pCat l87 l77 fun l88 =>
pStore 5 x2 (AV.ag [(AV.i .i64 0), (AV.i .i64 24), (AV.b false), (AV.s l88), (AV.sl none 0 none)]) h86 fun h89 =>
pLoadN 5 x2 h89 fun v91 =>
Q v91 h89))))
theorem G_der_TimeOf.t2_eq (J : JT) (Q : AV → AHeap → Prop) (x2 : AV) (x3 : Int) (x4 : Int) (x5 : Int) (x6 : Int) (h : AHeap) : G_der_TimeOf.t2 J Q x2 x3 x4 x5 x6 h = atJ prog C 89 J true [1, 1, 1, 1, 1, 1, 1, 0, 0] G_der_TimeOf.ann G_der_TimeOf.body [(2, x2), (3, (AV.i .i64 x3)), (4, (AV.i .i64 x4)), (5, (AV.i .i64 x5)), (6, (AV.i .i64 x6))] h (kFun prog Tryd.f26 Q) := by kernel_rfl
theorem G_der_TimeOf.i2 {Q : AV → AHeap → Prop} {x2 : AV} {x3 : Int} {x4 : Int} {x5 : Int} {x6 : Int} {h : AHeap} (H : G_der_TimeOf.t2 (G_der_TimeOf.J Q) Q x2 x3 x4 x5 x6 h) : G_der_TimeOf.p2 Q x2 x3 x4 x5 x6 h := G_der_TimeOf.goH (k := 3) (p := [1, 1, 1, 1, 1, 1, 1, 0, 0]) (by kernel_rfl) ((G_der_TimeOf.t2_eq (G_der_TimeOf.J Q) Q x2 x3 x4 x5 x6 h).mp H)
def G_der_TimeOf.t (J : JT) (Q : AV → AHeap → Prop) (x0 : Int) (h : AHeap) : Prop :=
pAlloc [(AV.i .i64 0), (AV.i .i64 0), (AV.b false), (AV.s []), (AV.sl none 0 none)] h fun v0 h1 =>
(bif (decide ((x0 : Int) < 0)) then
(J 1 [(0, (AV.i .i64 x0)), (2, v0), (16, (AV.b true))] h1)
else
(pQuo .i64 x0 86400 fun n4 =>
C G_der_before.id [(AV.i .i64 10000)] h1 fun v5 h6 =>
asI .i64 v5 fun n7 =>
J 1 [(0, (AV.i .i64 x0)), (2, v0), (16, (AV.b (decide ((n7 : Int) ≤ n4))))] h6))
theorem G_der_TimeOf.t_eq (J : JT) (Q : AV → AHeap → Prop) (x0 : Int) (h : AHeap) : G_der_TimeOf.t J Q x0 h = exJ prog C 89 J G_der_TimeOf.ann G_der_TimeOf.body (initEnv 0 [(AV.i .i64 x0)]) h (kFun prog Tryd.f26 Q) := by kernel_rfl
theorem G_der_TimeOf.call {K : AV → AHeap → Prop} {x0 : Int} {h : AHeap} (H : G_der_TimeOf.t (G_der_TimeOf.J (kRet h K)) (kRet h K) x0 h) : C G_der_TimeOf.id [(AV.i .i64 x0)] h K :=
  callJ (P := prog) (fn := Tryd.f26) (ann := G_der_TimeOf.ann) (body := G_der_TimeOf.body) Tryd.func26 G_der_TimeOf.body_eq (by kernel_rfl) G_der_TimeOf.dist (by kernel_rfl) ((G_der_TimeOf.t_eq (G_der_TimeOf.J (kRet h K)) (kRet h K) x0 h).mp H)

--@@ G_ref33_TimeOf
/-! ### 27: intrusion/intrusionref33.TimeOf -/
noncomputable def G_ref33_TimeOf.body : Code := (Tryd.f27.body).getD .skip
def G_ref33_TimeOf.ann : Ann := (.seq 0 [0, 2] .leaf (.seq 0 [0, 2] (.seq 1 [0, 2, 13] .leaf (.br (.seq 0 [2] .leaf .leaf) .leaf)) (.seq 0 [0, 2, 3] .leaf (.seq 0 [0, 2, 3, 4] .leaf (.seq 0 [0, 2, 3, 4] (.one (.loop 2 [0, 2, 3, 4] (.one (.seq 0 [0, 2, 3, 4, 5] .leaf (.seq 3 [0, 2, 3, 4, 5] (.seq 0 [0, 2, 3, 4, 5, 18] .leaf (.br .leaf .leaf)) (.seq 0 [0, 2, 3, 4, 5] (.seq 0 [0, 2, 3, 4, 5, 21] .leaf (.br .leaf .leaf)) (.seq 0 [0, 2, 3, 4] .leaf .leaf))))))) (.seq 0 [0, 2, 3, 4, 6] .leaf (.seq 0 [0, 2, 3, 4, 6] (.one (.loop 4 [0, 2, 3, 4, 6] (.seq 0 [0, 2, 3, 4, 6] (.seq 0 [0, 2, 3, 4, 6, 31] .leaf (.br .leaf .leaf)) (.one (.seq 0 [0, 2, 3, 4, 6] .leaf .leaf))))) (.seq 0 [0, 2, 3, 4, 6] .leaf (.seq 0 [2, 4, 7] .leaf (.seq 0 [2, 7] (.seq 0 [2, 4, 7, 65] .leaf (.br (.seq 0 [2] .leaf .leaf) .leaf)) (.seq 0 [2] .leaf .leaf)))))))))))
theorem G_ref33_TimeOf.body_eq : Tryd.f27.body = some G_ref33_TimeOf.body := by kernel_rfl
theorem G_ref33_TimeOf.dist : noTwice (places G_ref33_TimeOf.ann G_ref33_TimeOf.body) = true := by kernel_rfl
noncomputable def G_ref33_TimeOf.J (Q : AV → AHeap → Prop) : JT := funJ prog C Tryd.f27 G_ref33_TimeOf.ann G_ref33_TimeOf.body Q
theorem G_ref33_TimeOf.goR {Q : AV → AHeap → Prop} {k : Nat} {p : List Nat} (hl : lookJ (places G_ref33_TimeOf.ann G_ref33_TimeOf.body) k = some (p, false)) {e : Env} {h : AHeap} (hk : atJ prog C 74 (G_ref33_TimeOf.J Q) false p G_ref33_TimeOf.ann G_ref33_TimeOf.body e h (kFun prog Tryd.f27 Q)) : G_ref33_TimeOf.J Q k e h := goJ_run (P := prog) (fn := Tryd.f27) (ann := G_ref33_TimeOf.ann) (body := G_ref33_TimeOf.body) (Q := Q) (k := k) (p := p) (e := e) (h := h) (acall_le X) G_ref33_TimeOf.dist hl hk
theorem G_ref33_TimeOf.goH {Q : AV → AHeap → Prop} {k : Nat} {p : List Nat} (hl : lookJ (places G_ref33_TimeOf.ann G_ref33_TimeOf.body) k = some (p, true)) {e : Env} {h : AHeap} (hk : atJ prog C 74 (G_ref33_TimeOf.J Q) true p G_ref33_TimeOf.ann G_ref33_TimeOf.body e h (kFun prog Tryd.f27 Q)) : G_ref33_TimeOf.J Q k e h := goJ_head (P := prog) (fn := Tryd.f27) (ann := G_ref33_TimeOf.ann) (body := G_ref33_TimeOf.body) (Q := Q) (k := k) (p := p) (e := e) (h := h) (acall_le X) G_ref33_TimeOf.dist hl hk
def G_ref33_TimeOf.p0 (Q : AV → AHeap → Prop) (x0 : Int) (x2 : AV) (x13 : Bool) (h : AHeap) : Prop := G_ref33_TimeOf.J Q 1 [(0, (AV.i .i64 x0)), (2, x2), (13, (AV.b x13))] h
theorem G_ref33_TimeOf.j0 (Q : AV → AHeap → Prop) (x0 : Int) (x2 : AV) (x13 : Bool) (h : AHeap) : G_ref33_TimeOf.J Q 1 [(0, (AV.i .i64 x0)), (2, x2), (13, (AV.b x13))] h = G_ref33_TimeOf.p0 Q x0 x2 x13 h := rfl
def G_ref33_TimeOf.p2 (Q : AV → AHeap → Prop) (x0 : Int) (x2 : AV) (x3 : Int) (x4 : Int) (x5 : Int) (h : AHeap) : Prop := G_ref33_TimeOf.J Q 3 [(0, (AV.i .i64 x0)), (2, x2), (3, (AV.i .i64 x3)), (4, (AV.i .i64 x4)), (5, (AV.i .i64 x5))] h
theorem G_ref33_TimeOf.j2 (Q : AV → AHeap → Prop) (x0 : Int) (x2 : AV) (x3 : Int) (x4 : Int) (x5 : Int) (h : AHeap) : G_ref33_TimeOf.J Q 3 [(0, (AV.i .i64 x0)), (2, x2), (3, (AV.i .i64 x3)), (4, (AV.i .i64 x4)), (5, (AV.i .i64 x5))] h = G_ref33_TimeOf.p2 Q x0 x2 x3 x4 x5 h := rfl
def G_ref33_TimeOf.p1 (Q : AV → AHeap → Prop) (x0 : Int) (x2 : AV) (x3 : Int) (x4 : Int) (h : AHeap) : Prop := G_ref33_TimeOf.J Q 2 [(0, (AV.i .i64 x0)), (2, x2), (3, (AV.i .i64 x3)), (4, (AV.i .i64 x4))] h
theorem G_ref33_TimeOf.j1 (Q : AV → AHeap → Prop) (x0 : Int) (x2 : AV) (x3 : Int) (x4 : Int) (h : AHeap) : G_ref33_TimeOf.J Q 2 [(0, (AV.i .i64 x0)), (2, x2), (3, (AV.i .i64 x3)), (4, (AV.i .i64 x4))] h = G_ref33_TimeOf.p1 Q x0 x2 x3 x4 h := rfl
def G_ref33_TimeOf.p3 (Q : AV → AHeap → Prop) (x0 : Int) (x2 : AV) (x3 : Int) (x4 : Int) (x6 : Int) (h : AHeap) : Prop := G_ref33_TimeOf.J Q 4 [(0, (AV.i .i64 x0)), (2, x2), (3, (AV.i .i64 x3)), (4, (AV.i .i64 x4)), (6, (AV.i .i64 x6))] h
theorem G_ref33_TimeOf.j3 (Q : AV → AHeap → Prop) (x0 : Int) (x2 : AV) (x3 : Int) (x4 : Int) (x6 : Int) (h : AHeap) : G_ref33_TimeOf.J Q 4 [(0, (AV.i .i64 x0)), (2, x2), (3, (AV.i .i64 x3)), (4, (AV.i .i64 x4)), (6, (AV.i .i64 x6))] h = G_ref33_TimeOf.p3 Q x0 x2 x3 x4 x6 h := rfl
def G_ref33_TimeOf.t0 (J : JT) (Q : AV → AHeap → Prop) (x0 : Int) (x2 : AV) (x13 : Bool) (h : AHeap) : Prop :=
(bif x13 then
(pStore 5 x2 (AV.ag [(AV.i .i64 0), (AV.i .i64 0), (AV.b false), (AV.s []), (AV.sl none 0 none)]) h fun h5 =>
pLoadN 5 x2 h5 fun v7 =>
Q v7 h5)
else
(pQuo .i64 x0 86400 fun n9 =>
J 2 [(0, (AV.i .i64 x0)), (2, x2), (3, (AV.i .i64 n9)), (4, (AV.i .i64 1970))] h))
theorem G_ref33_TimeOf.t0_eq (J : JT) (Q : AV → AHeap → Prop) (x0 : Int) (x2 : AV) (x13 : Bool) (h : AHeap) : G_ref33_TimeOf.t0 J Q x0 x2 x13 h = atJ prog C 74 J false [1, 0, 1] G_ref33_TimeOf.ann G_ref33_TimeOf.body [(0, (AV.i .i64 x0)), (2, x2), (13, (AV.b x13))] h (kFun prog Tryd.f27 Q) := by kernel_rfl
theorem G_ref33_TimeOf.i0 {Q : AV → AHeap → Prop} {x0 : Int} {x2 : AV} {x13 : Bool} {h : AHeap} (H : G_ref33_TimeOf.t0 (G_ref33_TimeOf.J Q) Q x0 x2 x13 h) : G_ref33_TimeOf.p0 Q x0 x2 x13 h := G_ref33_TimeOf.goR (k := 1) (p := [1, 0, 1]) (by kernel_rfl) ((G_ref33_TimeOf.t0_eq (G_ref33_TimeOf.J Q) Q x0 x2 x13 h).mp H)
def G_ref33_TimeOf.t2 (J : JT) (Q : AV → AHeap → Prop) (x0 : Int) (x2 : AV) (x3 : Int) (x4 : Int) (x5 : Int) (h : AHeap) : Prop :=
(bif (decide ((x3 : Int) < x5)) then
(J 4 [(0, (AV.i .i64 x0)), (2, x2), (3, (AV.i .i64 x3)), (4, (AV.i .i64 x4)), (6, (AV.i .i64 1))] h)
else
(withI (IntKind.wrap .i64 (x3 - x5)) fun n22 =>
withI (IntKind.wrap .i64 (x4 + 1)) fun n24 =>
J 2 [(0, (AV.i .i64 x0)), (2, x2), (3, (AV.i .i64 n22)), (4, (AV.i .i64 n24))] h))
theorem G_ref33_TimeOf.t2_eq (J : JT) (Q : AV → AHeap → Prop) (x0 : Int) (x2 : AV) (x3 : Int) (x4 : Int) (x5 : Int) (h : AHeap) : G_ref33_TimeOf.t2 J Q x0 x2 x3 x4 x5 h = atJ prog C 74 J false [1, 1, 1, 1, 0, 0, 0, 0, 1, 1] G_ref33_TimeOf.ann G_ref33_TimeOf.body [(0, (AV.i .i64 x0)), (2, x2), (3, (AV.i .i64 x3)), (4, (AV.i .i64 x4)), (5, (AV.i .i64 x5))] h (kFun prog Tryd.f27 Q) := by kernel_rfl
theorem G_ref33_TimeOf.i2 {Q : AV → AHeap → Prop} {x0 : Int} {x2 : AV} {x3 : Int} {x4 : Int} {x5 : Int} {h : AHeap} (H : G_ref33_TimeOf.t2 (G_ref33_TimeOf.J Q) Q x0 x2 x3 x4 x5 h) : G_ref33_TimeOf.p2 Q x0 x2 x3 x4 x5 h := G_ref33_TimeOf.goR (k := 3) (p := [1, 1, 1, 1, 0, 0, 0, 0, 1, 1]) (by kernel_rfl) ((G_ref33_TimeOf.t2_eq (G_ref33_TimeOf.J Q) Q x0 x2 x3 x4 x5 h).mp H)
def G_ref33_TimeOf.t1 (J : JT) (Q : AV → AHeap → Prop) (x0 : Int) (x2 : AV) (x3 : Int) (x4 : Int) (h : AHeap) : Prop :=
C G_ref33_leap.id [(AV.i .i64 x4)] h fun v13 h14 =>
asB v13 fun c15 =>
(bif c15 then
(J 3 [(0, (AV.i .i64 x0)), (2, x2), (3, (AV.i .i64 x3)), (4, (AV.i .i64 x4)), (5, (AV.i .i64 366))] h14)
else
(J 3 [(0, (AV.i .i64 x0)), (2, x2), (3, (AV.i .i64 x3)), (4, (AV.i .i64 x4)), (5, (AV.i .i64 365))] h14))
theorem G_ref33_TimeOf.t1_eq (J : JT) (Q : AV → AHeap → Prop) (x0 : Int) (x2 : AV) (x3 : Int) (x4 : Int) (h : AHeap) : G_ref33_TimeOf.t1 J Q x0 x2 x3 x4 h = atJ prog C 74 J true [1, 1, 1, 1, 0, 0] G_ref33_TimeOf.ann G_ref33_TimeOf.body [(0, (AV.i .i64 x0)), (2, x2), (3, (AV.i .i64 x3)), (4, (AV.i .i64 x4))] h (kFun prog Tryd.f27 Q) := by kernel_rfl
theorem G_ref33_TimeOf.i1 {Q : AV → AHeap → Prop} {x0 : Int} {x2 : AV} {x3 : Int} {x4 : Int} {h : AHeap} (H : G_ref33_TimeOf.t1 (G_ref33_TimeOf.J Q) Q x0 x2 x3 x4 h) : G_ref33_TimeOf.p1 Q x0 x2 x3 x4 h := G_ref33_TimeOf.goH (k := 2) (p := [1, 1, 1, 1, 0, 0]) (by kernel_rfl) ((G_ref33_TimeOf.t1_eq (G_ref33_TimeOf.J Q) Q x0 x2 x3 x4 h).mp H)
def G_ref33_TimeOf.t3 (J : JT) (Q : AV → AHeap → Prop) (x0 : Int) (x2 : AV) (x3 : Int) (x4 : Int) (x6 : Int) (h : AHeap) : Prop :=
C G_ref33_days.id [(AV.i .i64 x4), (AV.i .i64 x6)] h fun v27 h28 =>
asI .i64 v27 fun n29 =>
(bif (decide ((n29 : Int) ≤ x3)) then
(C G_ref33_days.id [(AV.i .i64 x4), (AV.i .i64 x6)] h28 fun v33 h34 =>
asI .i64 v33 fun n35 =>
withI (IntKind.wrap .i64 (x3 - n35)) fun n36 =>
withI (IntKind.wrap .i64 (x6 + 1)) fun n38 =>
J 4 [(0, (AV.i .i64 x0)), (2, x2), (3, (AV.i .i64 n36)), (4, (AV.i .i64 x4)), (6, (AV.i .i64 n38))] h34)
else
(pRem x0 86400 fun n40 =>
C G_ref33_two.id [(AV.i .i64 x4)] h28 fun v42 h43 =>
asS v42 fun l44 =>
C G_ref33_two.id [(AV.i .i64 x6)] h43 fun v45 h46 =>
asS v45 fun l47 =>
pCat l44 l47 fun l48 =>
withI (IntKind.wrap .i64 (x3 + 1)) fun n49 =>
C G_ref33_two.id [(AV.i .i64 n49)] h46 fun v50 h51 =>
asS v50 fun l52 =>
pCat l48 l52 fun l53 =>
pQuo .i64 n40 3600 fun n54 =>
C G_ref33_two.id [(AV.i .i64 n54)] h51 fun v55 h56 =>
asS v55 fun l57 =>
pCat l53 l57 fun l58 =>
pQuo .i64 n40 60 fun n59 =>
pRem n59 60 fun n60 =>
C G_ref33_two.id [(AV.i .i64 n60)] h56 fun v61 h62 =>
asS v61 fun l63 =>
pCat l58 l63 fun l64 =>
pRem n40 60 fun n65 =>
C G_ref33_two.id [(AV.i .i64 n65)] h62 fun v66 h67 =>
asS v66 fun l68 =>
pCat l64 l68 fun l69 =>
pCat l69 [90] fun l70 =>
(bif (decide ((2050 : Int) ≤ x4)) then
(pQuo .i64 x4 100 fun n73 =>
C G_ref33_two.id [(AV.i .i64 n73)] h67 fun v74 h75 =>
asS v74 fun l76 =>
pCat l76 l70 fun l77 =>
pStore 5 x2 (AV.ag [(AV.i .i64 0), (AV.i .i64 24), (AV.b false), (AV.s l77), (AV.sl none 0 none)]) h75 fun h78 =>
pLoadN 5 x2 h78 fun v80 =>
Q v80 h78)
else
(pStore 5 x2 (AV.ag [(AV.i .i64 0), (AV.i .i64 23), (AV.b false), (AV.s l70), (AV.sl none 0 none)]) h67 fun h82 =>
pLoadN 5 x2 h82 fun v84 =>
Q v84 h82))))
theorem G_ref33_TimeOf.t3_eq (J : JT) (Q : AV → AHeap → Prop) (x0 : Int) (x2 : AV) (x3 : Int) (x4 : Int) (x6 : Int) (h : AHeap) : G_ref33_TimeOf.t3 J Q x0 x2 x3 x4 x6 h = atJ prog C 74 J true [1, 1, 1, 1, 1, 1, 0, 0] G_ref33_TimeOf.ann G_ref33_TimeOf.body [(0, (AV.i .i64 x0)), (2, x2), (3, (AV.i .i64 x3)), (4, (AV.i .i64 x4)), (6, (AV.i .i64 x6))] h (kFun prog Tryd.f27 Q) := by kernel_rfl
theorem G_ref33_TimeOf.i3 {Q : AV → AHeap → Prop} {x0 : Int} {x2 : AV} {x3 : Int} {x4 : Int} {x6 : Int} {h : AHeap} (H : G_ref33_TimeOf.t3 (G_ref33_TimeOf.J Q) Q x0 x2 x3 x4 x6 h) : G_ref33_TimeOf.p3 Q x0 x2 x3 x4 x6 h := G_ref33_TimeOf.goH (k := 4) (p := [1, 1, 1, 1, 1, 1, 0, 0]) (by kernel_rfl) ((G_ref33_TimeOf.t3_eq (G_ref33_TimeOf.J Q) Q x0 x2 x3 x4 x6 h).mp H)
def G_ref33_TimeOf.t (J : JT) (Q : AV → AHeap → Prop) (x0 : Int) (h : AHeap) : Prop :=
pAlloc [(AV.i .i64 0), (AV.i .i64 0), (AV.b false), (AV.s []), (AV.sl none 0 none)] h fun v0 h1 =>
(bif (decide ((x0 : Int) < 0)) then
(J 1 [(0, (AV.i .i64 x0)), (2, v0), (13, (AV.b true))] h1)
else
(J 1 [(0, (AV.i .i64 x0)), (2, v0), (13, (AV.b (decide ((253402300799 : Int) < x0))))] h1))
theorem G_ref33_TimeOf.t_eq (J : JT) (Q : AV → AHeap → Prop) (x0 : Int) (h : AHeap) : G_ref33_TimeOf.t J Q x0 h = exJ prog C 74 J G_ref33_TimeOf.ann G_ref33_TimeOf.body (initEnv 0 [(AV.i .i64 x0)]) h (kFun prog Tryd.f27 Q) := by kernel_rfl
theorem G_ref33_TimeOf.call {K : AV → AHeap → Prop} {x0 : Int} {h : AHeap} (H : G_ref33_TimeOf.t (G_ref33_TimeOf.J (kRet h K)) (kRet h K) x0 h) : C G_ref33_TimeOf.id [(AV.i .i64 x0)] h K :=
  callJ (P := prog) (fn := Tryd.f27) (ann := G_ref33_TimeOf.ann) (body := G_ref33_TimeOf.body) Tryd.func27 G_ref33_TimeOf.body_eq (by kernel_rfl) G_ref33_TimeOf.dist (by kernel_rfl) ((G_ref33_TimeOf.t_eq (G_ref33_TimeOf.J (kRet h K)) (kRet h K) x0 h).mp H)

--@@ G_der_Oid
/-! ### 28: intrusion/der.Oid -/
noncomputable def G_der_Oid.body : Code := (Tryd.f28.body).getD .skip
def G_der_Oid.ann : Ann := (.seq 0 [1] .leaf (.seq 0 [1] (.seq 1 [1, 20] .leaf (.br (.seq 0 [2, 3] .leaf .leaf) .leaf)) (.seq 0 [1, 4] .leaf (.seq 0 [1, 4, 5, 6] .leaf (.seq 0 [4, 6] (.seq 0 [1, 4, 5, 6, 23, 24] .leaf (.one (.loop 2 [1, 4, 5, 6, 23, 24] (.seq 0 [1, 4, 5, 6, 23, 24, 25] .leaf (.seq 0 [1, 4, 5, 6, 23, 24] (.br .leaf .leaf) (.seq 4 [1, 4, 5, 6, 23, 24] (.one (.seq 0 [1, 4, 5, 6, 7, 23, 24] .leaf (.seq 0 [1, 4, 5, 6, 8, 23, 24] .leaf (.seq 0 [1, 4, 5, 8, 23, 24] (.seq 3 [1, 4, 5, 8, 23, 24, 37] .leaf (.br (.seq 0 [2, 3] .leaf .leaf) .leaf)) (.seq 0 [1, 4, 5, 8, 23, 24] .leaf (.seq 0 [1, 4, 5, 6, 23, 24] .leaf (.seq 0 [1, 4, 5, 6, 23, 24] (.seq 0 [1, 4, 5, 6, 23, 24, 46] .leaf (.br (.seq 0 [2, 3] .leaf .leaf) .leaf)) (.seq 0 [1, 4, 5, 6, 23, 24, 48] .leaf (.br (.seq 0 [1, 4, 6, 23, 24] .leaf .leaf) .leaf))))))))) .leaf)))))) (.seq 0 [4] (.seq 0 [4, 54] .leaf (.br (.seq 0 [2, 3] .leaf .leaf) .leaf)) (.seq 0 [4, 9] .leaf (.seq 0 [4, 10] (.ord (.neu 0 (.neu 3 (.neu 4 (.neu 5 (.neu 6 (.neu 7 (.neu 8 (.eff 1 (.neu 2 (.eff 9 (.neu 10 (.neu 11 .done)) .stop)) .stop))))))))) (.seq 0 [10] (.seq 0 [10, 72, 73, 74] .leaf (.one (.loop 5 [10, 72, 73, 74] (.seq 0 [10, 72, 73, 74, 75] .leaf (.seq 0 [10, 72, 73, 74] (.br .leaf .leaf) (.seq 0 [10, 72, 73, 74] (.one (.seq 0 [10, 12, 72, 73, 74] .leaf .leaf)) .leaf)))))) (.seq 0 [2, 3] .leaf .leaf))))))))))
theorem G_der_Oid.body_eq : Tryd.f28.body = some G_der_Oid.body := by kernel_rfl
theorem G_der_Oid.dist : noTwice (places G_der_Oid.ann G_der_Oid.body) = true := by kernel_rfl
noncomputable def G_der_Oid.J (Q : AV → AHeap → Prop) : JT := funJ prog C Tryd.f28 G_der_Oid.ann G_der_Oid.body Q
theorem G_der_Oid.goR {Q : AV → AHeap → Prop} {k : Nat} {p : List Nat} (hl : lookJ (places G_der_Oid.ann G_der_Oid.body) k = some (p, false)) {e : Env} {h : AHeap} (hk : atJ prog C 85 (G_der_Oid.J Q) false p G_der_Oid.ann G_der_Oid.body e h (kFun prog Tryd.f28 Q)) : G_der_Oid.J Q k e h := goJ_run (P := prog) (fn := Tryd.f28) (ann := G_der_Oid.ann) (body := G_der_Oid.body) (Q := Q) (k := k) (p := p) (e := e) (h := h) (acall_le X) G_der_Oid.dist hl hk
theorem G_der_Oid.goH {Q : AV → AHeap → Prop} {k : Nat} {p : List Nat} (hl : lookJ (places G_der_Oid.ann G_der_Oid.body) k = some (p, true)) {e : Env} {h : AHeap} (hk : atJ prog C 85 (G_der_Oid.J Q) true p G_der_Oid.ann G_der_Oid.body e h (kFun prog Tryd.f28 Q)) : G_der_Oid.J Q k e h := goJ_head (P := prog) (fn := Tryd.f28) (ann := G_der_Oid.ann) (body := G_der_Oid.body) (Q := Q) (k := k) (p := p) (e := e) (h := h) (acall_le X) G_der_Oid.dist hl hk
def G_der_Oid.p0 (Q : AV → AHeap → Prop) (x1 : AV) (x20 : Bool) (h : AHeap) : Prop := G_der_Oid.J Q 1 [(1, x1), (20, (AV.b x20))] h
theorem G_der_Oid.j0 (Q : AV → AHeap → Prop) (x1 : AV) (x20 : Bool) (h : AHeap) : G_der_Oid.J Q 1 [(1, x1), (20, (AV.b x20))] h = G_der_Oid.p0 Q x1 x20 h := rfl
def G_der_Oid.p2 (Q : AV → AHeap → Prop) (x1 : AV) (x4 : AV) (x5 : Int) (x8 : Int) (x23 : Int) (x24 : Int) (x37 : Bool) (h : AHeap) : Prop := G_der_Oid.J Q 3 [(1, x1), (4, x4), (5, (AV.i .i64 x5)), (8, (AV.i .i64 x8)), (23, (AV.i .i64 x23)), (24, (AV.i .i64 x24)), (37, (AV.b x37))] h
theorem G_der_Oid.j2 (Q : AV → AHeap → Prop) (x1 : AV) (x4 : AV) (x5 : Int) (x8 : Int) (x23 : Int) (x24 : Int) (x37 : Bool) (h : AHeap) : G_der_Oid.J Q 3 [(1, x1), (4, x4), (5, (AV.i .i64 x5)), (8, (AV.i .i64 x8)), (23, (AV.i .i64 x23)), (24, (AV.i .i64 x24)), (37, (AV.b x37))] h = G_der_Oid.p2 Q x1 x4 x5 x8 x23 x24 x37 h := rfl
def G_der_Oid.p3 (Q : AV → AHeap → Prop) (x1 : AV) (x4 : AV) (x5 : Int) (x6 : Bool) (x23 : Int) (x24 : Int) (h : AHeap) : Prop := G_der_Oid.J Q 4 [(1, x1), (4, x4), (5, (AV.i .i64 x5)), (6, (AV.b x6)), (23, (AV.i .i64 x23)), (24, (AV.i .i64 x24))] h
theorem G_der_Oid.j3 (Q : AV → AHeap → Prop) (x1 : AV) (x4 : AV) (x5 : Int) (x6 : Bool) (x23 : Int) (x24 : Int) (h : AHeap) : G_der_Oid.J Q 4 [(1, x1), (4, x4), (5, (AV.i .i64 x5)), (6, (AV.b x6)), (23, (AV.i .i64 x23)), (24, (AV.i .i64 x24))] h = G_der_Oid.p3 Q x1 x4 x5 x6 x23 x24 h := rfl
def G_der_Oid.p1 (Q : AV → AHeap → Prop) (x1 : AV) (x4 : AV) (x5 : Int) (x6 : Bool) (x23 : Int) (x24 : Int) (h : AHeap) : Prop := G_der_Oid.J Q 2 [(1, x1), (4, x4), (5, (AV.i .i64 x5)), (6, (AV.b x6)), (23, (AV.i .i64 x23)), (24, (AV.i .i64 x24))] h
theorem G_der_Oid.j1 (Q : AV → AHeap → Prop) (x1 : AV) (x4 : AV) (x5 : Int) (x6 : Bool) (x23 : Int) (x24 : Int) (h : AHeap) : G_der_Oid.J Q 2 [(1, x1), (4, x4), (5, (AV.i .i64 x5)), (6, (AV.b x6)), (23, (AV.i .i64 x23)), (24, (AV.i .i64 x24))] h = G_der_Oid.p1 Q x1 x4 x5 x6 x23 x24 h := rfl
def G_der_Oid.p4 (Q : AV → AHeap → Prop) (x10 : List UInt8) (x72 : AV) (x73 : Int) (x74 : Int) (h : AHeap) : Prop := G_der_Oid.J Q 5 [(10, (AV.s x10)), (72, x72), (73, (AV.i .i64 x73)), (74, (AV.i .i64 x74))] h
theorem G_der_Oid.j4 (Q : AV → AHeap → Prop) (x10 : List UInt8) (x72 : AV) (x73 : Int) (x74 : Int) (h : AHeap) : G_der_Oid.J Q 5 [(10, (AV.s x10)), (72, x72), (73, (AV.i .i64 x73)), (74, (AV.i .i64 x74))] h = G_der_Oid.p4 Q x10 x72 x73 x74 h := rfl
def G_der_Oid.t0 (J : JT) (Q : AV → AHeap → Prop) (x1 : AV) (x20 : Bool) (h : AHeap) : Prop :=
(bif x20 then
(Q (AV.tu [(AV.s []), (AV.b false)]) h)
else
(pFieldAddr 3 x1 fun v16 =>
pLoad1 v16 h fun v17 =>
asS v17 fun l18 =>
J 2 [(1, x1), (4, (AV.sl none 0 none)), (5, (AV.i .i64 0)), (6, (AV.b false)), (23, (AV.i .i64 (l18.length : Int))), (24, (AV.i .i64 0))] h))
theorem G_der_Oid.t0_eq (J : JT) (Q : AV → AHeap → Prop) (x1 : AV) (x20 : Bool) (h : AHeap) : G_der_Oid.t0 J Q x1 x20 h = atJ prog C 85 J false [1, 0, 1] G_der_Oid.ann G_der_Oid.body [(1, x1), (20, (AV.b x20))] h (kFun prog Tryd.f28 Q) := by kernel_rfl
theorem G_der_Oid.i0 {Q : AV → AHeap → Prop} {x1 : AV} {x20 : Bool} {h : AHeap} (H : G_der_Oid.t0 (G_der_Oid.J Q) Q x1 x20 h) : G_der_Oid.p0 Q x1 x20 h := G_der_Oid.goR (k := 1) (p := [1, 0, 1]) (by kernel_rfl) ((G_der_Oid.t0_eq (G_der_Oid.J Q) Q x1 x20 h).mp H)
def G_der_Oid.t2 (J : JT) (Q : AV → AHeap → Prop) (x1 : AV) (x4 : AV) (x5 : Int) (x8 : Int) (x23 : Int) (x24 : Int) (x37 : Bool) (h : AHeap) : Prop :=
(bif x37 then
(Q (AV.tu [(AV.s []), (AV.b false)]) h)
else
(pShl .i64 x5 7 fun n33 =>
withI (bitsOp .and .i64 x8 127) fun n34 =>
withI (bitsOp .or .i64 n33 n34) fun n35 =>
(bif (decide ((268435456 : Int) ≤ n35)) then
(Q (AV.tu [(AV.s []), (AV.b false)]) h)
else
((bif (!(decide ((128 : Int) ≤ x8))) then
(pBuildSl 1 1 [(AV.i .i64 0)] [(0, 1, (AV.i .i64 n35))] h fun v42 h43 =>
pAppend 1 8 x4 v42 h43 fun v44 h45 =>
J 4 [(1, x1), (4, v44), (5, (AV.i .i64 0)), (6, (AV.b (decide ((128 : Int) ≤ x8)))), (23, (AV.i .i64 x23)), (24, (AV.i .i64 x24))] h45)
else
(J 4 [(1, x1), (4, x4), (5, (AV.i .i64 n35)), (6, (AV.b (decide ((128 : Int) ≤ x8)))), (23, (AV.i .i64 x23)), (24, (AV.i .i64 x24))] h))))))
theorem G_der_Oid.t2_eq (J : JT) (Q : AV → AHeap → Prop) (x1 : AV) (x4 : AV) (x5 : Int) (x8 : Int) (x23 : Int) (x24 : Int) (x37 : Bool) (h : AHeap) : G_der_Oid.t2 J Q x1 x4 x5 x8 x23 x24 x37 h = atJ prog C 85 J false [1, 1, 1, 1, 0, 1, 0, 0, 1, 1, 0, 0, 1, 1, 0, 1] G_der_Oid.ann G_der_Oid.body [(1, x1), (4, x4), (5, (AV.i .i64 x5)), (8, (AV.i .i64 x8)), (23, (AV.i .i64 x23)), (24, (AV.i .i64 x24)), (37, (AV.b x37))] h (kFun prog Tryd.f28 Q) := by kernel_rfl
theorem G_der_Oid.i2 {Q : AV → AHeap → Prop} {x1 : AV} {x4 : AV} {x5 : Int} {x8 : Int} {x23 : Int} {x24 : Int} {x37 : Bool} {h : AHeap} (H : G_der_Oid.t2 (G_der_Oid.J Q) Q x1 x4 x5 x8 x23 x24 x37 h) : G_der_Oid.p2 Q x1 x4 x5 x8 x23 x24 x37 h := G_der_Oid.goR (k := 3) (p := [1, 1, 1, 1, 0, 1, 0, 0, 1, 1, 0, 0, 1, 1, 0, 1]) (by kernel_rfl) ((G_der_Oid.t2_eq (G_der_Oid.J Q) Q x1 x4 x5 x8 x23 x24 x37 h).mp H)
def G_der_Oid.t3 (J : JT) (Q : AV → AHeap → Prop) (x1 : AV) (x4 : AV) (x5 : Int) (x6 : Bool) (x23 : Int) (x24 : Int) (h : AHeap) : Prop :=
withI (IntKind.wrap .i64 (x24 + 1)) fun n49 =>
J 2 [(1, x1), (4, x4), (5, (AV.i .i64 x5)), (6, (AV.b x6)), (23, (AV.i .i64 x23)), (24, (AV.i .i64 n49))] h
theorem G_der_Oid.t3_eq (J : JT) (Q : AV → AHeap → Prop) (x1 : AV) (x4 : AV) (x5 : Int) (x6 : Bool) (x23 : Int) (x24 : Int) (h : AHeap) : G_der_Oid.t3 J Q x1 x4 x5 x6 x23 x24 h = atJ prog C 85 J false [1, 1, 1, 1, 0, 1, 0, 0, 1, 1, 1] G_der_Oid.ann G_der_Oid.body [(1, x1), (4, x4), (5, (AV.i .i64 x5)), (6, (AV.b x6)), (23, (AV.i .i64 x23)), (24, (AV.i .i64 x24))] h (kFun prog Tryd.f28 Q) := by kernel_rfl
theorem G_der_Oid.i3 {Q : AV → AHeap → Prop} {x1 : AV} {x4 : AV} {x5 : Int} {x6 : Bool} {x23 : Int} {x24 : Int} {h : AHeap} (H : G_der_Oid.t3 (G_der_Oid.J Q) Q x1 x4 x5 x6 x23 x24 h) : G_der_Oid.p3 Q x1 x4 x5 x6 x23 x24 h := G_der_Oid.goR (k := 4) (p := [1, 1, 1, 1, 0, 1, 0, 0, 1, 1, 1]) (by kernel_rfl) ((G_der_Oid.t3_eq (G_der_Oid.J Q) Q x1 x4 x5 x6 x23 x24 h).mp H)
def G_der_Oid.t1 (J : JT) (Q : AV → AHeap → Prop) (x1 : AV) (x4 : AV) (x5 : Int) (x6 : Bool) (x23 : Int) (x24 : Int) (h : AHeap) : Prop :=
(bif (decide ((x24 : Int) < x23)) then
(pFieldAddr 3 x1 fun v24 =>
pLoad1 v24 h fun v25 =>
asS v25 fun l26 =>
pIdxStr (AV.s l26) (AV.i .i64 x24) fun n27 =>
(bif (!x6) then
(J 3 [(1, x1), (4, x4), (5, (AV.i .i64 x5)), (8, (AV.i .i64 (IntKind.wrap .i64 n27))), (23, (AV.i .i64 x23)), (24, (AV.i .i64 x24)), (37, (AV.b (decide (((IntKind.wrap .i64 n27) : Int) = 128))))] h)
else
(J 3 [(1, x1), (4, x4), (5, (AV.i .i64 x5)), (8, (AV.i .i64 (IntKind.wrap .i64 n27))), (23, (AV.i .i64 x23)), (24, (AV.i .i64 x24)), (37, (AV.b false))] h)))
else
((bif x6 then
(Q (AV.tu [(AV.s []), (AV.b false)]) h)
else
(pIdxAddrSl 1 x4 (AV.i .i64 0) h fun v54 =>
pLoad1 v54 h fun v55 =>
asI .i64 v55 fun n56 =>
pQuo .i64 n56 40 fun n57 =>
pIdxAddrSl 1 x4 (AV.i .i64 0) h fun v59 =>
pLoad1 v59 h fun v60 =>
asI .i64 v60 fun n61 =>
withI (IntKind.wrap .i64 (40 * (mmI false 2 n57))) fun n62 =>
withI (IntKind.wrap .i64 (n61 - n62)) fun n63 =>
C G_strconv_Itoa.id [(AV.i .i64 (mmI false 2 n57))] h fun v64 h65 =>
asS v64 fun l66 =>
pLoad1 v59 h65 fun v67 =>
asI .i64 v67 fun n68 =>
((AV.i .i64 n61) = (AV.i .i64 n68) ∧
(pIdxAddrSl 1 x4 (AV.i .i64 0) h65 fun v69 =>
(v59 = v69 ∧
(pCat l66 [46] fun l70 =>
C G_strconv_Itoa.id [(AV.i .i64 n63)] h65 fun v71 h72 =>
asS v71 fun l73 =>
pLoad1 v59 h72 fun v74 =>
asI .i64 v74 fun n75 =>
((AV.i .i64 n61) = (AV.i .i64 n75) ∧
(pIdxAddrSl 1 x4 (AV.i .i64 0) h72 fun v76 =>
(v59 = v76 ∧
(pCat l70 l73 fun l77 =>
pSliceSl 1 x4 (some (AV.i .i64 1)) none none h72 fun v79 =>
pLenSl v79 fun n80 =>
J 5 [(10, (AV.s l77)), (72, v79), (73, (AV.i .i64 n80)), (74, (AV.i .i64 0))] h72))))))))))))
theorem G_der_Oid.t1_eq (J : JT) (Q : AV → AHeap → Prop) (x1 : AV) (x4 : AV) (x5 : Int) (x6 : Bool) (x23 : Int) (x24 : Int) (h : AHeap) : G_der_Oid.t1 J Q x1 x4 x5 x6 x23 x24 h = atJ prog C 85 J true [1, 1, 1, 1, 0, 1, 0] G_der_Oid.ann G_der_Oid.body [(1, x1), (4, x4), (5, (AV.i .i64 x5)), (6, (AV.b x6)), (23, (AV.i .i64 x23)), (24, (AV.i .i64 x24))] h (kFun prog Tryd.f28 Q) := by kernel_rfl
theorem G_der_Oid.i1 {Q : AV → AHeap → Prop} {x1 : AV} {x4 : AV} {x5 : Int} {x6 : Bool} {x23 : Int} {x24 : Int} {h : AHeap} (H : G_der_Oid.t1 (G_der_Oid.J Q) Q x1 x4 x5 x6 x23 x24 h) : G_der_Oid.p1 Q x1 x4 x5 x6 x23 x24 h := G_der_Oid.goH (k := 2) (p := [1, 1, 1, 1, 0, 1, 0]) (by kernel_rfl) ((G_der_Oid.t1_eq (G_der_Oid.J Q) Q x1 x4 x5 x6 x23 x24 h).mp H)
def G_der_Oid.t4 (J : JT) (Q : AV → AHeap → Prop) (x10 : List UInt8) (x72 : AV) (x73 : Int) (x74 : Int) (h : AHeap) : Prop :=
(bif (decide ((x74 : Int) < x73)) then
(pIdxAddrSl 1 x72 (AV.i .i64 x74) h fun v85 =>
pLoad1 v85 h fun v86 =>
asI .i64 v86 fun n87 =>
C G_strconv_Itoa.id [(AV.i .i64 n87)] h fun v89 h90 =>
asS v89 fun l91 =>
pCat [46] l91 fun l92 =>
pCat x10 l92 fun l93 =>
withI (IntKind.wrap .i64 (x74 + 1)) fun n95 =>
J 5 [(10, (AV.s l93)), (72, x72), (73, (AV.i .i64 x73)), (74, (AV.i .i64 n95))] h90)
else
(Q (AV.tu [(AV.s x10), (AV.b true)]) h))
theorem G_der_Oid.t4_eq (J : JT) (Q : AV → AHeap → Prop) (x10 : List UInt8) (x72 : AV) (x73 : Int) (x74 : Int) (h : AHeap) : G_der_Oid.t4 J Q x10 x72 x73 x74 h = atJ prog C 85 J true [1, 1, 1, 1, 1, 1, 1, 1, 0, 1, 0] G_der_Oid.ann G_der_Oid.body [(10, (AV.s x10)), (72, x72), (73, (AV.i .i64 x73)), (74, (AV.i .i64 x74))] h (kFun prog Tryd.f28 Q) := by kernel_rfl
theorem G_der_Oid.i4 {Q : AV → AHeap → Prop} {x10 : List UInt8} {x72 : AV} {x73 : Int} {x74 : Int} {h : AHeap} (H : G_der_Oid.t4 (G_der_Oid.J Q) Q x10 x72 x73 x74 h) : G_der_Oid.p4 Q x10 x72 x73 x74 h := G_der_Oid.goH (k := 5) (p := [1, 1, 1, 1, 1, 1, 1, 1, 0, 1, 0]) (by kernel_rfl) ((G_der_Oid.t4_eq (G_der_Oid.J Q) Q x10 x72 x73 x74 h).mp H)
def G_der_Oid.t (J : JT) (Q : AV → AHeap → Prop) (x0 : AV) (h : AHeap) : Prop :=
pBox x0 h fun v0 h1 =>
pLoadN 5 v0 h1 fun v3 =>
C G_der_plain.id [v3, (AV.i .i64 6)] h1 fun v4 h5 =>
asB v4 fun c6 =>
(bif (!c6) then
(J 1 [(1, v0), (20, (AV.b true))] h5)
else
(pFieldAddr 3 v0 fun v8 =>
pLoad1 v8 h5 fun v9 =>
asS v9 fun l10 =>
J 1 [(1, v0), (20, (AV.b (decide ((l10 : List UInt8) = []))))] h5))
theorem G_der_Oid.t_eq (J : JT) (Q : AV → AHeap → Prop) (x0 : AV) (h : AHeap) : G_der_Oid.t J Q x0 h = exJ prog C 85 J G_der_Oid.ann G_der_Oid.body (initEnv 0 [x0]) h (kFun prog Tryd.f28 Q) := by kernel_rfl
theorem G_der_Oid.call {K : AV → AHeap → Prop} {x0 : AV} {h : AHeap} (H : G_der_Oid.t (G_der_Oid.J (kRet h K)) (kRet h K) x0 h) : C G_der_Oid.id [x0] h K :=
  callJ (P := prog) (fn := Tryd.f28) (ann := G_der_Oid.ann) (body := G_der_Oid.body) Tryd.func28 G_der_Oid.body_eq (by kernel_rfl) G_der_Oid.dist (by kernel_rfl) ((G_der_Oid.t_eq (G_der_Oid.J (kRet h K)) (kRet h K) x0 h).mp H)

--@@ G_ref33_Oid
/-! ### 29: intrusion/intrusionref33.Oid -/
noncomputable def G_ref33_Oid.body : Code := (Tryd.f29.body).getD .skip
def G_ref33_Oid.ann : Ann := (.seq 0 [1] .leaf (.seq 0 [1, 4] .leaf (.seq 0 [4] (.seq 1 [4, 26] .leaf (.br (.seq 0 [2, 3] .leaf .leaf) .leaf)) (.seq 0 [4, 5] .leaf (.seq 0 [4, 5, 6] .leaf (.seq 0 [4, 5, 6, 7] .leaf (.seq 0 [5] (.seq 0 [4, 5, 6, 7, 8] .leaf (.one (.loop 2 [4, 5, 6, 7, 8] (.seq 0 [4, 5, 6, 7, 8] (.seq 0 [4, 5, 6, 7, 8, 30] .leaf (.br .leaf .leaf)) (.seq 5 [4, 5, 6, 7, 8] (.one (.seq 0 [4, 5, 6, 8] (.seq 3 [4, 5, 6, 8, 40] .leaf (.br (.seq 0 [2, 3] .leaf .leaf) .leaf)) (.seq 0 [4, 5, 6, 7, 8] .leaf (.seq 0 [4, 5, 6, 7, 8] .leaf (.seq 0 [4, 5, 6, 7, 8] (.seq 0 [4, 5, 6, 7, 8, 50] .leaf (.br (.seq 0 [2, 3] .leaf .leaf) .leaf)) (.seq 0 [4, 5, 6, 8] (.seq 0 [4, 5, 6, 7, 8, 54] .leaf (.br .leaf .leaf)) (.seq 4 [4, 5, 8] (.seq 0 [4, 5, 6, 8, 56] .leaf (.br (.seq 0 [4, 6, 8, 9] .leaf .leaf) .leaf)) (.seq 0 [4, 5, 6, 8] .leaf .leaf)))))))) .leaf))))) (.seq 0 [2, 3] .leaf .leaf))))))))
theorem G_ref33_Oid.body_eq : Tryd.f29.body = some G_ref33_Oid.body := by kernel_rfl
theorem G_ref33_Oid.dist : noTwice (places G_ref33_Oid.ann G_ref33_Oid.body) = true := by kernel_rfl
noncomputable def G_ref33_Oid.J (Q : AV → AHeap → Prop) : JT := funJ prog C Tryd.f29 G_ref33_Oid.ann G_ref33_Oid.body Q
theorem G_ref33_Oid.goR {Q : AV → AHeap → Prop} {k : Nat} {p : List Nat} (hl : lookJ (places G_ref33_Oid.ann G_ref33_Oid.body) k = some (p, false)) {e : Env} {h : AHeap} (hk : atJ prog C 75 (G_ref33_Oid.J Q) false p G_ref33_Oid.ann G_ref33_Oid.body e h (kFun prog Tryd.f29 Q)) : G_ref33_Oid.J Q k e h := goJ_run (P := prog) (fn := Tryd.f29) (ann := G_ref33_Oid.ann) (body := G_ref33_Oid.body) (Q := Q) (k := k) (p := p) (e := e) (h := h) (acall_le X) G_ref33_Oid.dist hl hk
theorem G_ref33_Oid.goH {Q : AV → AHeap → Prop} {k : Nat} {p : List Nat} (hl : lookJ (places G_ref33_Oid.ann G_ref33_Oid.body) k = some (p, true)) {e : Env} {h : AHeap} (hk : atJ prog C 75 (G_ref33_Oid.J Q) true p G_ref33_Oid.ann G_ref33_Oid.body e h (kFun prog Tryd.f29 Q)) : G_ref33_Oid.J Q k e h := goJ_head (P := prog) (fn := Tryd.f29) (ann := G_ref33_Oid.ann) (body := G_ref33_Oid.body) (Q := Q) (k := k) (p := p) (e := e) (h := h) (acall_le X) G_ref33_Oid.dist hl hk
def G_ref33_Oid.p0 (Q : AV → AHeap → Prop) (x4 : List UInt8) (x26 : Bool) (h : AHeap) : Prop := G_ref33_Oid.J Q 1 [(4, (AV.s x4)), (26, (AV.b x26))] h
theorem G_ref33_Oid.j0 (Q : AV → AHeap → Prop) (x4 : List UInt8) (x26 : Bool) (h : AHeap) : G_ref33_Oid.J Q 1 [(4, (AV.s x4)), (26, (AV.b x26))] h = G_ref33_Oid.p0 Q x4 x26 h := rfl
def G_ref33_Oid.p2 (Q : AV → AHeap → Prop) (x4 : List UInt8) (x5 : List UInt8) (x6 : Int) (x8 : Int) (x40 : Bool) (h : AHeap) : Prop := G_ref33_Oid.J Q 3 [(4, (AV.s x4)), (5, (AV.s x5)), (6, (AV.i .i64 x6)), (8, (AV.i .i64 x8)), (40, (AV.b x40))] h
theorem G_ref33_Oid.j2 (Q : AV → AHeap → Prop) (x4 : List UInt8) (x5 : List UInt8) (x6 : Int) (x8 : Int) (x40 : Bool) (h : AHeap) : G_ref33_Oid.J Q 3 [(4, (AV.s x4)), (5, (AV.s x5)), (6, (AV.i .i64 x6)), (8, (AV.i .i64 x8)), (40, (AV.b x40))] h = G_ref33_Oid.p2 Q x4 x5 x6 x8 x40 h := rfl
def G_ref33_Oid.p3 (Q : AV → AHeap → Prop) (x4 : List UInt8) (x5 : List UInt8) (x8 : Int) (h : AHeap) : Prop := G_ref33_Oid.J Q 4 [(4, (AV.s x4)), (5, (AV.s x5)), (8, (AV.i .i64 x8))] h
theorem G_ref33_Oid.j3 (Q : AV → AHeap → Prop) (x4 : List UInt8) (x5 : List UInt8) (x8 : Int) (h : AHeap) : G_ref33_Oid.J Q 4 [(4, (AV.s x4)), (5, (AV.s x5)), (8, (AV.i .i64 x8))] h = G_ref33_Oid.p3 Q x4 x5 x8 h := rfl
def G_ref33_Oid.p4 (Q : AV → AHeap → Prop) (x4 : List UInt8) (x5 : List UInt8) (x6 : Int) (x7 : Bool) (x8 : Int) (h : AHeap) : Prop := G_ref33_Oid.J Q 5 [(4, (AV.s x4)), (5, (AV.s x5)), (6, (AV.i .i64 x6)), (7, (AV.b x7)), (8, (AV.i .i64 x8))] h
theorem G_ref33_Oid.j4 (Q : AV → AHeap → Prop) (x4 : List UInt8) (x5 : List UInt8) (x6 : Int) (x7 : Bool) (x8 : Int) (h : AHeap) : G_ref33_Oid.J Q 5 [(4, (AV.s x4)), (5, (AV.s x5)), (6, (AV.i .i64 x6)), (7, (AV.b x7)), (8, (AV.i .i64 x8))] h = G_ref33_Oid.p4 Q x4 x5 x6 x7 x8 h := rfl
def G_ref33_Oid.p1 (Q : AV → AHeap → Prop) (x4 : List UInt8) (x5 : List UInt8) (x6 : Int) (x7 : Bool) (x8 : Int) (h : AHeap) : Prop := G_ref33_Oid.J Q 2 [(4, (AV.s x4)), (5, (AV.s x5)), (6, (AV.i .i64 x6)), (7, (AV.b x7)), (8, (AV.i .i64 x8))] h
theorem G_ref33_Oid.j1 (Q : AV → AHeap → Prop) (x4 : List UInt8) (x5 : List UInt8) (x6 : Int) (x7 : Bool) (x8 : Int) (h : AHeap) : G_ref33_Oid.J Q 2 [(4, (AV.s x4)), (5, (AV.s x5)), (6, (AV.i .i64 x6)), (7, (AV.b x7)), (8, (AV.i .i64 x8))] h = G_ref33_Oid.p1 Q x4 x5 x6 x7 x8 h := rfl
def G_ref33_Oid.t0 (J : JT) (Q : AV → AHeap → Prop) (x4 : List UInt8) (x26 : Bool) (h : AHeap) : Prop :=
(bif x26 then
(Q (AV.tu [(AV.s []), (AV.b false)]) h)
else
(J 2 [(4, (AV.s x4)), (5, (AV.s [])), (6, (AV.i .i64 0)), (7, (AV.b false)), (8, (AV.i .i64 0))] h))
theorem G_ref33_Oid.t0_eq (J : JT) (Q : AV → AHeap → Prop) (x4 : List UInt8) (x26 : Bool) (h : AHeap) : G_ref33_Oid.t0 J Q x4 x26 h = atJ prog C 75 J false [1, 1, 0, 1] G_ref33_Oid.ann G_ref33_Oid.body [(4, (AV.s x4)), (26, (AV.b x26))] h (kFun prog Tryd.f29 Q) := by kernel_rfl
theorem G_ref33_Oid.i0 {Q : AV → AHeap → Prop} {x4 : List UInt8} {x26 : Bool} {h : AHeap} (H : G_ref33_Oid.t0 (G_ref33_Oid.J Q) Q x4 x26 h) : G_ref33_Oid.p0 Q x4 x26 h := G_ref33_Oid.goR (k := 1) (p := [1, 1, 0, 1]) (by kernel_rfl) ((G_ref33_Oid.t0_eq (G_ref33_Oid.J Q) Q x4 x26 h).mp H)
def G_ref33_Oid.t2 (J : JT) (Q : AV → AHeap → Prop) (x4 : List UInt8) (x5 : List UInt8) (x6 : Int) (x8 : Int) (x40 : Bool) (h : AHeap) : Prop :=
(bif x40 then
(Q (AV.tu [(AV.s []), (AV.b false)]) h)
else
(withI (IntKind.wrap .i64 (x6 * 128)) fun n31 =>
pIdxStr (AV.s x4) (AV.i .i64 x8) fun n32 =>
pRem (IntKind.wrap .i64 n32) 128 fun n33 =>
withI (IntKind.wrap .i64 (n31 + n33)) fun n34 =>
(bif (decide ((268435456 : Int) ≤ n34)) then
(Q (AV.tu [(AV.s []), (AV.b false)]) h)
else
(pIdxStr (AV.s x4) (AV.i .i64 x8) fun n39 =>
(bif (decide ((128 : Int) ≤ n39)) then
(J 5 [(4, (AV.s x4)), (5, (AV.s x5)), (6, (AV.i .i64 n34)), (7, (AV.b true)), (8, (AV.i .i64 x8))] h)
else
((bif (decide ((x5 : List UInt8) = [])) then
(pQuo .i64 n34 40 fun n44 =>
C G_ref06_Number.id [(AV.i .i64 (mmI false n44 2))] h fun v46 h47 =>
asS v46 fun l48 =>
pCat l48 [46] fun l49 =>
withI (IntKind.wrap .i64 (40 * (mmI false n44 2))) fun n50 =>
withI (IntKind.wrap .i64 (n34 - n50)) fun n51 =>
C G_ref06_Number.id [(AV.i .i64 n51)] h47 fun v52 h53 =>
asS v52 fun l54 =>
pCat l49 l54 fun l55 =>
J 4 [(4, (AV.s x4)), (5, (AV.s l55)), (8, (AV.i .i64 x8))] h53)
else
(C G_ref06_Number.id [(AV.i .i64 n34)] h fun v57 h58 =>
asS v57 fun l59 =>
pCat [46] l59 fun l60 =>
pCat x5 l60 fun l61 =>
J 4 [(4, (AV.s x4)), (5, (AV.s l61)), (8, (AV.i .i64 x8))] h58))))))))
theorem G_ref33_Oid.t2_eq (J : JT) (Q : AV → AHeap → Prop) (x4 : List UInt8) (x5 : List UInt8) (x6 : Int) (x8 : Int) (x40 : Bool) (h : AHeap) : G_ref33_Oid.t2 J Q x4 x5 x6 x8 x40 h = atJ prog C 75 J false [1, 1, 1, 1, 1, 1, 0, 1, 0, 0, 1, 0, 0, 0, 1] G_ref33_Oid.ann G_ref33_Oid.body [(4, (AV.s x4)), (5, (AV.s x5)), (6, (AV.i .i64 x6)), (8, (AV.i .i64 x8)), (40, (AV.b x40))] h (kFun prog Tryd.f29 Q) := by kernel_rfl
theorem G_ref33_Oid.i2 {Q : AV → AHeap → Prop} {x4 : List UInt8} {x5 : List UInt8} {x6 : Int} {x8 : Int} {x40 : Bool} {h : AHeap} (H : G_ref33_Oid.t2 (G_ref33_Oid.J Q) Q x4 x5 x6 x8 x40 h) : G_ref33_Oid.p2 Q x4 x5 x6 x8 x40 h := G_ref33_Oid.goR (k := 3) (p := [1, 1, 1, 1, 1, 1, 0, 1, 0, 0, 1, 0, 0, 0, 1]) (by kernel_rfl) ((G_ref33_Oid.t2_eq (G_ref33_Oid.J Q) Q x4 x5 x6 x8 x40 h).mp H)
def G_ref33_Oid.t3 (J : JT) (Q : AV → AHeap → Prop) (x4 : List UInt8) (x5 : List UInt8) (x8 : Int) (h : AHeap) : Prop :=
J 5 [(4, (AV.s x4)), (5, (AV.s x5)), (6, (AV.i .i64 0)), (7, (AV.b false)), (8, (AV.i .i64 x8))] h
theorem G_ref33_Oid.t3_eq (J : JT) (Q : AV → AHeap → Prop) (x4 : List UInt8) (x5 : List UInt8) (x8 : Int) (h : AHeap) : G_ref33_Oid.t3 J Q x4 x5 x8 h = atJ prog C 75 J false [1, 1, 1, 1, 1, 1, 0, 1, 0, 0, 1, 0, 0, 1, 1, 1, 1, 1, 1] G_ref33_Oid.ann G_ref33_Oid.body [(4, (AV.s x4)), (5, (AV.s x5)), (8, (AV.i .i64 x8))] h (kFun prog Tryd.f29 Q) := by kernel_rfl
theorem G_ref33_Oid.i3 {Q : AV → AHeap → Prop} {x4 : List UInt8} {x5 : List UInt8} {x8 : Int} {h : AHeap} (H : G_ref33_Oid.t3 (G_ref33_Oid.J Q) Q x4 x5 x8 h) : G_ref33_Oid.p3 Q x4 x5 x8 h := G_ref33_Oid.goR (k := 4) (p := [1, 1, 1, 1, 1, 1, 0, 1, 0, 0, 1, 0, 0, 1, 1, 1, 1, 1, 1]) (by kernel_rfl) ((G_ref33_Oid.t3_eq (G_ref33_Oid.J Q) Q x4 x5 x8 h).mp H)
def G_ref33_Oid.t4 (J : JT) (Q : AV → AHeap → Prop) (x4 : List UInt8) (x5 : List UInt8) (x6 : Int) (x7 : Bool) (x8 : Int) (h : AHeap) : Prop :=
withI (IntKind.wrap .i64 (x8 + 1)) fun n65 =>
J 2 [(4, (AV.s x4)), (5, (AV.s x5)), (6, (AV.i .i64 x6)), (7, (AV.b x7)), (8, (AV.i .i64 n65))] h
theorem G_ref33_Oid.t4_eq (J : JT) (Q : AV → AHeap → Prop) (x4 : List UInt8) (x5 : List UInt8) (x6 : Int) (x7 : Bool) (x8 : Int) (h : AHeap) : G_ref33_Oid.t4 J Q x4 x5 x6 x7 x8 h = atJ prog C 75 J false [1, 1, 1, 1, 1, 1, 0, 1, 0, 0, 1, 1] G_ref33_Oid.ann G_ref33_Oid.body [(4, (AV.s x4)), (5, (AV.s x5)), (6, (AV.i .i64 x6)), (7, (AV.b x7)), (8, (AV.i .i64 x8))] h (kFun prog Tryd.f29 Q) := by kernel_rfl
theorem G_ref33_Oid.i4 {Q : AV → AHeap → Prop} {x4 : List UInt8} {x5 : List UInt8} {x6 : Int} {x7 : Bool} {x8 : Int} {h : AHeap} (H : G_ref33_Oid.t4 (G_ref33_Oid.J Q) Q x4 x5 x6 x7 x8 h) : G_ref33_Oid.p4 Q x4 x5 x6 x7 x8 h := G_ref33_Oid.goR (k := 5) (p := [1, 1, 1, 1, 1, 1, 0, 1, 0, 0, 1, 1]) (by kernel_rfl) ((G_ref33_Oid.t4_eq (G_ref33_Oid.J Q) Q x4 x5 x6 x7 x8 h).mp H)
def G_ref33_Oid.t1 (J : JT) (Q : AV → AHeap → Prop) (x4 : List UInt8) (x5 : List UInt8) (x6 : Int) (x7 : Bool) (x8 : Int) (h : AHeap) : Prop :=
(bif (decide ((x8 : Int) < (x4.length : Int))) then
((bif (!x7) then
(pIdxStr (AV.s x4) (AV.i .i64 x8) fun n25 =>
J 3 [(4, (AV.s x4)), (5, (AV.s x5)), (6, (AV.i .i64 x6)), (8, (AV.i .i64 x8)), (40, (AV.b (decide ((n25 : Int) = 128))))] h)
else
(J 3 [(4, (AV.s x4)), (5, (AV.s x5)), (6, (AV.i .i64 x6)), (8, (AV.i .i64 x8)), (40, (AV.b false))] h)))
else
(Q (AV.tu [(AV.s x5), (AV.b true)]) h))
theorem G_ref33_Oid.t1_eq (J : JT) (Q : AV → AHeap → Prop) (x4 : List UInt8) (x5 : List UInt8) (x6 : Int) (x7 : Bool) (x8 : Int) (h : AHeap) : G_ref33_Oid.t1 J Q x4 x5 x6 x7 x8 h = atJ prog C 75 J true [1, 1, 1, 1, 1, 1, 0, 1, 0] G_ref33_Oid.ann G_ref33_Oid.body [(4, (AV.s x4)), (5, (AV.s x5)), (6, (AV.i .i64 x6)), (7, (AV.b x7)), (8, (AV.i .i64 x8))] h (kFun prog Tryd.f29 Q) := by kernel_rfl
theorem G_ref33_Oid.i1 {Q : AV → AHeap → Prop} {x4 : List UInt8} {x5 : List UInt8} {x6 : Int} {x7 : Bool} {x8 : Int} {h : AHeap} (H : G_ref33_Oid.t1 (G_ref33_Oid.J Q) Q x4 x5 x6 x7 x8 h) : G_ref33_Oid.p1 Q x4 x5 x6 x7 x8 h := G_ref33_Oid.goH (k := 2) (p := [1, 1, 1, 1, 1, 1, 0, 1, 0]) (by kernel_rfl) ((G_ref33_Oid.t1_eq (G_ref33_Oid.J Q) Q x4 x5 x6 x7 x8 h).mp H)
def G_ref33_Oid.t (J : JT) (Q : AV → AHeap → Prop) (x0 : AV) (h : AHeap) : Prop :=
pBox x0 h fun v0 h1 =>
pFieldAddr 3 v0 fun v3 =>
pLoad1 v3 h1 fun v4 =>
asS v4 fun l5 =>
pLoadN 5 v0 h1 fun v7 =>
C G_ref33_plain.id [v7, (AV.i .i64 6)] h1 fun v8 h9 =>
asB v8 fun c10 =>
(bif (!c10) then
(J 1 [(4, (AV.s l5)), (26, (AV.b true))] h9)
else
((bif (decide ((l5 : List UInt8) = [])) then
(J 1 [(4, (AV.s l5)), (26, (AV.b true))] h9)
else
(withI (IntKind.wrap .i64 ((l5.length : Int) - 1)) fun n13 =>
pIdxStr (AV.s l5) (AV.i .i64 n13) fun n14 =>
J 1 [(4, (AV.s l5)), (26, (AV.b (decide ((128 : Int) ≤ n14))))] h9))))
theorem G_ref33_Oid.t_eq (J : JT) (Q : AV → AHeap → Prop) (x0 : AV) (h : AHeap) : G_ref33_Oid.t J Q x0 h = exJ prog C 75 J G_ref33_Oid.ann G_ref33_Oid.body (initEnv 0 [x0]) h (kFun prog Tryd.f29 Q) := by kernel_rfl
theorem G_ref33_Oid.call {K : AV → AHeap → Prop} {x0 : AV} {h : AHeap} (H : G_ref33_Oid.t (G_ref33_Oid.J (kRet h K)) (kRet h K) x0 h) : C G_ref33_Oid.id [x0] h K :=
  callJ (P := prog) (fn := Tryd.f29) (ann := G_ref33_Oid.ann) (body := G_ref33_Oid.body) Tryd.func29 G_ref33_Oid.body_eq (by kernel_rfl) G_ref33_Oid.dist (by kernel_rfl) ((G_ref33_Oid.t_eq (G_ref33_Oid.J (kRet h K)) (kRet h K) x0 h).mp H)

--@@ G_der_OidOf
/-! ### 30: intrusion/der.OidOf -/
noncomputable def G_der_OidOf.body : Code := (Tryd.f30.body).getD .skip
def G_der_OidOf.ann : Ann := (.seq 0 [0, 2] .leaf (.seq 0 [0, 2] (.seq 0 [0, 2, 15] .leaf (.br (.seq 0 [2, 3] .leaf .leaf) .leaf)) (.seq 0 [0, 2, 4] .leaf (.seq 0 [2, 4] (.seq 0 [2, 4, 18, 19, 20] .leaf (.one (.loop 1 [2, 4, 18, 19, 20] (.seq 0 [2, 4, 18, 19, 20, 21] .leaf (.seq 0 [2, 4, 18, 19, 20] (.br .leaf .leaf) (.seq 0 [2, 4, 18, 19, 20] (.one (.seq 0 [2, 4, 6, 18, 19, 20] .leaf (.seq 0 [2, 4, 7, 8, 18, 19, 20] .leaf (.seq 0 [2, 4, 7, 18, 19, 20] (.seq 0 [2, 4, 7, 18, 19, 20, 30] .leaf (.br (.seq 0 [2, 3] .leaf .leaf) .leaf)) .leaf)))) .leaf)))))) (.seq 0 [2, 4] (.seq 2 [2, 4, 68] (.ord (.neu 0 (.neu 1 (.neu 2 (.neu 3 (.neu 4 (.neu 5 (.neu 6 (.neu 7 (.neu 8 (.neu 9 (.neu 10 (.neu 11 (.neu 12 (.neu 13 (.neu 14 (.neu 15 (.neu 16 (.neu 17 (.neu 18 (.neu 19 (.neu 20 (.neu 21 (.neu 22 (.neu 23 (.neu 24 (.neu 25 (.neu 26 (.neu 27 (.neu 28 (.neu 29 (.neu 30 (.neu 31 .done))))))))))))))))))))))))))))))))) (.br (.seq 0 [2, 3] .leaf .leaf) .leaf)) (.seq 0 [2, 4, 9] .leaf (.seq 0 [2, 9] (.seq 0 [2, 9, 81, 82, 83] (.ord (.neu 0 (.neu 1 (.neu 2 (.neu 3 (.neu 4 (.neu 5 (.neu 6 (.neu 7 (.neu 9 (.neu 10 (.neu 13 (.eff 8 (.eff 11 (.neu 12 .done) .stop) .stop))))))))))))) (.one (.loop 3 [2, 9, 81, 82, 83] (.seq 0 [2, 9, 81, 82, 83, 84] .leaf (.seq 0 [2, 9, 81, 82, 83] (.br .leaf .leaf) (.seq 0 [2, 9, 81, 82, 83] (.one (.seq 0 [2, 9, 11, 81, 82, 83] .leaf (.seq 0 [2, 9, 11, 12, 81, 82, 83] .leaf (.seq 0 [2, 9, 11, 12, 81, 82, 83] (.one (.loop 4 [2, 9, 11, 12, 81, 82, 83] (.seq 0 [2, 9, 11, 12, 81, 82, 83] (.seq 0 [2, 9, 11, 12, 81, 82, 83, 92] .leaf (.br .leaf .leaf)) (.one .leaf)))) (.seq 0 [2, 9, 11, 81, 82, 83] (.one (.loop 5 [2, 9, 11, 12, 81, 82, 83] (.seq 0 [2, 9, 11, 12, 81, 82, 83] (.seq 0 [2, 9, 11, 12, 81, 82, 83, 96] .leaf (.br .leaf .leaf)) (.seq 0 [2, 9, 11, 12, 81, 82, 83] (.one .leaf) .leaf)))) .leaf))))) .leaf)))))) (.seq 0 [2, 3] .leaf .leaf))))))))
theorem G_der_OidOf.body_eq : Tryd.f30.body = some G_der_OidOf.body := by kernel_rfl
theorem G_der_OidOf.dist : noTwice (places G_der_OidOf.ann G_der_OidOf.body) = true := by kernel_rfl
noncomputable def G_der_OidOf.J (Q : AV → AHeap → Prop) : JT := funJ prog C Tryd.f30 G_der_OidOf.ann G_der_OidOf.body Q
theorem G_der_OidOf.goR {Q : AV → AHeap → Prop} {k : Nat} {p : List Nat} (hl : lookJ (places G_der_OidOf.ann G_der_OidOf.body) k = some (p, false)) {e : Env} {h : AHeap} (hk : atJ prog C 119 (G_der_OidOf.J Q) false p G_der_OidOf.ann G_der_OidOf.body e h (kFun prog Tryd.f30 Q)) : G_der_OidOf.J Q k e h := goJ_run (P := prog) (fn := Tryd.f30) (ann := G_der_OidOf.ann) (body := G_der_OidOf.body) (Q := Q) (k := k) (p := p) (e := e) (h := h) (acall_le X) G_der_OidOf.dist hl hk
theorem G_der_OidOf.goH {Q : AV → AHeap → Prop} {k : Nat} {p : List Nat} (hl : lookJ (places G_der_OidOf.ann G_der_OidOf.body) k = some (p, true)) {e : Env} {h : AHeap} (hk : atJ prog C 119 (G_der_OidOf.J Q) true p G_der_OidOf.ann G_der_OidOf.body e h (kFun prog Tryd.f30 Q)) : G_der_OidOf.J Q k e h := goJ_head (P := prog) (fn := Tryd.f30) (ann := G_der_OidOf.ann) (body := G_der_OidOf.body) (Q := Q) (k := k) (p := p) (e := e) (h := h) (acall_le X) G_der_OidOf.dist hl hk
def G_der_OidOf.p0 (Q : AV → AHeap → Prop) (x2 : AV) (x4 : AV) (x18 : AV) (x19 : Int) (x20 : Int) (h : AHeap) : Prop := G_der_OidOf.J Q 1 [(2, x2), (4, x4), (18, x18), (19, (AV.i .i64 x19)), (20, (AV.i .i64 x20))] h
theorem G_der_OidOf.j0 (Q : AV → AHeap → Prop) (x2 : AV) (x4 : AV) (x18 : AV) (x19 : Int) (x20 : Int) (h : AHeap) : G_der_OidOf.J Q 1 [(2, x2), (4, x4), (18, x18), (19, (AV.i .i64 x19)), (20, (AV.i .i64 x20))] h = G_der_OidOf.p0 Q x2 x4 x18 x19 x20 h := rfl
def G_der_OidOf.p1 (Q : AV → AHeap → Prop) (x2 : AV) (x4 : AV) (x68 : Bool) (h : AHeap) : Prop := G_der_OidOf.J Q 2 [(2, x2), (4, x4), (68, (AV.b x68))] h
theorem G_der_OidOf.j1 (Q : AV → AHeap → Prop) (x2 : AV) (x4 : AV) (x68 : Bool) (h : AHeap) : G_der_OidOf.J Q 2 [(2, x2), (4, x4), (68, (AV.b x68))] h = G_der_OidOf.p1 Q x2 x4 x68 h := rfl
def G_der_OidOf.p3 (Q : AV → AHeap → Prop) (x2 : AV) (x9 : AV) (x11 : Int) (x12 : Int) (x81 : AV) (x82 : Int) (x83 : Int) (h : AHeap) : Prop := G_der_OidOf.J Q 4 [(2, x2), (9, x9), (11, (AV.i .i64 x11)), (12, (AV.i .i64 x12)), (81, x81), (82, (AV.i .i64 x82)), (83, (AV.i .i64 x83))] h
theorem G_der_OidOf.j3 (Q : AV → AHeap → Prop) (x2 : AV) (x9 : AV) (x11 : Int) (x12 : Int) (x81 : AV) (x82 : Int) (x83 : Int) (h : AHeap) : G_der_OidOf.J Q 4 [(2, x2), (9, x9), (11, (AV.i .i64 x11)), (12, (AV.i .i64 x12)), (81, x81), (82, (AV.i .i64 x82)), (83, (AV.i .i64 x83))] h = G_der_OidOf.p3 Q x2 x9 x11 x12 x81 x82 x83 h := rfl
def G_der_OidOf.p4 (Q : AV → AHeap → Prop) (x2 : AV) (x9 : AV) (x11 : Int) (x12 : Int) (x81 : AV) (x82 : Int) (x83 : Int) (h : AHeap) : Prop := G_der_OidOf.J Q 5 [(2, x2), (9, x9), (11, (AV.i .i64 x11)), (12, (AV.i .i64 x12)), (81, x81), (82, (AV.i .i64 x82)), (83, (AV.i .i64 x83))] h
theorem G_der_OidOf.j4 (Q : AV → AHeap → Prop) (x2 : AV) (x9 : AV) (x11 : Int) (x12 : Int) (x81 : AV) (x82 : Int) (x83 : Int) (h : AHeap) : G_der_OidOf.J Q 5 [(2, x2), (9, x9), (11, (AV.i .i64 x11)), (12, (AV.i .i64 x12)), (81, x81), (82, (AV.i .i64 x82)), (83, (AV.i .i64 x83))] h = G_der_OidOf.p4 Q x2 x9 x11 x12 x81 x82 x83 h := rfl
def G_der_OidOf.p2 (Q : AV → AHeap → Prop) (x2 : AV) (x9 : AV) (x81 : AV) (x82 : Int) (x83 : Int) (h : AHeap) : Prop := G_der_OidOf.J Q 3 [(2, x2), (9, x9), (81, x81), (82, (AV.i .i64 x82)), (83, (AV.i .i64 x83))] h
theorem G_der_OidOf.j2 (Q : AV → AHeap → Prop) (x2 : AV) (x9 : AV) (x81 : AV) (x82 : Int) (x83 : Int) (h : AHeap) : G_der_OidOf.J Q 3 [(2, x2), (9, x9), (81, x81), (82, (AV.i .i64 x82)), (83, (AV.i .i64 x83))] h = G_der_OidOf.p2 Q x2 x9 x81 x82 x83 h := rfl
def G_der_OidOf.t0 (J : JT) (Q : AV → AHeap → Prop) (x2 : AV) (x4 : AV) (x18 : AV) (x19 : Int) (x20 : Int) (h : AHeap) : Prop :=
(bif (decide ((x20 : Int) < x19)) then
(pIdxAddrSl 1 x18 (AV.i .i64 x20) h fun v16 =>
pLoad1 v16 h fun v17 =>
asS v17 fun l18 =>
C G_der_number.id [(AV.s l18)] h fun v20 h21 =>
pExtract 0 v20 fun v22 =>
asI .i64 v22 fun n23 =>
pExtract 1 v20 fun v24 =>
asB v24 fun c25 =>
(bif (!c25) then
(pStore 5 x2 (AV.ag [(AV.i .i64 0), (AV.i .i64 0), (AV.b false), (AV.s []), (AV.sl none 0 none)]) h21 fun h28 =>
pLoadN 5 x2 h28 fun v30 =>
Q (AV.tu [v30, (AV.i .i64 2)]) h28)
else
(pBuildSl 1 1 [(AV.i .i64 0)] [(0, 1, (AV.i .i64 n23))] h21 fun v32 h33 =>
pAppend 1 8 x4 v32 h33 fun v34 h35 =>
withI (IntKind.wrap .i64 (x20 + 1)) fun n37 =>
J 1 [(2, x2), (4, v34), (18, x18), (19, (AV.i .i64 x19)), (20, (AV.i .i64 n37))] h35)))
else
(pLenSl x4 fun n39 =>
(bif (decide ((n39 : Int) < 2)) then
(J 2 [(2, x2), (4, x4), (68, (AV.b true))] h)
else
(pIdxAddrSl 1 x4 (AV.i .i64 0) h fun v41 =>
pLoad1 v41 h fun v42 =>
asI .i64 v42 fun n43 =>
(bif (decide ((2 : Int) < n43)) then
(J 2 [(2, x2), (4, x4), (68, (AV.b true))] h)
else
(pIdxAddrSl 1 x4 (AV.i .i64 0) h fun v45 =>
pLoad1 v45 h fun v46 =>
asI .i64 v46 fun n47 =>
(bif (decide ((n47 : Int) < 2)) then
(pIdxAddrSl 1 x4 (AV.i .i64 1) h fun v48 =>
pLoad1 v48 h fun v49 =>
asI .i64 v49 fun n50 =>
(bif (decide ((40 : Int) ≤ n50)) then
(J 2 [(2, x2), (4, x4), (68, (AV.b true))] h)
else
(pIdxAddrSl 1 x4 (AV.i .i64 0) h fun v52 =>
pLoad1 v52 h fun v53 =>
asI .i64 v53 fun n54 =>
withI (IntKind.wrap .i64 (40 * n54)) fun n55 =>
pIdxAddrSl 1 x4 (AV.i .i64 1) h fun v56 =>
pLoad1 v56 h fun v57 =>
asI .i64 v57 fun n58 =>
withI (IntKind.wrap .i64 (n55 + n58)) fun n59 =>
J 2 [(2, x2), (4, x4), (68, (AV.b (decide ((268435456 : Int) ≤ n59))))] h)))
else
(pIdxAddrSl 1 x4 (AV.i .i64 0) h fun v61 =>
pLoad1 v61 h fun v62 =>
asI .i64 v62 fun n63 =>
withI (IntKind.wrap .i64 (40 * n63)) fun n64 =>
pIdxAddrSl 1 x4 (AV.i .i64 1) h fun v65 =>
pLoad1 v65 h fun v66 =>
asI .i64 v66 fun n67 =>
withI (IntKind.wrap .i64 (n64 + n67)) fun n68 =>
J 2 [(2, x2), (4, x4), (68, (AV.b (decide ((268435456 : Int) ≤ n68))))] h))))))))
theorem G_der_OidOf.t0_eq (J : JT) (Q : AV → AHeap → Prop) (x2 : AV) (x4 : AV) (x18 : AV) (x19 : Int) (x20 : Int) (h : AHeap) : G_der_OidOf.t0 J Q x2 x4 x18 x19 x20 h = atJ prog C 119 J true [1, 1, 1, 0, 1, 0] G_der_OidOf.ann G_der_OidOf.body [(2, x2), (4, x4), (18, x18), (19, (AV.i .i64 x19)), (20, (AV.i .i64 x20))] h (kFun prog Tryd.f30 Q) := by kernel_rfl
theorem G_der_OidOf.i0 {Q : AV → AHeap → Prop} {x2 : AV} {x4 : AV} {x18 : AV} {x19 : Int} {x20 : Int} {h : AHeap} (H : G_der_OidOf.t0 (G_der_OidOf.J Q) Q x2 x4 x18 x19 x20 h) : G_der_OidOf.p0 Q x2 x4 x18 x19 x20 h := G_der_OidOf.goH (k := 1) (p := [1, 1, 1, 0, 1, 0]) (by kernel_rfl) ((G_der_OidOf.t0_eq (G_der_OidOf.J Q) Q x2 x4 x18 x19 x20 h).mp H)
def G_der_OidOf.t1 (J : JT) (Q : AV → AHeap → Prop) (x2 : AV) (x4 : AV) (x68 : Bool) (h : AHeap) : Prop :=
(bif x68 then
(pStore 5 x2 (AV.ag [(AV.i .i64 0), (AV.i .i64 0), (AV.b false), (AV.s []), (AV.sl none 0 none)]) h fun h70 =>
pLoadN 5 x2 h70 fun v72 =>
Q (AV.tu [v72, (AV.i .i64 2)]) h70)
else
(pIdxAddrSl 1 x4 (AV.i .i64 0) h fun v75 =>
pLoad1 v75 h fun v76 =>
asI .i64 v76 fun n77 =>
withI (IntKind.wrap .i64 (40 * n77)) fun n78 =>
pIdxAddrSl 1 x4 (AV.i .i64 1) h fun v79 =>
pLoad1 v79 h fun v80 =>
asI .i64 v80 fun n81 =>
withI (IntKind.wrap .i64 (n78 + n81)) fun n82 =>
pSliceSl 1 x4 (some (AV.i .i64 2)) none none h fun v83 =>
pBuildSl 1 1 [(AV.i .i64 0)] [(0, 1, (AV.i .i64 n82))] h fun v84 h85 =>
pSliceSl 1 x4 (some (AV.i .i64 2)) none none h85 fun v86 =>
(v83 = v86 ∧
(pLoad1 v79 h85 fun v87 =>
asI .i64 v87 fun n88 =>
((AV.i .i64 n81) = (AV.i .i64 n88) ∧
(pIdxAddrSl 1 x4 (AV.i .i64 1) h85 fun v89 =>
(v79 = v89 ∧
(pLoad1 v75 h85 fun v90 =>
asI .i64 v90 fun n91 =>
((AV.i .i64 n77) = (AV.i .i64 n91) ∧
(pIdxAddrSl 1 x4 (AV.i .i64 0) h85 fun v92 =>
(v75 = v92 ∧
(pAppend 1 8 v84 v83 h85 fun v93 h94 =>
pLoad1 v79 h94 fun v95 =>
asI .i64 v95 fun n96 =>
((AV.i .i64 n81) = (AV.i .i64 n96) ∧
(pIdxAddrSl 1 x4 (AV.i .i64 1) h94 fun v97 =>
(v79 = v97 ∧
(pLoad1 v75 h94 fun v98 =>
asI .i64 v98 fun n99 =>
((AV.i .i64 n77) = (AV.i .i64 n99) ∧
(pIdxAddrSl 1 x4 (AV.i .i64 0) h94 fun v100 =>
(v75 = v100 ∧
(pLenSl v93 fun n101 =>
J 3 [(2, x2), (9, (AV.sl none 0 none)), (81, v93), (82, (AV.i .i64 n101)), (83, (AV.i .i64 0))] h94))))))))))))))))))))
theorem G_der_OidOf.t1_eq (J : JT) (Q : AV → AHeap → Prop) (x2 : AV) (x4 : AV) (x68 : Bool) (h : AHeap) : G_der_OidOf.t1 J Q x2 x4 x68 h = atJ prog C 119 J false [1, 1, 1, 1, 0, 1] G_der_OidOf.ann G_der_OidOf.body [(2, x2), (4, x4), (68, (AV.b x68))] h (kFun prog Tryd.f30 Q) := by kernel_rfl
theorem G_der_OidOf.i1 {Q : AV → AHeap → Prop} {x2 : AV} {x4 : AV} {x68 : Bool} {h : AHeap} (H : G_der_OidOf.t1 (G_der_OidOf.J Q) Q x2 x4 x68 h) : G_der_OidOf.p1 Q x2 x4 x68 h := G_der_OidOf.goR (k := 2) (p := [1, 1, 1, 1, 0, 1]) (by kernel_rfl) ((G_der_OidOf.t1_eq (G_der_OidOf.J Q) Q x2 x4 x68 h).mp H)
def G_der_OidOf.t3 (J : JT) (Q : AV → AHeap → Prop) (x2 : AV) (x9 : AV) (x11 : Int) (x12 : Int) (x81 : AV) (x82 : Int) (x83 : Int) (h : AHeap) : Prop :=
withI (IntKind.wrap .i64 (x12 + 1)) fun n111 =>
withI (IntKind.wrap .i64 (7 * n111)) fun n112 =>
pShr .i64 x11 n112 fun n113 =>
(bif (decide ((0 : Int) < n113)) then
(withI (IntKind.wrap .i64 (x12 + 1)) fun n117 =>
J 4 [(2, x2), (9, x9), (11, (AV.i .i64 x11)), (12, (AV.i .i64 n117)), (81, x81), (82, (AV.i .i64 x82)), (83, (AV.i .i64 x83))] h)
else
(J 5 [(2, x2), (9, x9), (11, (AV.i .i64 x11)), (12, (AV.i .i64 x12)), (81, x81), (82, (AV.i .i64 x82)), (83, (AV.i .i64 x83))] h))
theorem G_der_OidOf.t3_eq (J : JT) (Q : AV → AHeap → Prop) (x2 : AV) (x9 : AV) (x11 : Int) (x12 : Int) (x81 : AV) (x82 : Int) (x83 : Int) (h : AHeap) : G_der_OidOf.t3 J Q x2 x9 x11 x12 x81 x82 x83 h = atJ prog C 119 J true [1, 1, 1, 1, 1, 1, 0, 1, 0, 0, 1, 1, 0, 0, 1, 1, 0, 0] G_der_OidOf.ann G_der_OidOf.body [(2, x2), (9, x9), (11, (AV.i .i64 x11)), (12, (AV.i .i64 x12)), (81, x81), (82, (AV.i .i64 x82)), (83, (AV.i .i64 x83))] h (kFun prog Tryd.f30 Q) := by kernel_rfl
theorem G_der_OidOf.i3 {Q : AV → AHeap → Prop} {x2 : AV} {x9 : AV} {x11 : Int} {x12 : Int} {x81 : AV} {x82 : Int} {x83 : Int} {h : AHeap} (H : G_der_OidOf.t3 (G_der_OidOf.J Q) Q x2 x9 x11 x12 x81 x82 x83 h) : G_der_OidOf.p3 Q x2 x9 x11 x12 x81 x82 x83 h := G_der_OidOf.goH (k := 4) (p := [1, 1, 1, 1, 1, 1, 0, 1, 0, 0, 1, 1, 0, 0, 1, 1, 0, 0]) (by kernel_rfl) ((G_der_OidOf.t3_eq (G_der_OidOf.J Q) Q x2 x9 x11 x12 x81 x82 x83 h).mp H)
def G_der_OidOf.t4 (J : JT) (Q : AV → AHeap → Prop) (x2 : AV) (x9 : AV) (x11 : Int) (x12 : Int) (x81 : AV) (x82 : Int) (x83 : Int) (h : AHeap) : Prop :=
(bif (decide ((0 : Int) < x12)) then
(withI (IntKind.wrap .i64 (7 * x12)) fun n122 =>
pShr .i64 x11 n122 fun n123 =>
withI (bitsOp .and .i64 n123 127) fun n124 =>
withI (bitsOp .or .i64 n124 128) fun n125 =>
pBuildSl 1 1 [(AV.i .u8 0)] [(0, 1, (AV.i .u8 (IntKind.wrap .u8 n125)))] h fun v126 h127 =>
pAppend 1 1 x9 v126 h127 fun v128 h129 =>
withI (IntKind.wrap .i64 (x12 - 1)) fun n131 =>
J 5 [(2, x2), (9, v128), (11, (AV.i .i64 x11)), (12, (AV.i .i64 n131)), (81, x81), (82, (AV.i .i64 x82)), (83, (AV.i .i64 x83))] h129)
else
(withI (bitsOp .and .i64 x11 127) fun n133 =>
pBuildSl 1 1 [(AV.i .u8 0)] [(0, 1, (AV.i .u8 (IntKind.wrap .u8 n133)))] h fun v134 h135 =>
pAppend 1 1 x9 v134 h135 fun v136 h137 =>
withI (IntKind.wrap .i64 (x83 + 1)) fun n139 =>
J 3 [(2, x2), (9, v136), (81, x81), (82, (AV.i .i64 x82)), (83, (AV.i .i64 n139))] h137))
theorem G_der_OidOf.t4_eq (J : JT) (Q : AV → AHeap → Prop) (x2 : AV) (x9 : AV) (x11 : Int) (x12 : Int) (x81 : AV) (x82 : Int) (x83 : Int) (h : AHeap) : G_der_OidOf.t4 J Q x2 x9 x11 x12 x81 x82 x83 h = atJ prog C 119 J true [1, 1, 1, 1, 1, 1, 0, 1, 0, 0, 1, 1, 0, 0, 1, 1, 1, 0, 0] G_der_OidOf.ann G_der_OidOf.body [(2, x2), (9, x9), (11, (AV.i .i64 x11)), (12, (AV.i .i64 x12)), (81, x81), (82, (AV.i .i64 x82)), (83, (AV.i .i64 x83))] h (kFun prog Tryd.f30 Q) := by kernel_rfl
theorem G_der_OidOf.i4 {Q : AV → AHeap → Prop} {x2 : AV} {x9 : AV} {x11 : Int} {x12 : Int} {x81 : AV} {x82 : Int} {x83 : Int} {h : AHeap} (H : G_der_OidOf.t4 (G_der_OidOf.J Q) Q x2 x9 x11 x12 x81 x82 x83 h) : G_der_OidOf.p4 Q x2 x9 x11 x12 x81 x82 x83 h := G_der_OidOf.goH (k := 5) (p := [1, 1, 1, 1, 1, 1, 0, 1, 0, 0, 1, 1, 0, 0, 1, 1, 1, 0, 0]) (by kernel_rfl) ((G_der_OidOf.t4_eq (G_der_OidOf.J Q) Q x2 x9 x11 x12 x81 x82 x83 h).mp H)
def G_der_OidOf.t2 (J : JT) (Q : AV → AHeap → Prop) (x2 : AV) (x9 : AV) (x81 : AV) (x82 : Int) (x83 : Int) (h : AHeap) : Prop :=
(bif (decide ((x83 : Int) < x82)) then
(pIdxAddrSl 1 x81 (AV.i .i64 x83) h fun v106 =>
pLoad1 v106 h fun v107 =>
asI .i64 v107 fun n108 =>
J 4 [(2, x2), (9, x9), (11, (AV.i .i64 n108)), (12, (AV.i .i64 0)), (81, x81), (82, (AV.i .i64 x82)), (83, (AV.i .i64 x83))] h)
else
(pBytesStr x9 h fun l141 =>
pStore 5 x2 (AV.ag [(AV.i .i64 0), (AV.i .i64 6), (AV.b false), (AV.s l141), (AV.sl none 0 none)]) h fun h142 =>
pLoadN 5 x2 h142 fun v144 =>
Q (AV.tu [v144, (AV.i .i64 0)]) h142))
theorem G_der_OidOf.t2_eq (J : JT) (Q : AV → AHeap → Prop) (x2 : AV) (x9 : AV) (x81 : AV) (x82 : Int) (x83 : Int) (h : AHeap) : G_der_OidOf.t2 J Q x2 x9 x81 x82 x83 h = atJ prog C 119 J true [1, 1, 1, 1, 1, 1, 0, 1, 0] G_der_OidOf.ann G_der_OidOf.body [(2, x2), (9, x9), (81, x81), (82, (AV.i .i64 x82)), (83, (AV.i .i64 x83))] h (kFun prog Tryd.f30 Q) := by kernel_rfl
theorem G_der_OidOf.i2 {Q : AV → AHeap → Prop} {x2 : AV} {x9 : AV} {x81 : AV} {x82 : Int} {x83 : Int} {h : AHeap} (H : G_der_OidOf.t2 (G_der_OidOf.J Q) Q x2 x9 x81 x82 x83 h) : G_der_OidOf.p2 Q x2 x9 x81 x82 x83 h := G_der_OidOf.goH (k := 3) (p := [1, 1, 1, 1, 1, 1, 0, 1, 0]) (by kernel_rfl) ((G_der_OidOf.t2_eq (G_der_OidOf.J Q) Q x2 x9 x81 x82 x83 h).mp H)
def G_der_OidOf.t (J : JT) (Q : AV → AHeap → Prop) (x0 : List UInt8) (h : AHeap) : Prop :=
pAlloc [(AV.i .i64 0), (AV.i .i64 0), (AV.b false), (AV.s []), (AV.sl none 0 none)] h fun v0 h1 =>
(bif (decide ((256 : Int) < (x0.length : Int))) then
(pStore 5 v0 (AV.ag [(AV.i .i64 0), (AV.i .i64 0), (AV.b false), (AV.s []), (AV.sl none 0 none)]) h1 fun h4 =>
pLoadN 5 v0 h4 fun v6 =>
Q (AV.tu [v6, (AV.i .i64 3)]) h4)
else
(C G_strings_Split.id [(AV.s x0), (AV.s [46])] h1 fun v9 h10 =>
pLenSl v9 fun n11 =>
J 1 [(2, v0), (4, (AV.sl none 0 none)), (18, v9), (19, (AV.i .i64 n11)), (20, (AV.i .i64 0))] h10))
theorem G_der_OidOf.t_eq (J : JT) (Q : AV → AHeap → Prop) (x0 : List UInt8) (h : AHeap) : G_der_OidOf.t J Q x0 h = exJ prog C 119 J G_der_OidOf.ann G_der_OidOf.body (initEnv 0 [(AV.s x0)]) h (kFun prog Tryd.f30 Q) := by kernel_rfl
theorem G_der_OidOf.call {K : AV → AHeap → Prop} {x0 : List UInt8} {h : AHeap} (H : G_der_OidOf.t (G_der_OidOf.J (kRet h K)) (kRet h K) x0 h) : C G_der_OidOf.id [(AV.s x0)] h K :=
  callJ (P := prog) (fn := Tryd.f30) (ann := G_der_OidOf.ann) (body := G_der_OidOf.body) Tryd.func30 G_der_OidOf.body_eq (by kernel_rfl) G_der_OidOf.dist (by kernel_rfl) ((G_der_OidOf.t_eq (G_der_OidOf.J (kRet h K)) (kRet h K) x0 h).mp H)

--@@ G_ref33_OidOf
/-! ### 31: intrusion/intrusionref33.OidOf -/
noncomputable def G_ref33_OidOf.body : Code := (Tryd.f31.body).getD .skip
def G_ref33_OidOf.ann : Ann := (.seq 0 [0, 2] .leaf (.seq 0 [0, 2] (.seq 0 [0, 2, 12] .leaf (.br (.seq 0 [2, 3] .leaf .leaf) .leaf)) (.seq 0 [2, 4] .leaf (.seq 0 [2, 4] (.seq 0 [2, 4, 18] .leaf (.br (.seq 0 [2, 3] .leaf .leaf) .leaf)) (.seq 0 [2, 4, 5] .leaf (.seq 0 [2, 4, 5, 6] .leaf (.seq 0 [2, 5] (.seq 0 [2, 4, 5, 6, 7] .leaf (.one (.loop 1 [2, 4, 5, 6, 7] (.seq 0 [2, 4, 5, 6, 7] (.seq 0 [2, 4, 5, 6, 7, 27] .leaf (.br .leaf .leaf)) (.seq 0 [2, 4, 5, 6, 7] (.one (.seq 0 [2, 4, 5, 6, 7, 8] .leaf (.seq 3 [2, 4, 5, 6, 7, 8] (.seq 2 [2, 4, 5, 6, 7, 8, 35] .leaf (.br .leaf .leaf)) (.seq 0 [2, 4, 5, 6, 7, 9] .leaf (.seq 0 [2, 4, 5, 6, 7, 9] (.seq 4 [2, 4, 5, 6, 7, 9, 47] .leaf (.br (.seq 0 [2, 3] .leaf .leaf) .leaf)) (.seq 5 [2, 4, 5, 6, 7, 9] (.seq 0 [2, 4, 5, 6, 7, 9, 50] .leaf (.br .leaf .leaf)) (.seq 0 [2, 4, 5, 6, 7, 9] (.seq 0 [2, 4, 5, 6, 7, 9, 56] .leaf (.br (.seq 0 [2, 3] .leaf .leaf) .leaf)) .leaf))))))) .leaf))))) (.seq 0 [2, 3] .leaf .leaf))))))))
theorem G_ref33_OidOf.body_eq : Tryd.f31.body = some G_ref33_OidOf.body := by kernel_rfl
theorem G_ref33_OidOf.dist : noTwice (places G_ref33_OidOf.ann G_ref33_OidOf.body) = true := by kernel_rfl
noncomputable def G_ref33_OidOf.J (Q : AV → AHeap → Prop) : JT := funJ prog C Tryd.f31 G_ref33_OidOf.ann G_ref33_OidOf.body Q
theorem G_ref33_OidOf.goR {Q : AV → AHeap → Prop} {k : Nat} {p : List Nat} (hl : lookJ (places G_ref33_OidOf.ann G_ref33_OidOf.body) k = some (p, false)) {e : Env} {h : AHeap} (hk : atJ prog C 64 (G_ref33_OidOf.J Q) false p G_ref33_OidOf.ann G_ref33_OidOf.body e h (kFun prog Tryd.f31 Q)) : G_ref33_OidOf.J Q k e h := goJ_run (P := prog) (fn := Tryd.f31) (ann := G_ref33_OidOf.ann) (body := G_ref33_OidOf.body) (Q := Q) (k := k) (p := p) (e := e) (h := h) (acall_le X) G_ref33_OidOf.dist hl hk
theorem G_ref33_OidOf.goH {Q : AV → AHeap → Prop} {k : Nat} {p : List Nat} (hl : lookJ (places G_ref33_OidOf.ann G_ref33_OidOf.body) k = some (p, true)) {e : Env} {h : AHeap} (hk : atJ prog C 64 (G_ref33_OidOf.J Q) true p G_ref33_OidOf.ann G_ref33_OidOf.body e h (kFun prog Tryd.f31 Q)) : G_ref33_OidOf.J Q k e h := goJ_head (P := prog) (fn := Tryd.f31) (ann := G_ref33_OidOf.ann) (body := G_ref33_OidOf.body) (Q := Q) (k := k) (p := p) (e := e) (h := h) (acall_le X) G_ref33_OidOf.dist hl hk
def G_ref33_OidOf.p1 (Q : AV → AHeap → Prop) (x2 : AV) (x4 : AV) (x5 : List UInt8) (x6 : Int) (x7 : Int) (x8 : Int) (x35 : Bool) (h : AHeap) : Prop := G_ref33_OidOf.J Q 2 [(2, x2), (4, x4), (5, (AV.s x5)), (6, (AV.i .i64 x6)), (7, (AV.i .i64 x7)), (8, (AV.i .i64 x8)), (35, (AV.b x35))] h
theorem G_ref33_OidOf.j1 (Q : AV → AHeap → Prop) (x2 : AV) (x4 : AV) (x5 : List UInt8) (x6 : Int) (x7 : Int) (x8 : Int) (x35 : Bool) (h : AHeap) : G_ref33_OidOf.J Q 2 [(2, x2), (4, x4), (5, (AV.s x5)), (6, (AV.i .i64 x6)), (7, (AV.i .i64 x7)), (8, (AV.i .i64 x8)), (35, (AV.b x35))] h = G_ref33_OidOf.p1 Q x2 x4 x5 x6 x7 x8 x35 h := rfl
def G_ref33_OidOf.p3 (Q : AV → AHeap → Prop) (x2 : AV) (x4 : AV) (x5 : List UInt8) (x6 : Int) (x7 : Int) (x9 : Int) (x47 : Bool) (h : AHeap) : Prop := G_ref33_OidOf.J Q 4 [(2, x2), (4, x4), (5, (AV.s x5)), (6, (AV.i .i64 x6)), (7, (AV.i .i64 x7)), (9, (AV.i .i64 x9)), (47, (AV.b x47))] h
theorem G_ref33_OidOf.j3 (Q : AV → AHeap → Prop) (x2 : AV) (x4 : AV) (x5 : List UInt8) (x6 : Int) (x7 : Int) (x9 : Int) (x47 : Bool) (h : AHeap) : G_ref33_OidOf.J Q 4 [(2, x2), (4, x4), (5, (AV.s x5)), (6, (AV.i .i64 x6)), (7, (AV.i .i64 x7)), (9, (AV.i .i64 x9)), (47, (AV.b x47))] h = G_ref33_OidOf.p3 Q x2 x4 x5 x6 x7 x9 x47 h := rfl
def G_ref33_OidOf.p4 (Q : AV → AHeap → Prop) (x2 : AV) (x4 : AV) (x5 : List UInt8) (x6 : Int) (x7 : Int) (x9 : Int) (h : AHeap) : Prop := G_ref33_OidOf.J Q 5 [(2, x2), (4, x4), (5, (AV.s x5)), (6, (AV.i .i64 x6)), (7, (AV.i .i64 x7)), (9, (AV.i .i64 x9))] h
theorem G_ref33_OidOf.j4 (Q : AV → AHeap → Prop) (x2 : AV) (x4 : AV) (x5 : List UInt8) (x6 : Int) (x7 : Int) (x9 : Int) (h : AHeap) : G_ref33_OidOf.J Q 5 [(2, x2), (4, x4), (5, (AV.s x5)), (6, (AV.i .i64 x6)), (7, (AV.i .i64 x7)), (9, (AV.i .i64 x9))] h = G_ref33_OidOf.p4 Q x2 x4 x5 x6 x7 x9 h := rfl
def G_ref33_OidOf.p2 (Q : AV → AHeap → Prop) (x2 : AV) (x4 : AV) (x5 : List UInt8) (x6 : Int) (x7 : Int) (x8 : Int) (h : AHeap) : Prop := G_ref33_OidOf.J Q 3 [(2, x2), (4, x4), (5, (AV.s x5)), (6, (AV.i .i64 x6)), (7, (AV.i .i64 x7)), (8, (AV.i .i64 x8))] h
theorem G_ref33_OidOf.j2 (Q : AV → AHeap → Prop) (x2 : AV) (x4 : AV) (x5 : List UInt8) (x6 : Int) (x7 : Int) (x8 : Int) (h : AHeap) : G_ref33_OidOf.J Q 3 [(2, x2), (4, x4), (5, (AV.s x5)), (6, (AV.i .i64 x6)), (7, (AV.i .i64 x7)), (8, (AV.i .i64 x8))] h = G_ref33_OidOf.p2 Q x2 x4 x5 x6 x7 x8 h := rfl
def G_ref33_OidOf.p0 (Q : AV → AHeap → Prop) (x2 : AV) (x4 : AV) (x5 : List UInt8) (x6 : Int) (x7 : Int) (h : AHeap) : Prop := G_ref33_OidOf.J Q 1 [(2, x2), (4, x4), (5, (AV.s x5)), (6, (AV.i .i64 x6)), (7, (AV.i .i64 x7))] h
theorem G_ref33_OidOf.j0 (Q : AV → AHeap → Prop) (x2 : AV) (x4 : AV) (x5 : List UInt8) (x6 : Int) (x7 : Int) (h : AHeap) : G_ref33_OidOf.J Q 1 [(2, x2), (4, x4), (5, (AV.s x5)), (6, (AV.i .i64 x6)), (7, (AV.i .i64 x7))] h = G_ref33_OidOf.p0 Q x2 x4 x5 x6 x7 h := rfl
def G_ref33_OidOf.t1 (J : JT) (Q : AV → AHeap → Prop) (x2 : AV) (x4 : AV) (x5 : List UInt8) (x6 : Int) (x7 : Int) (x8 : Int) (x35 : Bool) (h : AHeap) : Prop :=
(bif x35 then
(J 3 [(2, x2), (4, x4), (5, (AV.s x5)), (6, (AV.i .i64 x6)), (7, (AV.i .i64 x7)), (8, (AV.i .i64 39))] h)
else
(J 3 [(2, x2), (4, x4), (5, (AV.s x5)), (6, (AV.i .i64 x6)), (7, (AV.i .i64 x7)), (8, (AV.i .i64 x8))] h))
theorem G_ref33_OidOf.t1_eq (J : JT) (Q : AV → AHeap → Prop) (x2 : AV) (x4 : AV) (x5 : List UInt8) (x6 : Int) (x7 : Int) (x8 : Int) (x35 : Bool) (h : AHeap) : G_ref33_OidOf.t1 J Q x2 x4 x5 x6 x7 x8 x35 h = atJ prog C 64 J false [1, 1, 1, 1, 1, 1, 0, 1, 0, 0, 1, 0, 0, 1, 0, 1] G_ref33_OidOf.ann G_ref33_OidOf.body [(2, x2), (4, x4), (5, (AV.s x5)), (6, (AV.i .i64 x6)), (7, (AV.i .i64 x7)), (8, (AV.i .i64 x8)), (35, (AV.b x35))] h (kFun prog Tryd.f31 Q) := by kernel_rfl
theorem G_ref33_OidOf.i1 {Q : AV → AHeap → Prop} {x2 : AV} {x4 : AV} {x5 : List UInt8} {x6 : Int} {x7 : Int} {x8 : Int} {x35 : Bool} {h : AHeap} (H : G_ref33_OidOf.t1 (G_ref33_OidOf.J Q) Q x2 x4 x5 x6 x7 x8 x35 h) : G_ref33_OidOf.p1 Q x2 x4 x5 x6 x7 x8 x35 h := G_ref33_OidOf.goR (k := 2) (p := [1, 1, 1, 1, 1, 1, 0, 1, 0, 0, 1, 0, 0, 1, 0, 1]) (by kernel_rfl) ((G_ref33_OidOf.t1_eq (G_ref33_OidOf.J Q) Q x2 x4 x5 x6 x7 x8 x35 h).mp H)
def G_ref33_OidOf.t3 (J : JT) (Q : AV → AHeap → Prop) (x2 : AV) (x4 : AV) (x5 : List UInt8) (x6 : Int) (x7 : Int) (x9 : Int) (x47 : Bool) (h : AHeap) : Prop :=
(bif x47 then
(pStore 5 x2 (AV.ag [(AV.i .i64 0), (AV.i .i64 0), (AV.b false), (AV.s []), (AV.sl none 0 none)]) h fun h44 =>
pLoadN 5 x2 h44 fun v46 =>
Q (AV.tu [v46, (AV.i .i64 2)]) h44)
else
((bif (decide ((x7 : Int) = 1)) then
(withI (IntKind.wrap .i64 (40 * x6)) fun n49 =>
withI (IntKind.wrap .i64 (x9 + n49)) fun n50 =>
J 5 [(2, x2), (4, x4), (5, (AV.s x5)), (6, (AV.i .i64 x6)), (7, (AV.i .i64 x7)), (9, (AV.i .i64 n50))] h)
else
(J 5 [(2, x2), (4, x4), (5, (AV.s x5)), (6, (AV.i .i64 x6)), (7, (AV.i .i64 x7)), (9, (AV.i .i64 x9))] h))))
theorem G_ref33_OidOf.t3_eq (J : JT) (Q : AV → AHeap → Prop) (x2 : AV) (x4 : AV) (x5 : List UInt8) (x6 : Int) (x7 : Int) (x9 : Int) (x47 : Bool) (h : AHeap) : G_ref33_OidOf.t3 J Q x2 x4 x5 x6 x7 x9 x47 h = atJ prog C 64 J false [1, 1, 1, 1, 1, 1, 0, 1, 0, 0, 1, 0, 0, 1, 1, 1, 0, 1] G_ref33_OidOf.ann G_ref33_OidOf.body [(2, x2), (4, x4), (5, (AV.s x5)), (6, (AV.i .i64 x6)), (7, (AV.i .i64 x7)), (9, (AV.i .i64 x9)), (47, (AV.b x47))] h (kFun prog Tryd.f31 Q) := by kernel_rfl
theorem G_ref33_OidOf.i3 {Q : AV → AHeap → Prop} {x2 : AV} {x4 : AV} {x5 : List UInt8} {x6 : Int} {x7 : Int} {x9 : Int} {x47 : Bool} {h : AHeap} (H : G_ref33_OidOf.t3 (G_ref33_OidOf.J Q) Q x2 x4 x5 x6 x7 x9 x47 h) : G_ref33_OidOf.p3 Q x2 x4 x5 x6 x7 x9 x47 h := G_ref33_OidOf.goR (k := 4) (p := [1, 1, 1, 1, 1, 1, 0, 1, 0, 0, 1, 0, 0, 1, 1, 1, 0, 1]) (by kernel_rfl) ((G_ref33_OidOf.t3_eq (G_ref33_OidOf.J Q) Q x2 x4 x5 x6 x7 x9 x47 h).mp H)
def G_ref33_OidOf.t4 (J : JT) (Q : AV → AHeap → Prop) (x2 : AV) (x4 : AV) (x5 : List UInt8) (x6 : Int) (x7 : Int) (x9 : Int) (h : AHeap) : Prop :=
(bif (decide ((268435456 : Int) ≤ x9)) then
(pStore 5 x2 (AV.ag [(AV.i .i64 0), (AV.i .i64 0), (AV.b false), (AV.s []), (AV.sl none 0 none)]) h fun h54 =>
pLoadN 5 x2 h54 fun v56 =>
Q (AV.tu [v56, (AV.i .i64 2)]) h54)
else
(C G_ref33_arc.id [(AV.i .i64 x9)] h fun v58 h59 =>
asS v58 fun l60 =>
pCat x5 l60 fun l61 =>
withI (IntKind.wrap .i64 (x7 + 1)) fun n63 =>
J 1 [(2, x2), (4, x4), (5, (AV.s l61)), (6, (AV.i .i64 x6)), (7, (AV.i .i64 n63))] h59))
theorem G_ref33_OidOf.t4_eq (J : JT) (Q : AV → AHeap → Prop) (x2 : AV) (x4 : AV) (x5 : List UInt8) (x6 : Int) (x7 : Int) (x9 : Int) (h : AHeap) : G_ref33_OidOf.t4 J Q x2 x4 x5 x6 x7 x9 h = atJ prog C 64 J false [1, 1, 1, 1, 1, 1, 0, 1, 0, 0, 1, 0, 0, 1, 1, 1, 1, 1] G_ref33_OidOf.ann G_ref33_OidOf.body [(2, x2), (4, x4), (5, (AV.s x5)), (6, (AV.i .i64 x6)), (7, (AV.i .i64 x7)), (9, (AV.i .i64 x9))] h (kFun prog Tryd.f31 Q) := by kernel_rfl
theorem G_ref33_OidOf.i4 {Q : AV → AHeap → Prop} {x2 : AV} {x4 : AV} {x5 : List UInt8} {x6 : Int} {x7 : Int} {x9 : Int} {h : AHeap} (H : G_ref33_OidOf.t4 (G_ref33_OidOf.J Q) Q x2 x4 x5 x6 x7 x9 h) : G_ref33_OidOf.p4 Q x2 x4 x5 x6 x7 x9 h := G_ref33_OidOf.goR (k := 5) (p := [1, 1, 1, 1, 1, 1, 0, 1, 0, 0, 1, 0, 0, 1, 1, 1, 1, 1]) (by kernel_rfl) ((G_ref33_OidOf.t4_eq (G_ref33_OidOf.J Q) Q x2 x4 x5 x6 x7 x9 h).mp H)
def G_ref33_OidOf.t2 (J : JT) (Q : AV → AHeap → Prop) (x2 : AV) (x4 : AV) (x5 : List UInt8) (x6 : Int) (x7 : Int) (x8 : Int) (h : AHeap) : Prop :=
pIdxAddrSl 1 x4 (AV.i .i64 x7) h fun v35 =>
pLoad1 v35 h fun v36 =>
asS v36 fun l37 =>
C G_ref06_Decimal.id [(AV.s l37), (AV.i .i64 x8)] h fun v38 h39 =>
asI .i64 v38 fun n40 =>
(bif (decide ((x6 : Int) < 0)) then
(J 4 [(2, x2), (4, x4), (5, (AV.s x5)), (6, (AV.i .i64 x6)), (7, (AV.i .i64 x7)), (9, (AV.i .i64 n40)), (47, (AV.b true))] h39)
else
(J 4 [(2, x2), (4, x4), (5, (AV.s x5)), (6, (AV.i .i64 x6)), (7, (AV.i .i64 x7)), (9, (AV.i .i64 n40)), (47, (AV.b (decide ((n40 : Int) < 0))))] h39))
theorem G_ref33_OidOf.t2_eq (J : JT) (Q : AV → AHeap → Prop) (x2 : AV) (x4 : AV) (x5 : List UInt8) (x6 : Int) (x7 : Int) (x8 : Int) (h : AHeap) : G_ref33_OidOf.t2 J Q x2 x4 x5 x6 x7 x8 h = atJ prog C 64 J false [1, 1, 1, 1, 1, 1, 0, 1, 0, 0, 1, 0, 0, 1, 1] G_ref33_OidOf.ann G_ref33_OidOf.body [(2, x2), (4, x4), (5, (AV.s x5)), (6, (AV.i .i64 x6)), (7, (AV.i .i64 x7)), (8, (AV.i .i64 x8))] h (kFun prog Tryd.f31 Q) := by kernel_rfl
theorem G_ref33_OidOf.i2 {Q : AV → AHeap → Prop} {x2 : AV} {x4 : AV} {x5 : List UInt8} {x6 : Int} {x7 : Int} {x8 : Int} {h : AHeap} (H : G_ref33_OidOf.t2 (G_ref33_OidOf.J Q) Q x2 x4 x5 x6 x7 x8 h) : G_ref33_OidOf.p2 Q x2 x4 x5 x6 x7 x8 h := G_ref33_OidOf.goR (k := 3) (p := [1, 1, 1, 1, 1, 1, 0, 1, 0, 0, 1, 0, 0, 1, 1]) (by kernel_rfl) ((G_ref33_OidOf.t2_eq (G_ref33_OidOf.J Q) Q x2 x4 x5 x6 x7 x8 h).mp H)
def G_ref33_OidOf.t0 (J : JT) (Q : AV → AHeap → Prop) (x2 : AV) (x4 : AV) (x5 : List UInt8) (x6 : Int) (x7 : Int) (h : AHeap) : Prop :=
pLenSl x4 fun n26 =>
(bif (decide ((x7 : Int) < n26)) then
((bif (decide ((x7 : Int) = 1)) then
(J 2 [(2, x2), (4, x4), (5, (AV.s x5)), (6, (AV.i .i64 x6)), (7, (AV.i .i64 x7)), (8, (AV.i .i64 268435455)), (35, (AV.b (decide ((x6 : Int) < 2))))] h)
else
(J 2 [(2, x2), (4, x4), (5, (AV.s x5)), (6, (AV.i .i64 x6)), (7, (AV.i .i64 x7)), (8, (AV.i .i64 268435455)), (35, (AV.b false))] h)))
else
(pStore 5 x2 (AV.ag [(AV.i .i64 0), (AV.i .i64 6), (AV.b false), (AV.s x5), (AV.sl none 0 none)]) h fun h65 =>
pLoadN 5 x2 h65 fun v67 =>
Q (AV.tu [v67, (AV.i .i64 0)]) h65))
theorem G_ref33_OidOf.t0_eq (J : JT) (Q : AV → AHeap → Prop) (x2 : AV) (x4 : AV) (x5 : List UInt8) (x6 : Int) (x7 : Int) (h : AHeap) : G_ref33_OidOf.t0 J Q x2 x4 x5 x6 x7 h = atJ prog C 64 J true [1, 1, 1, 1, 1, 1, 0, 1, 0] G_ref33_OidOf.ann G_ref33_OidOf.body [(2, x2), (4, x4), (5, (AV.s x5)), (6, (AV.i .i64 x6)), (7, (AV.i .i64 x7))] h (kFun prog Tryd.f31 Q) := by kernel_rfl
theorem G_ref33_OidOf.i0 {Q : AV → AHeap → Prop} {x2 : AV} {x4 : AV} {x5 : List UInt8} {x6 : Int} {x7 : Int} {h : AHeap} (H : G_ref33_OidOf.t0 (G_ref33_OidOf.J Q) Q x2 x4 x5 x6 x7 h) : G_ref33_OidOf.p0 Q x2 x4 x5 x6 x7 h := G_ref33_OidOf.goH (k := 1) (p := [1, 1, 1, 1, 1, 1, 0, 1, 0]) (by kernel_rfl) ((G_ref33_OidOf.t0_eq (G_ref33_OidOf.J Q) Q x2 x4 x5 x6 x7 h).mp H)
def G_ref33_OidOf.t (J : JT) (Q : AV → AHeap → Prop) (x0 : List UInt8) (h : AHeap) : Prop :=
pAlloc [(AV.i .i64 0), (AV.i .i64 0), (AV.b false), (AV.s []), (AV.sl none 0 none)] h fun v0 h1 =>
(bif (decide ((256 : Int) < (x0.length : Int))) then
(pStore 5 v0 (AV.ag [(AV.i .i64 0), (AV.i .i64 0), (AV.b false), (AV.s []), (AV.sl none 0 none)]) h1 fun h4 =>
pLoadN 5 v0 h4 fun v6 =>
Q (AV.tu [v6, (AV.i .i64 3)]) h4)
else
(C G_ref06_Split.id [(AV.s x0), (AV.i .u8 46)] h1 fun v8 h9 =>
pLenSl v8 fun n11 =>
(bif (decide ((n11 : Int) < 2)) then
(pStore 5 v0 (AV.ag [(AV.i .i64 0), (AV.i .i64 0), (AV.b false), (AV.s []), (AV.sl none 0 none)]) h9 fun h13 =>
pLoadN 5 v0 h13 fun v15 =>
Q (AV.tu [v15, (AV.i .i64 2)]) h13)
else
(pIdxAddrSl 1 v8 (AV.i .i64 0) h9 fun v18 =>
pLoad1 v18 h9 fun v19 =>
asS v19 fun l20 =>
C G_ref06_Decimal.id [(AV.s l20), (AV.i .i64 2)] h9 fun v21 h22 =>
asI .i64 v21 fun n23 =>
J 1 [(2, v0), (4, v8), (5, (AV.s [])), (6, (AV.i .i64 n23)), (7, (AV.i .i64 1))] h22))))
theorem G_ref33_OidOf.t_eq (J : JT) (Q : AV → AHeap → Prop) (x0 : List UInt8) (h : AHeap) : G_ref33_OidOf.t J Q x0 h = exJ prog C 64 J G_ref33_OidOf.ann G_ref33_OidOf.body (initEnv 0 [(AV.s x0)]) h (kFun prog Tryd.f31 Q) := by kernel_rfl
theorem G_ref33_OidOf.call {K : AV → AHeap → Prop} {x0 : List UInt8} {h : AHeap} (H : G_ref33_OidOf.t (G_ref33_OidOf.J (kRet h K)) (kRet h K) x0 h) : C G_ref33_OidOf.id [(AV.s x0)] h K :=
  callJ (P := prog) (fn := Tryd.f31) (ann := G_ref33_OidOf.ann) (body := G_ref33_OidOf.body) Tryd.func31 G_ref33_OidOf.body_eq (by kernel_rfl) G_ref33_OidOf.dist (by kernel_rfl) ((G_ref33_OidOf.t_eq (G_ref33_OidOf.J (kRet h K)) (kRet h K) x0 h).mp H)

--@@ G_der_reader_value
/-! ### 32: (*intrusion/der.reader).value -/
noncomputable def G_der_reader_value.body : Code := (Tryd.f32.body).getD .skip
def G_der_reader_value.ann : Ann := (.seq 0 [0, 1, 2, 6] .leaf (.seq 0 [0, 1, 2, 6] (.seq 0 [0, 1, 2, 6, 17] .leaf (.br (.seq 0 [6, 7, 8] .leaf .leaf) .leaf)) (.seq 0 [0, 1, 2, 6, 9] .leaf (.seq 0 [0, 1, 2, 6, 10] .leaf (.seq 0 [0, 1, 2, 6, 10] .leaf (.seq 0 [0, 1, 2, 6, 10] (.one (.seq 0 [0, 1, 2, 6, 10, 37] .leaf (.br (.seq 0 [6, 7, 8] .leaf .leaf) (.seq 0 [0, 1, 2, 6, 10, 42] .leaf (.br (.seq 0 [6, 7, 8] .leaf .leaf) (.seq 0 [0, 1, 2, 6, 10, 46] .leaf (.br (.seq 0 [6, 7, 8] .leaf .leaf) .leaf))))))) (.seq 0 [0, 1, 2, 6, 10, 11, 12] .leaf (.seq 0 [0, 1, 2, 6, 10, 11] (.seq 0 [0, 1, 2, 6, 10, 11, 12, 61] .leaf (.br (.seq 0 [6, 7, 8] .leaf .leaf) .leaf)) (.seq 0 [0, 1, 2, 6, 10, 11] (.seq 0 [0, 1, 2, 6, 10, 11, 67] .leaf (.br (.seq 0 [6, 7, 8] .leaf .leaf) .leaf)) (.seq 0 [0, 2, 6, 10, 13, 14] (.ord (.neu 0 (.neu 1 (.neu 2 (.neu 3 (.neu 4 (.neu 5 (.neu 6 (.neu 7 .done))))))))) (.seq 0 [0, 2, 6, 10, 13, 14] (.seq 0 [0, 2, 6, 10, 13, 14, 77] .leaf (.br (.seq 0 [6, 10, 14] .leaf (.seq 0 [6, 7, 8] .leaf .leaf)) .leaf)) (.seq 0 [6, 10, 14] (.one (.loop 1 [0, 2, 6, 10, 13, 14] (.seq 0 [0, 2, 6, 10, 13, 14] (.seq 0 [0, 2, 6, 10, 13, 14, 83] .leaf (.br .leaf .leaf)) (.one (.seq 0 [0, 2, 6, 10, 13, 14, 15] .leaf (.seq 0 [0, 2, 6, 10, 12, 13, 14, 15] .leaf (.seq 0 [0, 2, 6, 10, 13, 14, 15] (.seq 0 [0, 2, 6, 10, 12, 13, 14, 15, 94] .leaf (.br (.seq 0 [6, 7, 8] .leaf .leaf) .leaf)) .leaf))))))) (.seq 0 [6, 7, 8] .leaf .leaf)))))))))))))
theorem G_der_reader_value.body_eq : Tryd.f32.body = some G_der_reader_value.body := by kernel_rfl
theorem G_der_reader_value.dist : noTwice (places G_der_reader_value.ann G_der_reader_value.body) = true := by kernel_rfl
noncomputable def G_der_reader_value.J (Q : AV → AHeap → Prop) : JT := funJ prog C Tryd.f32 G_der_reader_value.ann G_der_reader_value.body Q
theorem G_der_reader_value.goR {Q : AV → AHeap → Prop} {k : Nat} {p : List Nat} (hl : lookJ (places G_der_reader_value.ann G_der_reader_value.body) k = some (p, false)) {e : Env} {h : AHeap} (hk : atJ prog C 105 (G_der_reader_value.J Q) false p G_der_reader_value.ann G_der_reader_value.body e h (kFun prog Tryd.f32 Q)) : G_der_reader_value.J Q k e h := goJ_run (P := prog) (fn := Tryd.f32) (ann := G_der_reader_value.ann) (body := G_der_reader_value.body) (Q := Q) (k := k) (p := p) (e := e) (h := h) (acall_le X) G_der_reader_value.dist hl hk
theorem G_der_reader_value.goH {Q : AV → AHeap → Prop} {k : Nat} {p : List Nat} (hl : lookJ (places G_der_reader_value.ann G_der_reader_value.body) k = some (p, true)) {e : Env} {h : AHeap} (hk : atJ prog C 105 (G_der_reader_value.J Q) true p G_der_reader_value.ann G_der_reader_value.body e h (kFun prog Tryd.f32 Q)) : G_der_reader_value.J Q k e h := goJ_head (P := prog) (fn := Tryd.f32) (ann := G_der_reader_value.ann) (body := G_der_reader_value.body) (Q := Q) (k := k) (p := p) (e := e) (h := h) (acall_le X) G_der_reader_value.dist hl hk
def G_der_reader_value.p0 (Q : AV → AHeap → Prop) (x0 : AV) (x2 : Int) (x6 : AV) (x10 : AV) (x13 : List UInt8) (x14 : List UInt8) (h : AHeap) : Prop := G_der_reader_value.J Q 1 [(0, x0), (2, (AV.i .i64 x2)), (6, x6), (10, x10), (13, (AV.s x13)), (14, (AV.s x14))] h
theorem G_der_reader_value.j0 (Q : AV → AHeap → Prop) (x0 : AV) (x2 : Int) (x6 : AV) (x10 : AV) (x13 : List UInt8) (x14 : List UInt8) (h : AHeap) : G_der_reader_value.J Q 1 [(0, x0), (2, (AV.i .i64 x2)), (6, x6), (10, x10), (13, (AV.s x13)), (14, (AV.s x14))] h = G_der_reader_value.p0 Q x0 x2 x6 x10 x13 x14 h := rfl
def G_der_reader_value.t0 (J : JT) (Q : AV → AHeap → Prop) (x0 : AV) (x2 : Int) (x6 : AV) (x10 : AV) (x13 : List UInt8) (x14 : List UInt8) (h : AHeap) : Prop :=
(bif (!(decide ((x13 : List UInt8) = []))) then
(pAlloc [(AV.i .i64 0), (AV.i .i64 0), (AV.b false), (AV.s []), (AV.sl none 0 none)] h fun v84 h85 =>
withI (IntKind.wrap .i64 (x2 + 1)) fun n87 =>
C G_der_reader_value.id [x0, (AV.s x13), (AV.i .i64 n87)] h85 fun v88 h89 =>
pExtract 0 v88 fun v90 =>
pExtract 1 v88 fun v91 =>
asS v91 fun l92 =>
pExtract 2 v88 fun v93 =>
asI .i64 v93 fun n94 =>
pStore 5 v84 v90 h89 fun h95 =>
(bif (!decide ((n94 : Int) = 0)) then
(pStore 5 x6 (AV.ag [(AV.i .i64 0), (AV.i .i64 0), (AV.b false), (AV.s []), (AV.sl none 0 none)]) h95 fun h98 =>
pLoadN 5 x6 h98 fun v100 =>
Q (AV.tu [v100, (AV.s []), (AV.i .i64 n94)]) h98)
else
(pFieldAddr 4 x10 fun v102 =>
pLoad1 v102 h95 fun v103 =>
pLoadN 5 v84 h95 fun v104 =>
pBuildSl 5 1 [(AV.i .i64 0), (AV.i .i64 0), (AV.b false), (AV.s []), (AV.sl none 0 none)] [(0, 5, v104)] h95 fun v105 h106 =>
pAppend 5 64 v103 v105 h106 fun v107 h108 =>
pFieldAddr 4 x10 fun v109 =>
pStore 1 v109 v107 h108 fun h110 =>
J 1 [(0, x0), (2, (AV.i .i64 x2)), (6, x6), (10, x10), (13, (AV.s l92)), (14, (AV.s x14))] h110)))
else
(pLoadN 5 x10 h fun v112 =>
pStore 5 x6 v112 h fun h113 =>
pLoadN 5 x6 h113 fun v115 =>
Q (AV.tu [v115, (AV.s x14), (AV.i .i64 0)]) h113))
theorem G_der_reader_value.t0_eq (J : JT) (Q : AV → AHeap → Prop) (x0 : AV) (x2 : Int) (x6 : AV) (x10 : AV) (x13 : List UInt8) (x14 : List UInt8) (h : AHeap) : G_der_reader_value.t0 J Q x0 x2 x6 x10 x13 x14 h = atJ prog C 105 J true [1, 1, 1, 1, 1, 1, 1, 1, 1, 1, 1, 0, 0] G_der_reader_value.ann G_der_reader_value.body [(0, x0), (2, (AV.i .i64 x2)), (6, x6), (10, x10), (13, (AV.s x13)), (14, (AV.s x14))] h (kFun prog Tryd.f32 Q) := by kernel_rfl
theorem G_der_reader_value.i0 {Q : AV → AHeap → Prop} {x0 : AV} {x2 : Int} {x6 : AV} {x10 : AV} {x13 : List UInt8} {x14 : List UInt8} {h : AHeap} (H : G_der_reader_value.t0 (G_der_reader_value.J Q) Q x0 x2 x6 x10 x13 x14 h) : G_der_reader_value.p0 Q x0 x2 x6 x10 x13 x14 h := G_der_reader_value.goH (k := 1) (p := [1, 1, 1, 1, 1, 1, 1, 1, 1, 1, 1, 0, 0]) (by kernel_rfl) ((G_der_reader_value.t0_eq (G_der_reader_value.J Q) Q x0 x2 x6 x10 x13 x14 h).mp H)
def G_der_reader_value.t (J : JT) (Q : AV → AHeap → Prop) (x0 : AV) (x1 : List UInt8) (x2 : Int) (h : AHeap) : Prop :=
pAlloc [(AV.i .i64 0), (AV.i .i64 0), (AV.b false), (AV.s []), (AV.sl none 0 none)] h fun v0 h1 =>
(bif (decide ((x1 : List UInt8) = [])) then
(pStore 5 v0 (AV.ag [(AV.i .i64 0), (AV.i .i64 0), (AV.b false), (AV.s []), (AV.sl none 0 none)]) h1 fun h4 =>
pLoadN 5 v0 h4 fun v6 =>
Q (AV.tu [v6, (AV.s []), (AV.i .i64 1)]) h4)
else
(pIdxStr (AV.s x1) (AV.i .i64 0) fun n8 =>
pShr .i64 (IntKind.wrap .i64 n8) 6 fun n10 =>
withI (bitsOp .and .i64 (IntKind.wrap .i64 n8) 31) fun n11 =>
withI (bitsOp .and .i64 (IntKind.wrap .i64 n8) 32) fun n12 =>
pAlloc [(AV.i .i64 0), (AV.i .i64 0), (AV.b false), (AV.s []), (AV.sl none 0 none)] h1 fun v13 h14 =>
pStore 5 v13 (AV.ag [(AV.i .i64 n10), (AV.i .i64 n11), (AV.b (!decide ((n12 : Int) = 0))), (AV.s []), (AV.sl none 0 none)]) h14 fun h15 =>
pNil x0 fun v17 =>
pFieldAddr 0 v17 fun v18 =>
pLoad1 v18 h15 fun v19 =>
asI .i64 v19 fun n20 =>
withI (IntKind.wrap .i64 (n20 + 1)) fun n21 =>
pNil x0 fun v22 =>
pFieldAddr 0 v22 fun v23 =>
pStore 1 v23 (AV.i .i64 n21) h15 fun h24 =>
pFieldAddr 1 v13 fun v26 =>
pLoad1 v26 h24 fun v27 =>
asI .i64 v27 fun n28 =>
(bif (decide ((n28 : Int) = 31)) then
(pStore 5 v0 (AV.ag [(AV.i .i64 0), (AV.i .i64 0), (AV.b false), (AV.s []), (AV.sl none 0 none)]) h24 fun h30 =>
pLoadN 5 v0 h30 fun v32 =>
Q (AV.tu [v32, (AV.s []), (AV.i .i64 2)]) h30)
else
((bif (decide ((24 : Int) < x2)) then
(pStore 5 v0 (AV.ag [(AV.i .i64 0), (AV.i .i64 0), (AV.b false), (AV.s []), (AV.sl none 0 none)]) h24 fun h34 =>
pLoadN 5 v0 h34 fun v36 =>
Q (AV.tu [v36, (AV.s []), (AV.i .i64 9)]) h34)
else
(pNil x0 fun v37 =>
pFieldAddr 0 v37 fun v38 =>
pLoad1 v38 h24 fun v39 =>
asI .i64 v39 fun n40 =>
(bif (decide ((256 : Int) < n40)) then
(pStore 5 v0 (AV.ag [(AV.i .i64 0), (AV.i .i64 0), (AV.b false), (AV.s []), (AV.sl none 0 none)]) h24 fun h42 =>
pLoadN 5 v0 h42 fun v44 =>
Q (AV.tu [v44, (AV.s []), (AV.i .i64 3)]) h42)
else
(pSliceStr (AV.s x1) (some (AV.i .i64 1)) none fun l46 =>
C G_der_length.id [(AV.s l46)] h24 fun v47 h48 =>
pExtract 0 v47 fun v49 =>
asI .i64 v49 fun n50 =>
pExtract 1 v47 fun v51 =>
asS v51 fun l52 =>
pExtract 2 v47 fun v53 =>
asI .i64 v53 fun n54 =>
(bif (!decide ((n54 : Int) = 0)) then
(pStore 5 v0 (AV.ag [(AV.i .i64 0), (AV.i .i64 0), (AV.b false), (AV.s []), (AV.sl none 0 none)]) h48 fun h57 =>
pLoadN 5 v0 h57 fun v59 =>
Q (AV.tu [v59, (AV.s []), (AV.i .i64 n54)]) h57)
else
((bif (decide (((l52.length : Int) : Int) < n50)) then
(pStore 5 v0 (AV.ag [(AV.i .i64 0), (AV.i .i64 0), (AV.b false), (AV.s []), (AV.sl none 0 none)]) h48 fun h62 =>
pLoadN 5 v0 h62 fun v64 =>
Q (AV.tu [v64, (AV.s []), (AV.i .i64 1)]) h62)
else
(pSliceStr (AV.s l52) none (some (AV.i .i64 n50)) fun l66 =>
pSliceStr (AV.s l52) (some (AV.i .i64 n50)) none fun l67 =>
pFieldAddr 2 v13 fun v69 =>
pLoad1 v69 h48 fun v70 =>
asB v70 fun c71 =>
(bif (!c71) then
(pFieldAddr 3 v13 fun v73 =>
pStore 1 v73 (AV.s l66) h48 fun h74 =>
pLoadN 5 v13 h74 fun v76 =>
pStore 5 v0 v76 h74 fun h77 =>
pLoadN 5 v0 h77 fun v79 =>
Q (AV.tu [v79, (AV.s l67), (AV.i .i64 0)]) h77)
else
(J 1 [(0, x0), (2, (AV.i .i64 x2)), (6, v0), (10, v13), (13, (AV.s l66)), (14, (AV.s l67))] h48))))))))))))))
theorem G_der_reader_value.t_eq (J : JT) (Q : AV → AHeap → Prop) (x0 : AV) (x1 : List UInt8) (x2 : Int) (h : AHeap) : G_der_reader_value.t J Q x0 x1 x2 h = exJ prog C 105 J G_der_reader_value.ann G_der_reader_value.body (initEnv 0 [x0, (AV.s x1), (AV.i .i64 x2)]) h (kFun prog Tryd.f32 Q) := by kernel_rfl
theorem G_der_reader_value.call {K : AV → AHeap → Prop} {x0 : AV} {x1 : List UInt8} {x2 : Int} {h : AHeap} (H : G_der_reader_value.t (G_der_reader_value.J (kRet h K)) (kRet h K) x0 x1 x2 h) : C G_der_reader_value.id [x0, (AV.s x1), (AV.i .i64 x2)] h K :=
  callJ (P := prog) (fn := Tryd.f32) (ann := G_der_reader_value.ann) (body := G_der_reader_value.body) Tryd.func32 G_der_reader_value.body_eq (by kernel_rfl) G_der_reader_value.dist (by kernel_rfl) ((G_der_reader_value.t_eq (G_der_reader_value.J (kRet h K)) (kRet h K) x0 x1 x2 h).mp H)

--@@ G_ref33_Scan_value
/-! ### 33: (*intrusion/intrusionref33.Scan).value -/
noncomputable def G_ref33_Scan_value.body : Code := (Tryd.f33.body).getD .skip
def G_ref33_Scan_value.ann : Ann := (.seq 0 [0, 1, 2, 6] .leaf (.seq 0 [0, 1, 2, 6] (.seq 0 [0, 1, 2, 6, 20] .leaf (.br (.seq 0 [6, 7] .leaf .leaf) .leaf)) (.seq 0 [0, 1, 2, 6, 8] (.ord (.neu 0 (.neu 1 (.neu 2 (.neu 3 (.neu 4 (.neu 5 (.neu 6 (.neu 7 (.neu 8 (.neu 9 (.neu 10 .done)))))))))))) (.seq 0 [0, 1, 2, 6, 8] .leaf (.seq 0 [0, 1, 2, 6, 8] .leaf (.seq 0 [0, 1, 2, 6, 8] (.one (.seq 0 [0, 1, 2, 6, 8, 46] .leaf (.br (.seq 0 [6, 7] .leaf .leaf) (.seq 0 [0, 1, 2, 6, 8, 51] .leaf (.br (.seq 0 [6, 7] .leaf .leaf) (.seq 0 [0, 1, 2, 6, 8, 55] .leaf (.br (.seq 0 [6, 7] .leaf .leaf) .leaf))))))) (.seq 0 [0, 1, 2, 6, 8, 9, 10] .leaf (.seq 0 [0, 1, 2, 6, 8, 9] (.seq 0 [0, 1, 2, 6, 8, 9, 10, 69] .leaf (.br (.seq 0 [6, 7] .leaf .leaf) .leaf)) (.seq 0 [0, 2, 6, 8, 9] (.seq 0 [0, 2, 6, 8, 9, 79] .leaf (.br (.seq 0 [6, 7] .leaf .leaf) .leaf)) (.seq 0 [0, 2, 6, 9, 11] .leaf (.seq 0 [0, 2, 6, 11, 12] .leaf (.seq 0 [0, 2, 6, 11, 12] (.seq 0 [0, 2, 6, 11, 12, 98] .leaf (.br (.seq 0 [0, 6, 11, 12] (.ord (.neu 0 (.neu 1 (.neu 2 (.neu 3 (.neu 4 (.neu 5 (.neu 6 (.neu 7 (.neu 8 (.neu 9 (.neu 10 (.eff 11 .done .stop))))))))))))) (.seq 0 [6, 11] .leaf (.seq 0 [6, 7] .leaf .leaf))) .leaf)) (.seq 0 [6, 11] (.one (.loop 1 [0, 2, 6, 11, 12] (.seq 0 [0, 2, 6, 11, 12] (.seq 0 [0, 2, 6, 11, 12, 120] .leaf (.br .leaf .leaf)) (.one (.seq 0 [0, 2, 6, 11, 12, 13, 14] .leaf (.seq 0 [0, 2, 6, 11, 12, 13] (.seq 0 [0, 2, 6, 11, 12, 13, 14, 130] .leaf (.br (.seq 0 [6, 7] .leaf .leaf) .leaf)) .leaf)))))) (.seq 0 [6, 7] .leaf .leaf))))))))))))))
theorem G_ref33_Scan_value.body_eq : Tryd.f33.body = some G_ref33_Scan_value.body := by kernel_rfl
theorem G_ref33_Scan_value.dist : noTwice (places G_ref33_Scan_value.ann G_ref33_Scan_value.body) = true := by kernel_rfl
noncomputable def G_ref33_Scan_value.J (Q : AV → AHeap → Prop) : JT := funJ prog C Tryd.f33 G_ref33_Scan_value.ann G_ref33_Scan_value.body Q
theorem G_ref33_Scan_value.goR {Q : AV → AHeap → Prop} {k : Nat} {p : List Nat} (hl : lookJ (places G_ref33_Scan_value.ann G_ref33_Scan_value.body) k = some (p, false)) {e : Env} {h : AHeap} (hk : atJ prog C 140 (G_ref33_Scan_value.J Q) false p G_ref33_Scan_value.ann G_ref33_Scan_value.body e h (kFun prog Tryd.f33 Q)) : G_ref33_Scan_value.J Q k e h := goJ_run (P := prog) (fn := Tryd.f33) (ann := G_ref33_Scan_value.ann) (body := G_ref33_Scan_value.body) (Q := Q) (k := k) (p := p) (e := e) (h := h) (acall_le X) G_ref33_Scan_value.dist hl hk
theorem G_ref33_Scan_value.goH {Q : AV → AHeap → Prop} {k : Nat} {p : List Nat} (hl : lookJ (places G_ref33_Scan_value.ann G_ref33_Scan_value.body) k = some (p, true)) {e : Env} {h : AHeap} (hk : atJ prog C 140 (G_ref33_Scan_value.J Q) true p G_ref33_Scan_value.ann G_ref33_Scan_value.body e h (kFun prog Tryd.f33 Q)) : G_ref33_Scan_value.J Q k e h := goJ_head (P := prog) (fn := Tryd.f33) (ann := G_ref33_Scan_value.ann) (body := G_ref33_Scan_value.body) (Q := Q) (k := k) (p := p) (e := e) (h := h) (acall_le X) G_ref33_Scan_value.dist hl hk
def G_ref33_Scan_value.p0 (Q : AV → AHeap → Prop) (x0 : AV) (x2 : Int) (x6 : AV) (x11 : AV) (x12 : Int) (h : AHeap) : Prop := G_ref33_Scan_value.J Q 1 [(0, x0), (2, (AV.i .i64 x2)), (6, x6), (11, x11), (12, (AV.i .i64 x12))] h
theorem G_ref33_Scan_value.j0 (Q : AV → AHeap → Prop) (x0 : AV) (x2 : Int) (x6 : AV) (x11 : AV) (x12 : Int) (h : AHeap) : G_ref33_Scan_value.J Q 1 [(0, x0), (2, (AV.i .i64 x2)), (6, x6), (11, x11), (12, (AV.i .i64 x12))] h = G_ref33_Scan_value.p0 Q x0 x2 x6 x11 x12 h := rfl
def G_ref33_Scan_value.t0 (J : JT) (Q : AV → AHeap → Prop) (x0 : AV) (x2 : Int) (x6 : AV) (x11 : AV) (x12 : Int) (h : AHeap) : Prop :=
pNil x0 fun v119 =>
pFieldAddr 1 v119 fun v120 =>
pLoad1 v120 h fun v121 =>
asI .i64 v121 fun n122 =>
(bif (decide ((n122 : Int) < x12)) then
(withI (IntKind.wrap .i64 (x2 + 1)) fun n126 =>
C G_ref33_Scan_value.id [x0, (AV.i .i64 x12), (AV.i .i64 n126)] h fun v127 h128 =>
pExtract 0 v127 fun v129 =>
pExtract 1 v127 fun v130 =>
asI .i64 v130 fun n131 =>
pAlloc [(AV.i .i64 0), (AV.i .i64 0), (AV.b false), (AV.s []), (AV.sl none 0 none)] h128 fun v132 h133 =>
pStore 5 v132 v129 h133 fun h134 =>
(bif (!decide ((n131 : Int) = 0)) then
(pStore 5 x6 (AV.ag [(AV.i .i64 0), (AV.i .i64 0), (AV.b false), (AV.s []), (AV.sl none 0 none)]) h134 fun h137 =>
pLoadN 5 x6 h137 fun v139 =>
Q (AV.tu [v139, (AV.i .i64 n131)]) h137)
else
(pFieldAddr 4 x11 fun v141 =>
pLoad1 v141 h134 fun v142 =>
pLoadN 5 v132 h134 fun v143 =>
pBuildSl 5 1 [(AV.i .i64 0), (AV.i .i64 0), (AV.b false), (AV.s []), (AV.sl none 0 none)] [(0, 5, v143)] h134 fun v144 h145 =>
pAppend 5 64 v142 v144 h145 fun v146 h147 =>
pFieldAddr 4 x11 fun v148 =>
pStore 1 v148 v146 h147 fun h149 =>
J 1 [(0, x0), (2, (AV.i .i64 x2)), (6, x6), (11, x11), (12, (AV.i .i64 x12))] h149)))
else
(pLoadN 5 x11 h fun v151 =>
pStore 5 x6 v151 h fun h152 =>
pLoadN 5 x6 h152 fun v154 =>
Q (AV.tu [v154, (AV.i .i64 0)]) h152))
theorem G_ref33_Scan_value.t0_eq (J : JT) (Q : AV → AHeap → Prop) (x0 : AV) (x2 : Int) (x6 : AV) (x11 : AV) (x12 : Int) (h : AHeap) : G_ref33_Scan_value.t0 J Q x0 x2 x6 x11 x12 h = atJ prog C 140 J true [1, 1, 1, 1, 1, 1, 1, 1, 1, 1, 1, 1, 0, 0] G_ref33_Scan_value.ann G_ref33_Scan_value.body [(0, x0), (2, (AV.i .i64 x2)), (6, x6), (11, x11), (12, (AV.i .i64 x12))] h (kFun prog Tryd.f33 Q) := by kernel_rfl
theorem G_ref33_Scan_value.i0 {Q : AV → AHeap → Prop} {x0 : AV} {x2 : Int} {x6 : AV} {x11 : AV} {x12 : Int} {h : AHeap} (H : G_ref33_Scan_value.t0 (G_ref33_Scan_value.J Q) Q x0 x2 x6 x11 x12 h) : G_ref33_Scan_value.p0 Q x0 x2 x6 x11 x12 h := G_ref33_Scan_value.goH (k := 1) (p := [1, 1, 1, 1, 1, 1, 1, 1, 1, 1, 1, 1, 0, 0]) (by kernel_rfl) ((G_ref33_Scan_value.t0_eq (G_ref33_Scan_value.J Q) Q x0 x2 x6 x11 x12 h).mp H)
def G_ref33_Scan_value.t (J : JT) (Q : AV → AHeap → Prop) (x0 : AV) (x1 : Int) (x2 : Int) (h : AHeap) : Prop :=
pAlloc [(AV.i .i64 0), (AV.i .i64 0), (AV.b false), (AV.s []), (AV.sl none 0 none)] h fun v0 h1 =>
pNil x0 fun v3 =>
pFieldAddr 1 v3 fun v4 =>
pLoad1 v4 h1 fun v5 =>
asI .i64 v5 fun n6 =>
(bif (decide ((x1 : Int) ≤ n6)) then
(pStore 5 v0 (AV.ag [(AV.i .i64 0), (AV.i .i64 0), (AV.b false), (AV.s []), (AV.sl none 0 none)]) h1 fun h8 =>
pLoadN 5 v0 h8 fun v10 =>
Q (AV.tu [v10, (AV.i .i64 1)]) h8)
else
(pNil x0 fun v12 =>
pFieldAddr 0 v12 fun v13 =>
pLoad1 v13 h1 fun v14 =>
asS v14 fun l15 =>
pNil x0 fun v16 =>
pFieldAddr 1 v16 fun v17 =>
pLoad1 v17 h1 fun v18 =>
asI .i64 v18 fun n19 =>
pIdxStr (AV.s l15) (AV.i .i64 n19) fun n20 =>
pNil x0 fun v22 =>
pFieldAddr 1 v22 fun v23 =>
pLoad1 v23 h1 fun v24 =>
asI .i64 v24 fun n25 =>
withI (IntKind.wrap .i64 (n25 + 1)) fun n26 =>
pNil x0 fun v27 =>
pFieldAddr 1 v27 fun v28 =>
pStore 1 v28 (AV.i .i64 n26) h1 fun h29 =>
pNil x0 fun v31 =>
pFieldAddr 2 v31 fun v32 =>
pLoad1 v32 h29 fun v33 =>
asI .i64 v33 fun n34 =>
withI (IntKind.wrap .i64 (n34 + 1)) fun n35 =>
pNil x0 fun v36 =>
pFieldAddr 2 v36 fun v37 =>
pStore 1 v37 (AV.i .i64 n35) h29 fun h38 =>
pRem (IntKind.wrap .i64 n20) 32 fun n40 =>
(bif (decide ((n40 : Int) = 31)) then
(pStore 5 v0 (AV.ag [(AV.i .i64 0), (AV.i .i64 0), (AV.b false), (AV.s []), (AV.sl none 0 none)]) h38 fun h42 =>
pLoadN 5 v0 h42 fun v44 =>
Q (AV.tu [v44, (AV.i .i64 2)]) h42)
else
((bif (decide ((24 : Int) < x2)) then
(pStore 5 v0 (AV.ag [(AV.i .i64 0), (AV.i .i64 0), (AV.b false), (AV.s []), (AV.sl none 0 none)]) h38 fun h46 =>
pLoadN 5 v0 h46 fun v48 =>
Q (AV.tu [v48, (AV.i .i64 9)]) h46)
else
(pNil x0 fun v49 =>
pFieldAddr 2 v49 fun v50 =>
pLoad1 v50 h38 fun v51 =>
asI .i64 v51 fun n52 =>
(bif (decide ((256 : Int) < n52)) then
(pStore 5 v0 (AV.ag [(AV.i .i64 0), (AV.i .i64 0), (AV.b false), (AV.s []), (AV.sl none 0 none)]) h38 fun h54 =>
pLoadN 5 v0 h54 fun v56 =>
Q (AV.tu [v56, (AV.i .i64 3)]) h54)
else
(C G_ref33_Scan_size.id [x0, (AV.i .i64 x1)] h38 fun v58 h59 =>
pExtract 0 v58 fun v60 =>
asI .i64 v60 fun n61 =>
pExtract 1 v58 fun v62 =>
asI .i64 v62 fun n63 =>
(bif (!decide ((n63 : Int) = 0)) then
(pStore 5 v0 (AV.ag [(AV.i .i64 0), (AV.i .i64 0), (AV.b false), (AV.s []), (AV.sl none 0 none)]) h59 fun h66 =>
pLoadN 5 v0 h66 fun v68 =>
Q (AV.tu [v68, (AV.i .i64 n63)]) h66)
else
(pNil x0 fun v70 =>
pFieldAddr 1 v70 fun v71 =>
pLoad1 v71 h59 fun v72 =>
asI .i64 v72 fun n73 =>
withI (IntKind.wrap .i64 (x1 - n73)) fun n74 =>
(bif (decide ((n74 : Int) < n61)) then
(pStore 5 v0 (AV.ag [(AV.i .i64 0), (AV.i .i64 0), (AV.b false), (AV.s []), (AV.sl none 0 none)]) h59 fun h76 =>
pLoadN 5 v0 h76 fun v78 =>
Q (AV.tu [v78, (AV.i .i64 1)]) h76)
else
(pQuo .i64 (IntKind.wrap .i64 n20) 64 fun n80 =>
pRem (IntKind.wrap .i64 n20) 32 fun n81 =>
pQuo .i64 (IntKind.wrap .i64 n20) 32 fun n82 =>
pRem n82 2 fun n83 =>
pAlloc [(AV.i .i64 0), (AV.i .i64 0), (AV.b false), (AV.s []), (AV.sl none 0 none)] h59 fun v84 h85 =>
pStore 5 v84 (AV.ag [(AV.i .i64 n80), (AV.i .i64 n81), (AV.b (decide ((n83 : Int) = 1))), (AV.s []), (AV.sl none 0 none)]) h85 fun h86 =>
pNil x0 fun v88 =>
pFieldAddr 1 v88 fun v89 =>
pLoad1 v89 h86 fun v90 =>
asI .i64 v90 fun n91 =>
withI (IntKind.wrap .i64 (n91 + n61)) fun n92 =>
pFieldAddr 2 v84 fun v94 =>
pLoad1 v94 h86 fun v95 =>
asB v95 fun c96 =>
(bif (!c96) then
(pNil x0 fun v98 =>
pFieldAddr 0 v98 fun v99 =>
pLoad1 v99 h86 fun v100 =>
asS v100 fun l101 =>
pNil x0 fun v102 =>
pFieldAddr 1 v102 fun v103 =>
pLoad1 v103 h86 fun v104 =>
asI .i64 v104 fun n105 =>
pSliceStr (AV.s l101) (some (AV.i .i64 n105)) (some (AV.i .i64 n92)) fun l106 =>
pFieldAddr 3 v84 fun v107 =>
pStore 1 v107 (AV.s l106) h86 fun h108 =>
pNil x0 fun v110 =>
pFieldAddr 1 v110 fun v111 =>
pStore 1 v111 (AV.i .i64 n92) h108 fun h112 =>
pLoadN 5 v84 h112 fun v114 =>
pStore 5 v0 v114 h112 fun h115 =>
pLoadN 5 v0 h115 fun v117 =>
Q (AV.tu [v117, (AV.i .i64 0)]) h115)
else
(J 1 [(0, x0), (2, (AV.i .i64 x2)), (6, v0), (11, v84), (12, (AV.i .i64 n92))] h86))))))))))))))
theorem G_ref33_Scan_value.t_eq (J : JT) (Q : AV → AHeap → Prop) (x0 : AV) (x1 : Int) (x2 : Int) (h : AHeap) : G_ref33_Scan_value.t J Q x0 x1 x2 h = exJ prog C 140 J G_ref33_Scan_value.ann G_ref33_Scan_value.body (initEnv 0 [x0, (AV.i .i64 x1), (AV.i .i64 x2)]) h (kFun prog Tryd.f33 Q) := by kernel_rfl
theorem G_ref33_Scan_value.call {K : AV → AHeap → Prop} {x0 : AV} {x1 : Int} {x2 : Int} {h : AHeap} (H : G_ref33_Scan_value.t (G_ref33_Scan_value.J (kRet h K)) (kRet h K) x0 x1 x2 h) : C G_ref33_Scan_value.id [x0, (AV.i .i64 x1), (AV.i .i64 x2)] h K :=
  callJ (P := prog) (fn := Tryd.f33) (ann := G_ref33_Scan_value.ann) (body := G_ref33_Scan_value.body) Tryd.func33 G_ref33_Scan_value.body_eq (by kernel_rfl) G_ref33_Scan_value.dist (by kernel_rfl) ((G_ref33_Scan_value.t_eq (G_ref33_Scan_value.J (kRet h K)) (kRet h K) x0 x1 x2 h).mp H)

--@@ G_ref33_Count_few
/-! ### 34: (*intrusion/intrusionref33.Count).few -/
noncomputable def G_ref33_Count_few.body : Code := (Tryd.f34.body).getD .skip
def G_ref33_Count_few.ann : Ann := (.seq 0 [0, 2, 4] .leaf (.seq 0 [0, 2, 4] (.ord (.neu 0 (.neu 1 (.neu 2 (.neu 3 (.neu 4 (.neu 5 (.neu 6 (.neu 7 (.neu 8 (.neu 9 (.neu 10 (.eff 11 .done .stop))))))))))))) (.seq 0 [0, 2, 4] (.seq 1 [0, 2, 4, 33] .leaf (.br (.seq 0 [6] .leaf .leaf) .leaf)) (.seq 0 [] (.seq 0 [0, 2, 4, 7] .leaf (.one (.loop 2 [0, 2, 4, 7] (.seq 0 [0, 2, 4, 7] (.seq 0 [0, 2, 4, 7, 38] .leaf (.br .leaf .leaf)) (.seq 0 [0, 2, 4, 7] (.one (.seq 0 [0, 2, 4, 7, 50] .leaf (.br (.seq 0 [6] .leaf .leaf) .leaf))) .leaf))))) (.seq 0 [6] .leaf .leaf)))))
theorem G_ref33_Count_few.body_eq : Tryd.f34.body = some G_ref33_Count_few.body := by kernel_rfl
theorem G_ref33_Count_few.dist : noTwice (places G_ref33_Count_few.ann G_ref33_Count_few.body) = true := by kernel_rfl
noncomputable def G_ref33_Count_few.J (Q : AV → AHeap → Prop) : JT := funJ prog C Tryd.f34 G_ref33_Count_few.ann G_ref33_Count_few.body Q
theorem G_ref33_Count_few.goR {Q : AV → AHeap → Prop} {k : Nat} {p : List Nat} (hl : lookJ (places G_ref33_Count_few.ann G_ref33_Count_few.body) k = some (p, false)) {e : Env} {h : AHeap} (hk : atJ prog C 51 (G_ref33_Count_few.J Q) false p G_ref33_Count_few.ann G_ref33_Count_few.body e h (kFun prog Tryd.f34 Q)) : G_ref33_Count_few.J Q k e h := goJ_run (P := prog) (fn := Tryd.f34) (ann := G_ref33_Count_few.ann) (body := G_ref33_Count_few.body) (Q := Q) (k := k) (p := p) (e := e) (h := h) (acall_le X) G_ref33_Count_few.dist hl hk
theorem G_ref33_Count_few.goH {Q : AV → AHeap → Prop} {k : Nat} {p : List Nat} (hl : lookJ (places G_ref33_Count_few.ann G_ref33_Count_few.body) k = some (p, true)) {e : Env} {h : AHeap} (hk : atJ prog C 51 (G_ref33_Count_few.J Q) true p G_ref33_Count_few.ann G_ref33_Count_few.body e h (kFun prog Tryd.f34 Q)) : G_ref33_Count_few.J Q k e h := goJ_head (P := prog) (fn := Tryd.f34) (ann := G_ref33_Count_few.ann) (body := G_ref33_Count_few.body) (Q := Q) (k := k) (p := p) (e := e) (h := h) (acall_le X) G_ref33_Count_few.dist hl hk
def G_ref33_Count_few.p0 (Q : AV → AHeap → Prop) (x0 : AV) (x2 : Int) (x4 : AV) (x33 : Bool) (h : AHeap) : Prop := G_ref33_Count_few.J Q 1 [(0, x0), (2, (AV.i .i64 x2)), (4, x4), (33, (AV.b x33))] h
theorem G_ref33_Count_few.j0 (Q : AV → AHeap → Prop) (x0 : AV) (x2 : Int) (x4 : AV) (x33 : Bool) (h : AHeap) : G_ref33_Count_few.J Q 1 [(0, x0), (2, (AV.i .i64 x2)), (4, x4), (33, (AV.b x33))] h = G_ref33_Count_few.p0 Q x0 x2 x4 x33 h := rfl
def G_ref33_Count_few.p1 (Q : AV → AHeap → Prop) (x0 : AV) (x2 : Int) (x4 : AV) (x7 : Int) (h : AHeap) : Prop := G_ref33_Count_few.J Q 2 [(0, x0), (2, (AV.i .i64 x2)), (4, x4), (7, (AV.i .i64 x7))] h
theorem G_ref33_Count_few.j1 (Q : AV → AHeap → Prop) (x0 : AV) (x2 : Int) (x4 : AV) (x7 : Int) (h : AHeap) : G_ref33_Count_few.J Q 2 [(0, x0), (2, (AV.i .i64 x2)), (4, x4), (7, (AV.i .i64 x7))] h = G_ref33_Count_few.p1 Q x0 x2 x4 x7 h := rfl
def G_ref33_Count_few.t0 (J : JT) (Q : AV → AHeap → Prop) (x0 : AV) (x2 : Int) (x4 : AV) (x33 : Bool) (h : AHeap) : Prop :=
(bif x33 then
(Q (AV.b false) h)
else
(J 2 [(0, x0), (2, (AV.i .i64 x2)), (4, x4), (7, (AV.i .i64 0))] h))
theorem G_ref33_Count_few.t0_eq (J : JT) (Q : AV → AHeap → Prop) (x0 : AV) (x2 : Int) (x4 : AV) (x33 : Bool) (h : AHeap) : G_ref33_Count_few.t0 J Q x0 x2 x4 x33 h = atJ prog C 51 J false [1, 1, 0, 1] G_ref33_Count_few.ann G_ref33_Count_few.body [(0, x0), (2, (AV.i .i64 x2)), (4, x4), (33, (AV.b x33))] h (kFun prog Tryd.f34 Q) := by kernel_rfl
theorem G_ref33_Count_few.i0 {Q : AV → AHeap → Prop} {x0 : AV} {x2 : Int} {x4 : AV} {x33 : Bool} {h : AHeap} (H : G_ref33_Count_few.t0 (G_ref33_Count_few.J Q) Q x0 x2 x4 x33 h) : G_ref33_Count_few.p0 Q x0 x2 x4 x33 h := G_ref33_Count_few.goR (k := 1) (p := [1, 1, 0, 1]) (by kernel_rfl) ((G_ref33_Count_few.t0_eq (G_ref33_Count_few.J Q) Q x0 x2 x4 x33 h).mp H)
def G_ref33_Count_few.t1 (J : JT) (Q : AV → AHeap → Prop) (x0 : AV) (x2 : Int) (x4 : AV) (x7 : Int) (h : AHeap) : Prop :=
pFieldAddr 4 x4 fun v29 =>
pLoad1 v29 h fun v30 =>
pLenSl v30 fun n31 =>
(bif (decide ((x7 : Int) < n31)) then
(pFieldAddr 4 x4 fun v35 =>
pLoad1 v35 h fun v36 =>
pIdxAddrSl 5 v36 (AV.i .i64 x7) h fun v37 =>
pLoadN 5 v37 h fun v38 =>
withI (IntKind.wrap .i64 (x2 + 1)) fun n39 =>
C G_ref33_Count_few.id [x0, v38, (AV.i .i64 n39)] h fun v40 h41 =>
asB v40 fun c42 =>
(bif (!c42) then
(Q (AV.b false) h41)
else
(withI (IntKind.wrap .i64 (x7 + 1)) fun n46 =>
J 2 [(0, x0), (2, (AV.i .i64 x2)), (4, x4), (7, (AV.i .i64 n46))] h41)))
else
(Q (AV.b true) h))
theorem G_ref33_Count_few.t1_eq (J : JT) (Q : AV → AHeap → Prop) (x0 : AV) (x2 : Int) (x4 : AV) (x7 : Int) (h : AHeap) : G_ref33_Count_few.t1 J Q x0 x2 x4 x7 h = atJ prog C 51 J true [1, 1, 1, 0, 1, 0] G_ref33_Count_few.ann G_ref33_Count_few.body [(0, x0), (2, (AV.i .i64 x2)), (4, x4), (7, (AV.i .i64 x7))] h (kFun prog Tryd.f34 Q) := by kernel_rfl
theorem G_ref33_Count_few.i1 {Q : AV → AHeap → Prop} {x0 : AV} {x2 : Int} {x4 : AV} {x7 : Int} {h : AHeap} (H : G_ref33_Count_few.t1 (G_ref33_Count_few.J Q) Q x0 x2 x4 x7 h) : G_ref33_Count_few.p1 Q x0 x2 x4 x7 h := G_ref33_Count_few.goH (k := 2) (p := [1, 1, 1, 0, 1, 0]) (by kernel_rfl) ((G_ref33_Count_few.t1_eq (G_ref33_Count_few.J Q) Q x0 x2 x4 x7 h).mp H)
def G_ref33_Count_few.t (J : JT) (Q : AV → AHeap → Prop) (x0 : AV) (x1 : AV) (x2 : Int) (h : AHeap) : Prop :=
pBox x1 h fun v0 h1 =>
pNil x0 fun v3 =>
pFieldAddr 0 v3 fun v4 =>
pLoad1 v4 h1 fun v5 =>
asI .i64 v5 fun n6 =>
pFieldAddr 3 v0 fun v7 =>
pLoad1 v7 h1 fun v8 =>
asS v8 fun l9 =>
withI (IntKind.wrap .i64 (10 + (l9.length : Int))) fun n10 =>
withI (IntKind.wrap .i64 (n6 + n10)) fun n11 =>
pNil x0 fun v12 =>
pFieldAddr 0 v12 fun v13 =>
pStore 1 v13 (AV.i .i64 n11) h1 fun h14 =>
(bif (decide ((30 : Int) < x2)) then
(J 1 [(0, x0), (2, (AV.i .i64 x2)), (4, v0), (33, (AV.b true))] h14)
else
(pNil x0 fun v17 =>
pFieldAddr 0 v17 fun v18 =>
pLoad1 v18 h14 fun v19 =>
asI .i64 v19 fun n20 =>
(bif (decide ((6000 : Int) < n20)) then
(J 1 [(0, x0), (2, (AV.i .i64 x2)), (4, v0), (33, (AV.b true))] h14)
else
(pFieldAddr 3 v0 fun v22 =>
pLoad1 v22 h14 fun v23 =>
asS v23 fun l24 =>
J 1 [(0, x0), (2, (AV.i .i64 x2)), (4, v0), (33, (AV.b (decide ((3000 : Int) < (l24.length : Int)))))] h14))))
theorem G_ref33_Count_few.t_eq (J : JT) (Q : AV → AHeap → Prop) (x0 : AV) (x1 : AV) (x2 : Int) (h : AHeap) : G_ref33_Count_few.t J Q x0 x1 x2 h = exJ prog C 51 J G_ref33_Count_few.ann G_ref33_Count_few.body (initEnv 0 [x0, x1, (AV.i .i64 x2)]) h (kFun prog Tryd.f34 Q) := by kernel_rfl
theorem G_ref33_Count_few.call {K : AV → AHeap → Prop} {x0 : AV} {x1 : AV} {x2 : Int} {h : AHeap} (H : G_ref33_Count_few.t (G_ref33_Count_few.J (kRet h K)) (kRet h K) x0 x1 x2 h) : C G_ref33_Count_few.id [x0, x1, (AV.i .i64 x2)] h K :=
  callJ (P := prog) (fn := Tryd.f34) (ann := G_ref33_Count_few.ann) (body := G_ref33_Count_few.body) Tryd.func34 G_ref33_Count_few.body_eq (by kernel_rfl) G_ref33_Count_few.dist (by kernel_rfl) ((G_ref33_Count_few.t_eq (G_ref33_Count_few.J (kRet h K)) (kRet h K) x0 x1 x2 h).mp H)

--@@ G_der_reader_check
/-! ### 35: (*intrusion/der.reader).check -/
noncomputable def G_der_reader_check.body : Code := (Tryd.f35.body).getD .skip
def G_der_reader_check.ann : Ann := (.seq 0 [3, 4, 5] .leaf (.seq 0 [3, 4, 5] .leaf (.seq 0 [3, 4, 5] (.one (.seq 1 [3, 4, 5, 15] .leaf (.br (.seq 0 [6] .leaf .leaf) (.seq 2 [3, 4, 5, 34] .leaf (.br (.seq 0 [6] .leaf .leaf) (.seq 0 [3, 4, 5, 53] .leaf (.br (.seq 0 [6] .leaf .leaf) (.seq 0 [3, 4, 5, 56] .leaf (.br (.seq 0 [6] .leaf .leaf) .leaf))))))))) (.seq 0 [3, 4, 5, 7] .leaf (.seq 0 [7] .leaf (.seq 0 [6] .leaf .leaf))))))
theorem G_der_reader_check.body_eq : Tryd.f35.body = some G_der_reader_check.body := by kernel_rfl
theorem G_der_reader_check.dist : noTwice (places G_der_reader_check.ann G_der_reader_check.body) = true := by kernel_rfl
noncomputable def G_der_reader_check.J (Q : AV → AHeap → Prop) : JT := funJ prog C Tryd.f35 G_der_reader_check.ann G_der_reader_check.body Q
theorem G_der_reader_check.goR {Q : AV → AHeap → Prop} {k : Nat} {p : List Nat} (hl : lookJ (places G_der_reader_check.ann G_der_reader_check.body) k = some (p, false)) {e : Env} {h : AHeap} (hk : atJ prog C 67 (G_der_reader_check.J Q) false p G_der_reader_check.ann G_der_reader_check.body e h (kFun prog Tryd.f35 Q)) : G_der_reader_check.J Q k e h := goJ_run (P := prog) (fn := Tryd.f35) (ann := G_der_reader_check.ann) (body := G_der_reader_check.body) (Q := Q) (k := k) (p := p) (e := e) (h := h) (acall_le X) G_der_reader_check.dist hl hk
theorem G_der_reader_check.goH {Q : AV → AHeap → Prop} {k : Nat} {p : List Nat} (hl : lookJ (places G_der_reader_check.ann G_der_reader_check.body) k = some (p, true)) {e : Env} {h : AHeap} (hk : atJ prog C 67 (G_der_reader_check.J Q) true p G_der_reader_check.ann G_der_reader_check.body e h (kFun prog Tryd.f35 Q)) : G_der_reader_check.J Q k e h := goJ_head (P := prog) (fn := Tryd.f35) (ann := G_der_reader_check.ann) (body := G_der_reader_check.body) (Q := Q) (k := k) (p := p) (e := e) (h := h) (acall_le X) G_der_reader_check.dist hl hk
def G_der_reader_check.p1 (Q : AV → AHeap → Prop) (x3 : AV) (x4 : AV) (x5 : AV) (x34 : Bool) (h : AHeap) : Prop := G_der_reader_check.J Q 2 [(3, x3), (4, x4), (5, x5), (34, (AV.b x34))] h
theorem G_der_reader_check.j1 (Q : AV → AHeap → Prop) (x3 : AV) (x4 : AV) (x5 : AV) (x34 : Bool) (h : AHeap) : G_der_reader_check.J Q 2 [(3, x3), (4, x4), (5, x5), (34, (AV.b x34))] h = G_der_reader_check.p1 Q x3 x4 x5 x34 h := rfl
def G_der_reader_check.p0 (Q : AV → AHeap → Prop) (x3 : AV) (x4 : AV) (x5 : AV) (x15 : Bool) (h : AHeap) : Prop := G_der_reader_check.J Q 1 [(3, x3), (4, x4), (5, x5), (15, (AV.b x15))] h
theorem G_der_reader_check.j0 (Q : AV → AHeap → Prop) (x3 : AV) (x4 : AV) (x5 : AV) (x15 : Bool) (h : AHeap) : G_der_reader_check.J Q 1 [(3, x3), (4, x4), (5, x5), (15, (AV.b x15))] h = G_der_reader_check.p0 Q x3 x4 x5 x15 h := rfl
def G_der_reader_check.t1 (J : JT) (Q : AV → AHeap → Prop) (x3 : AV) (x4 : AV) (x5 : AV) (x34 : Bool) (h : AHeap) : Prop :=
(bif x34 then
(Q (AV.i .i64 13) h)
else
(pLoad1 x5 h fun v58 =>
asI .i64 v58 fun n59 =>
(bif (decide ((24 : Int) < n59)) then
(Q (AV.i .i64 9) h)
else
(pLoad1 x3 h fun v62 =>
pNil v62 fun v63 =>
pFieldAddr 0 v63 fun v64 =>
pLoad1 v64 h fun v65 =>
asI .i64 v65 fun n66 =>
(bif (decide ((256 : Int) < n66)) then
(Q (AV.i .i64 3) h)
else
(pAlloc [(AV.i .i64 0)] h fun v70 h71 =>
pStore 1 v70 (AV.i .i64 0) h71 fun h72 =>
pFieldAddr 4 x4 fun v74 =>
pLoad1 v74 h72 fun v75 =>
C G_der_all_api_Der_.id [v75, (AV.fn (.func G_der_reader_check_1.id) [] [x3, x5, v70])] h72 fun v76 h77 =>
asB v76 fun c78 =>
pLoad1 v70 h77 fun v80 =>
asI .i64 v80 fun n81 =>
Q (AV.i .i64 n81) h77))))))
theorem G_der_reader_check.t1_eq (J : JT) (Q : AV → AHeap → Prop) (x3 : AV) (x4 : AV) (x5 : AV) (x34 : Bool) (h : AHeap) : G_der_reader_check.t1 J Q x3 x4 x5 x34 h = atJ prog C 67 J false [1, 1, 0, 0, 1, 1, 1] G_der_reader_check.ann G_der_reader_check.body [(3, x3), (4, x4), (5, x5), (34, (AV.b x34))] h (kFun prog Tryd.f35 Q) := by kernel_rfl
theorem G_der_reader_check.i1 {Q : AV → AHeap → Prop} {x3 : AV} {x4 : AV} {x5 : AV} {x34 : Bool} {h : AHeap} (H : G_der_reader_check.t1 (G_der_reader_check.J Q) Q x3 x4 x5 x34 h) : G_der_reader_check.p1 Q x3 x4 x5 x34 h := G_der_reader_check.goR (k := 2) (p := [1, 1, 0, 0, 1, 1, 1]) (by kernel_rfl) ((G_der_reader_check.t1_eq (G_der_reader_check.J Q) Q x3 x4 x5 x34 h).mp H)
def G_der_reader_check.t0 (J : JT) (Q : AV → AHeap → Prop) (x3 : AV) (x4 : AV) (x5 : AV) (x15 : Bool) (h : AHeap) : Prop :=
(bif x15 then
(Q (AV.i .i64 4) h)
else
(pFieldAddr 2 x4 fun v34 =>
pLoad1 v34 h fun v35 =>
asB v35 fun c36 =>
(bif c36 then
(pFieldAddr 3 x4 fun v37 =>
pLoad1 v37 h fun v38 =>
asS v38 fun l39 =>
(bif (!(decide ((l39 : List UInt8) = []))) then
(J 2 [(3, x3), (4, x4), (5, x5), (34, (AV.b true))] h)
else
(pFieldAddr 2 x4 fun v41 =>
pLoad1 v41 h fun v42 =>
asB v42 fun c43 =>
(bif (!c43) then
(pFieldAddr 4 x4 fun v44 =>
pLoad1 v44 h fun v45 =>
pLenSl v45 fun n46 =>
J 2 [(3, x3), (4, x4), (5, x5), (34, (AV.b (decide ((0 : Int) < n46))))] h)
else
(J 2 [(3, x3), (4, x4), (5, x5), (34, (AV.b false))] h)))))
else
(pFieldAddr 2 x4 fun v49 =>
pLoad1 v49 h fun v50 =>
asB v50 fun c51 =>
(bif (!c51) then
(pFieldAddr 4 x4 fun v52 =>
pLoad1 v52 h fun v53 =>
pLenSl v53 fun n54 =>
J 2 [(3, x3), (4, x4), (5, x5), (34, (AV.b (decide ((0 : Int) < n54))))] h)
else
(J 2 [(3, x3), (4, x4), (5, x5), (34, (AV.b false))] h))))))
theorem G_der_reader_check.t0_eq (J : JT) (Q : AV → AHeap → Prop) (x3 : AV) (x4 : AV) (x5 : AV) (x15 : Bool) (h : AHeap) : G_der_reader_check.t0 J Q x3 x4 x5 x15 h = atJ prog C 67 J false [1, 1, 0, 0, 1] G_der_reader_check.ann G_der_reader_check.body [(3, x3), (4, x4), (5, x5), (15, (AV.b x15))] h (kFun prog Tryd.f35 Q) := by kernel_rfl
theorem G_der_reader_check.i0 {Q : AV → AHeap → Prop} {x3 : AV} {x4 : AV} {x5 : AV} {x15 : Bool} {h : AHeap} (H : G_der_reader_check.t0 (G_der_reader_check.J Q) Q x3 x4 x5 x15 h) : G_der_reader_check.p0 Q x3 x4 x5 x15 h := G_der_reader_check.goR (k := 1) (p := [1, 1, 0, 0, 1]) (by kernel_rfl) ((G_der_reader_check.t0_eq (G_der_reader_check.J Q) Q x3 x4 x5 x15 h).mp H)
def G_der_reader_check.t (J : JT) (Q : AV → AHeap → Prop) (x0 : AV) (x1 : AV) (x2 : Int) (h : AHeap) : Prop :=
pBox x0 h fun v0 h1 =>
pBox x1 h1 fun v2 h3 =>
pBox (AV.i .i64 x2) h3 fun v4 h5 =>
pLoad1 v0 h5 fun v7 =>
pNil v7 fun v8 =>
pFieldAddr 0 v8 fun v9 =>
pLoad1 v9 h5 fun v10 =>
asI .i64 v10 fun n11 =>
withI (IntKind.wrap .i64 (n11 + 1)) fun n12 =>
pNil v7 fun v13 =>
pFieldAddr 0 v13 fun v14 =>
pStore 1 v14 (AV.i .i64 n12) h5 fun h15 =>
pFieldAddr 0 v2 fun v17 =>
pLoad1 v17 h15 fun v18 =>
asI .i64 v18 fun n19 =>
(bif (decide ((n19 : Int) < 0)) then
(J 1 [(3, v0), (4, v2), (5, v4), (15, (AV.b true))] h15)
else
(pFieldAddr 0 v2 fun v21 =>
pLoad1 v21 h15 fun v22 =>
asI .i64 v22 fun n23 =>
(bif (decide ((3 : Int) < n23)) then
(J 1 [(3, v0), (4, v2), (5, v4), (15, (AV.b true))] h15)
else
(pFieldAddr 1 v2 fun v25 =>
pLoad1 v25 h15 fun v26 =>
asI .i64 v26 fun n27 =>
(bif (decide ((n27 : Int) < 0)) then
(J 1 [(3, v0), (4, v2), (5, v4), (15, (AV.b true))] h15)
else
(pFieldAddr 1 v2 fun v29 =>
pLoad1 v29 h15 fun v30 =>
asI .i64 v30 fun n31 =>
J 1 [(3, v0), (4, v2), (5, v4), (15, (AV.b (decide ((30 : Int) < n31))))] h15))))))
theorem G_der_reader_check.t_eq (J : JT) (Q : AV → AHeap → Prop) (x0 : AV) (x1 : AV) (x2 : Int) (h : AHeap) : G_der_reader_check.t J Q x0 x1 x2 h = exJ prog C 67 J G_der_reader_check.ann G_der_reader_check.body (initEnv 0 [x0, x1, (AV.i .i64 x2)]) h (kFun prog Tryd.f35 Q) := by kernel_rfl
theorem G_der_reader_check.call {K : AV → AHeap → Prop} {x0 : AV} {x1 : AV} {x2 : Int} {h : AHeap} (H : G_der_reader_check.t (G_der_reader_check.J (kRet h K)) (kRet h K) x0 x1 x2 h) : C G_der_reader_check.id [x0, x1, (AV.i .i64 x2)] h K :=
  callJ (P := prog) (fn := Tryd.f35) (ann := G_der_reader_check.ann) (body := G_der_reader_check.body) Tryd.func35 G_der_reader_check.body_eq (by kernel_rfl) G_der_reader_check.dist (by kernel_rfl) ((G_der_reader_check.t_eq (G_der_reader_check.J (kRet h K)) (kRet h K) x0 x1 x2 h).mp H)

--@@ G_der_write
/-! ### 36: intrusion/der.write -/
noncomputable def G_der_write.body : Code := (Tryd.f36.body).getD .skip
def G_der_write.ann : Ann := (.seq 0 [1] .leaf (.seq 0 [1, 3] .leaf (.seq 2 [1, 3] (.seq 0 [1, 3, 12, 13, 14] .leaf (.one (.loop 1 [1, 3, 12, 13, 14] (.seq 0 [1, 3, 12, 13, 14, 15] .leaf (.seq 0 [1, 3, 12, 13, 14] (.br .leaf .leaf) (.seq 0 [1, 3, 12, 13, 14] (.one (.seq 0 [1, 3, 5, 12, 13, 14] .leaf (.seq 0 [1, 3, 12, 13, 14] .leaf (.seq 0 [1, 3, 12, 13, 14, 24] .leaf (.br .leaf .leaf))))) .leaf)))))) (.seq 0 [1, 3, 6] .leaf (.seq 3 [3, 6] (.seq 0 [3, 6, 33] .leaf (.br .leaf .leaf)) (.seq 0 [3, 7] .leaf (.seq 0 [3, 7, 8] .leaf (.seq 4 [3, 7] (.one (.seq 0 [3, 7, 8, 52] .leaf (.br .leaf (.seq 0 [3, 7, 8, 60] .leaf (.br .leaf (.seq 0 [3, 7, 8, 68] .leaf (.br .leaf .leaf))))))) (.seq 0 [2] .leaf .leaf)))))))))
theorem G_der_write.body_eq : Tryd.f36.body = some G_der_write.body := by kernel_rfl
theorem G_der_write.dist : noTwice (places G_der_write.ann G_der_write.body) = true := by kernel_rfl
noncomputable def G_der_write.J (Q : AV → AHeap → Prop) : JT := funJ prog C Tryd.f36 G_der_write.ann G_der_write.body Q
theorem G_der_write.goR {Q : AV → AHeap → Prop} {k : Nat} {p : List Nat} (hl : lookJ (places G_der_write.ann G_der_write.body) k = some (p, false)) {e : Env} {h : AHeap} (hk : atJ prog C 83 (G_der_write.J Q) false p G_der_write.ann G_der_write.body e h (kFun prog Tryd.f36 Q)) : G_der_write.J Q k e h := goJ_run (P := prog) (fn := Tryd.f36) (ann := G_der_write.ann) (body := G_der_write.body) (Q := Q) (k := k) (p := p) (e := e) (h := h) (acall_le X) G_der_write.dist hl hk
theorem G_der_write.goH {Q : AV → AHeap → Prop} {k : Nat} {p : List Nat} (hl : lookJ (places G_der_write.ann G_der_write.body) k = some (p, true)) {e : Env} {h : AHeap} (hk : atJ prog C 83 (G_der_write.J Q) true p G_der_write.ann G_der_write.body e h (kFun prog Tryd.f36 Q)) : G_der_write.J Q k e h := goJ_head (P := prog) (fn := Tryd.f36) (ann := G_der_write.ann) (body := G_der_write.body) (Q := Q) (k := k) (p := p) (e := e) (h := h) (acall_le X) G_der_write.dist hl hk
def G_der_write.p0 (Q : AV → AHeap → Prop) (x1 : AV) (x3 : List UInt8) (x12 : AV) (x13 : Int) (x14 : Int) (h : AHeap) : Prop := G_der_write.J Q 1 [(1, x1), (3, (AV.s x3)), (12, x12), (13, (AV.i .i64 x13)), (14, (AV.i .i64 x14))] h
theorem G_der_write.j0 (Q : AV → AHeap → Prop) (x1 : AV) (x3 : List UInt8) (x12 : AV) (x13 : Int) (x14 : Int) (h : AHeap) : G_der_write.J Q 1 [(1, x1), (3, (AV.s x3)), (12, x12), (13, (AV.i .i64 x13)), (14, (AV.i .i64 x14))] h = G_der_write.p0 Q x1 x3 x12 x13 x14 h := rfl
def G_der_write.p3 (Q : AV → AHeap → Prop) (x3 : List UInt8) (x7 : AV) (h : AHeap) : Prop := G_der_write.J Q 4 [(3, (AV.s x3)), (7, x7)] h
theorem G_der_write.j3 (Q : AV → AHeap → Prop) (x3 : List UInt8) (x7 : AV) (h : AHeap) : G_der_write.J Q 4 [(3, (AV.s x3)), (7, x7)] h = G_der_write.p3 Q x3 x7 h := rfl
def G_der_write.p2 (Q : AV → AHeap → Prop) (x3 : List UInt8) (x6 : Int) (h : AHeap) : Prop := G_der_write.J Q 3 [(3, (AV.s x3)), (6, (AV.i .i64 x6))] h
theorem G_der_write.j2 (Q : AV → AHeap → Prop) (x3 : List UInt8) (x6 : Int) (h : AHeap) : G_der_write.J Q 3 [(3, (AV.s x3)), (6, (AV.i .i64 x6))] h = G_der_write.p2 Q x3 x6 h := rfl
def G_der_write.p1 (Q : AV → AHeap → Prop) (x1 : AV) (x3 : List UInt8) (h : AHeap) : Prop := G_der_write.J Q 2 [(1, x1), (3, (AV.s x3))] h
theorem G_der_write.j1 (Q : AV → AHeap → Prop) (x1 : AV) (x3 : List UInt8) (h : AHeap) : G_der_write.J Q 2 [(1, x1), (3, (AV.s x3))] h = G_der_write.p1 Q x1 x3 h := rfl
def G_der_write.t0 (J : JT) (Q : AV → AHeap → Prop) (x1 : AV) (x3 : List UInt8) (x12 : AV) (x13 : Int) (x14 : Int) (h : AHeap) : Prop :=
(bif (decide ((x14 : Int) < x13)) then
(pIdxAddrSl 5 x12 (AV.i .i64 x14) h fun v14 =>
pLoadN 5 v14 h fun v15 =>
pAlloc [(AV.i .i64 0), (AV.i .i64 0), (AV.b false), (AV.s []), (AV.sl none 0 none)] h fun v16 h17 =>
pStore 5 v16 v15 h17 fun h18 =>
pLoadN 5 v16 h18 fun v20 =>
C G_der_write.id [v20] h18 fun v21 h22 =>
asS v21 fun l23 =>
pCat x3 l23 fun l24 =>
(bif (decide ((131070 : Int) < (l24.length : Int))) then
(J 2 [(1, x1), (3, (AV.s l24))] h22)
else
(withI (IntKind.wrap .i64 (x14 + 1)) fun n29 =>
J 1 [(1, x1), (3, (AV.s l24)), (12, x12), (13, (AV.i .i64 x13)), (14, (AV.i .i64 n29))] h22)))
else
(J 2 [(1, x1), (3, (AV.s x3))] h))
theorem G_der_write.t0_eq (J : JT) (Q : AV → AHeap → Prop) (x1 : AV) (x3 : List UInt8) (x12 : AV) (x13 : Int) (x14 : Int) (h : AHeap) : G_der_write.t0 J Q x1 x3 x12 x13 x14 h = atJ prog C 83 J true [1, 1, 0, 1, 0] G_der_write.ann G_der_write.body [(1, x1), (3, (AV.s x3)), (12, x12), (13, (AV.i .i64 x13)), (14, (AV.i .i64 x14))] h (kFun prog Tryd.f36 Q) := by kernel_rfl
theorem G_der_write.i0 {Q : AV → AHeap → Prop} {x1 : AV} {x3 : List UInt8} {x12 : AV} {x13 : Int} {x14 : Int} {h : AHeap} (H : G_der_write.t0 (G_der_write.J Q) Q x1 x3 x12 x13 x14 h) : G_der_write.p0 Q x1 x3 x12 x13 x14 h := G_der_write.goH (k := 1) (p := [1, 1, 0, 1, 0]) (by kernel_rfl) ((G_der_write.t0_eq (G_der_write.J Q) Q x1 x3 x12 x13 x14 h).mp H)
def G_der_write.t3 (J : JT) (Q : AV → AHeap → Prop) (x3 : List UInt8) (x7 : AV) (h : AHeap) : Prop :=
pBytesStr x7 h fun l80 =>
pCat l80 x3 fun l81 =>
Q (AV.s l81) h
theorem G_der_write.t3_eq (J : JT) (Q : AV → AHeap → Prop) (x3 : List UInt8) (x7 : AV) (h : AHeap) : G_der_write.t3 J Q x3 x7 h = atJ prog C 83 J false [1, 1, 1, 1, 1, 1, 1, 1] G_der_write.ann G_der_write.body [(3, (AV.s x3)), (7, x7)] h (kFun prog Tryd.f36 Q) := by kernel_rfl
theorem G_der_write.i3 {Q : AV → AHeap → Prop} {x3 : List UInt8} {x7 : AV} {h : AHeap} (H : G_der_write.t3 (G_der_write.J Q) Q x3 x7 h) : G_der_write.p3 Q x3 x7 h := G_der_write.goR (k := 4) (p := [1, 1, 1, 1, 1, 1, 1, 1]) (by kernel_rfl) ((G_der_write.t3_eq (G_der_write.J Q) Q x3 x7 h).mp H)
def G_der_write.t2 (J : JT) (Q : AV → AHeap → Prop) (x3 : List UInt8) (x6 : Int) (h : AHeap) : Prop :=
pBuildSl 1 1 [(AV.i .u8 0)] [(0, 1, (AV.i .u8 (IntKind.wrap .u8 x6)))] h fun v46 h47 =>
(bif (decide (((x3.length : Int) : Int) < 128)) then
(withI (IntKind.wrap .u8 (x3.length : Int)) fun n51 =>
pBuildSl 1 1 [(AV.i .u8 0)] [(0, 1, (AV.i .u8 n51))] h47 fun v52 h53 =>
pAppend 1 1 v46 v52 h53 fun v54 h55 =>
J 4 [(3, (AV.s x3)), (7, v54)] h55)
else
((bif (decide (((x3.length : Int) : Int) < 256)) then
(withI (IntKind.wrap .u8 (x3.length : Int)) fun n58 =>
pBuildSl 1 2 [(AV.i .u8 0), (AV.i .u8 0)] [(0, 1, (AV.i .u8 129)), (1, 1, (AV.i .u8 n58))] h47 fun v59 h60 =>
pAppend 1 1 v46 v59 h60 fun v61 h62 =>
J 4 [(3, (AV.s x3)), (7, v61)] h62)
else
((bif (decide (((x3.length : Int) : Int) < 65536)) then
(pShr .i64 (x3.length : Int) 8 fun n65 =>
withI (IntKind.wrap .u8 (x3.length : Int)) fun n66 =>
pBuildSl 1 3 [(AV.i .u8 0), (AV.i .u8 0), (AV.i .u8 0)] [(0, 1, (AV.i .u8 130)), (1, 1, (AV.i .u8 (IntKind.wrap .u8 n65))), (2, 1, (AV.i .u8 n66))] h47 fun v67 h68 =>
pAppend 1 1 v46 v67 h68 fun v69 h70 =>
J 4 [(3, (AV.s x3)), (7, v69)] h70)
else
(pShr .i64 (x3.length : Int) 16 fun n72 =>
pShr .i64 (x3.length : Int) 8 fun n73 =>
withI (IntKind.wrap .u8 (x3.length : Int)) fun n74 =>
pBuildSl 1 4 [(AV.i .u8 0), (AV.i .u8 0), (AV.i .u8 0), (AV.i .u8 0)] [(0, 1, (AV.i .u8 131)), (1, 1, (AV.i .u8 (IntKind.wrap .u8 n72))), (2, 1, (AV.i .u8 (IntKind.wrap .u8 n73))), (3, 1, (AV.i .u8 n74))] h47 fun v75 h76 =>
pAppend 1 1 v46 v75 h76 fun v77 h78 =>
J 4 [(3, (AV.s x3)), (7, v77)] h78))))))
theorem G_der_write.t2_eq (J : JT) (Q : AV → AHeap → Prop) (x3 : List UInt8) (x6 : Int) (h : AHeap) : G_der_write.t2 J Q x3 x6 h = atJ prog C 83 J false [1, 1, 1, 1, 1] G_der_write.ann G_der_write.body [(3, (AV.s x3)), (6, (AV.i .i64 x6))] h (kFun prog Tryd.f36 Q) := by kernel_rfl
theorem G_der_write.i2 {Q : AV → AHeap → Prop} {x3 : List UInt8} {x6 : Int} {h : AHeap} (H : G_der_write.t2 (G_der_write.J Q) Q x3 x6 h) : G_der_write.p2 Q x3 x6 h := G_der_write.goR (k := 3) (p := [1, 1, 1, 1, 1]) (by kernel_rfl) ((G_der_write.t2_eq (G_der_write.J Q) Q x3 x6 h).mp H)
def G_der_write.t1 (J : JT) (Q : AV → AHeap → Prop) (x1 : AV) (x3 : List UInt8) (h : AHeap) : Prop :=
pFieldAddr 0 x1 fun v31 =>
pLoad1 v31 h fun v32 =>
asI .i64 v32 fun n33 =>
pShl .i64 n33 6 fun n34 =>
pFieldAddr 1 x1 fun v35 =>
pLoad1 v35 h fun v36 =>
asI .i64 v36 fun n37 =>
withI (bitsOp .or .i64 n34 n37) fun n38 =>
pFieldAddr 2 x1 fun v40 =>
pLoad1 v40 h fun v41 =>
asB v41 fun c42 =>
(bif c42 then
(J 3 [(3, (AV.s x3)), (6, (AV.i .i64 (bitsOp .or .i64 n38 32)))] h)
else
(J 3 [(3, (AV.s x3)), (6, (AV.i .i64 n38))] h))
theorem G_der_write.t1_eq (J : JT) (Q : AV → AHeap → Prop) (x1 : AV) (x3 : List UInt8) (h : AHeap) : G_der_write.t1 J Q x1 x3 h = atJ prog C 83 J false [1, 1, 1] G_der_write.ann G_der_write.body [(1, x1), (3, (AV.s x3))] h (kFun prog Tryd.f36 Q) := by kernel_rfl
theorem G_der_write.i1 {Q : AV → AHeap → Prop} {x1 : AV} {x3 : List UInt8} {h : AHeap} (H : G_der_write.t1 (G_der_write.J Q) Q x1 x3 h) : G_der_write.p1 Q x1 x3 h := G_der_write.goR (k := 2) (p := [1, 1, 1]) (by kernel_rfl) ((G_der_write.t1_eq (G_der_write.J Q) Q x1 x3 h).mp H)
def G_der_write.t (J : JT) (Q : AV → AHeap → Prop) (x0 : AV) (h : AHeap) : Prop :=
pBox x0 h fun v0 h1 =>
pFieldAddr 3 v0 fun v3 =>
pLoad1 v3 h1 fun v4 =>
asS v4 fun l5 =>
pFieldAddr 4 v0 fun v7 =>
pLoad1 v7 h1 fun v8 =>
pLenSl v8 fun n9 =>
J 1 [(1, v0), (3, (AV.s l5)), (12, v8), (13, (AV.i .i64 n9)), (14, (AV.i .i64 0))] h1
theorem G_der_write.t_eq (J : JT) (Q : AV → AHeap → Prop) (x0 : AV) (h : AHeap) : G_der_write.t J Q x0 h = exJ prog C 83 J G_der_write.ann G_der_write.body (initEnv 0 [x0]) h (kFun prog Tryd.f36 Q) := by kernel_rfl
theorem G_der_write.call {K : AV → AHeap → Prop} {x0 : AV} {h : AHeap} (H : G_der_write.t (G_der_write.J (kRet h K)) (kRet h K) x0 h) : C G_der_write.id [x0] h K :=
  callJ (P := prog) (fn := Tryd.f36) (ann := G_der_write.ann) (body := G_der_write.body) Tryd.func36 G_der_write.body_eq (by kernel_rfl) G_der_write.dist (by kernel_rfl) ((G_der_write.t_eq (G_der_write.J (kRet h K)) (kRet h K) x0 h).mp H)

--@@ G_ref33_Count_check
/-! ### 37: (*intrusion/intrusionref33.Count).check -/
noncomputable def G_ref33_Count_check.body : Code := (Tryd.f37.body).getD .skip
def G_ref33_Count_check.ann : Ann := (.seq 0 [0, 2, 4] .leaf (.seq 0 [0, 2, 4] .leaf (.seq 0 [0, 2, 4] (.one (.seq 1 [0, 2, 4, 16] .leaf (.br (.seq 0 [6] .leaf .leaf) (.seq 2 [0, 2, 4, 35] .leaf (.br (.seq 0 [6] .leaf .leaf) (.seq 0 [0, 2, 4, 54] .leaf (.br (.seq 0 [6] .leaf .leaf) (.seq 0 [0, 2, 4, 57] .leaf (.br (.seq 0 [6] .leaf .leaf) .leaf))))))))) (.seq 0 [] (.seq 0 [0, 2, 4, 7] .leaf (.one (.loop 3 [0, 2, 4, 7] (.seq 0 [0, 2, 4, 7] (.seq 0 [0, 2, 4, 7, 67] .leaf (.br .leaf .leaf)) (.seq 0 [0, 2, 4, 7] (.one (.seq 0 [0, 2, 4, 7, 8] .leaf (.seq 0 [0, 2, 4, 7, 8, 80] .leaf (.br (.seq 0 [6] .leaf .leaf) .leaf)))) .leaf))))) (.seq 0 [6] .leaf .leaf)))))
theorem G_ref33_Count_check.body_eq : Tryd.f37.body = some G_ref33_Count_check.body := by kernel_rfl
theorem G_ref33_Count_check.dist : noTwice (places G_ref33_Count_check.ann G_ref33_Count_check.body) = true := by kernel_rfl
noncomputable def G_ref33_Count_check.J (Q : AV → AHeap → Prop) : JT := funJ prog C Tryd.f37 G_ref33_Count_check.ann G_ref33_Count_check.body Q
theorem G_ref33_Count_check.goR {Q : AV → AHeap → Prop} {k : Nat} {p : List Nat} (hl : lookJ (places G_ref33_Count_check.ann G_ref33_Count_check.body) k = some (p, false)) {e : Env} {h : AHeap} (hk : atJ prog C 82 (G_ref33_Count_check.J Q) false p G_ref33_Count_check.ann G_ref33_Count_check.body e h (kFun prog Tryd.f37 Q)) : G_ref33_Count_check.J Q k e h := goJ_run (P := prog) (fn := Tryd.f37) (ann := G_ref33_Count_check.ann) (body := G_ref33_Count_check.body) (Q := Q) (k := k) (p := p) (e := e) (h := h) (acall_le X) G_ref33_Count_check.dist hl hk
theorem G_ref33_Count_check.goH {Q : AV → AHeap → Prop} {k : Nat} {p : List Nat} (hl : lookJ (places G_ref33_Count_check.ann G_ref33_Count_check.body) k = some (p, true)) {e : Env} {h : AHeap} (hk : atJ prog C 82 (G_ref33_Count_check.J Q) true p G_ref33_Count_check.ann G_ref33_Count_check.body e h (kFun prog Tryd.f37 Q)) : G_ref33_Count_check.J Q k e h := goJ_head (P := prog) (fn := Tryd.f37) (ann := G_ref33_Count_check.ann) (body := G_ref33_Count_check.body) (Q := Q) (k := k) (p := p) (e := e) (h := h) (acall_le X) G_ref33_Count_check.dist hl hk
def G_ref33_Count_check.p1 (Q : AV → AHeap → Prop) (x0 : AV) (x2 : Int) (x4 : AV) (x35 : Bool) (h : AHeap) : Prop := G_ref33_Count_check.J Q 2 [(0, x0), (2, (AV.i .i64 x2)), (4, x4), (35, (AV.b x35))] h
theorem G_ref33_Count_check.j1 (Q : AV → AHeap → Prop) (x0 : AV) (x2 : Int) (x4 : AV) (x35 : Bool) (h : AHeap) : G_ref33_Count_check.J Q 2 [(0, x0), (2, (AV.i .i64 x2)), (4, x4), (35, (AV.b x35))] h = G_ref33_Count_check.p1 Q x0 x2 x4 x35 h := rfl
def G_ref33_Count_check.p0 (Q : AV → AHeap → Prop) (x0 : AV) (x2 : Int) (x4 : AV) (x16 : Bool) (h : AHeap) : Prop := G_ref33_Count_check.J Q 1 [(0, x0), (2, (AV.i .i64 x2)), (4, x4), (16, (AV.b x16))] h
theorem G_ref33_Count_check.j0 (Q : AV → AHeap → Prop) (x0 : AV) (x2 : Int) (x4 : AV) (x16 : Bool) (h : AHeap) : G_ref33_Count_check.J Q 1 [(0, x0), (2, (AV.i .i64 x2)), (4, x4), (16, (AV.b x16))] h = G_ref33_Count_check.p0 Q x0 x2 x4 x16 h := rfl
def G_ref33_Count_check.p2 (Q : AV → AHeap → Prop) (x0 : AV) (x2 : Int) (x4 : AV) (x7 : Int) (h : AHeap) : Prop := G_ref33_Count_check.J Q 3 [(0, x0), (2, (AV.i .i64 x2)), (4, x4), (7, (AV.i .i64 x7))] h
theorem G_ref33_Count_check.j2 (Q : AV → AHeap → Prop) (x0 : AV) (x2 : Int) (x4 : AV) (x7 : Int) (h : AHeap) : G_ref33_Count_check.J Q 3 [(0, x0), (2, (AV.i .i64 x2)), (4, x4), (7, (AV.i .i64 x7))] h = G_ref33_Count_check.p2 Q x0 x2 x4 x7 h := rfl
def G_ref33_Count_check.t1 (J : JT) (Q : AV → AHeap → Prop) (x0 : AV) (x2 : Int) (x4 : AV) (x35 : Bool) (h : AHeap) : Prop :=
(bif x35 then
(Q (AV.i .i64 13) h)
else
((bif (decide ((24 : Int) < x2)) then
(Q (AV.i .i64 9) h)
else
(pNil x0 fun v55 =>
pFieldAddr 0 v55 fun v56 =>
pLoad1 v56 h fun v57 =>
asI .i64 v57 fun n58 =>
(bif (decide ((256 : Int) < n58)) then
(Q (AV.i .i64 3) h)
else
(J 3 [(0, x0), (2, (AV.i .i64 x2)), (4, x4), (7, (AV.i .i64 0))] h))))))
theorem G_ref33_Count_check.t1_eq (J : JT) (Q : AV → AHeap → Prop) (x0 : AV) (x2 : Int) (x4 : AV) (x35 : Bool) (h : AHeap) : G_ref33_Count_check.t1 J Q x0 x2 x4 x35 h = atJ prog C 82 J false [1, 1, 0, 0, 1, 1, 1] G_ref33_Count_check.ann G_ref33_Count_check.body [(0, x0), (2, (AV.i .i64 x2)), (4, x4), (35, (AV.b x35))] h (kFun prog Tryd.f37 Q) := by kernel_rfl
theorem G_ref33_Count_check.i1 {Q : AV → AHeap → Prop} {x0 : AV} {x2 : Int} {x4 : AV} {x35 : Bool} {h : AHeap} (H : G_ref33_Count_check.t1 (G_ref33_Count_check.J Q) Q x0 x2 x4 x35 h) : G_ref33_Count_check.p1 Q x0 x2 x4 x35 h := G_ref33_Count_check.goR (k := 2) (p := [1, 1, 0, 0, 1, 1, 1]) (by kernel_rfl) ((G_ref33_Count_check.t1_eq (G_ref33_Count_check.J Q) Q x0 x2 x4 x35 h).mp H)
def G_ref33_Count_check.t0 (J : JT) (Q : AV → AHeap → Prop) (x0 : AV) (x2 : Int) (x4 : AV) (x16 : Bool) (h : AHeap) : Prop :=
(bif x16 then
(Q (AV.i .i64 4) h)
else
(pFieldAddr 2 x4 fun v29 =>
pLoad1 v29 h fun v30 =>
asB v30 fun c31 =>
(bif c31 then
(pFieldAddr 3 x4 fun v32 =>
pLoad1 v32 h fun v33 =>
asS v33 fun l34 =>
(bif (!(decide ((l34 : List UInt8) = []))) then
(J 2 [(0, x0), (2, (AV.i .i64 x2)), (4, x4), (35, (AV.b true))] h)
else
(pFieldAddr 2 x4 fun v36 =>
pLoad1 v36 h fun v37 =>
asB v37 fun c38 =>
(bif (!c38) then
(pFieldAddr 4 x4 fun v39 =>
pLoad1 v39 h fun v40 =>
pLenSl v40 fun n41 =>
J 2 [(0, x0), (2, (AV.i .i64 x2)), (4, x4), (35, (AV.b (decide ((0 : Int) < n41))))] h)
else
(J 2 [(0, x0), (2, (AV.i .i64 x2)), (4, x4), (35, (AV.b false))] h)))))
else
(pFieldAddr 2 x4 fun v44 =>
pLoad1 v44 h fun v45 =>
asB v45 fun c46 =>
(bif (!c46) then
(pFieldAddr 4 x4 fun v47 =>
pLoad1 v47 h fun v48 =>
pLenSl v48 fun n49 =>
J 2 [(0, x0), (2, (AV.i .i64 x2)), (4, x4), (35, (AV.b (decide ((0 : Int) < n49))))] h)
else
(J 2 [(0, x0), (2, (AV.i .i64 x2)), (4, x4), (35, (AV.b false))] h))))))
theorem G_ref33_Count_check.t0_eq (J : JT) (Q : AV → AHeap → Prop) (x0 : AV) (x2 : Int) (x4 : AV) (x16 : Bool) (h : AHeap) : G_ref33_Count_check.t0 J Q x0 x2 x4 x16 h = atJ prog C 82 J false [1, 1, 0, 0, 1] G_ref33_Count_check.ann G_ref33_Count_check.body [(0, x0), (2, (AV.i .i64 x2)), (4, x4), (16, (AV.b x16))] h (kFun prog Tryd.f37 Q) := by kernel_rfl
theorem G_ref33_Count_check.i0 {Q : AV → AHeap → Prop} {x0 : AV} {x2 : Int} {x4 : AV} {x16 : Bool} {h : AHeap} (H : G_ref33_Count_check.t0 (G_ref33_Count_check.J Q) Q x0 x2 x4 x16 h) : G_ref33_Count_check.p0 Q x0 x2 x4 x16 h := G_ref33_Count_check.goR (k := 1) (p := [1, 1, 0, 0, 1]) (by kernel_rfl) ((G_ref33_Count_check.t0_eq (G_ref33_Count_check.J Q) Q x0 x2 x4 x16 h).mp H)
def G_ref33_Count_check.t2 (J : JT) (Q : AV → AHeap → Prop) (x0 : AV) (x2 : Int) (x4 : AV) (x7 : Int) (h : AHeap) : Prop :=
pFieldAddr 4 x4 fun v63 =>
pLoad1 v63 h fun v64 =>
pLenSl v64 fun n65 =>
(bif (decide ((x7 : Int) < n65)) then
(pFieldAddr 4 x4 fun v69 =>
pLoad1 v69 h fun v70 =>
pIdxAddrSl 5 v70 (AV.i .i64 x7) h fun v71 =>
pLoadN 5 v71 h fun v72 =>
withI (IntKind.wrap .i64 (x2 + 1)) fun n73 =>
C G_ref33_Count_check.id [x0, v72, (AV.i .i64 n73)] h fun v74 h75 =>
asI .i64 v74 fun n76 =>
(bif (!decide ((n76 : Int) = 0)) then
(Q (AV.i .i64 n76) h75)
else
(withI (IntKind.wrap .i64 (x7 + 1)) fun n81 =>
J 3 [(0, x0), (2, (AV.i .i64 x2)), (4, x4), (7, (AV.i .i64 n81))] h75)))
else
(Q (AV.i .i64 0) h))
theorem G_ref33_Count_check.t2_eq (J : JT) (Q : AV → AHeap → Prop) (x0 : AV) (x2 : Int) (x4 : AV) (x7 : Int) (h : AHeap) : G_ref33_Count_check.t2 J Q x0 x2 x4 x7 h = atJ prog C 82 J true [1, 1, 1, 0, 1, 0] G_ref33_Count_check.ann G_ref33_Count_check.body [(0, x0), (2, (AV.i .i64 x2)), (4, x4), (7, (AV.i .i64 x7))] h (kFun prog Tryd.f37 Q) := by kernel_rfl
theorem G_ref33_Count_check.i2 {Q : AV → AHeap → Prop} {x0 : AV} {x2 : Int} {x4 : AV} {x7 : Int} {h : AHeap} (H : G_ref33_Count_check.t2 (G_ref33_Count_check.J Q) Q x0 x2 x4 x7 h) : G_ref33_Count_check.p2 Q x0 x2 x4 x7 h := G_ref33_Count_check.goH (k := 3) (p := [1, 1, 1, 0, 1, 0]) (by kernel_rfl) ((G_ref33_Count_check.t2_eq (G_ref33_Count_check.J Q) Q x0 x2 x4 x7 h).mp H)
def G_ref33_Count_check.t (J : JT) (Q : AV → AHeap → Prop) (x0 : AV) (x1 : AV) (x2 : Int) (h : AHeap) : Prop :=
pBox x1 h fun v0 h1 =>
pNil x0 fun v3 =>
pFieldAddr 0 v3 fun v4 =>
pLoad1 v4 h1 fun v5 =>
asI .i64 v5 fun n6 =>
withI (IntKind.wrap .i64 (n6 + 1)) fun n7 =>
pNil x0 fun v8 =>
pFieldAddr 0 v8 fun v9 =>
pStore 1 v9 (AV.i .i64 n7) h1 fun h10 =>
pFieldAddr 0 v0 fun v12 =>
pLoad1 v12 h10 fun v13 =>
asI .i64 v13 fun n14 =>
(bif (decide ((n14 : Int) < 0)) then
(J 1 [(0, x0), (2, (AV.i .i64 x2)), (4, v0), (16, (AV.b true))] h10)
else
(pFieldAddr 0 v0 fun v16 =>
pLoad1 v16 h10 fun v17 =>
asI .i64 v17 fun n18 =>
(bif (decide ((3 : Int) < n18)) then
(J 1 [(0, x0), (2, (AV.i .i64 x2)), (4, v0), (16, (AV.b true))] h10)
else
(pFieldAddr 1 v0 fun v20 =>
pLoad1 v20 h10 fun v21 =>
asI .i64 v21 fun n22 =>
(bif (decide ((n22 : Int) < 0)) then
(J 1 [(0, x0), (2, (AV.i .i64 x2)), (4, v0), (16, (AV.b true))] h10)
else
(pFieldAddr 1 v0 fun v24 =>
pLoad1 v24 h10 fun v25 =>
asI .i64 v25 fun n26 =>
J 1 [(0, x0), (2, (AV.i .i64 x2)), (4, v0), (16, (AV.b (decide ((30 : Int) < n26))))] h10))))))
theorem G_ref33_Count_check.t_eq (J : JT) (Q : AV → AHeap → Prop) (x0 : AV) (x1 : AV) (x2 : Int) (h : AHeap) : G_ref33_Count_check.t J Q x0 x1 x2 h = exJ prog C 82 J G_ref33_Count_check.ann G_ref33_Count_check.body (initEnv 0 [x0, x1, (AV.i .i64 x2)]) h (kFun prog Tryd.f37 Q) := by kernel_rfl
theorem G_ref33_Count_check.call {K : AV → AHeap → Prop} {x0 : AV} {x1 : AV} {x2 : Int} {h : AHeap} (H : G_ref33_Count_check.t (G_ref33_Count_check.J (kRet h K)) (kRet h K) x0 x1 x2 h) : C G_ref33_Count_check.id [x0, x1, (AV.i .i64 x2)] h K :=
  callJ (P := prog) (fn := Tryd.f37) (ann := G_ref33_Count_check.ann) (body := G_ref33_Count_check.body) Tryd.func37 G_ref33_Count_check.body_eq (by kernel_rfl) G_ref33_Count_check.dist (by kernel_rfl) ((G_ref33_Count_check.t_eq (G_ref33_Count_check.J (kRet h K)) (kRet h K) x0 x1 x2 h).mp H)


end Go.Proofs.YtffgchcidkapjaaDoor

