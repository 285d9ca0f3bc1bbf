/- Lemmas (several texts in one). -/
import Derived.Test.YtomghnmoomodiaaGreatDoorProg
import Derived.KernelRfl
import Derived.Test.YtomghnmoomodiaaGreatDoorMg1
/- The bodies' texts in the abstract machine: printed by Gen.lean, checked by Lean's kernel. -/
set_option linter.unusedVariables false
set_option linter.unusedSectionVars false
set_option maxRecDepth 100000
namespace Go.Proofs.YtomghnmoomodiaaGreatDoor
open Go.GAM
noncomputable abbrev prog : Program := Tryz.prog
/-- The rules for functions that are not walked. -/
class XR where
  X : CallR
abbrev X [XR] : CallR := XR.X
abbrev C [XR] : CallR := acall prog X
abbrev G_law35_CertcheckParts.id : FuncId := 8
abbrev G_law35_awake.id : FuncId := 9
abbrev G_certcheck_MatchName.id : FuncId := 10
abbrev G_ref35_MatchName.id : FuncId := 11
abbrev G_law35_large.id : FuncId := 12
abbrev G_law35_ints.id : FuncId := 13
abbrev G_certcheck_Check.id : FuncId := 14
abbrev G_ref35_Check.id : FuncId := 15
abbrev G_certcheck_Text.id : FuncId := 16
abbrev G_ref35_Text.id : FuncId := 17
abbrev G_law35_has.id : FuncId := 18
abbrev G_certcheck_small.id : FuncId := 19
abbrev G_strings_CutPrefix.id : FuncId := 20
abbrev G_strings_Cut.id : FuncId := 21
abbrev G_strings_Contains.id : FuncId := 22
abbrev G_ref26_Apply.id : FuncId := 23
abbrev G_ref35_after.id : FuncId := 24
abbrev G_certcheck_newTrust.id : FuncId := 25
abbrev G_certcheck_Check_1.id : FuncId := 26
abbrev G_certcheck_names.id : FuncId := 27
abbrev G_certcheck_trust_has.id : FuncId := 28
abbrev G_ref35_trusts.id : FuncId := 29
abbrev G_ref35_named.id : FuncId := 30
abbrev G_ref35_issued.id : FuncId := 31
abbrev G_i_stringslite_CutPrefix.id : FuncId := 32
abbrev G_i_stringslite_Cut.id : FuncId := 33
abbrev G_strings_Index.id : FuncId := 34
abbrev G_ref26_lower.id : FuncId := 35
abbrev G_ref26_strip.id : FuncId := 36
abbrev G_ref26_percent.id : FuncId := 37
abbrev G_ref26_base64.id : FuncId := 38
abbrev G_ref26_path.id : FuncId := 39
abbrev G_ref26_hex.id : FuncId := 40
abbrev G_certificate_Common.id : FuncId := 41
abbrev G_ref34_Common.id : FuncId := 42
abbrev G_i_stringslite_HasPrefix.id : FuncId := 43
abbrev G_i_stringslite_Index.id : FuncId := 44
abbrev G_certificate_NameOf.id : FuncId := 47
abbrev G_certificate_split.id : FuncId := 48
abbrev G_certificate_plain.id : FuncId := 49
abbrev G_ref34_Attributes.id : FuncId := 50
abbrev G_i_stringslite_IndexByte.id : FuncId := 51
abbrev G_i_bytealg_IndexString.id : FuncId := 52
abbrev G_i_bytealg_Cutover.id : FuncId := 53
abbrev G_i_bytealg_IndexRabinKarp_string_.id : FuncId := 54
abbrev G_certificate_shape_of.id : FuncId := 55
abbrev G_der_OidOf.id : FuncId := 56
abbrev G_certificate_shape_value.id : FuncId := 57
abbrev G_certificate_Name.id : FuncId := 58
abbrev G_strings_Builder_WriteByte.id : FuncId := 59
abbrev G_strings_Builder_String.id : FuncId := 60
abbrev G_ref34_identifier.id : FuncId := 61
abbrev G_i_bytealg_IndexByteString.id : FuncId := 62
abbrev G_strings_Split.id : FuncId := 64
abbrev G_der_number.id : FuncId := 65
abbrev G_certificate_shape_list.id : FuncId := 66
abbrev G_der_Oid.id : FuncId := 67
abbrev G_der_Text.id : FuncId := 68
abbrev G_strings_NewReplacer.id : FuncId := 69
abbrev G_strings_Replacer_Replace.id : FuncId := 70
abbrev G_strings_Join.id : FuncId := 71
abbrev G_strings_Builder_copyCheck.id : FuncId := 72
abbrev G_strings_genSplit.id : FuncId := 73
abbrev G_certificate_shape_is.id : FuncId := 74
abbrev G_der_plain.id : FuncId := 75
abbrev G_strconv_Itoa.id : FuncId := 76
abbrev G_der_all_byte_.id : FuncId := 77
abbrev G_der_Text_1.id : FuncId := 78
abbrev G_sync_Once_Do.id : FuncId := 79
abbrev G_strings_Replacer_buildOnce.id : FuncId := 80
abbrev G_i_abi_NoEscape.id : FuncId := 83
abbrev G_strings_explode.id : FuncId := 84
abbrev G_strings_Count.id : FuncId := 85
abbrev G_sync_atomic_Bool_Load.id : FuncId := 87
abbrev G_sync_Once_doSlow.id : FuncId := 88
abbrev G_strings_Replacer_build.id : FuncId := 89
abbrev G_unicode_utf8_RuneCountInString.id : FuncId := 91
abbrev G_i_bytealg_CountString.id : FuncId := 93
abbrev G_sync_atomic_LoadUint32.id : FuncId := 95
abbrev G_sync_Mutex_Lock.id : FuncId := 96
abbrev G_sync_Mutex_Unlock.id : FuncId := 97
abbrev G_sync_atomic_Bool_Store.id : FuncId := 98
abbrev G_strings_makeSingleStringReplacer.id : FuncId := 99
abbrev G_strings_makeGenericReplacer.id : FuncId := 100
abbrev G_i_sync_Mutex_Lock.id : FuncId := 107
abbrev G_i_sync_Mutex_Unlock.id : FuncId := 108
abbrev G_sync_atomic_StoreUint32.id : FuncId := 109
abbrev G_sync_atomic_b32.id : FuncId := 110
abbrev G_i_race_Disable.id : FuncId := 118
abbrev G_sync_atomic_CompareAndSwapInt32.id : FuncId := 119
abbrev G_i_race_Enable.id : FuncId := 120
abbrev G_i_race_Acquire.id : FuncId := 121
abbrev G_i_sync_Mutex_lockSlow.id : FuncId := 122
abbrev G_i_race_ReleaseMerge.id : FuncId := 123
abbrev G_sync_atomic_AddInt32.id : FuncId := 124
abbrev G_i_sync_Mutex_unlockSlow.id : FuncId := 125
abbrev G_strings_byteStringReplacer_Replace.id : FuncId := 163
abbrev G_var_s_door__certificate_attributes_is_laid_by_its_own_initialiser__plain_data_look_11.id : FuncId := 173
variable [XR]
--@@ G_law35_awake
/-! ### 9: intrusion/intrusionlaw35.awake -/
noncomputable def G_law35_awake.body : Code := (Tryz.f9.body).getD .skip
def G_law35_awake.ann : Ann := (.seq 0 [] .leaf (.seq 0 [1] .leaf (.seq 0 [2] .leaf (.seq 1 [0] .leaf .leaf))))
theorem G_law35_awake.body_eq : Tryz.f9.body = some G_law35_awake.body := by kernel_rfl
theorem G_law35_awake.dist : noTwice (places G_law35_awake.ann G_law35_awake.body) = true := by kernel_rfl
noncomputable def G_law35_awake.J (Q : AV → AHeap → Prop) : JT := funJ prog C Tryz.f9 G_law35_awake.ann G_law35_awake.body Q
theorem G_law35_awake.goR {Q : AV → AHeap → Prop} {k : Nat} {p : List Nat} (hl : lookJ (places G_law35_awake.ann G_law35_awake.body) k = some (p, false)) {e : Env} {h : AHeap} (hk : atJ prog C 43 (G_law35_awake.J Q) false p G_law35_awake.ann G_law35_awake.body e h (kFun prog Tryz.f9 Q)) : G_law35_awake.J Q k e h := goJ_run (P := prog) (fn := Tryz.f9) (ann := G_law35_awake.ann) (body := G_law35_awake.body) (Q := Q) (k := k) (p := p) (e := e) (h := h) (acall_le X) G_law35_awake.dist hl hk
theorem G_law35_awake.goH {Q : AV → AHeap → Prop} {k : Nat} {p : List Nat} (hl : lookJ (places G_law35_awake.ann G_law35_awake.body) k = some (p, true)) {e : Env} {h : AHeap} (hk : atJ prog C 43 (G_law35_awake.J Q) true p G_law35_awake.ann G_law35_awake.body e h (kFun prog Tryz.f9 Q)) : G_law35_awake.J Q k e h := goJ_head (P := prog) (fn := Tryz.f9) (ann := G_law35_awake.ann) (body := G_law35_awake.body) (Q := Q) (k := k) (p := p) (e := e) (h := h) (acall_le X) G_law35_awake.dist hl hk
def G_law35_awake.p0 (Q : AV → AHeap → Prop) (x0 : Bool) (h : AHeap) : Prop := G_law35_awake.J Q 1 [(0, (AV.b x0))] h
theorem G_law35_awake.j0 (Q : AV → AHeap → Prop) (x0 : Bool) (h : AHeap) : G_law35_awake.J Q 1 [(0, (AV.b x0))] h = G_law35_awake.p0 Q x0 h := rfl
def G_law35_awake.t0 (J : JT) (Q : AV → AHeap → Prop) (x0 : Bool) (h : AHeap) : Prop :=
Q (AV.b x0) h
theorem G_law35_awake.t0_eq (J : JT) (Q : AV → AHeap → Prop) (x0 : Bool) (h : AHeap) : G_law35_awake.t0 J Q x0 h = atJ prog C 43 J false [1, 1, 1, 1] G_law35_awake.ann G_law35_awake.body [(0, (AV.b x0))] h (kFun prog Tryz.f9 Q) := by kernel_rfl
theorem G_law35_awake.i0 {Q : AV → AHeap → Prop} {x0 : Bool} {h : AHeap} (H : G_law35_awake.t0 (G_law35_awake.J Q) Q x0 h) : G_law35_awake.p0 Q x0 h := G_law35_awake.goR (k := 1) (p := [1, 1, 1, 1]) (by kernel_rfl) ((G_law35_awake.t0_eq (G_law35_awake.J Q) Q x0 h).mp H)
def G_law35_awake.t (J : JT) (Q : AV → AHeap → Prop) (h : AHeap) : Prop :=
pBuildSl 1 1 [(AV.s [])] [(0, 1, (AV.s [120, 46, 97, 46, 98]))] h fun v1 h2 =>
pBuild [(AV.s []), (AV.s []), (AV.s []), (AV.i .i64 0), (AV.i .i64 0), (AV.sl none 0 none), (AV.b false), (AV.s [])] [(1, 1, (AV.s [67, 78, 61, 97])), (2, 1, (AV.s [67, 78, 61, 97])), (3, 1, (AV.i .i64 1)), (4, 1, (AV.i .i64 9)), (5, 1, v1), (7, 1, (AV.s [107]))] fun v3 =>
pAlloc (some 36) [(AV.s []), (AV.s []), (AV.s []), (AV.i .i64 0), (AV.i .i64 0), (AV.sl none 0 none), (AV.b false), (AV.s [])] h2 fun v4 h5 =>
pStore 8 v4 v3 h5 fun h6 =>
pLoadN 8 v4 h6 fun v8 =>
pBuildSl 8 1 [(AV.s []), (AV.s []), (AV.s []), (AV.i .i64 0), (AV.i .i64 0), (AV.sl none 0 none), (AV.b false), (AV.s [])] [(0, 8, v8)] h6 fun v9 h10 =>
C G_certcheck_MatchName.id [(AV.s [42, 46, 97, 46, 98]), (AV.s [88, 46, 97, 46, 98])] h10 fun v12 h13 =>
asB v12 fun c14 =>
(bif c14 then
(C G_certcheck_MatchName.id [(AV.s [42, 46, 97, 46, 98]), (AV.s [97, 46, 98])] h13 fun v15 h16 =>
asB v15 fun c17 =>
(bif (!c17) then
(C G_certcheck_MatchName.id [(AV.s [42, 46, 97, 46, 98]), (AV.s [120, 46, 121, 46, 97, 46, 98])] h16 fun v18 h19 =>
asB v18 fun c20 =>
(bif (!c20) then
(C G_certcheck_MatchName.id [(AV.s [42, 46, 98]), (AV.s [97, 46, 98])] h19 fun v21 h22 =>
asB v21 fun c23 =>
(bif (!c23) then
(C G_certcheck_Check.id [v9, (AV.s [120, 46, 97, 46, 98]), (AV.i .i64 5), v9] h22 fun v24 h25 =>
pLenSl v24 fun n26 =>
(bif (decide ((n26 : Int) = 0)) then
(C G_certcheck_Check.id [v9, (AV.s [121, 46, 97, 46, 98]), (AV.i .i64 10), (AV.sl none 0 none)] h25 fun v27 h28 =>
pBuildSl 1 4 [(AV.i .i64 0), (AV.i .i64 0), (AV.i .i64 0), (AV.i .i64 0)] [(0, 1, (AV.i .i64 1)), (1, 1, (AV.i .i64 3)), (2, 1, (AV.i .i64 4)), (3, 1, (AV.i .i64 5))] h28 fun v29 h30 =>
C G_law35_ints.id [v27, v29] h30 fun v31 h32 =>
asB v31 fun c33 =>
(bif c33 then
(C G_certcheck_Check.id [(AV.sl none 0 none), (AV.s []), (AV.i .i64 0), v9] h32 fun v34 h35 =>
pBuildSl 1 1 [(AV.i .i64 0)] [(0, 1, (AV.i .i64 5))] h35 fun v36 h37 =>
C G_law35_ints.id [v34, v36] h37 fun v38 h39 =>
asB v38 fun c40 =>
(bif c40 then
(C G_certcheck_Text.id [(AV.i .i64 7)] h39 fun v41 h42 =>
asS v41 fun l43 =>
withB (decide ((l43 : List UInt8) = [97, 117, 116, 104, 111, 114, 105, 116, 121])) fun c44 =>
J 1 [(0, (AV.b c44))] h42)
else
(J 1 [(0, (AV.b false))] h39)))
else
(J 1 [(0, (AV.b false))] h32)))
else
(J 1 [(0, (AV.b false))] h25)))
else
(J 1 [(0, (AV.b false))] h22)))
else
(J 1 [(0, (AV.b false))] h19)))
else
(J 1 [(0, (AV.b false))] h16)))
else
(J 1 [(0, (AV.b false))] h13))
theorem G_law35_awake.t_eq (J : JT) (Q : AV → AHeap → Prop) (h : AHeap) : G_law35_awake.t J Q h = exJ prog C 43 J G_law35_awake.ann G_law35_awake.body (initEnv 0 []) h (kFun prog Tryz.f9 Q) := by kernel_rfl
theorem G_law35_awake.call {K : AV → AHeap → Prop} {h : AHeap} (H : G_law35_awake.t (G_law35_awake.J (kRet h K)) (kRet h K) h) : C G_law35_awake.id [] h K :=
  callJ (P := prog) (fn := Tryz.f9) (ann := G_law35_awake.ann) (body := G_law35_awake.body) Tryz.func9 G_law35_awake.body_eq (by kernel_rfl) G_law35_awake.dist (by kernel_rfl) ((G_law35_awake.t_eq (G_law35_awake.J (kRet h K)) (kRet h K) h).mp H)

--@@ G_certcheck_MatchName
/-! ### 10: intrusion/certcheck.MatchName -/
noncomputable def G_certcheck_MatchName.body : Code := (Tryz.f10.body).getD .skip
def G_certcheck_MatchName.ann : Ann := (.seq 0 [0, 1] .leaf (.seq 0 [0, 1] .leaf (.seq 0 [0, 1] (.seq 0 [0, 1, 16] .leaf (.br (.seq 0 [4] .leaf .leaf) .leaf)) (.seq 0 [1, 5, 6] .leaf (.seq 0 [5, 6, 7, 8, 9] .leaf (.seq 1 [4] .leaf .leaf))))))
theorem G_certcheck_MatchName.body_eq : Tryz.f10.body = some G_certcheck_MatchName.body := by kernel_rfl
theorem G_certcheck_MatchName.dist : noTwice (places G_certcheck_MatchName.ann G_certcheck_MatchName.body) = true := by kernel_rfl
noncomputable def G_certcheck_MatchName.J (Q : AV → AHeap → Prop) : JT := funJ prog C Tryz.f10 G_certcheck_MatchName.ann G_certcheck_MatchName.body Q
theorem G_certcheck_MatchName.goR {Q : AV → AHeap → Prop} {k : Nat} {p : List Nat} (hl : lookJ (places G_certcheck_MatchName.ann G_certcheck_MatchName.body) k = some (p, false)) {e : Env} {h : AHeap} (hk : atJ prog C 45 (G_certcheck_MatchName.J Q) false p G_certcheck_MatchName.ann G_certcheck_MatchName.body e h (kFun prog Tryz.f10 Q)) : G_certcheck_MatchName.J Q k e h := goJ_run (P := prog) (fn := Tryz.f10) (ann := G_certcheck_MatchName.ann) (body := G_certcheck_MatchName.body) (Q := Q) (k := k) (p := p) (e := e) (h := h) (acall_le X) G_certcheck_MatchName.dist hl hk
theorem G_certcheck_MatchName.goH {Q : AV → AHeap → Prop} {k : Nat} {p : List Nat} (hl : lookJ (places G_certcheck_MatchName.ann G_certcheck_MatchName.body) k = some (p, true)) {e : Env} {h : AHeap} (hk : atJ prog C 45 (G_certcheck_MatchName.J Q) true p G_certcheck_MatchName.ann G_certcheck_MatchName.body e h (kFun prog Tryz.f10 Q)) : G_certcheck_MatchName.J Q k e h := goJ_head (P := prog) (fn := Tryz.f10) (ann := G_certcheck_MatchName.ann) (body := G_certcheck_MatchName.body) (Q := Q) (k := k) (p := p) (e := e) (h := h) (acall_le X) G_certcheck_MatchName.dist hl hk
def G_certcheck_MatchName.p0 (Q : AV → AHeap → Prop) (x4 : Bool) (h : AHeap) : Prop := G_certcheck_MatchName.J Q 1 [(4, (AV.b x4))] h
theorem G_certcheck_MatchName.j0 (Q : AV → AHeap → Prop) (x4 : Bool) (h : AHeap) : G_certcheck_MatchName.J Q 1 [(4, (AV.b x4))] h = G_certcheck_MatchName.p0 Q x4 h := rfl
def G_certcheck_MatchName.t0 (J : JT) (Q : AV → AHeap → Prop) (x4 : Bool) (h : AHeap) : Prop :=
Q (AV.b x4) h
theorem G_certcheck_MatchName.t0_eq (J : JT) (Q : AV → AHeap → Prop) (x4 : Bool) (h : AHeap) : G_certcheck_MatchName.t0 J Q x4 h = atJ prog C 45 J false [1, 1, 1, 1, 1, 1] G_certcheck_MatchName.ann G_certcheck_MatchName.body [(4, (AV.b x4))] h (kFun prog Tryz.f10 Q) := by kernel_rfl
theorem G_certcheck_MatchName.i0 {Q : AV → AHeap → Prop} {x4 : Bool} {h : AHeap} (H : G_certcheck_MatchName.t0 (G_certcheck_MatchName.J Q) Q x4 h) : G_certcheck_MatchName.p0 Q x4 h := G_certcheck_MatchName.goR (k := 1) (p := [1, 1, 1, 1, 1, 1]) (by kernel_rfl) ((G_certcheck_MatchName.t0_eq (G_certcheck_MatchName.J Q) Q x4 h).mp H)
def G_certcheck_MatchName.t (J : JT) (Q : AV → AHeap → Prop) (x0 : List UInt8) (x1 : List UInt8) (h : AHeap) : Prop :=
C G_certcheck_small.id [(AV.s x0)] h fun v1 h2 =>
asS v1 fun l3 =>
C G_certcheck_small.id [(AV.s x1)] h2 fun v4 h5 =>
asS v4 fun l6 =>
(bif (decide ((l3 : List UInt8) = l6)) then
(Q (AV.b true) h5)
else
(C G_strings_CutPrefix.id [(AV.s l3), (AV.s [42, 46])] h5 fun v11 h12 =>
pExtract 0 v11 fun v13 =>
asS v13 fun l14 =>
pExtract 1 v11 fun v15 =>
asB v15 fun c16 =>
C G_strings_Cut.id [(AV.s l6), (AV.s [46])] h12 fun v18 h19 =>
pExtract 0 v18 fun v20 =>
asS v20 fun l21 =>
pExtract 1 v18 fun v22 =>
asS v22 fun l23 =>
pExtract 2 v18 fun v24 =>
asB v24 fun c25 =>
(bif c16 then
((bif c25 then
((bif (!(decide ((l21 : List UInt8) = []))) then
((bif (decide ((l23 : List UInt8) = l14)) then
(C G_strings_Contains.id [(AV.s l14), (AV.s [46])] h19 fun v27 h28 =>
asB v27 fun c29 =>
J 1 [(4, (AV.b c29))] h28)
else
(J 1 [(4, (AV.b false))] h19)))
else
(J 1 [(4, (AV.b false))] h19)))
else
(J 1 [(4, (AV.b false))] h19)))
else
(J 1 [(4, (AV.b false))] h19))))
theorem G_certcheck_MatchName.t_eq (J : JT) (Q : AV → AHeap → Prop) (x0 : List UInt8) (x1 : List UInt8) (h : AHeap) : G_certcheck_MatchName.t J Q x0 x1 h = exJ prog C 45 J G_certcheck_MatchName.ann G_certcheck_MatchName.body (initEnv 0 [(AV.s x0), (AV.s x1)]) h (kFun prog Tryz.f10 Q) := by kernel_rfl
theorem G_certcheck_MatchName.call {K : AV → AHeap → Prop} {x0 : List UInt8} {x1 : List UInt8} {h : AHeap} (H : G_certcheck_MatchName.t (G_certcheck_MatchName.J (kRet h K)) (kRet h K) x0 x1 h) : C G_certcheck_MatchName.id [(AV.s x0), (AV.s x1)] h K :=
  callJ (P := prog) (fn := Tryz.f10) (ann := G_certcheck_MatchName.ann) (body := G_certcheck_MatchName.body) Tryz.func10 G_certcheck_MatchName.body_eq (by kernel_rfl) G_certcheck_MatchName.dist (by kernel_rfl) ((G_certcheck_MatchName.t_eq (G_certcheck_MatchName.J (kRet h K)) (kRet h K) x0 x1 h).mp H)

--@@ G_ref35_MatchName
/-! ### 11: intrusion/intrusionref35.MatchName -/
noncomputable def G_ref35_MatchName.body : Code := (Tryz.f11.body).getD .skip
def G_ref35_MatchName.ann : Ann := (.seq 0 [0, 1] .leaf (.seq 0 [1, 5] .leaf (.seq 0 [5, 6] .leaf (.seq 0 [5, 6] (.seq 0 [5, 6, 17] .leaf (.br (.seq 0 [4] .leaf .leaf) .leaf)) (.seq 0 [5, 6] (.seq 1 [5, 6, 25] .leaf (.br (.seq 0 [4] .leaf .leaf) .leaf)) (.seq 0 [5, 6, 7] .leaf (.seq 0 [5, 6, 7] (.seq 0 [5, 6, 7, 8] .leaf (.one (.loop 2 [5, 6, 7, 8] (.seq 0 [5, 6, 7, 8] (.seq 0 [5, 6, 7, 8, 29] .leaf (.br .leaf .leaf)) (.seq 3 [5, 6, 7, 8] (.one .leaf) .leaf))))) (.seq 0 [5, 7, 9, 10] .leaf (.seq 4 [4] .leaf .leaf)))))))))
theorem G_ref35_MatchName.body_eq : Tryz.f11.body = some G_ref35_MatchName.body := by kernel_rfl
theorem G_ref35_MatchName.dist : noTwice (places G_ref35_MatchName.ann G_ref35_MatchName.body) = true := by kernel_rfl
noncomputable def G_ref35_MatchName.J (Q : AV → AHeap → Prop) : JT := funJ prog C Tryz.f11 G_ref35_MatchName.ann G_ref35_MatchName.body Q
theorem G_ref35_MatchName.goR {Q : AV → AHeap → Prop} {k : Nat} {p : List Nat} (hl : lookJ (places G_ref35_MatchName.ann G_ref35_MatchName.body) k = some (p, false)) {e : Env} {h : AHeap} (hk : atJ prog C 54 (G_ref35_MatchName.J Q) false p G_ref35_MatchName.ann G_ref35_MatchName.body e h (kFun prog Tryz.f11 Q)) : G_ref35_MatchName.J Q k e h := goJ_run (P := prog) (fn := Tryz.f11) (ann := G_ref35_MatchName.ann) (body := G_ref35_MatchName.body) (Q := Q) (k := k) (p := p) (e := e) (h := h) (acall_le X) G_ref35_MatchName.dist hl hk
theorem G_ref35_MatchName.goH {Q : AV → AHeap → Prop} {k : Nat} {p : List Nat} (hl : lookJ (places G_ref35_MatchName.ann G_ref35_MatchName.body) k = some (p, true)) {e : Env} {h : AHeap} (hk : atJ prog C 54 (G_ref35_MatchName.J Q) true p G_ref35_MatchName.ann G_ref35_MatchName.body e h (kFun prog Tryz.f11 Q)) : G_ref35_MatchName.J Q k e h := goJ_head (P := prog) (fn := Tryz.f11) (ann := G_ref35_MatchName.ann) (body := G_ref35_MatchName.body) (Q := Q) (k := k) (p := p) (e := e) (h := h) (acall_le X) G_ref35_MatchName.dist hl hk
def G_ref35_MatchName.p0 (Q : AV → AHeap → Prop) (x5 : List UInt8) (x6 : List UInt8) (x25 : Bool) (h : AHeap) : Prop := G_ref35_MatchName.J Q 1 [(5, (AV.s x5)), (6, (AV.s x6)), (25, (AV.b x25))] h
theorem G_ref35_MatchName.j0 (Q : AV → AHeap → Prop) (x5 : List UInt8) (x6 : List UInt8) (x25 : Bool) (h : AHeap) : G_ref35_MatchName.J Q 1 [(5, (AV.s x5)), (6, (AV.s x6)), (25, (AV.b x25))] h = G_ref35_MatchName.p0 Q x5 x6 x25 h := rfl
def G_ref35_MatchName.p2 (Q : AV → AHeap → Prop) (x5 : List UInt8) (x6 : List UInt8) (x7 : Bool) (x8 : Int) (h : AHeap) : Prop := G_ref35_MatchName.J Q 3 [(5, (AV.s x5)), (6, (AV.s x6)), (7, (AV.b x7)), (8, (AV.i .i64 x8))] h
theorem G_ref35_MatchName.j2 (Q : AV → AHeap → Prop) (x5 : List UInt8) (x6 : List UInt8) (x7 : Bool) (x8 : Int) (h : AHeap) : G_ref35_MatchName.J Q 3 [(5, (AV.s x5)), (6, (AV.s x6)), (7, (AV.b x7)), (8, (AV.i .i64 x8))] h = G_ref35_MatchName.p2 Q x5 x6 x7 x8 h := rfl
def G_ref35_MatchName.p1 (Q : AV → AHeap → Prop) (x5 : List UInt8) (x6 : List UInt8) (x7 : Bool) (x8 : Int) (h : AHeap) : Prop := G_ref35_MatchName.J Q 2 [(5, (AV.s x5)), (6, (AV.s x6)), (7, (AV.b x7)), (8, (AV.i .i64 x8))] h
theorem G_ref35_MatchName.j1 (Q : AV → AHeap → Prop) (x5 : List UInt8) (x6 : List UInt8) (x7 : Bool) (x8 : Int) (h : AHeap) : G_ref35_MatchName.J Q 2 [(5, (AV.s x5)), (6, (AV.s x6)), (7, (AV.b x7)), (8, (AV.i .i64 x8))] h = G_ref35_MatchName.p1 Q x5 x6 x7 x8 h := rfl
def G_ref35_MatchName.p3 (Q : AV → AHeap → Prop) (x4 : Bool) (h : AHeap) : Prop := G_ref35_MatchName.J Q 4 [(4, (AV.b x4))] h
theorem G_ref35_MatchName.j3 (Q : AV → AHeap → Prop) (x4 : Bool) (h : AHeap) : G_ref35_MatchName.J Q 4 [(4, (AV.b x4))] h = G_ref35_MatchName.p3 Q x4 h := rfl
def G_ref35_MatchName.t0 (J : JT) (Q : AV → AHeap → Prop) (x5 : List UInt8) (x6 : List UInt8) (x25 : Bool) (h : AHeap) : Prop :=
(bif x25 then
(Q (AV.b false) h)
else
(J 2 [(5, (AV.s x5)), (6, (AV.s x6)), (7, (AV.b false)), (8, (AV.i .i64 2))] h))
theorem G_ref35_MatchName.t0_eq (J : JT) (Q : AV → AHeap → Prop) (x5 : List UInt8) (x6 : List UInt8) (x25 : Bool) (h : AHeap) : G_ref35_MatchName.t0 J Q x5 x6 x25 h = atJ prog C 54 J false [1, 1, 1, 1, 0, 1] G_ref35_MatchName.ann G_ref35_MatchName.body [(5, (AV.s x5)), (6, (AV.s x6)), (25, (AV.b x25))] h (kFun prog Tryz.f11 Q) := by kernel_rfl
theorem G_ref35_MatchName.i0 {Q : AV → AHeap → Prop} {x5 : List UInt8} {x6 : List UInt8} {x25 : Bool} {h : AHeap} (H : G_ref35_MatchName.t0 (G_ref35_MatchName.J Q) Q x5 x6 x25 h) : G_ref35_MatchName.p0 Q x5 x6 x25 h := G_ref35_MatchName.goR (k := 1) (p := [1, 1, 1, 1, 0, 1]) (by kernel_rfl) ((G_ref35_MatchName.t0_eq (G_ref35_MatchName.J Q) Q x5 x6 x25 h).mp H)
def G_ref35_MatchName.t2 (J : JT) (Q : AV → AHeap → Prop) (x5 : List UInt8) (x6 : List UInt8) (x7 : Bool) (x8 : Int) (h : AHeap) : Prop :=
withI (IntKind.wrap .i64 (x8 + 1)) fun n25 =>
J 2 [(5, (AV.s x5)), (6, (AV.s x6)), (7, (AV.b x7)), (8, (AV.i .i64 n25))] h
theorem G_ref35_MatchName.t2_eq (J : JT) (Q : AV → AHeap → Prop) (x5 : List UInt8) (x6 : List UInt8) (x7 : Bool) (x8 : Int) (h : AHeap) : G_ref35_MatchName.t2 J Q x5 x6 x7 x8 h = atJ prog C 54 J false [1, 1, 1, 1, 1, 1, 0, 1, 0, 0, 1, 1] G_ref35_MatchName.ann G_ref35_MatchName.body [(5, (AV.s x5)), (6, (AV.s x6)), (7, (AV.b x7)), (8, (AV.i .i64 x8))] h (kFun prog Tryz.f11 Q) := by kernel_rfl
theorem G_ref35_MatchName.i2 {Q : AV → AHeap → Prop} {x5 : List UInt8} {x6 : List UInt8} {x7 : Bool} {x8 : Int} {h : AHeap} (H : G_ref35_MatchName.t2 (G_ref35_MatchName.J Q) Q x5 x6 x7 x8 h) : G_ref35_MatchName.p2 Q x5 x6 x7 x8 h := G_ref35_MatchName.goR (k := 3) (p := [1, 1, 1, 1, 1, 1, 0, 1, 0, 0, 1, 1]) (by kernel_rfl) ((G_ref35_MatchName.t2_eq (G_ref35_MatchName.J Q) Q x5 x6 x7 x8 h).mp H)
def G_ref35_MatchName.t1 (J : JT) (Q : AV → AHeap → Prop) (x5 : List UInt8) (x6 : List UInt8) (x7 : Bool) (x8 : Int) (h : AHeap) : Prop :=
(bif (decide ((x8 : Int) < (x5.length : Int))) then
((bif x7 then
(J 3 [(5, (AV.s x5)), (6, (AV.s x6)), (7, (AV.b true)), (8, (AV.i .i64 x8))] h)
else
(pIdxStr (AV.s x5) (AV.i .i64 x8) fun n23 =>
J 3 [(5, (AV.s x5)), (6, (AV.s x6)), (7, (AV.b (decide ((n23 : Int) = 46)))), (8, (AV.i .i64 x8))] h)))
else
(C G_ref35_after.id [(AV.s x6)] h fun v27 h28 =>
pExtract 0 v27 fun v29 =>
asS v29 fun l30 =>
pExtract 1 v27 fun v31 =>
asB v31 fun c32 =>
(bif c32 then
((bif x7 then
(pSliceStr (AV.s x5) (some (AV.i .i64 2)) none fun l34 =>
J 4 [(4, (AV.b (decide ((l30 : List UInt8) = l34))))] h28)
else
(J 4 [(4, (AV.b false))] h28)))
else
(J 4 [(4, (AV.b false))] h28))))
theorem G_ref35_MatchName.t1_eq (J : JT) (Q : AV → AHeap → Prop) (x5 : List UInt8) (x6 : List UInt8) (x7 : Bool) (x8 : Int) (h : AHeap) : G_ref35_MatchName.t1 J Q x5 x6 x7 x8 h = atJ prog C 54 J true [1, 1, 1, 1, 1, 1, 0, 1, 0] G_ref35_MatchName.ann G_ref35_MatchName.body [(5, (AV.s x5)), (6, (AV.s x6)), (7, (AV.b x7)), (8, (AV.i .i64 x8))] h (kFun prog Tryz.f11 Q) := by kernel_rfl
theorem G_ref35_MatchName.i1 {Q : AV → AHeap → Prop} {x5 : List UInt8} {x6 : List UInt8} {x7 : Bool} {x8 : Int} {h : AHeap} (H : G_ref35_MatchName.t1 (G_ref35_MatchName.J Q) Q x5 x6 x7 x8 h) : G_ref35_MatchName.p1 Q x5 x6 x7 x8 h := G_ref35_MatchName.goH (k := 2) (p := [1, 1, 1, 1, 1, 1, 0, 1, 0]) (by kernel_rfl) ((G_ref35_MatchName.t1_eq (G_ref35_MatchName.J Q) Q x5 x6 x7 x8 h).mp H)
def G_ref35_MatchName.t3 (J : JT) (Q : AV → AHeap → Prop) (x4 : Bool) (h : AHeap) : Prop :=
Q (AV.b x4) h
theorem G_ref35_MatchName.t3_eq (J : JT) (Q : AV → AHeap → Prop) (x4 : Bool) (h : AHeap) : G_ref35_MatchName.t3 J Q x4 h = atJ prog C 54 J false [1, 1, 1, 1, 1, 1, 1, 1, 1] G_ref35_MatchName.ann G_ref35_MatchName.body [(4, (AV.b x4))] h (kFun prog Tryz.f11 Q) := by kernel_rfl
theorem G_ref35_MatchName.i3 {Q : AV → AHeap → Prop} {x4 : Bool} {h : AHeap} (H : G_ref35_MatchName.t3 (G_ref35_MatchName.J Q) Q x4 h) : G_ref35_MatchName.p3 Q x4 h := G_ref35_MatchName.goR (k := 4) (p := [1, 1, 1, 1, 1, 1, 1, 1, 1]) (by kernel_rfl) ((G_ref35_MatchName.t3_eq (G_ref35_MatchName.J Q) Q x4 h).mp H)
def G_ref35_MatchName.t (J : JT) (Q : AV → AHeap → Prop) (x0 : List UInt8) (x1 : List UInt8) (h : AHeap) : Prop :=
C G_ref26_Apply.id [(AV.i .i64 1), (AV.s x0)] h fun v1 h2 =>
asS v1 fun l3 =>
C G_ref26_Apply.id [(AV.i .i64 1), (AV.s x1)] h2 fun v5 h6 =>
asS v5 fun l7 =>
(bif (decide ((l3 : List UInt8) = l7)) then
(Q (AV.b true) h6)
else
((bif (decide (((l3.length : Int) : Int) < 2)) then
(J 1 [(5, (AV.s l3)), (6, (AV.s l7)), (25, (AV.b true))] h6)
else
(pSliceStr (AV.s l3) none (some (AV.i .i64 2)) fun l13 =>
J 1 [(5, (AV.s l3)), (6, (AV.s l7)), (25, (AV.b (!(decide ((l13 : List UInt8) = [42, 46])))))] h6))))
theorem G_ref35_MatchName.t_eq (J : JT) (Q : AV → AHeap → Prop) (x0 : List UInt8) (x1 : List UInt8) (h : AHeap) : G_ref35_MatchName.t J Q x0 x1 h = exJ prog C 54 J G_ref35_MatchName.ann G_ref35_MatchName.body (initEnv 0 [(AV.s x0), (AV.s x1)]) h (kFun prog Tryz.f11 Q) := by kernel_rfl
theorem G_ref35_MatchName.call {K : AV → AHeap → Prop} {x0 : List UInt8} {x1 : List UInt8} {h : AHeap} (H : G_ref35_MatchName.t (G_ref35_MatchName.J (kRet h K)) (kRet h K) x0 x1 h) : C G_ref35_MatchName.id [(AV.s x0), (AV.s x1)] h K :=
  callJ (P := prog) (fn := Tryz.f11) (ann := G_ref35_MatchName.ann) (body := G_ref35_MatchName.body) Tryz.func11 G_ref35_MatchName.body_eq (by kernel_rfl) G_ref35_MatchName.dist (by kernel_rfl) ((G_ref35_MatchName.t_eq (G_ref35_MatchName.J (kRet h K)) (kRet h K) x0 x1 h).mp H)

--@@ G_law35_large
/-! ### 12: intrusion/intrusionlaw35.large -/
noncomputable def G_law35_large.body : Code := (Tryz.f12.body).getD .skip
def G_law35_large.ann : Ann := (.seq 0 [0, 1] .leaf (.seq 1 [4] .leaf .leaf))
theorem G_law35_large.body_eq : Tryz.f12.body = some G_law35_large.body := by kernel_rfl
theorem G_law35_large.dist : noTwice (places G_law35_large.ann G_law35_large.body) = true := by kernel_rfl
noncomputable def G_law35_large.J (Q : AV → AHeap → Prop) : JT := funJ prog C Tryz.f12 G_law35_large.ann G_law35_large.body Q
theorem G_law35_large.goR {Q : AV → AHeap → Prop} {k : Nat} {p : List Nat} (hl : lookJ (places G_law35_large.ann G_law35_large.body) k = some (p, false)) {e : Env} {h : AHeap} (hk : atJ prog C 13 (G_law35_large.J Q) false p G_law35_large.ann G_law35_large.body e h (kFun prog Tryz.f12 Q)) : G_law35_large.J Q k e h := goJ_run (P := prog) (fn := Tryz.f12) (ann := G_law35_large.ann) (body := G_law35_large.body) (Q := Q) (k := k) (p := p) (e := e) (h := h) (acall_le X) G_law35_large.dist hl hk
theorem G_law35_large.goH {Q : AV → AHeap → Prop} {k : Nat} {p : List Nat} (hl : lookJ (places G_law35_large.ann G_law35_large.body) k = some (p, true)) {e : Env} {h : AHeap} (hk : atJ prog C 13 (G_law35_large.J Q) true p G_law35_large.ann G_law35_large.body e h (kFun prog Tryz.f12 Q)) : G_law35_large.J Q k e h := goJ_head (P := prog) (fn := Tryz.f12) (ann := G_law35_large.ann) (body := G_law35_large.body) (Q := Q) (k := k) (p := p) (e := e) (h := h) (acall_le X) G_law35_large.dist hl hk
def G_law35_large.p0 (Q : AV → AHeap → Prop) (x4 : Bool) (h : AHeap) : Prop := G_law35_large.J Q 1 [(4, (AV.b x4))] h
theorem G_law35_large.j0 (Q : AV → AHeap → Prop) (x4 : Bool) (h : AHeap) : G_law35_large.J Q 1 [(4, (AV.b x4))] h = G_law35_large.p0 Q x4 h := rfl
def G_law35_large.t0 (J : JT) (Q : AV → AHeap → Prop) (x4 : Bool) (h : AHeap) : Prop :=
Q (AV.b x4) h
theorem G_law35_large.t0_eq (J : JT) (Q : AV → AHeap → Prop) (x4 : Bool) (h : AHeap) : G_law35_large.t0 J Q x4 h = atJ prog C 13 J false [1, 1] G_law35_large.ann G_law35_large.body [(4, (AV.b x4))] h (kFun prog Tryz.f12 Q) := by kernel_rfl
theorem G_law35_large.i0 {Q : AV → AHeap → Prop} {x4 : Bool} {h : AHeap} (H : G_law35_large.t0 (G_law35_large.J Q) Q x4 h) : G_law35_large.p0 Q x4 h := G_law35_large.goR (k := 1) (p := [1, 1]) (by kernel_rfl) ((G_law35_large.t0_eq (G_law35_large.J Q) Q x4 h).mp H)
def G_law35_large.t (J : JT) (Q : AV → AHeap → Prop) (x0 : AV) (x1 : AV) (h : AHeap) : Prop :=
pLenSl x0 fun n1 =>
(bif (decide ((30 : Int) < n1)) then
(J 1 [(4, (AV.b true))] h)
else
(pLenSl x1 fun n3 =>
J 1 [(4, (AV.b (decide ((30 : Int) < n3))))] h))
theorem G_law35_large.t_eq (J : JT) (Q : AV → AHeap → Prop) (x0 : AV) (x1 : AV) (h : AHeap) : G_law35_large.t J Q x0 x1 h = exJ prog C 13 J G_law35_large.ann G_law35_large.body (initEnv 0 [x0, x1]) h (kFun prog Tryz.f12 Q) := by kernel_rfl
theorem G_law35_large.call {K : AV → AHeap → Prop} {x0 : AV} {x1 : AV} {h : AHeap} (H : G_law35_large.t (G_law35_large.J (kRet h K)) (kRet h K) x0 x1 h) : C G_law35_large.id [x0, x1] h K :=
  callJ (P := prog) (fn := Tryz.f12) (ann := G_law35_large.ann) (body := G_law35_large.body) Tryz.func12 G_law35_large.body_eq (by kernel_rfl) G_law35_large.dist (by kernel_rfl) ((G_law35_large.t_eq (G_law35_large.J (kRet h K)) (kRet h K) x0 x1 h).mp H)

--@@ G_law35_ints
/-! ### 13: intrusion/intrusionlaw35.ints -/
noncomputable def G_law35_ints.body : Code := (Tryz.f13.body).getD .skip
def G_law35_ints.ann : Ann := (.seq 0 [0, 1] .leaf (.seq 0 [0, 1] (.seq 0 [0, 1, 10] .leaf (.br (.seq 0 [4] .leaf .leaf) .leaf)) (.seq 0 [] (.seq 0 [0, 1, 12, 13] .leaf (.one (.loop 1 [0, 1, 12, 13] (.seq 0 [0, 1, 12, 13, 14] .leaf (.seq 0 [0, 1, 12, 13] (.br .leaf .leaf) (.seq 0 [0, 1, 12, 13] (.one (.seq 0 [0, 1, 5, 12, 13] .leaf (.seq 0 [0, 1, 12, 13, 24] (.ord (.neu 0 (.neu 1 (.neu 2 (.neu 3 (.neu 4 (.neu 5 (.neu 6 (.neu 7 (.neu 8 .done)))))))))) (.br (.seq 0 [4] .leaf .leaf) .leaf)))) .leaf)))))) (.seq 0 [4] .leaf .leaf))))
theorem G_law35_ints.body_eq : Tryz.f13.body = some G_law35_ints.body := by kernel_rfl
theorem G_law35_ints.dist : noTwice (places G_law35_ints.ann G_law35_ints.body) = true := by kernel_rfl
noncomputable def G_law35_ints.J (Q : AV → AHeap → Prop) : JT := funJ prog C Tryz.f13 G_law35_ints.ann G_law35_ints.body Q
theorem G_law35_ints.goR {Q : AV → AHeap → Prop} {k : Nat} {p : List Nat} (hl : lookJ (places G_law35_ints.ann G_law35_ints.body) k = some (p, false)) {e : Env} {h : AHeap} (hk : atJ prog C 26 (G_law35_ints.J Q) false p G_law35_ints.ann G_law35_ints.body e h (kFun prog Tryz.f13 Q)) : G_law35_ints.J Q k e h := goJ_run (P := prog) (fn := Tryz.f13) (ann := G_law35_ints.ann) (body := G_law35_ints.body) (Q := Q) (k := k) (p := p) (e := e) (h := h) (acall_le X) G_law35_ints.dist hl hk
theorem G_law35_ints.goH {Q : AV → AHeap → Prop} {k : Nat} {p : List Nat} (hl : lookJ (places G_law35_ints.ann G_law35_ints.body) k = some (p, true)) {e : Env} {h : AHeap} (hk : atJ prog C 26 (G_law35_ints.J Q) true p G_law35_ints.ann G_law35_ints.body e h (kFun prog Tryz.f13 Q)) : G_law35_ints.J Q k e h := goJ_head (P := prog) (fn := Tryz.f13) (ann := G_law35_ints.ann) (body := G_law35_ints.body) (Q := Q) (k := k) (p := p) (e := e) (h := h) (acall_le X) G_law35_ints.dist hl hk
def G_law35_ints.p0 (Q : AV → AHeap → Prop) (x0 : AV) (x1 : AV) (x12 : Int) (x13 : Int) (h : AHeap) : Prop := G_law35_ints.J Q 1 [(0, x0), (1, x1), (12, (AV.i .i64 x12)), (13, (AV.i .i64 x13))] h
theorem G_law35_ints.j0 (Q : AV → AHeap → Prop) (x0 : AV) (x1 : AV) (x12 : Int) (x13 : Int) (h : AHeap) : G_law35_ints.J Q 1 [(0, x0), (1, x1), (12, (AV.i .i64 x12)), (13, (AV.i .i64 x13))] h = G_law35_ints.p0 Q x0 x1 x12 x13 h := rfl
def G_law35_ints.t0 (J : JT) (Q : AV → AHeap → Prop) (x0 : AV) (x1 : AV) (x12 : Int) (x13 : Int) (h : AHeap) : Prop :=
(bif (decide ((x13 : Int) < x12)) then
(pIdxAddrSl 1 x0 (AV.i .i64 x13) h fun v12 =>
pLoad1 v12 h fun v13 =>
asI .i64 v13 fun n14 =>
pIdxAddrSl 1 x1 (AV.i .i64 x13) h fun v15 =>
pLoad1 v15 h fun v16 =>
asI .i64 v16 fun n17 =>
(bif (!decide ((n14 : Int) = n17)) then
(Q (AV.b false) h)
else
(withI (IntKind.wrap .i64 (x13 + 1)) fun n21 =>
J 1 [(0, x0), (1, x1), (12, (AV.i .i64 x12)), (13, (AV.i .i64 n21))] h)))
else
(Q (AV.b true) h))
theorem G_law35_ints.t0_eq (J : JT) (Q : AV → AHeap → Prop) (x0 : AV) (x1 : AV) (x12 : Int) (x13 : Int) (h : AHeap) : G_law35_ints.t0 J Q x0 x1 x12 x13 h = atJ prog C 26 J true [1, 1, 0, 1, 0] G_law35_ints.ann G_law35_ints.body [(0, x0), (1, x1), (12, (AV.i .i64 x12)), (13, (AV.i .i64 x13))] h (kFun prog Tryz.f13 Q) := by kernel_rfl
theorem G_law35_ints.i0 {Q : AV → AHeap → Prop} {x0 : AV} {x1 : AV} {x12 : Int} {x13 : Int} {h : AHeap} (H : G_law35_ints.t0 (G_law35_ints.J Q) Q x0 x1 x12 x13 h) : G_law35_ints.p0 Q x0 x1 x12 x13 h := G_law35_ints.goH (k := 1) (p := [1, 1, 0, 1, 0]) (by kernel_rfl) ((G_law35_ints.t0_eq (G_law35_ints.J Q) Q x0 x1 x12 x13 h).mp H)
def G_law35_ints.t (J : JT) (Q : AV → AHeap → Prop) (x0 : AV) (x1 : AV) (h : AHeap) : Prop :=
pLenSl x0 fun n1 =>
pLenSl x1 fun n2 =>
(bif (!decide ((n1 : Int) = n2)) then
(Q (AV.b false) h)
else
(pLenSl x0 fun n6 =>
J 1 [(0, x0), (1, x1), (12, (AV.i .i64 n6)), (13, (AV.i .i64 0))] h))
theorem G_law35_ints.t_eq (J : JT) (Q : AV → AHeap → Prop) (x0 : AV) (x1 : AV) (h : AHeap) : G_law35_ints.t J Q x0 x1 h = exJ prog C 26 J G_law35_ints.ann G_law35_ints.body (initEnv 0 [x0, x1]) h (kFun prog Tryz.f13 Q) := by kernel_rfl
theorem G_law35_ints.call {K : AV → AHeap → Prop} {x0 : AV} {x1 : AV} {h : AHeap} (H : G_law35_ints.t (G_law35_ints.J (kRet h K)) (kRet h K) x0 x1 h) : C G_law35_ints.id [x0, x1] h K :=
  callJ (P := prog) (fn := Tryz.f13) (ann := G_law35_ints.ann) (body := G_law35_ints.body) Tryz.func13 G_law35_ints.body_eq (by kernel_rfl) G_law35_ints.dist (by kernel_rfl) ((G_law35_ints.t_eq (G_law35_ints.J (kRet h K)) (kRet h K) x0 x1 h).mp H)

--@@ G_certcheck_Check
/-! ### 14: intrusion/certcheck.Check -/
noncomputable def G_certcheck_Check.body : Code := (Tryz.f14.body).getD .skip
def G_certcheck_Check.ann : Ann := (.seq 0 [2, 3, 4, 5] .leaf (.one (.seq 0 [2, 3, 4, 5] (.seq 0 [2, 3, 4, 5, 19] .leaf (.br (.seq 0 [8] .leaf .leaf) .leaf)) (.seq 0 [2, 4, 5, 9] .leaf (.seq 0 [2, 4, 5, 9, 10] .leaf (.seq 0 [2, 4, 9, 10, 11] .leaf (.seq 0 [2, 4, 9, 10, 11, 12] .leaf (.seq 0 [2, 4, 9, 10, 11, 12] .leaf (.seq 0 [12] (.seq 0 [2, 4, 9, 10, 11, 12, 13] .leaf (.one (.loop 1 [2, 4, 9, 10, 11, 12, 13] (.seq 0 [2, 4, 9, 10, 11, 12, 13] (.seq 0 [2, 4, 9, 10, 11, 12, 13, 28] .leaf (.br .leaf .leaf)) (.seq 4 [2, 4, 9, 10, 11, 12, 13] (.one (.seq 0 [2, 4, 9, 10, 11, 12, 13] (.seq 0 [2, 4, 9, 10, 11, 12, 13, 33] .leaf (.br (.seq 0 [2, 4, 9, 10, 11, 12, 13] .leaf .leaf) .leaf)) (.seq 0 [2, 4, 9, 10, 11, 12, 13, 38, 39, 40] .leaf (.one (.loop 2 [2, 4, 9, 10, 11, 12, 13, 38, 39, 40] (.seq 0 [2, 4, 9, 10, 11, 12, 13, 38, 39, 40, 41] .leaf (.seq 0 [2, 4, 9, 10, 11, 12, 13, 38, 39, 40] (.br .leaf .leaf) (.seq 0 [2, 4, 9, 10, 11, 12, 13, 38, 39, 40] (.one (.seq 0 [2, 4, 9, 10, 11, 12, 13, 14, 15, 38, 39, 40] .leaf (.seq 0 [2, 4, 9, 10, 11, 12, 13, 14, 15, 16, 38, 39, 40] .leaf (.seq 3 [2, 4, 9, 10, 11, 12, 13, 16, 38, 39, 40] (.seq 0 [2, 4, 9, 10, 11, 12, 13, 14, 15, 16, 38, 39, 40, 45] .leaf (.one (.seq 0 [2, 4, 9, 10, 11, 12, 13, 14, 15, 16, 38, 39, 40, 45, 46] .leaf (.br .leaf (.seq 0 [2, 4, 9, 10, 11, 12, 13, 14, 15, 16, 38, 39, 40, 45, 52] .leaf (.br .leaf (.seq 0 [2, 4, 9, 10, 11, 12, 13, 14, 15, 16, 38, 39, 40, 45, 58] .leaf (.br .leaf (.seq 0 [2, 4, 9, 10, 11, 12, 13, 14, 15, 16, 38, 39, 40, 45, 71] .leaf (.br (.ord (.neu 0 (.neu 1 (.neu 2 (.neu 3 (.neu 4 (.neu 5 (.neu 6 (.neu 7 (.neu 8 (.neu 9 (.neu 10 (.neu 11 (.neu 12 (.neu 13 (.neu 14 .done)))))))))))))))) (.seq 0 [2, 4, 9, 10, 11, 12, 13, 14, 15, 16, 38, 39, 40, 87] .leaf (.br .leaf .leaf)))))))))))) (.seq 0 [2, 4, 9, 10, 11, 12, 13, 38, 39, 40, 96] .leaf (.br (.seq 0 [2, 4, 9, 10, 11, 12, 13] .leaf .leaf) .leaf)))))) .leaf)))))))) .leaf))))) (.seq 0 [8] .leaf .leaf))))))))))
theorem G_certcheck_Check.body_eq : Tryz.f14.body = some G_certcheck_Check.body := by kernel_rfl
theorem G_certcheck_Check.dist : noTwice (places G_certcheck_Check.ann G_certcheck_Check.body) = true := by kernel_rfl
noncomputable def G_certcheck_Check.J (Q : AV → AHeap → Prop) : JT := funJ prog C Tryz.f14 G_certcheck_Check.ann G_certcheck_Check.body Q
theorem G_certcheck_Check.goR {Q : AV → AHeap → Prop} {k : Nat} {p : List Nat} (hl : lookJ (places G_certcheck_Check.ann G_certcheck_Check.body) k = some (p, false)) {e : Env} {h : AHeap} (hk : atJ prog C 103 (G_certcheck_Check.J Q) false p G_certcheck_Check.ann G_certcheck_Check.body e h (kFun prog Tryz.f14 Q)) : G_certcheck_Check.J Q k e h := goJ_run (P := prog) (fn := Tryz.f14) (ann := G_certcheck_Check.ann) (body := G_certcheck_Check.body) (Q := Q) (k := k) (p := p) (e := e) (h := h) (acall_le X) G_certcheck_Check.dist hl hk
theorem G_certcheck_Check.goH {Q : AV → AHeap → Prop} {k : Nat} {p : List Nat} (hl : lookJ (places G_certcheck_Check.ann G_certcheck_Check.body) k = some (p, true)) {e : Env} {h : AHeap} (hk : atJ prog C 103 (G_certcheck_Check.J Q) true p G_certcheck_Check.ann G_certcheck_Check.body e h (kFun prog Tryz.f14 Q)) : G_certcheck_Check.J Q k e h := goJ_head (P := prog) (fn := Tryz.f14) (ann := G_certcheck_Check.ann) (body := G_certcheck_Check.body) (Q := Q) (k := k) (p := p) (e := e) (h := h) (acall_le X) G_certcheck_Check.dist hl hk
def G_certcheck_Check.p2 (Q : AV → AHeap → Prop) (x2 : Int) (x4 : AV) (x9 : AV) (x10 : AV) (x11 : AV) (x12 : AV) (x13 : Int) (x16 : Bool) (x38 : AV) (x39 : Int) (x40 : Int) (h : AHeap) : Prop := G_certcheck_Check.J Q 3 [(2, (AV.i .i64 x2)), (4, x4), (9, x9), (10, x10), (11, x11), (12, x12), (13, (AV.i .i64 x13)), (16, (AV.b x16)), (38, x38), (39, (AV.i .i64 x39)), (40, (AV.i .i64 x40))] h
theorem G_certcheck_Check.j2 (Q : AV → AHeap → Prop) (x2 : Int) (x4 : AV) (x9 : AV) (x10 : AV) (x11 : AV) (x12 : AV) (x13 : Int) (x16 : Bool) (x38 : AV) (x39 : Int) (x40 : Int) (h : AHeap) : G_certcheck_Check.J Q 3 [(2, (AV.i .i64 x2)), (4, x4), (9, x9), (10, x10), (11, x11), (12, x12), (13, (AV.i .i64 x13)), (16, (AV.b x16)), (38, x38), (39, (AV.i .i64 x39)), (40, (AV.i .i64 x40))] h = G_certcheck_Check.p2 Q x2 x4 x9 x10 x11 x12 x13 x16 x38 x39 x40 h := rfl
def G_certcheck_Check.p1 (Q : AV → AHeap → Prop) (x2 : Int) (x4 : AV) (x9 : AV) (x10 : AV) (x11 : AV) (x12 : AV) (x13 : Int) (x38 : AV) (x39 : Int) (x40 : Int) (h : AHeap) : Prop := G_certcheck_Check.J Q 2 [(2, (AV.i .i64 x2)), (4, x4), (9, x9), (10, x10), (11, x11), (12, x12), (13, (AV.i .i64 x13)), (38, x38), (39, (AV.i .i64 x39)), (40, (AV.i .i64 x40))] h
theorem G_certcheck_Check.j1 (Q : AV → AHeap → Prop) (x2 : Int) (x4 : AV) (x9 : AV) (x10 : AV) (x11 : AV) (x12 : AV) (x13 : Int) (x38 : AV) (x39 : Int) (x40 : Int) (h : AHeap) : G_certcheck_Check.J Q 2 [(2, (AV.i .i64 x2)), (4, x4), (9, x9), (10, x10), (11, x11), (12, x12), (13, (AV.i .i64 x13)), (38, x38), (39, (AV.i .i64 x39)), (40, (AV.i .i64 x40))] h = G_certcheck_Check.p1 Q x2 x4 x9 x10 x11 x12 x13 x38 x39 x40 h := rfl
def G_certcheck_Check.p3 (Q : AV → AHeap → Prop) (x2 : Int) (x4 : AV) (x9 : AV) (x10 : AV) (x11 : AV) (x12 : AV) (x13 : Int) (h : AHeap) : Prop := G_certcheck_Check.J Q 4 [(2, (AV.i .i64 x2)), (4, x4), (9, x9), (10, x10), (11, x11), (12, x12), (13, (AV.i .i64 x13))] h
theorem G_certcheck_Check.j3 (Q : AV → AHeap → Prop) (x2 : Int) (x4 : AV) (x9 : AV) (x10 : AV) (x11 : AV) (x12 : AV) (x13 : Int) (h : AHeap) : G_certcheck_Check.J Q 4 [(2, (AV.i .i64 x2)), (4, x4), (9, x9), (10, x10), (11, x11), (12, x12), (13, (AV.i .i64 x13))] h = G_certcheck_Check.p3 Q x2 x4 x9 x10 x11 x12 x13 h := rfl
def G_certcheck_Check.p0 (Q : AV → AHeap → Prop) (x2 : Int) (x4 : AV) (x9 : AV) (x10 : AV) (x11 : AV) (x12 : AV) (x13 : Int) (h : AHeap) : Prop := G_certcheck_Check.J Q 1 [(2, (AV.i .i64 x2)), (4, x4), (9, x9), (10, x10), (11, x11), (12, x12), (13, (AV.i .i64 x13))] h
theorem G_certcheck_Check.j0 (Q : AV → AHeap → Prop) (x2 : Int) (x4 : AV) (x9 : AV) (x10 : AV) (x11 : AV) (x12 : AV) (x13 : Int) (h : AHeap) : G_certcheck_Check.J Q 1 [(2, (AV.i .i64 x2)), (4, x4), (9, x9), (10, x10), (11, x11), (12, x12), (13, (AV.i .i64 x13))] h = G_certcheck_Check.p0 Q x2 x4 x9 x10 x11 x12 x13 h := rfl
def G_certcheck_Check.t2 (J : JT) (Q : AV → AHeap → Prop) (x2 : Int) (x4 : AV) (x9 : AV) (x10 : AV) (x11 : AV) (x12 : AV) (x13 : Int) (x16 : Bool) (x38 : AV) (x39 : Int) (x40 : Int) (h : AHeap) : Prop :=
(bif x16 then
(pBuildSl 1 1 [(AV.i .i64 0)] [(0, 1, (AV.i .i64 x13))] h fun v103 h104 =>
pAppend none 1 8 x12 v103 h104 fun v105 h106 =>
J 4 [(2, (AV.i .i64 x2)), (4, x4), (9, x9), (10, x10), (11, x11), (12, v105), (13, (AV.i .i64 x13))] h106)
else
(withI (IntKind.wrap .i64 (x40 + 1)) fun n110 =>
J 2 [(2, (AV.i .i64 x2)), (4, x4), (9, x9), (10, x10), (11, x11), (12, x12), (13, (AV.i .i64 x13)), (38, x38), (39, (AV.i .i64 x39)), (40, (AV.i .i64 n110))] h))
theorem G_certcheck_Check.t2_eq (J : JT) (Q : AV → AHeap → Prop) (x2 : Int) (x4 : AV) (x9 : AV) (x10 : AV) (x11 : AV) (x12 : AV) (x13 : Int) (x16 : Bool) (x38 : AV) (x39 : Int) (x40 : Int) (h : AHeap) : G_certcheck_Check.t2 J Q x2 x4 x9 x10 x11 x12 x13 x16 x38 x39 x40 h = atJ prog C 103 J false [1, 0, 1, 1, 1, 1, 1, 1, 0, 1, 0, 0, 1, 0, 0, 1, 1, 0, 0, 1, 1, 0, 0, 1, 1, 1] G_certcheck_Check.ann G_certcheck_Check.body [(2, (AV.i .i64 x2)), (4, x4), (9, x9), (10, x10), (11, x11), (12, x12), (13, (AV.i .i64 x13)), (16, (AV.b x16)), (38, x38), (39, (AV.i .i64 x39)), (40, (AV.i .i64 x40))] h (kFun prog Tryz.f14 Q) := by kernel_rfl
theorem G_certcheck_Check.i2 {Q : AV → AHeap → Prop} {x2 : Int} {x4 : AV} {x9 : AV} {x10 : AV} {x11 : AV} {x12 : AV} {x13 : Int} {x16 : Bool} {x38 : AV} {x39 : Int} {x40 : Int} {h : AHeap} (H : G_certcheck_Check.t2 (G_certcheck_Check.J Q) Q x2 x4 x9 x10 x11 x12 x13 x16 x38 x39 x40 h) : G_certcheck_Check.p2 Q x2 x4 x9 x10 x11 x12 x13 x16 x38 x39 x40 h := G_certcheck_Check.goR (k := 3) (p := [1, 0, 1, 1, 1, 1, 1, 1, 0, 1, 0, 0, 1, 0, 0, 1, 1, 0, 0, 1, 1, 0, 0, 1, 1, 1]) (by kernel_rfl) ((G_certcheck_Check.t2_eq (G_certcheck_Check.J Q) Q x2 x4 x9 x10 x11 x12 x13 x16 x38 x39 x40 h).mp H)
def G_certcheck_Check.t1 (J : JT) (Q : AV → AHeap → Prop) (x2 : Int) (x4 : AV) (x9 : AV) (x10 : AV) (x11 : AV) (x12 : AV) (x13 : Int) (x38 : AV) (x39 : Int) (x40 : Int) (h : AHeap) : Prop :=
(bif (decide ((x40 : Int) < x39)) then
(pIdxAddrSl 8 x38 (AV.i .i64 x40) h fun v49 =>
pLoadN 8 v49 h fun v50 =>
pAlloc (some 36) [(AV.s []), (AV.s []), (AV.s []), (AV.i .i64 0), (AV.i .i64 0), (AV.sl none 0 none), (AV.b false), (AV.s [])] h fun v51 h52 =>
pStore 8 v51 v50 h52 fun h53 =>
(bif (decide ((x13 : Int) = 1)) then
(pFieldAddr 4 v51 fun v58 =>
pLoad1 v58 h53 fun v59 =>
asI .i64 v59 fun n60 =>
J 3 [(2, (AV.i .i64 x2)), (4, x4), (9, x9), (10, x10), (11, x11), (12, x12), (13, (AV.i .i64 x13)), (16, (AV.b (decide ((n60 : Int) < x2)))), (38, x38), (39, (AV.i .i64 x39)), (40, (AV.i .i64 x40))] h53)
else
((bif (decide ((x13 : Int) = 2)) then
(pFieldAddr 3 v51 fun v63 =>
pLoad1 v63 h53 fun v64 =>
asI .i64 v64 fun n65 =>
J 3 [(2, (AV.i .i64 x2)), (4, x4), (9, x9), (10, x10), (11, x11), (12, x12), (13, (AV.i .i64 x13)), (16, (AV.b (decide ((x2 : Int) < n65)))), (38, x38), (39, (AV.i .i64 x39)), (40, (AV.i .i64 x40))] h53)
else
((bif (decide ((x13 : Int) = 4)) then
(pFieldAddr 1 v51 fun v68 =>
pLoad1 v68 h53 fun v69 =>
asS v69 fun l70 =>
pFieldAddr 2 v51 fun v71 =>
pLoad1 v71 h53 fun v72 =>
asS v72 fun l73 =>
(bif (decide ((l70 : List UInt8) = l73)) then
(pLoadN 2 x9 h53 fun v74 =>
pLoadN 8 v51 h53 fun v75 =>
C G_certcheck_trust_has.id [v74, v75] h53 fun v76 h77 =>
asB v76 fun c78 =>
J 3 [(2, (AV.i .i64 x2)), (4, x4), (9, x9), (10, x10), (11, x11), (12, x12), (13, (AV.i .i64 x13)), (16, (AV.b (!c78))), (38, x38), (39, (AV.i .i64 x39)), (40, (AV.i .i64 x40))] h77)
else
(J 3 [(2, (AV.i .i64 x2)), (4, x4), (9, x9), (10, x10), (11, x11), (12, x12), (13, (AV.i .i64 x13)), (16, (AV.b false)), (38, x38), (39, (AV.i .i64 x39)), (40, (AV.i .i64 x40))] h53)))
else
((bif (decide ((x13 : Int) = 6)) then
(pLoad1 x10 h53 fun v82 =>
asI .i64 v82 fun n83 =>
(bif (decide ((x40 : Int) < n83)) then
(pFieldAddr 1 v51 fun v84 =>
pLoad1 v84 h53 fun v85 =>
asS v85 fun l86 =>
pLoad1 x4 h53 fun v87 =>
withI (IntKind.wrap .i64 (x40 + 1)) fun n88 =>
pIdxAddrSl 8 v87 (AV.i .i64 n88) h53 fun v89 =>
pFieldAddr 2 v89 fun v90 =>
pLoad1 v90 h53 fun v91 =>
asS v91 fun l92 =>
J 3 [(2, (AV.i .i64 x2)), (4, x4), (9, x9), (10, x10), (11, x11), (12, x12), (13, (AV.i .i64 x13)), (16, (AV.b (!(decide ((l86 : List UInt8) = l92))))), (38, x38), (39, (AV.i .i64 x39)), (40, (AV.i .i64 x40))] h53)
else
(J 3 [(2, (AV.i .i64 x2)), (4, x4), (9, x9), (10, x10), (11, x11), (12, x12), (13, (AV.i .i64 x13)), (16, (AV.b false)), (38, x38), (39, (AV.i .i64 x39)), (40, (AV.i .i64 x40))] h53)))
else
((bif (decide ((x13 : Int) = 7)) then
((bif (decide ((0 : Int) < x40)) then
(pFieldAddr 6 v51 fun v96 =>
pLoad1 v96 h53 fun v97 =>
asB v97 fun c98 =>
J 3 [(2, (AV.i .i64 x2)), (4, x4), (9, x9), (10, x10), (11, x11), (12, x12), (13, (AV.i .i64 x13)), (16, (AV.b (!c98))), (38, x38), (39, (AV.i .i64 x39)), (40, (AV.i .i64 x40))] h53)
else
(J 3 [(2, (AV.i .i64 x2)), (4, x4), (9, x9), (10, x10), (11, x11), (12, x12), (13, (AV.i .i64 x13)), (16, (AV.b false)), (38, x38), (39, (AV.i .i64 x39)), (40, (AV.i .i64 x40))] h53)))
else
(J 3 [(2, (AV.i .i64 x2)), (4, x4), (9, x9), (10, x10), (11, x11), (12, x12), (13, (AV.i .i64 x13)), (16, (AV.b false)), (38, x38), (39, (AV.i .i64 x39)), (40, (AV.i .i64 x40))] h53)))))))))))
else
(J 4 [(2, (AV.i .i64 x2)), (4, x4), (9, x9), (10, x10), (11, x11), (12, x12), (13, (AV.i .i64 x13))] h))
theorem G_certcheck_Check.t1_eq (J : JT) (Q : AV → AHeap → Prop) (x2 : Int) (x4 : AV) (x9 : AV) (x10 : AV) (x11 : AV) (x12 : AV) (x13 : Int) (x38 : AV) (x39 : Int) (x40 : Int) (h : AHeap) : G_certcheck_Check.t1 J Q x2 x4 x9 x10 x11 x12 x13 x38 x39 x40 h = atJ prog C 103 J true [1, 0, 1, 1, 1, 1, 1, 1, 0, 1, 0, 0, 1, 0, 0, 1, 1, 0] G_certcheck_Check.ann G_certcheck_Check.body [(2, (AV.i .i64 x2)), (4, x4), (9, x9), (10, x10), (11, x11), (12, x12), (13, (AV.i .i64 x13)), (38, x38), (39, (AV.i .i64 x39)), (40, (AV.i .i64 x40))] h (kFun prog Tryz.f14 Q) := by kernel_rfl
theorem G_certcheck_Check.i1 {Q : AV → AHeap → Prop} {x2 : Int} {x4 : AV} {x9 : AV} {x10 : AV} {x11 : AV} {x12 : AV} {x13 : Int} {x38 : AV} {x39 : Int} {x40 : Int} {h : AHeap} (H : G_certcheck_Check.t1 (G_certcheck_Check.J Q) Q x2 x4 x9 x10 x11 x12 x13 x38 x39 x40 h) : G_certcheck_Check.p1 Q x2 x4 x9 x10 x11 x12 x13 x38 x39 x40 h := G_certcheck_Check.goH (k := 2) (p := [1, 0, 1, 1, 1, 1, 1, 1, 0, 1, 0, 0, 1, 0, 0, 1, 1, 0]) (by kernel_rfl) ((G_certcheck_Check.t1_eq (G_certcheck_Check.J Q) Q x2 x4 x9 x10 x11 x12 x13 x38 x39 x40 h).mp H)
def G_certcheck_Check.t3 (J : JT) (Q : AV → AHeap → Prop) (x2 : Int) (x4 : AV) (x9 : AV) (x10 : AV) (x11 : AV) (x12 : AV) (x13 : Int) (h : AHeap) : Prop :=
withI (IntKind.wrap .i64 (x13 + 1)) fun n112 =>
J 1 [(2, (AV.i .i64 x2)), (4, x4), (9, x9), (10, x10), (11, x11), (12, x12), (13, (AV.i .i64 n112))] h
theorem G_certcheck_Check.t3_eq (J : JT) (Q : AV → AHeap → Prop) (x2 : Int) (x4 : AV) (x9 : AV) (x10 : AV) (x11 : AV) (x12 : AV) (x13 : Int) (h : AHeap) : G_certcheck_Check.t3 J Q x2 x4 x9 x10 x11 x12 x13 h = atJ prog C 103 J false [1, 0, 1, 1, 1, 1, 1, 1, 0, 1, 0, 0, 1, 1] G_certcheck_Check.ann G_certcheck_Check.body [(2, (AV.i .i64 x2)), (4, x4), (9, x9), (10, x10), (11, x11), (12, x12), (13, (AV.i .i64 x13))] h (kFun prog Tryz.f14 Q) := by kernel_rfl
theorem G_certcheck_Check.i3 {Q : AV → AHeap → Prop} {x2 : Int} {x4 : AV} {x9 : AV} {x10 : AV} {x11 : AV} {x12 : AV} {x13 : Int} {h : AHeap} (H : G_certcheck_Check.t3 (G_certcheck_Check.J Q) Q x2 x4 x9 x10 x11 x12 x13 h) : G_certcheck_Check.p3 Q x2 x4 x9 x10 x11 x12 x13 h := G_certcheck_Check.goR (k := 4) (p := [1, 0, 1, 1, 1, 1, 1, 1, 0, 1, 0, 0, 1, 1]) (by kernel_rfl) ((G_certcheck_Check.t3_eq (G_certcheck_Check.J Q) Q x2 x4 x9 x10 x11 x12 x13 h).mp H)
def G_certcheck_Check.t0 (J : JT) (Q : AV → AHeap → Prop) (x2 : Int) (x4 : AV) (x9 : AV) (x10 : AV) (x11 : AV) (x12 : AV) (x13 : Int) (h : AHeap) : Prop :=
(bif (decide ((x13 : Int) ≤ 7)) then
(pCallV C x11 [(AV.i .i64 x13)] h fun v32 h33 =>
asB v32 fun c34 =>
(bif c34 then
(pBuildSl 1 1 [(AV.i .i64 0)] [(0, 1, (AV.i .i64 x13))] h33 fun v36 h37 =>
pAppend none 1 8 x12 v36 h37 fun v38 h39 =>
J 4 [(2, (AV.i .i64 x2)), (4, x4), (9, x9), (10, x10), (11, x11), (12, v38), (13, (AV.i .i64 x13))] h39)
else
(pLoad1 x4 h33 fun v43 =>
pLenSl v43 fun n44 =>
J 2 [(2, (AV.i .i64 x2)), (4, x4), (9, x9), (10, x10), (11, x11), (12, x12), (13, (AV.i .i64 x13)), (38, v43), (39, (AV.i .i64 n44)), (40, (AV.i .i64 0))] h33)))
else
(Q x12 h))
theorem G_certcheck_Check.t0_eq (J : JT) (Q : AV → AHeap → Prop) (x2 : Int) (x4 : AV) (x9 : AV) (x10 : AV) (x11 : AV) (x12 : AV) (x13 : Int) (h : AHeap) : G_certcheck_Check.t0 J Q x2 x4 x9 x10 x11 x12 x13 h = atJ prog C 103 J true [1, 0, 1, 1, 1, 1, 1, 1, 0, 1, 0] G_certcheck_Check.ann G_certcheck_Check.body [(2, (AV.i .i64 x2)), (4, x4), (9, x9), (10, x10), (11, x11), (12, x12), (13, (AV.i .i64 x13))] h (kFun prog Tryz.f14 Q) := by kernel_rfl
theorem G_certcheck_Check.i0 {Q : AV → AHeap → Prop} {x2 : Int} {x4 : AV} {x9 : AV} {x10 : AV} {x11 : AV} {x12 : AV} {x13 : Int} {h : AHeap} (H : G_certcheck_Check.t0 (G_certcheck_Check.J Q) Q x2 x4 x9 x10 x11 x12 x13 h) : G_certcheck_Check.p0 Q x2 x4 x9 x10 x11 x12 x13 h := G_certcheck_Check.goH (k := 1) (p := [1, 0, 1, 1, 1, 1, 1, 1, 0, 1, 0]) (by kernel_rfl) ((G_certcheck_Check.t0_eq (G_certcheck_Check.J Q) Q x2 x4 x9 x10 x11 x12 x13 h).mp H)
def G_certcheck_Check.t (J : JT) (Q : AV → AHeap → Prop) (x0 : AV) (x1 : List UInt8) (x2 : Int) (x3 : AV) (h : AHeap) : Prop :=
pBox none x0 h fun v0 h1 =>
pBox none (AV.s x1) h1 fun v2 h3 =>
pLoad1 v0 h3 fun v5 =>
pLenSl v5 fun n6 =>
(bif (decide ((n6 : Int) = 0)) then
(pBuildSl 1 1 [(AV.i .i64 0)] [(0, 1, (AV.i .i64 5))] h3 fun v8 h9 =>
Q v8 h9)
else
(C G_certcheck_newTrust.id [x3] h3 fun v12 h13 =>
pAlloc (some 50) [(AV.mp none), (AV.mp none)] h13 fun v14 h15 =>
pStore 2 v14 v12 h15 fun h16 =>
pLoad1 v0 h16 fun v18 =>
pLenSl v18 fun n19 =>
withI (IntKind.wrap .i64 (n19 - 1)) fun n20 =>
pAlloc none [(AV.i .i64 0)] h16 fun v21 h22 =>
pStore 1 v21 (AV.i .i64 n20) h22 fun h23 =>
J 1 [(2, (AV.i .i64 x2)), (4, v0), (9, v14), (10, v21), (11, (AV.fn (.func G_certcheck_Check_1.id) [] [v2, v0, v14, v21])), (12, (AV.sl none 0 none)), (13, (AV.i .i64 1))] h23))
theorem G_certcheck_Check.t_eq (J : JT) (Q : AV → AHeap → Prop) (x0 : AV) (x1 : List UInt8) (x2 : Int) (x3 : AV) (h : AHeap) : G_certcheck_Check.t J Q x0 x1 x2 x3 h = exJ prog C 103 J G_certcheck_Check.ann G_certcheck_Check.body (initEnv 0 [x0, (AV.s x1), (AV.i .i64 x2), x3]) h (kFun prog Tryz.f14 Q) := by kernel_rfl
theorem G_certcheck_Check.call {K : AV → AHeap → Prop} {x0 : AV} {x1 : List UInt8} {x2 : Int} {x3 : AV} {h : AHeap} (H : G_certcheck_Check.t (G_certcheck_Check.J (kRet h K)) (kRet h K) x0 x1 x2 x3 h) : C G_certcheck_Check.id [x0, (AV.s x1), (AV.i .i64 x2), x3] h K :=
  callJ (P := prog) (fn := Tryz.f14) (ann := G_certcheck_Check.ann) (body := G_certcheck_Check.body) Tryz.func14 G_certcheck_Check.body_eq (by kernel_rfl) G_certcheck_Check.dist (by kernel_rfl) ((G_certcheck_Check.t_eq (G_certcheck_Check.J (kRet h K)) (kRet h K) x0 x1 x2 x3 h).mp H)

--@@ G_ref35_Check
/-! ### 15: intrusion/intrusionref35.Check -/
noncomputable def G_ref35_Check.body : Code := (Tryz.f15.body).getD .skip
def G_ref35_Check.ann : Ann := (.seq 0 [0, 1, 2, 3] .leaf (.seq 0 [0, 1, 2, 3] (.seq 0 [0, 1, 2, 3, 17] .leaf (.br (.seq 0 [8] .leaf .leaf) .leaf)) (.seq 0 [0, 1, 2, 3, 9] .leaf (.seq 0 [0, 1, 3, 9] (.seq 0 [0, 1, 2, 3, 9, 10] .leaf (.one (.loop 1 [0, 1, 2, 3, 9, 10] (.seq 0 [0, 1, 2, 3, 9, 10] (.seq 0 [0, 1, 2, 3, 9, 10, 23] .leaf (.br .leaf .leaf)) (.seq 6 [0, 1, 2, 3, 9, 10] (.one (.seq 0 [0, 1, 2, 3, 9, 10, 11] .leaf (.seq 2 [0, 1, 2, 3, 9, 10, 11] .leaf (.seq 3 [0, 1, 2, 3, 9, 10, 11] .leaf (.seq 4 [0, 1, 2, 3, 9, 10, 11] .leaf (.seq 5 [0, 1, 2, 3, 9, 10, 11] .leaf (.ord (.neu 0 (.neu 1 (.neu 2 (.neu 3 (.neu 4 (.neu 5 (.neu 6 (.neu 7 (.neu 8 (.neu 9 (.neu 10 (.neu 11 (.neu 12 (.neu 13 (.neu 14 (.neu 15 (.neu 16 (.neu 17 (.neu 18 (.neu 19 (.neu 20 (.neu 21 (.neu 22 (.eff 23 .done .stop))))))))))))))))))))))))))))))) .leaf))))) (.seq 0 [0, 1, 3, 9, 12] .leaf (.seq 7 [3, 9, 12] .leaf (.seq 8 [9] .leaf (.seq 0 [9, 13] .leaf (.seq 0 [13] (.seq 0 [9, 13, 14] .leaf (.one (.loop 9 [9, 13, 14] (.seq 0 [9, 13, 14] (.seq 0 [9, 13, 14, 141] .leaf (.br .leaf .leaf)) (.seq 10 [9, 13, 14] (.one (.seq 0 [9, 13, 14, 147] .leaf (.br .leaf .leaf))) .leaf))))) (.seq 0 [8] .leaf .leaf))))))))))
theorem G_ref35_Check.body_eq : Tryz.f15.body = some G_ref35_Check.body := by kernel_rfl
theorem G_ref35_Check.dist : noTwice (places G_ref35_Check.ann G_ref35_Check.body) = true := by kernel_rfl
noncomputable def G_ref35_Check.J (Q : AV → AHeap → Prop) : JT := funJ prog C Tryz.f15 G_ref35_Check.ann G_ref35_Check.body Q
theorem G_ref35_Check.goR {Q : AV → AHeap → Prop} {k : Nat} {p : List Nat} (hl : lookJ (places G_ref35_Check.ann G_ref35_Check.body) k = some (p, false)) {e : Env} {h : AHeap} (hk : atJ prog C 153 (G_ref35_Check.J Q) false p G_ref35_Check.ann G_ref35_Check.body e h (kFun prog Tryz.f15 Q)) : G_ref35_Check.J Q k e h := goJ_run (P := prog) (fn := Tryz.f15) (ann := G_ref35_Check.ann) (body := G_ref35_Check.body) (Q := Q) (k := k) (p := p) (e := e) (h := h) (acall_le X) G_ref35_Check.dist hl hk
theorem G_ref35_Check.goH {Q : AV → AHeap → Prop} {k : Nat} {p : List Nat} (hl : lookJ (places G_ref35_Check.ann G_ref35_Check.body) k = some (p, true)) {e : Env} {h : AHeap} (hk : atJ prog C 153 (G_ref35_Check.J Q) true p G_ref35_Check.ann G_ref35_Check.body e h (kFun prog Tryz.f15 Q)) : G_ref35_Check.J Q k e h := goJ_head (P := prog) (fn := Tryz.f15) (ann := G_ref35_Check.ann) (body := G_ref35_Check.body) (Q := Q) (k := k) (p := p) (e := e) (h := h) (acall_le X) G_ref35_Check.dist hl hk
def G_ref35_Check.p4 (Q : AV → AHeap → Prop) (x0 : AV) (x1 : List UInt8) (x2 : Int) (x3 : AV) (x9 : AV) (x10 : Int) (x11 : AV) (h : AHeap) : Prop := G_ref35_Check.J Q 5 [(0, x0), (1, (AV.s x1)), (2, (AV.i .i64 x2)), (3, x3), (9, x9), (10, (AV.i .i64 x10)), (11, x11)] h
theorem G_ref35_Check.j4 (Q : AV → AHeap → Prop) (x0 : AV) (x1 : List UInt8) (x2 : Int) (x3 : AV) (x9 : AV) (x10 : Int) (x11 : AV) (h : AHeap) : G_ref35_Check.J Q 5 [(0, x0), (1, (AV.s x1)), (2, (AV.i .i64 x2)), (3, x3), (9, x9), (10, (AV.i .i64 x10)), (11, x11)] h = G_ref35_Check.p4 Q x0 x1 x2 x3 x9 x10 x11 h := rfl
def G_ref35_Check.p3 (Q : AV → AHeap → Prop) (x0 : AV) (x1 : List UInt8) (x2 : Int) (x3 : AV) (x9 : AV) (x10 : Int) (x11 : AV) (h : AHeap) : Prop := G_ref35_Check.J Q 4 [(0, x0), (1, (AV.s x1)), (2, (AV.i .i64 x2)), (3, x3), (9, x9), (10, (AV.i .i64 x10)), (11, x11)] h
theorem G_ref35_Check.j3 (Q : AV → AHeap → Prop) (x0 : AV) (x1 : List UInt8) (x2 : Int) (x3 : AV) (x9 : AV) (x10 : Int) (x11 : AV) (h : AHeap) : G_ref35_Check.J Q 4 [(0, x0), (1, (AV.s x1)), (2, (AV.i .i64 x2)), (3, x3), (9, x9), (10, (AV.i .i64 x10)), (11, x11)] h = G_ref35_Check.p3 Q x0 x1 x2 x3 x9 x10 x11 h := rfl
def G_ref35_Check.p2 (Q : AV → AHeap → Prop) (x0 : AV) (x1 : List UInt8) (x2 : Int) (x3 : AV) (x9 : AV) (x10 : Int) (x11 : AV) (h : AHeap) : Prop := G_ref35_Check.J Q 3 [(0, x0), (1, (AV.s x1)), (2, (AV.i .i64 x2)), (3, x3), (9, x9), (10, (AV.i .i64 x10)), (11, x11)] h
theorem G_ref35_Check.j2 (Q : AV → AHeap → Prop) (x0 : AV) (x1 : List UInt8) (x2 : Int) (x3 : AV) (x9 : AV) (x10 : Int) (x11 : AV) (h : AHeap) : G_ref35_Check.J Q 3 [(0, x0), (1, (AV.s x1)), (2, (AV.i .i64 x2)), (3, x3), (9, x9), (10, (AV.i .i64 x10)), (11, x11)] h = G_ref35_Check.p2 Q x0 x1 x2 x3 x9 x10 x11 h := rfl
def G_ref35_Check.p1 (Q : AV → AHeap → Prop) (x0 : AV) (x1 : List UInt8) (x2 : Int) (x3 : AV) (x9 : AV) (x10 : Int) (x11 : AV) (h : AHeap) : Prop := G_ref35_Check.J Q 2 [(0, x0), (1, (AV.s x1)), (2, (AV.i .i64 x2)), (3, x3), (9, x9), (10, (AV.i .i64 x10)), (11, x11)] h
theorem G_ref35_Check.j1 (Q : AV → AHeap → Prop) (x0 : AV) (x1 : List UInt8) (x2 : Int) (x3 : AV) (x9 : AV) (x10 : Int) (x11 : AV) (h : AHeap) : G_ref35_Check.J Q 2 [(0, x0), (1, (AV.s x1)), (2, (AV.i .i64 x2)), (3, x3), (9, x9), (10, (AV.i .i64 x10)), (11, x11)] h = G_ref35_Check.p1 Q x0 x1 x2 x3 x9 x10 x11 h := rfl
def G_ref35_Check.p5 (Q : AV → AHeap → Prop) (x0 : AV) (x1 : List UInt8) (x2 : Int) (x3 : AV) (x9 : AV) (x10 : Int) (h : AHeap) : Prop := G_ref35_Check.J Q 6 [(0, x0), (1, (AV.s x1)), (2, (AV.i .i64 x2)), (3, x3), (9, x9), (10, (AV.i .i64 x10))] h
theorem G_ref35_Check.j5 (Q : AV → AHeap → Prop) (x0 : AV) (x1 : List UInt8) (x2 : Int) (x3 : AV) (x9 : AV) (x10 : Int) (h : AHeap) : G_ref35_Check.J Q 6 [(0, x0), (1, (AV.s x1)), (2, (AV.i .i64 x2)), (3, x3), (9, x9), (10, (AV.i .i64 x10))] h = G_ref35_Check.p5 Q x0 x1 x2 x3 x9 x10 h := rfl
def G_ref35_Check.p0 (Q : AV → AHeap → Prop) (x0 : AV) (x1 : List UInt8) (x2 : Int) (x3 : AV) (x9 : AV) (x10 : Int) (h : AHeap) : Prop := G_ref35_Check.J Q 1 [(0, x0), (1, (AV.s x1)), (2, (AV.i .i64 x2)), (3, x3), (9, x9), (10, (AV.i .i64 x10))] h
theorem G_ref35_Check.j0 (Q : AV → AHeap → Prop) (x0 : AV) (x1 : List UInt8) (x2 : Int) (x3 : AV) (x9 : AV) (x10 : Int) (h : AHeap) : G_ref35_Check.J Q 1 [(0, x0), (1, (AV.s x1)), (2, (AV.i .i64 x2)), (3, x3), (9, x9), (10, (AV.i .i64 x10))] h = G_ref35_Check.p0 Q x0 x1 x2 x3 x9 x10 h := rfl
def G_ref35_Check.p9 (Q : AV → AHeap → Prop) (x9 : AV) (x13 : AV) (x14 : Int) (h : AHeap) : Prop := G_ref35_Check.J Q 10 [(9, x9), (13, x13), (14, (AV.i .i64 x14))] h
theorem G_ref35_Check.j9 (Q : AV → AHeap → Prop) (x9 : AV) (x13 : AV) (x14 : Int) (h : AHeap) : G_ref35_Check.J Q 10 [(9, x9), (13, x13), (14, (AV.i .i64 x14))] h = G_ref35_Check.p9 Q x9 x13 x14 h := rfl
def G_ref35_Check.p8 (Q : AV → AHeap → Prop) (x9 : AV) (x13 : AV) (x14 : Int) (h : AHeap) : Prop := G_ref35_Check.J Q 9 [(9, x9), (13, x13), (14, (AV.i .i64 x14))] h
theorem G_ref35_Check.j8 (Q : AV → AHeap → Prop) (x9 : AV) (x13 : AV) (x14 : Int) (h : AHeap) : G_ref35_Check.J Q 9 [(9, x9), (13, x13), (14, (AV.i .i64 x14))] h = G_ref35_Check.p8 Q x9 x13 x14 h := rfl
def G_ref35_Check.p7 (Q : AV → AHeap → Prop) (x9 : AV) (h : AHeap) : Prop := G_ref35_Check.J Q 8 [(9, x9)] h
theorem G_ref35_Check.j7 (Q : AV → AHeap → Prop) (x9 : AV) (h : AHeap) : G_ref35_Check.J Q 8 [(9, x9)] h = G_ref35_Check.p7 Q x9 h := rfl
def G_ref35_Check.p6 (Q : AV → AHeap → Prop) (x3 : AV) (x9 : AV) (x12 : AV) (h : AHeap) : Prop := G_ref35_Check.J Q 7 [(3, x3), (9, x9), (12, x12)] h
theorem G_ref35_Check.j6 (Q : AV → AHeap → Prop) (x3 : AV) (x9 : AV) (x12 : AV) (h : AHeap) : G_ref35_Check.J Q 7 [(3, x3), (9, x9), (12, x12)] h = G_ref35_Check.p6 Q x3 x9 x12 h := rfl
def G_ref35_Check.t4 (J : JT) (Q : AV → AHeap → Prop) (x0 : AV) (x1 : List UInt8) (x2 : Int) (x3 : AV) (x9 : AV) (x10 : Int) (x11 : AV) (h : AHeap) : Prop :=
pIdxAddrSl 1 x9 (AV.i .i64 6) h fun v82 =>
pLoad1 v82 h fun v83 =>
asB v83 fun c84 =>
(bif c84 then
(pIdxAddrSl 1 x9 (AV.i .i64 6) h fun v85 =>
pStore 1 v85 (AV.b true) h fun h86 =>
J 6 [(0, x0), (1, (AV.s x1)), (2, (AV.i .i64 x2)), (3, x3), (9, x9), (10, (AV.i .i64 x10))] h86)
else
(withI (IntKind.wrap .i64 (x10 + 1)) fun n88 =>
pLenSl x0 fun n89 =>
(bif (decide ((n88 : Int) < n89)) then
(pFieldAddr 1 x11 fun v90 =>
pLoad1 v90 h fun v91 =>
asS v91 fun l92 =>
withI (IntKind.wrap .i64 (x10 + 1)) fun n93 =>
pIdxAddrSl 8 x0 (AV.i .i64 n93) h fun v94 =>
pFieldAddr 2 v94 fun v95 =>
pLoad1 v95 h fun v96 =>
asS v96 fun l97 =>
pIdxAddrSl 1 x9 (AV.i .i64 6) h fun v98 =>
pStore 1 v98 (AV.b (!(decide ((l92 : List UInt8) = l97)))) h fun h99 =>
J 6 [(0, x0), (1, (AV.s x1)), (2, (AV.i .i64 x2)), (3, x3), (9, x9), (10, (AV.i .i64 x10))] h99)
else
(pIdxAddrSl 1 x9 (AV.i .i64 6) h fun v101 =>
pStore 1 v101 (AV.b false) h fun h102 =>
J 6 [(0, x0), (1, (AV.s x1)), (2, (AV.i .i64 x2)), (3, x3), (9, x9), (10, (AV.i .i64 x10))] h102))))
theorem G_ref35_Check.t4_eq (J : JT) (Q : AV → AHeap → Prop) (x0 : AV) (x1 : List UInt8) (x2 : Int) (x3 : AV) (x9 : AV) (x10 : Int) (x11 : AV) (h : AHeap) : G_ref35_Check.t4 J Q x0 x1 x2 x3 x9 x10 x11 h = atJ prog C 153 J false [1, 1, 1, 0, 1, 0, 0, 1, 0, 0, 1, 1, 1, 1, 1] G_ref35_Check.ann G_ref35_Check.body [(0, x0), (1, (AV.s x1)), (2, (AV.i .i64 x2)), (3, x3), (9, x9), (10, (AV.i .i64 x10)), (11, x11)] h (kFun prog Tryz.f15 Q) := by kernel_rfl
theorem G_ref35_Check.i4 {Q : AV → AHeap → Prop} {x0 : AV} {x1 : List UInt8} {x2 : Int} {x3 : AV} {x9 : AV} {x10 : Int} {x11 : AV} {h : AHeap} (H : G_ref35_Check.t4 (G_ref35_Check.J Q) Q x0 x1 x2 x3 x9 x10 x11 h) : G_ref35_Check.p4 Q x0 x1 x2 x3 x9 x10 x11 h := G_ref35_Check.goR (k := 5) (p := [1, 1, 1, 0, 1, 0, 0, 1, 0, 0, 1, 1, 1, 1, 1]) (by kernel_rfl) ((G_ref35_Check.t4_eq (G_ref35_Check.J Q) Q x0 x1 x2 x3 x9 x10 x11 h).mp H)
def G_ref35_Check.t3 (J : JT) (Q : AV → AHeap → Prop) (x0 : AV) (x1 : List UInt8) (x2 : Int) (x3 : AV) (x9 : AV) (x10 : Int) (x11 : AV) (h : AHeap) : Prop :=
pIdxAddrSl 1 x9 (AV.i .i64 7) h fun v67 =>
pLoad1 v67 h fun v68 =>
asB v68 fun c69 =>
(bif c69 then
(pIdxAddrSl 1 x9 (AV.i .i64 7) h fun v70 =>
pStore 1 v70 (AV.b true) h fun h71 =>
J 5 [(0, x0), (1, (AV.s x1)), (2, (AV.i .i64 x2)), (3, x3), (9, x9), (10, (AV.i .i64 x10)), (11, x11)] h71)
else
((bif (decide ((0 : Int) < x10)) then
(pFieldAddr 6 x11 fun v73 =>
pLoad1 v73 h fun v74 =>
asB v74 fun c75 =>
pIdxAddrSl 1 x9 (AV.i .i64 7) h fun v76 =>
pStore 1 v76 (AV.b (!c75)) h fun h77 =>
J 5 [(0, x0), (1, (AV.s x1)), (2, (AV.i .i64 x2)), (3, x3), (9, x9), (10, (AV.i .i64 x10)), (11, x11)] h77)
else
(pIdxAddrSl 1 x9 (AV.i .i64 7) h fun v79 =>
pStore 1 v79 (AV.b false) h fun h80 =>
J 5 [(0, x0), (1, (AV.s x1)), (2, (AV.i .i64 x2)), (3, x3), (9, x9), (10, (AV.i .i64 x10)), (11, x11)] h80))))
theorem G_ref35_Check.t3_eq (J : JT) (Q : AV → AHeap → Prop) (x0 : AV) (x1 : List UInt8) (x2 : Int) (x3 : AV) (x9 : AV) (x10 : Int) (x11 : AV) (h : AHeap) : G_ref35_Check.t3 J Q x0 x1 x2 x3 x9 x10 x11 h = atJ prog C 153 J false [1, 1, 1, 0, 1, 0, 0, 1, 0, 0, 1, 1, 1, 1] G_ref35_Check.ann G_ref35_Check.body [(0, x0), (1, (AV.s x1)), (2, (AV.i .i64 x2)), (3, x3), (9, x9), (10, (AV.i .i64 x10)), (11, x11)] h (kFun prog Tryz.f15 Q) := by kernel_rfl
theorem G_ref35_Check.i3 {Q : AV → AHeap → Prop} {x0 : AV} {x1 : List UInt8} {x2 : Int} {x3 : AV} {x9 : AV} {x10 : Int} {x11 : AV} {h : AHeap} (H : G_ref35_Check.t3 (G_ref35_Check.J Q) Q x0 x1 x2 x3 x9 x10 x11 h) : G_ref35_Check.p3 Q x0 x1 x2 x3 x9 x10 x11 h := G_ref35_Check.goR (k := 4) (p := [1, 1, 1, 0, 1, 0, 0, 1, 0, 0, 1, 1, 1, 1]) (by kernel_rfl) ((G_ref35_Check.t3_eq (G_ref35_Check.J Q) Q x0 x1 x2 x3 x9 x10 x11 h).mp H)
def G_ref35_Check.t2 (J : JT) (Q : AV → AHeap → Prop) (x0 : AV) (x1 : List UInt8) (x2 : Int) (x3 : AV) (x9 : AV) (x10 : Int) (x11 : AV) (h : AHeap) : Prop :=
pIdxAddrSl 1 x9 (AV.i .i64 4) h fun v45 =>
pLoad1 v45 h fun v46 =>
asB v46 fun c47 =>
(bif c47 then
(pIdxAddrSl 1 x9 (AV.i .i64 4) h fun v48 =>
pStore 1 v48 (AV.b true) h fun h49 =>
J 4 [(0, x0), (1, (AV.s x1)), (2, (AV.i .i64 x2)), (3, x3), (9, x9), (10, (AV.i .i64 x10)), (11, x11)] h49)
else
(pFieldAddr 1 x11 fun v51 =>
pLoad1 v51 h fun v52 =>
asS v52 fun l53 =>
pFieldAddr 2 x11 fun v54 =>
pLoad1 v54 h fun v55 =>
asS v55 fun l56 =>
(bif (decide ((l53 : List UInt8) = l56)) then
(pLoadN 8 x11 h fun v57 =>
C G_ref35_trusts.id [x3, v57] h fun v58 h59 =>
asB v58 fun c60 =>
pIdxAddrSl 1 x9 (AV.i .i64 4) h59 fun v61 =>
pStore 1 v61 (AV.b (!c60)) h59 fun h62 =>
J 4 [(0, x0), (1, (AV.s x1)), (2, (AV.i .i64 x2)), (3, x3), (9, x9), (10, (AV.i .i64 x10)), (11, x11)] h62)
else
(pIdxAddrSl 1 x9 (AV.i .i64 4) h fun v64 =>
pStore 1 v64 (AV.b false) h fun h65 =>
J 4 [(0, x0), (1, (AV.s x1)), (2, (AV.i .i64 x2)), (3, x3), (9, x9), (10, (AV.i .i64 x10)), (11, x11)] h65))))
theorem G_ref35_Check.t2_eq (J : JT) (Q : AV → AHeap → Prop) (x0 : AV) (x1 : List UInt8) (x2 : Int) (x3 : AV) (x9 : AV) (x10 : Int) (x11 : AV) (h : AHeap) : G_ref35_Check.t2 J Q x0 x1 x2 x3 x9 x10 x11 h = atJ prog C 153 J false [1, 1, 1, 0, 1, 0, 0, 1, 0, 0, 1, 1, 1] G_ref35_Check.ann G_ref35_Check.body [(0, x0), (1, (AV.s x1)), (2, (AV.i .i64 x2)), (3, x3), (9, x9), (10, (AV.i .i64 x10)), (11, x11)] h (kFun prog Tryz.f15 Q) := by kernel_rfl
theorem G_ref35_Check.i2 {Q : AV → AHeap → Prop} {x0 : AV} {x1 : List UInt8} {x2 : Int} {x3 : AV} {x9 : AV} {x10 : Int} {x11 : AV} {h : AHeap} (H : G_ref35_Check.t2 (G_ref35_Check.J Q) Q x0 x1 x2 x3 x9 x10 x11 h) : G_ref35_Check.p2 Q x0 x1 x2 x3 x9 x10 x11 h := G_ref35_Check.goR (k := 3) (p := [1, 1, 1, 0, 1, 0, 0, 1, 0, 0, 1, 1, 1]) (by kernel_rfl) ((G_ref35_Check.t2_eq (G_ref35_Check.J Q) Q x0 x1 x2 x3 x9 x10 x11 h).mp H)
def G_ref35_Check.t1 (J : JT) (Q : AV → AHeap → Prop) (x0 : AV) (x1 : List UInt8) (x2 : Int) (x3 : AV) (x9 : AV) (x10 : Int) (x11 : AV) (h : AHeap) : Prop :=
pIdxAddrSl 1 x9 (AV.i .i64 2) h fun v33 =>
pLoad1 v33 h fun v34 =>
asB v34 fun c35 =>
(bif c35 then
(pIdxAddrSl 1 x9 (AV.i .i64 2) h fun v36 =>
pStore 1 v36 (AV.b true) h fun h37 =>
J 3 [(0, x0), (1, (AV.s x1)), (2, (AV.i .i64 x2)), (3, x3), (9, x9), (10, (AV.i .i64 x10)), (11, x11)] h37)
else
(pFieldAddr 3 x11 fun v39 =>
pLoad1 v39 h fun v40 =>
asI .i64 v40 fun n41 =>
pIdxAddrSl 1 x9 (AV.i .i64 2) h fun v42 =>
pStore 1 v42 (AV.b (decide ((x2 : Int) < n41))) h fun h43 =>
J 3 [(0, x0), (1, (AV.s x1)), (2, (AV.i .i64 x2)), (3, x3), (9, x9), (10, (AV.i .i64 x10)), (11, x11)] h43))
theorem G_ref35_Check.t1_eq (J : JT) (Q : AV → AHeap → Prop) (x0 : AV) (x1 : List UInt8) (x2 : Int) (x3 : AV) (x9 : AV) (x10 : Int) (x11 : AV) (h : AHeap) : G_ref35_Check.t1 J Q x0 x1 x2 x3 x9 x10 x11 h = atJ prog C 153 J false [1, 1, 1, 0, 1, 0, 0, 1, 0, 0, 1, 1] G_ref35_Check.ann G_ref35_Check.body [(0, x0), (1, (AV.s x1)), (2, (AV.i .i64 x2)), (3, x3), (9, x9), (10, (AV.i .i64 x10)), (11, x11)] h (kFun prog Tryz.f15 Q) := by kernel_rfl
theorem G_ref35_Check.i1 {Q : AV → AHeap → Prop} {x0 : AV} {x1 : List UInt8} {x2 : Int} {x3 : AV} {x9 : AV} {x10 : Int} {x11 : AV} {h : AHeap} (H : G_ref35_Check.t1 (G_ref35_Check.J Q) Q x0 x1 x2 x3 x9 x10 x11 h) : G_ref35_Check.p1 Q x0 x1 x2 x3 x9 x10 x11 h := G_ref35_Check.goR (k := 2) (p := [1, 1, 1, 0, 1, 0, 0, 1, 0, 0, 1, 1]) (by kernel_rfl) ((G_ref35_Check.t1_eq (G_ref35_Check.J Q) Q x0 x1 x2 x3 x9 x10 x11 h).mp H)
def G_ref35_Check.t5 (J : JT) (Q : AV → AHeap → Prop) (x0 : AV) (x1 : List UInt8) (x2 : Int) (x3 : AV) (x9 : AV) (x10 : Int) (h : AHeap) : Prop :=
withI (IntKind.wrap .i64 (x10 + 1)) fun n104 =>
J 1 [(0, x0), (1, (AV.s x1)), (2, (AV.i .i64 x2)), (3, x3), (9, x9), (10, (AV.i .i64 n104))] h
theorem G_ref35_Check.t5_eq (J : JT) (Q : AV → AHeap → Prop) (x0 : AV) (x1 : List UInt8) (x2 : Int) (x3 : AV) (x9 : AV) (x10 : Int) (h : AHeap) : G_ref35_Check.t5 J Q x0 x1 x2 x3 x9 x10 h = atJ prog C 153 J false [1, 1, 1, 0, 1, 0, 0, 1, 1] G_ref35_Check.ann G_ref35_Check.body [(0, x0), (1, (AV.s x1)), (2, (AV.i .i64 x2)), (3, x3), (9, x9), (10, (AV.i .i64 x10))] h (kFun prog Tryz.f15 Q) := by kernel_rfl
theorem G_ref35_Check.i5 {Q : AV → AHeap → Prop} {x0 : AV} {x1 : List UInt8} {x2 : Int} {x3 : AV} {x9 : AV} {x10 : Int} {h : AHeap} (H : G_ref35_Check.t5 (G_ref35_Check.J Q) Q x0 x1 x2 x3 x9 x10 h) : G_ref35_Check.p5 Q x0 x1 x2 x3 x9 x10 h := G_ref35_Check.goR (k := 6) (p := [1, 1, 1, 0, 1, 0, 0, 1, 1]) (by kernel_rfl) ((G_ref35_Check.t5_eq (G_ref35_Check.J Q) Q x0 x1 x2 x3 x9 x10 h).mp H)
def G_ref35_Check.t0 (J : JT) (Q : AV → AHeap → Prop) (x0 : AV) (x1 : List UInt8) (x2 : Int) (x3 : AV) (x9 : AV) (x10 : Int) (h : AHeap) : Prop :=
pLenSl x0 fun n11 =>
(bif (decide ((x10 : Int) < n11)) then
(pIdxAddrSl 8 x0 (AV.i .i64 x10) h fun v15 =>
pLoadN 8 v15 h fun v16 =>
pAlloc (some 36) [(AV.s []), (AV.s []), (AV.s []), (AV.i .i64 0), (AV.i .i64 0), (AV.sl none 0 none), (AV.b false), (AV.s [])] h fun v17 h18 =>
pStore 8 v17 v16 h18 fun h19 =>
pIdxAddrSl 1 x9 (AV.i .i64 1) h19 fun v21 =>
pLoad1 v21 h19 fun v22 =>
asB v22 fun c23 =>
(bif c23 then
(pIdxAddrSl 1 x9 (AV.i .i64 1) h19 fun v24 =>
pStore 1 v24 (AV.b true) h19 fun h25 =>
J 2 [(0, x0), (1, (AV.s x1)), (2, (AV.i .i64 x2)), (3, x3), (9, x9), (10, (AV.i .i64 x10)), (11, v17)] h25)
else
(pFieldAddr 4 v17 fun v27 =>
pLoad1 v27 h19 fun v28 =>
asI .i64 v28 fun n29 =>
pIdxAddrSl 1 x9 (AV.i .i64 1) h19 fun v30 =>
pStore 1 v30 (AV.b (decide ((n29 : Int) < x2))) h19 fun h31 =>
J 2 [(0, x0), (1, (AV.s x1)), (2, (AV.i .i64 x2)), (3, x3), (9, x9), (10, (AV.i .i64 x10)), (11, v17)] h31)))
else
(pLenSl x0 fun n106 =>
withI (IntKind.wrap .i64 (n106 - 1)) fun n107 =>
pIdxAddrSl 8 x0 (AV.i .i64 n107) h fun v108 =>
pLoadN 8 v108 h fun v109 =>
pAlloc (some 36) [(AV.s []), (AV.s []), (AV.s []), (AV.i .i64 0), (AV.i .i64 0), (AV.sl none 0 none), (AV.b false), (AV.s [])] h fun v110 h111 =>
pStore 8 v110 v109 h111 fun h112 =>
(bif (!(decide ((x1 : List UInt8) = []))) then
(pIdxAddrSl 8 x0 (AV.i .i64 0) h112 fun v114 =>
pLoadN 8 v114 h112 fun v115 =>
C G_ref35_named.id [v115, (AV.s x1)] h112 fun v116 h117 =>
asB v116 fun c118 =>
pIdxAddrSl 1 x9 (AV.i .i64 3) h117 fun v119 =>
pStore 1 v119 (AV.b (!c118)) h117 fun h120 =>
J 7 [(3, x3), (9, x9), (12, v110)] h120)
else
(pIdxAddrSl 1 x9 (AV.i .i64 3) h112 fun v122 =>
pStore 1 v122 (AV.b false) h112 fun h123 =>
J 7 [(3, x3), (9, x9), (12, v110)] h123))))
theorem G_ref35_Check.t0_eq (J : JT) (Q : AV → AHeap → Prop) (x0 : AV) (x1 : List UInt8) (x2 : Int) (x3 : AV) (x9 : AV) (x10 : Int) (h : AHeap) : G_ref35_Check.t0 J Q x0 x1 x2 x3 x9 x10 h = atJ prog C 153 J true [1, 1, 1, 0, 1, 0] G_ref35_Check.ann G_ref35_Check.body [(0, x0), (1, (AV.s x1)), (2, (AV.i .i64 x2)), (3, x3), (9, x9), (10, (AV.i .i64 x10))] h (kFun prog Tryz.f15 Q) := by kernel_rfl
theorem G_ref35_Check.i0 {Q : AV → AHeap → Prop} {x0 : AV} {x1 : List UInt8} {x2 : Int} {x3 : AV} {x9 : AV} {x10 : Int} {h : AHeap} (H : G_ref35_Check.t0 (G_ref35_Check.J Q) Q x0 x1 x2 x3 x9 x10 h) : G_ref35_Check.p0 Q x0 x1 x2 x3 x9 x10 h := G_ref35_Check.goH (k := 1) (p := [1, 1, 1, 0, 1, 0]) (by kernel_rfl) ((G_ref35_Check.t0_eq (G_ref35_Check.J Q) Q x0 x1 x2 x3 x9 x10 h).mp H)
def G_ref35_Check.t9 (J : JT) (Q : AV → AHeap → Prop) (x9 : AV) (x13 : AV) (x14 : Int) (h : AHeap) : Prop :=
withI (IntKind.wrap .i64 (x14 + 1)) fun n157 =>
J 9 [(9, x9), (13, x13), (14, (AV.i .i64 n157))] h
theorem G_ref35_Check.t9_eq (J : JT) (Q : AV → AHeap → Prop) (x9 : AV) (x13 : AV) (x14 : Int) (h : AHeap) : G_ref35_Check.t9 J Q x9 x13 x14 h = atJ prog C 153 J false [1, 1, 1, 1, 1, 1, 1, 1, 0, 1, 0, 0, 1, 1] G_ref35_Check.ann G_ref35_Check.body [(9, x9), (13, x13), (14, (AV.i .i64 x14))] h (kFun prog Tryz.f15 Q) := by kernel_rfl
theorem G_ref35_Check.i9 {Q : AV → AHeap → Prop} {x9 : AV} {x13 : AV} {x14 : Int} {h : AHeap} (H : G_ref35_Check.t9 (G_ref35_Check.J Q) Q x9 x13 x14 h) : G_ref35_Check.p9 Q x9 x13 x14 h := G_ref35_Check.goR (k := 10) (p := [1, 1, 1, 1, 1, 1, 1, 1, 0, 1, 0, 0, 1, 1]) (by kernel_rfl) ((G_ref35_Check.t9_eq (G_ref35_Check.J Q) Q x9 x13 x14 h).mp H)
def G_ref35_Check.t8 (J : JT) (Q : AV → AHeap → Prop) (x9 : AV) (x13 : AV) (x14 : Int) (h : AHeap) : Prop :=
pLenSl x9 fun n143 =>
(bif (decide ((x14 : Int) < n143)) then
(pIdxAddrSl 1 x9 (AV.i .i64 x14) h fun v147 =>
pLoad1 v147 h fun v148 =>
asB v148 fun c149 =>
(bif c149 then
(pBuildSl 1 1 [(AV.i .i64 0)] [(0, 1, (AV.i .i64 x14))] h fun v151 h152 =>
pAppend none 1 8 x13 v151 h152 fun v153 h154 =>
J 10 [(9, x9), (13, v153), (14, (AV.i .i64 x14))] h154)
else
(J 10 [(9, x9), (13, x13), (14, (AV.i .i64 x14))] h)))
else
(Q x13 h))
theorem G_ref35_Check.t8_eq (J : JT) (Q : AV → AHeap → Prop) (x9 : AV) (x13 : AV) (x14 : Int) (h : AHeap) : G_ref35_Check.t8 J Q x9 x13 x14 h = atJ prog C 153 J true [1, 1, 1, 1, 1, 1, 1, 1, 0, 1, 0] G_ref35_Check.ann G_ref35_Check.body [(9, x9), (13, x13), (14, (AV.i .i64 x14))] h (kFun prog Tryz.f15 Q) := by kernel_rfl
theorem G_ref35_Check.i8 {Q : AV → AHeap → Prop} {x9 : AV} {x13 : AV} {x14 : Int} {h : AHeap} (H : G_ref35_Check.t8 (G_ref35_Check.J Q) Q x9 x13 x14 h) : G_ref35_Check.p8 Q x9 x13 x14 h := G_ref35_Check.goH (k := 9) (p := [1, 1, 1, 1, 1, 1, 1, 1, 0, 1, 0]) (by kernel_rfl) ((G_ref35_Check.t8_eq (G_ref35_Check.J Q) Q x9 x13 x14 h).mp H)
def G_ref35_Check.t7 (J : JT) (Q : AV → AHeap → Prop) (x9 : AV) (h : AHeap) : Prop :=
pBuildSl 1 0 [] [] h fun v139 h140 =>
J 9 [(9, x9), (13, v139), (14, (AV.i .i64 0))] h140
theorem G_ref35_Check.t7_eq (J : JT) (Q : AV → AHeap → Prop) (x9 : AV) (h : AHeap) : G_ref35_Check.t7 J Q x9 h = atJ prog C 153 J false [1, 1, 1, 1, 1, 1, 1] G_ref35_Check.ann G_ref35_Check.body [(9, x9)] h (kFun prog Tryz.f15 Q) := by kernel_rfl
theorem G_ref35_Check.i7 {Q : AV → AHeap → Prop} {x9 : AV} {h : AHeap} (H : G_ref35_Check.t7 (G_ref35_Check.J Q) Q x9 h) : G_ref35_Check.p7 Q x9 h := G_ref35_Check.goR (k := 8) (p := [1, 1, 1, 1, 1, 1, 1]) (by kernel_rfl) ((G_ref35_Check.t7_eq (G_ref35_Check.J Q) Q x9 h).mp H)
def G_ref35_Check.t6 (J : JT) (Q : AV → AHeap → Prop) (x3 : AV) (x9 : AV) (x12 : AV) (h : AHeap) : Prop :=
pLoadN 8 x12 h fun v125 =>
C G_ref35_trusts.id [x3, v125] h fun v126 h127 =>
asB v126 fun c128 =>
(bif (!c128) then
(pLoadN 8 x12 h127 fun v129 =>
C G_ref35_issued.id [x3, v129] h127 fun v130 h131 =>
asB v130 fun c132 =>
pIdxAddrSl 1 x9 (AV.i .i64 5) h131 fun v133 =>
pStore 1 v133 (AV.b (!c132)) h131 fun h134 =>
J 8 [(9, x9)] h134)
else
(pIdxAddrSl 1 x9 (AV.i .i64 5) h127 fun v136 =>
pStore 1 v136 (AV.b false) h127 fun h137 =>
J 8 [(9, x9)] h137))
theorem G_ref35_Check.t6_eq (J : JT) (Q : AV → AHeap → Prop) (x3 : AV) (x9 : AV) (x12 : AV) (h : AHeap) : G_ref35_Check.t6 J Q x3 x9 x12 h = atJ prog C 153 J false [1, 1, 1, 1, 1, 1] G_ref35_Check.ann G_ref35_Check.body [(3, x3), (9, x9), (12, x12)] h (kFun prog Tryz.f15 Q) := by kernel_rfl
theorem G_ref35_Check.i6 {Q : AV → AHeap → Prop} {x3 : AV} {x9 : AV} {x12 : AV} {h : AHeap} (H : G_ref35_Check.t6 (G_ref35_Check.J Q) Q x3 x9 x12 h) : G_ref35_Check.p6 Q x3 x9 x12 h := G_ref35_Check.goR (k := 7) (p := [1, 1, 1, 1, 1, 1]) (by kernel_rfl) ((G_ref35_Check.t6_eq (G_ref35_Check.J Q) Q x3 x9 x12 h).mp H)
def G_ref35_Check.t (J : JT) (Q : AV → AHeap → Prop) (x0 : AV) (x1 : List UInt8) (x2 : Int) (x3 : AV) (h : AHeap) : Prop :=
pLenSl x0 fun n1 =>
(bif (decide ((n1 : Int) = 0)) then
(pBuildSl 1 1 [(AV.i .i64 0)] [(0, 1, (AV.i .i64 5))] h fun v3 h4 =>
Q v3 h4)
else
(pMake 1 1 [(AV.b false)] (AV.i .i64 8) (AV.i .i64 8) h fun v7 h8 =>
J 1 [(0, x0), (1, (AV.s x1)), (2, (AV.i .i64 x2)), (3, x3), (9, v7), (10, (AV.i .i64 0))] h8))
theorem G_ref35_Check.t_eq (J : JT) (Q : AV → AHeap → Prop) (x0 : AV) (x1 : List UInt8) (x2 : Int) (x3 : AV) (h : AHeap) : G_ref35_Check.t J Q x0 x1 x2 x3 h = exJ prog C 153 J G_ref35_Check.ann G_ref35_Check.body (initEnv 0 [x0, (AV.s x1), (AV.i .i64 x2), x3]) h (kFun prog Tryz.f15 Q) := by kernel_rfl
theorem G_ref35_Check.call {K : AV → AHeap → Prop} {x0 : AV} {x1 : List UInt8} {x2 : Int} {x3 : AV} {h : AHeap} (H : G_ref35_Check.t (G_ref35_Check.J (kRet h K)) (kRet h K) x0 x1 x2 x3 h) : C G_ref35_Check.id [x0, (AV.s x1), (AV.i .i64 x2), x3] h K :=
  callJ (P := prog) (fn := Tryz.f15) (ann := G_ref35_Check.ann) (body := G_ref35_Check.body) Tryz.func15 G_ref35_Check.body_eq (by kernel_rfl) G_ref35_Check.dist (by kernel_rfl) ((G_ref35_Check.t_eq (G_ref35_Check.J (kRet h K)) (kRet h K) x0 x1 x2 x3 h).mp H)

--@@ G_certcheck_Text
/-! ### 16: intrusion/certcheck.Text -/
noncomputable def G_certcheck_Text.body : Code := (Tryz.f16.body).getD .skip
def G_certcheck_Text.ann : Ann := (.seq 0 [0] .leaf (.seq 0 [] (.seq 0 [3] .leaf (.one (.seq 0 [3, 4] .leaf (.br (.seq 0 [2] .leaf .leaf) (.seq 0 [3, 6] .leaf (.br (.seq 0 [2] .leaf .leaf) (.seq 0 [3, 8] .leaf (.br (.seq 0 [2] .leaf .leaf) (.seq 0 [3, 10] .leaf (.br (.seq 0 [2] .leaf .leaf) (.seq 0 [3, 12] .leaf (.br (.seq 0 [2] .leaf .leaf) (.seq 0 [3, 14] .leaf (.br (.seq 0 [2] .leaf .leaf) (.seq 0 [16] .leaf (.br (.seq 0 [2] .leaf .leaf) .leaf)))))))))))))))) (.seq 0 [2] .leaf .leaf)))
theorem G_certcheck_Text.body_eq : Tryz.f16.body = some G_certcheck_Text.body := by kernel_rfl
theorem G_certcheck_Text.dist : noTwice (places G_certcheck_Text.ann G_certcheck_Text.body) = true := by kernel_rfl
noncomputable def G_certcheck_Text.J (Q : AV → AHeap → Prop) : JT := funJ prog C Tryz.f16 G_certcheck_Text.ann G_certcheck_Text.body Q
theorem G_certcheck_Text.goR {Q : AV → AHeap → Prop} {k : Nat} {p : List Nat} (hl : lookJ (places G_certcheck_Text.ann G_certcheck_Text.body) k = some (p, false)) {e : Env} {h : AHeap} (hk : atJ prog C 18 (G_certcheck_Text.J Q) false p G_certcheck_Text.ann G_certcheck_Text.body e h (kFun prog Tryz.f16 Q)) : G_certcheck_Text.J Q k e h := goJ_run (P := prog) (fn := Tryz.f16) (ann := G_certcheck_Text.ann) (body := G_certcheck_Text.body) (Q := Q) (k := k) (p := p) (e := e) (h := h) (acall_le X) G_certcheck_Text.dist hl hk
theorem G_certcheck_Text.goH {Q : AV → AHeap → Prop} {k : Nat} {p : List Nat} (hl : lookJ (places G_certcheck_Text.ann G_certcheck_Text.body) k = some (p, true)) {e : Env} {h : AHeap} (hk : atJ prog C 18 (G_certcheck_Text.J Q) true p G_certcheck_Text.ann G_certcheck_Text.body e h (kFun prog Tryz.f16 Q)) : G_certcheck_Text.J Q k e h := goJ_head (P := prog) (fn := Tryz.f16) (ann := G_certcheck_Text.ann) (body := G_certcheck_Text.body) (Q := Q) (k := k) (p := p) (e := e) (h := h) (acall_le X) G_certcheck_Text.dist hl hk
def G_certcheck_Text.t (J : JT) (Q : AV → AHeap → Prop) (x0 : Int) (h : AHeap) : Prop :=
(bif (decide ((x0 : Int) = 1)) then
(Q (AV.s [101, 120, 112, 105, 114, 101, 100]) h)
else
((bif (decide ((x0 : Int) = 2)) then
(Q (AV.s [101, 97, 114, 108, 121]) h)
else
((bif (decide ((x0 : Int) = 3)) then
(Q (AV.s [110, 97, 109, 101]) h)
else
((bif (decide ((x0 : Int) = 4)) then
(Q (AV.s [115, 101, 108, 102]) h)
else
((bif (decide ((x0 : Int) = 5)) then
(Q (AV.s [117, 110, 116, 114, 117, 115, 116, 101, 100]) h)
else
((bif (decide ((x0 : Int) = 6)) then
(Q (AV.s [111, 114, 100, 101, 114]) h)
else
((bif (decide ((x0 : Int) = 7)) then
(Q (AV.s [97, 117, 116, 104, 111, 114, 105, 116, 121]) h)
else
(Q (AV.s []) h))))))))))))))
theorem G_certcheck_Text.t_eq (J : JT) (Q : AV → AHeap → Prop) (x0 : Int) (h : AHeap) : G_certcheck_Text.t J Q x0 h = exJ prog C 18 J G_certcheck_Text.ann G_certcheck_Text.body (initEnv 0 [(AV.i .i64 x0)]) h (kFun prog Tryz.f16 Q) := by kernel_rfl
theorem G_certcheck_Text.call {K : AV → AHeap → Prop} {x0 : Int} {h : AHeap} (H : G_certcheck_Text.t (G_certcheck_Text.J (kRet h K)) (kRet h K) x0 h) : C G_certcheck_Text.id [(AV.i .i64 x0)] h K :=
  callJ (P := prog) (fn := Tryz.f16) (ann := G_certcheck_Text.ann) (body := G_certcheck_Text.body) Tryz.func16 G_certcheck_Text.body_eq (by kernel_rfl) G_certcheck_Text.dist (by kernel_rfl) ((G_certcheck_Text.t_eq (G_certcheck_Text.J (kRet h K)) (kRet h K) x0 h).mp H)

--@@ G_ref35_Text
/-! ### 17: intrusion/intrusionref35.Text -/
noncomputable def G_ref35_Text.body : Code := (Tryz.f17.body).getD .skip
def G_ref35_Text.ann : Ann := (.seq 0 [0] .leaf (.seq 0 [] (.seq 0 [3] .leaf (.one (.seq 0 [3, 4] .leaf (.br (.seq 0 [2] .leaf .leaf) (.seq 0 [3, 6] .leaf (.br (.seq 0 [2] .leaf .leaf) (.seq 0 [3, 8] .leaf (.br (.seq 0 [2] .leaf .leaf) (.seq 0 [3, 10] .leaf (.br (.seq 0 [2] .leaf .leaf) (.seq 0 [3, 12] .leaf (.br (.seq 0 [2] .leaf .leaf) (.seq 0 [3, 14] .leaf (.br (.seq 0 [2] .leaf .leaf) (.seq 0 [16] .leaf (.br (.seq 0 [2] .leaf .leaf) .leaf)))))))))))))))) (.seq 0 [2] .leaf .leaf)))
theorem G_ref35_Text.body_eq : Tryz.f17.body = some G_ref35_Text.body := by kernel_rfl
theorem G_ref35_Text.dist : noTwice (places G_ref35_Text.ann G_ref35_Text.body) = true := by kernel_rfl
noncomputable def G_ref35_Text.J (Q : AV → AHeap → Prop) : JT := funJ prog C Tryz.f17 G_ref35_Text.ann G_ref35_Text.body Q
theorem G_ref35_Text.goR {Q : AV → AHeap → Prop} {k : Nat} {p : List Nat} (hl : lookJ (places G_ref35_Text.ann G_ref35_Text.body) k = some (p, false)) {e : Env} {h : AHeap} (hk : atJ prog C 18 (G_ref35_Text.J Q) false p G_ref35_Text.ann G_ref35_Text.body e h (kFun prog Tryz.f17 Q)) : G_ref35_Text.J Q k e h := goJ_run (P := prog) (fn := Tryz.f17) (ann := G_ref35_Text.ann) (body := G_ref35_Text.body) (Q := Q) (k := k) (p := p) (e := e) (h := h) (acall_le X) G_ref35_Text.dist hl hk
theorem G_ref35_Text.goH {Q : AV → AHeap → Prop} {k : Nat} {p : List Nat} (hl : lookJ (places G_ref35_Text.ann G_ref35_Text.body) k = some (p, true)) {e : Env} {h : AHeap} (hk : atJ prog C 18 (G_ref35_Text.J Q) true p G_ref35_Text.ann G_ref35_Text.body e h (kFun prog Tryz.f17 Q)) : G_ref35_Text.J Q k e h := goJ_head (P := prog) (fn := Tryz.f17) (ann := G_ref35_Text.ann) (body := G_ref35_Text.body) (Q := Q) (k := k) (p := p) (e := e) (h := h) (acall_le X) G_ref35_Text.dist hl hk
def G_ref35_Text.t (J : JT) (Q : AV → AHeap → Prop) (x0 : Int) (h : AHeap) : Prop :=
(bif (decide ((x0 : Int) = 1)) then
(Q (AV.s [101, 120, 112, 105, 114, 101, 100]) h)
else
((bif (decide ((x0 : Int) = 2)) then
(Q (AV.s [101, 97, 114, 108, 121]) h)
else
((bif (decide ((x0 : Int) = 3)) then
(Q (AV.s [110, 97, 109, 101]) h)
else
((bif (decide ((x0 : Int) = 4)) then
(Q (AV.s [115, 101, 108, 102]) h)
else
((bif (decide ((x0 : Int) = 5)) then
(Q (AV.s [117, 110, 116, 114, 117, 115, 116, 101, 100]) h)
else
((bif (decide ((x0 : Int) = 6)) then
(Q (AV.s [111, 114, 100, 101, 114]) h)
else
((bif (decide ((x0 : Int) = 7)) then
(Q (AV.s [97, 117, 116, 104, 111, 114, 105, 116, 121]) h)
else
(Q (AV.s []) h))))))))))))))
theorem G_ref35_Text.t_eq (J : JT) (Q : AV → AHeap → Prop) (x0 : Int) (h : AHeap) : G_ref35_Text.t J Q x0 h = exJ prog C 18 J G_ref35_Text.ann G_ref35_Text.body (initEnv 0 [(AV.i .i64 x0)]) h (kFun prog Tryz.f17 Q) := by kernel_rfl
theorem G_ref35_Text.call {K : AV → AHeap → Prop} {x0 : Int} {h : AHeap} (H : G_ref35_Text.t (G_ref35_Text.J (kRet h K)) (kRet h K) x0 h) : C G_ref35_Text.id [(AV.i .i64 x0)] h K :=
  callJ (P := prog) (fn := Tryz.f17) (ann := G_ref35_Text.ann) (body := G_ref35_Text.body) Tryz.func17 G_ref35_Text.body_eq (by kernel_rfl) G_ref35_Text.dist (by kernel_rfl) ((G_ref35_Text.t_eq (G_ref35_Text.J (kRet h K)) (kRet h K) x0 h).mp H)

--@@ G_law35_has
/-! ### 18: intrusion/intrusionlaw35.has -/
noncomputable def G_law35_has.body : Code := (Tryz.f18.body).getD .skip
def G_law35_has.ann : Ann := (.seq 0 [0, 1] .leaf (.seq 0 [] (.seq 0 [0, 1, 7, 8] .leaf (.one (.loop 1 [0, 1, 7, 8] (.seq 0 [0, 1, 7, 8, 9] .leaf (.seq 0 [0, 1, 7, 8] (.br .leaf .leaf) (.seq 0 [0, 1, 7, 8] (.one (.seq 0 [0, 1, 5, 7, 8] .leaf (.seq 0 [0, 1, 7, 8, 16] .leaf (.br (.seq 0 [4] .leaf .leaf) .leaf)))) .leaf)))))) (.seq 0 [4] .leaf .leaf)))
theorem G_law35_has.body_eq : Tryz.f18.body = some G_law35_has.body := by kernel_rfl
theorem G_law35_has.dist : noTwice (places G_law35_has.ann G_law35_has.body) = true := by kernel_rfl
noncomputable def G_law35_has.J (Q : AV → AHeap → Prop) : JT := funJ prog C Tryz.f18 G_law35_has.ann G_law35_has.body Q
theorem G_law35_has.goR {Q : AV → AHeap → Prop} {k : Nat} {p : List Nat} (hl : lookJ (places G_law35_has.ann G_law35_has.body) k = some (p, false)) {e : Env} {h : AHeap} (hk : atJ prog C 18 (G_law35_has.J Q) false p G_law35_has.ann G_law35_has.body e h (kFun prog Tryz.f18 Q)) : G_law35_has.J Q k e h := goJ_run (P := prog) (fn := Tryz.f18) (ann := G_law35_has.ann) (body := G_law35_has.body) (Q := Q) (k := k) (p := p) (e := e) (h := h) (acall_le X) G_law35_has.dist hl hk
theorem G_law35_has.goH {Q : AV → AHeap → Prop} {k : Nat} {p : List Nat} (hl : lookJ (places G_law35_has.ann G_law35_has.body) k = some (p, true)) {e : Env} {h : AHeap} (hk : atJ prog C 18 (G_law35_has.J Q) true p G_law35_has.ann G_law35_has.body e h (kFun prog Tryz.f18 Q)) : G_law35_has.J Q k e h := goJ_head (P := prog) (fn := Tryz.f18) (ann := G_law35_has.ann) (body := G_law35_has.body) (Q := Q) (k := k) (p := p) (e := e) (h := h) (acall_le X) G_law35_has.dist hl hk
def G_law35_has.p0 (Q : AV → AHeap → Prop) (x0 : AV) (x1 : Int) (x7 : Int) (x8 : Int) (h : AHeap) : Prop := G_law35_has.J Q 1 [(0, x0), (1, (AV.i .i64 x1)), (7, (AV.i .i64 x7)), (8, (AV.i .i64 x8))] h
theorem G_law35_has.j0 (Q : AV → AHeap → Prop) (x0 : AV) (x1 : Int) (x7 : Int) (x8 : Int) (h : AHeap) : G_law35_has.J Q 1 [(0, x0), (1, (AV.i .i64 x1)), (7, (AV.i .i64 x7)), (8, (AV.i .i64 x8))] h = G_law35_has.p0 Q x0 x1 x7 x8 h := rfl
def G_law35_has.t0 (J : JT) (Q : AV → AHeap → Prop) (x0 : AV) (x1 : Int) (x7 : Int) (x8 : Int) (h : AHeap) : Prop :=
(bif (decide ((x8 : Int) < x7)) then
(pIdxAddrSl 1 x0 (AV.i .i64 x8) h fun v7 =>
pLoad1 v7 h fun v8 =>
asI .i64 v8 fun n9 =>
(bif (decide ((n9 : Int) = x1)) then
(Q (AV.b true) h)
else
(withI (IntKind.wrap .i64 (x8 + 1)) fun n13 =>
J 1 [(0, x0), (1, (AV.i .i64 x1)), (7, (AV.i .i64 x7)), (8, (AV.i .i64 n13))] h)))
else
(Q (AV.b false) h))
theorem G_law35_has.t0_eq (J : JT) (Q : AV → AHeap → Prop) (x0 : AV) (x1 : Int) (x7 : Int) (x8 : Int) (h : AHeap) : G_law35_has.t0 J Q x0 x1 x7 x8 h = atJ prog C 18 J true [1, 0, 1, 0] G_law35_has.ann G_law35_has.body [(0, x0), (1, (AV.i .i64 x1)), (7, (AV.i .i64 x7)), (8, (AV.i .i64 x8))] h (kFun prog Tryz.f18 Q) := by kernel_rfl
theorem G_law35_has.i0 {Q : AV → AHeap → Prop} {x0 : AV} {x1 : Int} {x7 : Int} {x8 : Int} {h : AHeap} (H : G_law35_has.t0 (G_law35_has.J Q) Q x0 x1 x7 x8 h) : G_law35_has.p0 Q x0 x1 x7 x8 h := G_law35_has.goH (k := 1) (p := [1, 0, 1, 0]) (by kernel_rfl) ((G_law35_has.t0_eq (G_law35_has.J Q) Q x0 x1 x7 x8 h).mp H)
def G_law35_has.t (J : JT) (Q : AV → AHeap → Prop) (x0 : AV) (x1 : Int) (h : AHeap) : Prop :=
pLenSl x0 fun n1 =>
J 1 [(0, x0), (1, (AV.i .i64 x1)), (7, (AV.i .i64 n1)), (8, (AV.i .i64 0))] h
theorem G_law35_has.t_eq (J : JT) (Q : AV → AHeap → Prop) (x0 : AV) (x1 : Int) (h : AHeap) : G_law35_has.t J Q x0 x1 h = exJ prog C 18 J G_law35_has.ann G_law35_has.body (initEnv 0 [x0, (AV.i .i64 x1)]) h (kFun prog Tryz.f18 Q) := by kernel_rfl
theorem G_law35_has.call {K : AV → AHeap → Prop} {x0 : AV} {x1 : Int} {h : AHeap} (H : G_law35_has.t (G_law35_has.J (kRet h K)) (kRet h K) x0 x1 h) : C G_law35_has.id [x0, (AV.i .i64 x1)] h K :=
  callJ (P := prog) (fn := Tryz.f18) (ann := G_law35_has.ann) (body := G_law35_has.body) Tryz.func18 G_law35_has.body_eq (by kernel_rfl) G_law35_has.dist (by kernel_rfl) ((G_law35_has.t_eq (G_law35_has.J (kRet h K)) (kRet h K) x0 x1 h).mp H)

--@@ G_certcheck_small
/-! ### 19: intrusion/certcheck.small -/
noncomputable def G_certcheck_small.body : Code := (Tryz.f19.body).getD .skip
def G_certcheck_small.ann : Ann := (.seq 0 [0] .leaf (.seq 0 [3] .leaf (.seq 0 [3] (.seq 0 [3, 8, 9, 10] .leaf (.one (.loop 1 [3, 8, 9, 10] (.seq 0 [3, 8, 9, 10, 11] .leaf (.seq 0 [3, 8, 9, 10] (.br .leaf .leaf) (.seq 3 [3, 8, 9, 10] (.one (.seq 0 [3, 4, 5, 8, 9, 10] .leaf (.seq 2 [3, 4, 5, 8, 9, 10, 20] .leaf (.br .leaf .leaf)))) .leaf)))))) (.seq 0 [2] .leaf .leaf))))
theorem G_certcheck_small.body_eq : Tryz.f19.body = some G_certcheck_small.body := by kernel_rfl
theorem G_certcheck_small.dist : noTwice (places G_certcheck_small.ann G_certcheck_small.body) = true := by kernel_rfl
noncomputable def G_certcheck_small.J (Q : AV → AHeap → Prop) : JT := funJ prog C Tryz.f19 G_certcheck_small.ann G_certcheck_small.body Q
theorem G_certcheck_small.goR {Q : AV → AHeap → Prop} {k : Nat} {p : List Nat} (hl : lookJ (places G_certcheck_small.ann G_certcheck_small.body) k = some (p, false)) {e : Env} {h : AHeap} (hk : atJ prog C 30 (G_certcheck_small.J Q) false p G_certcheck_small.ann G_certcheck_small.body e h (kFun prog Tryz.f19 Q)) : G_certcheck_small.J Q k e h := goJ_run (P := prog) (fn := Tryz.f19) (ann := G_certcheck_small.ann) (body := G_certcheck_small.body) (Q := Q) (k := k) (p := p) (e := e) (h := h) (acall_le X) G_certcheck_small.dist hl hk
theorem G_certcheck_small.goH {Q : AV → AHeap → Prop} {k : Nat} {p : List Nat} (hl : lookJ (places G_certcheck_small.ann G_certcheck_small.body) k = some (p, true)) {e : Env} {h : AHeap} (hk : atJ prog C 30 (G_certcheck_small.J Q) true p G_certcheck_small.ann G_certcheck_small.body e h (kFun prog Tryz.f19 Q)) : G_certcheck_small.J Q k e h := goJ_head (P := prog) (fn := Tryz.f19) (ann := G_certcheck_small.ann) (body := G_certcheck_small.body) (Q := Q) (k := k) (p := p) (e := e) (h := h) (acall_le X) G_certcheck_small.dist hl hk
def G_certcheck_small.p1 (Q : AV → AHeap → Prop) (x3 : AV) (x4 : Int) (x5 : Int) (x8 : AV) (x9 : Int) (x10 : Int) (x20 : Bool) (h : AHeap) : Prop := G_certcheck_small.J Q 2 [(3, x3), (4, (AV.i .i64 x4)), (5, (AV.i .u8 x5)), (8, x8), (9, (AV.i .i64 x9)), (10, (AV.i .i64 x10)), (20, (AV.b x20))] h
theorem G_certcheck_small.j1 (Q : AV → AHeap → Prop) (x3 : AV) (x4 : Int) (x5 : Int) (x8 : AV) (x9 : Int) (x10 : Int) (x20 : Bool) (h : AHeap) : G_certcheck_small.J Q 2 [(3, x3), (4, (AV.i .i64 x4)), (5, (AV.i .u8 x5)), (8, x8), (9, (AV.i .i64 x9)), (10, (AV.i .i64 x10)), (20, (AV.b x20))] h = G_certcheck_small.p1 Q x3 x4 x5 x8 x9 x10 x20 h := rfl
def G_certcheck_small.p2 (Q : AV → AHeap → Prop) (x3 : AV) (x8 : AV) (x9 : Int) (x10 : Int) (h : AHeap) : Prop := G_certcheck_small.J Q 3 [(3, x3), (8, x8), (9, (AV.i .i64 x9)), (10, (AV.i .i64 x10))] h
theorem G_certcheck_small.j2 (Q : AV → AHeap → Prop) (x3 : AV) (x8 : AV) (x9 : Int) (x10 : Int) (h : AHeap) : G_certcheck_small.J Q 3 [(3, x3), (8, x8), (9, (AV.i .i64 x9)), (10, (AV.i .i64 x10))] h = G_certcheck_small.p2 Q x3 x8 x9 x10 h := rfl
def G_certcheck_small.p0 (Q : AV → AHeap → Prop) (x3 : AV) (x8 : AV) (x9 : Int) (x10 : Int) (h : AHeap) : Prop := G_certcheck_small.J Q 1 [(3, x3), (8, x8), (9, (AV.i .i64 x9)), (10, (AV.i .i64 x10))] h
theorem G_certcheck_small.j0 (Q : AV → AHeap → Prop) (x3 : AV) (x8 : AV) (x9 : Int) (x10 : Int) (h : AHeap) : G_certcheck_small.J Q 1 [(3, x3), (8, x8), (9, (AV.i .i64 x9)), (10, (AV.i .i64 x10))] h = G_certcheck_small.p0 Q x3 x8 x9 x10 h := rfl
def G_certcheck_small.t1 (J : JT) (Q : AV → AHeap → Prop) (x3 : AV) (x4 : Int) (x5 : Int) (x8 : AV) (x9 : Int) (x10 : Int) (x20 : Bool) (h : AHeap) : Prop :=
(bif x20 then
(withI (IntKind.wrap .u8 (x5 + 97)) fun n15 =>
withI (IntKind.wrap .u8 (n15 - 65)) fun n16 =>
pIdxAddrSl 1 x3 (AV.i .i64 x4) h fun v17 =>
pStore 1 v17 (AV.i .u8 n16) h fun h18 =>
J 3 [(3, x3), (8, x8), (9, (AV.i .i64 x9)), (10, (AV.i .i64 x10))] h18)
else
(J 3 [(3, x3), (8, x8), (9, (AV.i .i64 x9)), (10, (AV.i .i64 x10))] h))
theorem G_certcheck_small.t1_eq (J : JT) (Q : AV → AHeap → Prop) (x3 : AV) (x4 : Int) (x5 : Int) (x8 : AV) (x9 : Int) (x10 : Int) (x20 : Bool) (h : AHeap) : G_certcheck_small.t1 J Q x3 x4 x5 x8 x9 x10 x20 h = atJ prog C 30 J false [1, 1, 0, 1, 0, 0, 1, 1, 0, 0, 1, 1] G_certcheck_small.ann G_certcheck_small.body [(3, x3), (4, (AV.i .i64 x4)), (5, (AV.i .u8 x5)), (8, x8), (9, (AV.i .i64 x9)), (10, (AV.i .i64 x10)), (20, (AV.b x20))] h (kFun prog Tryz.f19 Q) := by kernel_rfl
theorem G_certcheck_small.i1 {Q : AV → AHeap → Prop} {x3 : AV} {x4 : Int} {x5 : Int} {x8 : AV} {x9 : Int} {x10 : Int} {x20 : Bool} {h : AHeap} (H : G_certcheck_small.t1 (G_certcheck_small.J Q) Q x3 x4 x5 x8 x9 x10 x20 h) : G_certcheck_small.p1 Q x3 x4 x5 x8 x9 x10 x20 h := G_certcheck_small.goR (k := 2) (p := [1, 1, 0, 1, 0, 0, 1, 1, 0, 0, 1, 1]) (by kernel_rfl) ((G_certcheck_small.t1_eq (G_certcheck_small.J Q) Q x3 x4 x5 x8 x9 x10 x20 h).mp H)
def G_certcheck_small.t2 (J : JT) (Q : AV → AHeap → Prop) (x3 : AV) (x8 : AV) (x9 : Int) (x10 : Int) (h : AHeap) : Prop :=
withI (IntKind.wrap .i64 (x10 + 1)) fun n21 =>
J 1 [(3, x3), (8, x8), (9, (AV.i .i64 x9)), (10, (AV.i .i64 n21))] h
theorem G_certcheck_small.t2_eq (J : JT) (Q : AV → AHeap → Prop) (x3 : AV) (x8 : AV) (x9 : Int) (x10 : Int) (h : AHeap) : G_certcheck_small.t2 J Q x3 x8 x9 x10 h = atJ prog C 30 J false [1, 1, 0, 1, 0, 0, 1, 1, 1] G_certcheck_small.ann G_certcheck_small.body [(3, x3), (8, x8), (9, (AV.i .i64 x9)), (10, (AV.i .i64 x10))] h (kFun prog Tryz.f19 Q) := by kernel_rfl
theorem G_certcheck_small.i2 {Q : AV → AHeap → Prop} {x3 : AV} {x8 : AV} {x9 : Int} {x10 : Int} {h : AHeap} (H : G_certcheck_small.t2 (G_certcheck_small.J Q) Q x3 x8 x9 x10 h) : G_certcheck_small.p2 Q x3 x8 x9 x10 h := G_certcheck_small.goR (k := 3) (p := [1, 1, 0, 1, 0, 0, 1, 1, 1]) (by kernel_rfl) ((G_certcheck_small.t2_eq (G_certcheck_small.J Q) Q x3 x8 x9 x10 h).mp H)
def G_certcheck_small.t0 (J : JT) (Q : AV → AHeap → Prop) (x3 : AV) (x8 : AV) (x9 : Int) (x10 : Int) (h : AHeap) : Prop :=
(bif (decide ((x10 : Int) < x9)) then
(pIdxAddrSl 1 x8 (AV.i .i64 x10) h fun v9 =>
pLoad1 v9 h fun v10 =>
asI .u8 v10 fun n11 =>
(bif (decide ((65 : Int) ≤ n11)) then
(J 2 [(3, x3), (4, (AV.i .i64 x10)), (5, (AV.i .u8 n11)), (8, x8), (9, (AV.i .i64 x9)), (10, (AV.i .i64 x10)), (20, (AV.b (decide ((n11 : Int) ≤ 90))))] h)
else
(J 2 [(3, x3), (4, (AV.i .i64 x10)), (5, (AV.i .u8 n11)), (8, x8), (9, (AV.i .i64 x9)), (10, (AV.i .i64 x10)), (20, (AV.b false))] h)))
else
(pBytesStr x3 h fun l23 =>
Q (AV.s l23) h))
theorem G_certcheck_small.t0_eq (J : JT) (Q : AV → AHeap → Prop) (x3 : AV) (x8 : AV) (x9 : Int) (x10 : Int) (h : AHeap) : G_certcheck_small.t0 J Q x3 x8 x9 x10 h = atJ prog C 30 J true [1, 1, 0, 1, 0] G_certcheck_small.ann G_certcheck_small.body [(3, x3), (8, x8), (9, (AV.i .i64 x9)), (10, (AV.i .i64 x10))] h (kFun prog Tryz.f19 Q) := by kernel_rfl
theorem G_certcheck_small.i0 {Q : AV → AHeap → Prop} {x3 : AV} {x8 : AV} {x9 : Int} {x10 : Int} {h : AHeap} (H : G_certcheck_small.t0 (G_certcheck_small.J Q) Q x3 x8 x9 x10 h) : G_certcheck_small.p0 Q x3 x8 x9 x10 h := G_certcheck_small.goH (k := 1) (p := [1, 1, 0, 1, 0]) (by kernel_rfl) ((G_certcheck_small.t0_eq (G_certcheck_small.J Q) Q x3 x8 x9 x10 h).mp H)
def G_certcheck_small.t (J : JT) (Q : AV → AHeap → Prop) (x0 : List UInt8) (h : AHeap) : Prop :=
pStrBytes (AV.s x0) h fun v1 h2 =>
pLenSl v1 fun n4 =>
J 1 [(3, v1), (8, v1), (9, (AV.i .i64 n4)), (10, (AV.i .i64 0))] h2
theorem G_certcheck_small.t_eq (J : JT) (Q : AV → AHeap → Prop) (x0 : List UInt8) (h : AHeap) : G_certcheck_small.t J Q x0 h = exJ prog C 30 J G_certcheck_small.ann G_certcheck_small.body (initEnv 0 [(AV.s x0)]) h (kFun prog Tryz.f19 Q) := by kernel_rfl
theorem G_certcheck_small.call {K : AV → AHeap → Prop} {x0 : List UInt8} {h : AHeap} (H : G_certcheck_small.t (G_certcheck_small.J (kRet h K)) (kRet h K) x0 h) : C G_certcheck_small.id [(AV.s x0)] h K :=
  callJ (P := prog) (fn := Tryz.f19) (ann := G_certcheck_small.ann) (body := G_certcheck_small.body) Tryz.func19 G_certcheck_small.body_eq (by kernel_rfl) G_certcheck_small.dist (by kernel_rfl) ((G_certcheck_small.t_eq (G_certcheck_small.J (kRet h K)) (kRet h K) x0 h).mp H)

--@@ G_strings_CutPrefix
/-! ### 20: strings.CutPrefix -/
noncomputable def G_strings_CutPrefix.body : Code := (Tryz.f20.body).getD .skip
def G_strings_CutPrefix.ann : Ann := (.seq 0 [0, 1] .leaf (.seq 0 [4, 5] .leaf .leaf))
theorem G_strings_CutPrefix.body_eq : Tryz.f20.body = some G_strings_CutPrefix.body := by kernel_rfl
theorem G_strings_CutPrefix.dist : noTwice (places G_strings_CutPrefix.ann G_strings_CutPrefix.body) = true := by kernel_rfl
noncomputable def G_strings_CutPrefix.J (Q : AV → AHeap → Prop) : JT := funJ prog C Tryz.f20 G_strings_CutPrefix.ann G_strings_CutPrefix.body Q
theorem G_strings_CutPrefix.goR {Q : AV → AHeap → Prop} {k : Nat} {p : List Nat} (hl : lookJ (places G_strings_CutPrefix.ann G_strings_CutPrefix.body) k = some (p, false)) {e : Env} {h : AHeap} (hk : atJ prog C 11 (G_strings_CutPrefix.J Q) false p G_strings_CutPrefix.ann G_strings_CutPrefix.body e h (kFun prog Tryz.f20 Q)) : G_strings_CutPrefix.J Q k e h := goJ_run (P := prog) (fn := Tryz.f20) (ann := G_strings_CutPrefix.ann) (body := G_strings_CutPrefix.body) (Q := Q) (k := k) (p := p) (e := e) (h := h) (acall_le X) G_strings_CutPrefix.dist hl hk
theorem G_strings_CutPrefix.goH {Q : AV → AHeap → Prop} {k : Nat} {p : List Nat} (hl : lookJ (places G_strings_CutPrefix.ann G_strings_CutPrefix.body) k = some (p, true)) {e : Env} {h : AHeap} (hk : atJ prog C 11 (G_strings_CutPrefix.J Q) true p G_strings_CutPrefix.ann G_strings_CutPrefix.body e h (kFun prog Tryz.f20 Q)) : G_strings_CutPrefix.J Q k e h := goJ_head (P := prog) (fn := Tryz.f20) (ann := G_strings_CutPrefix.ann) (body := G_strings_CutPrefix.body) (Q := Q) (k := k) (p := p) (e := e) (h := h) (acall_le X) G_strings_CutPrefix.dist hl hk
def G_strings_CutPrefix.t (J : JT) (Q : AV → AHeap → Prop) (x0 : List UInt8) (x1 : List UInt8) (h : AHeap) : Prop :=
C G_i_stringslite_CutPrefix.id [(AV.s x0), (AV.s x1)] h fun v1 h2 =>
pExtract 0 v1 fun v3 =>
asS v3 fun l4 =>
pExtract 1 v1 fun v5 =>
asB v5 fun c6 =>
Q (AV.tu [(AV.s l4), (AV.b c6)]) h2
theorem G_strings_CutPrefix.t_eq (J : JT) (Q : AV → AHeap → Prop) (x0 : List UInt8) (x1 : List UInt8) (h : AHeap) : G_strings_CutPrefix.t J Q x0 x1 h = exJ prog C 11 J G_strings_CutPrefix.ann G_strings_CutPrefix.body (initEnv 0 [(AV.s x0), (AV.s x1)]) h (kFun prog Tryz.f20 Q) := by kernel_rfl
theorem G_strings_CutPrefix.call {K : AV → AHeap → Prop} {x0 : List UInt8} {x1 : List UInt8} {h : AHeap} (H : G_strings_CutPrefix.t (G_strings_CutPrefix.J (kRet h K)) (kRet h K) x0 x1 h) : C G_strings_CutPrefix.id [(AV.s x0), (AV.s x1)] h K :=
  callJ (P := prog) (fn := Tryz.f20) (ann := G_strings_CutPrefix.ann) (body := G_strings_CutPrefix.body) Tryz.func20 G_strings_CutPrefix.body_eq (by kernel_rfl) G_strings_CutPrefix.dist (by kernel_rfl) ((G_strings_CutPrefix.t_eq (G_strings_CutPrefix.J (kRet h K)) (kRet h K) x0 x1 h).mp H)

--@@ G_strings_Cut
/-! ### 21: strings.Cut -/
noncomputable def G_strings_Cut.body : Code := (Tryz.f21.body).getD .skip
def G_strings_Cut.ann : Ann := (.seq 0 [0, 1] .leaf (.seq 0 [4, 5, 6] .leaf .leaf))
theorem G_strings_Cut.body_eq : Tryz.f21.body = some G_strings_Cut.body := by kernel_rfl
theorem G_strings_Cut.dist : noTwice (places G_strings_Cut.ann G_strings_Cut.body) = true := by kernel_rfl
noncomputable def G_strings_Cut.J (Q : AV → AHeap → Prop) : JT := funJ prog C Tryz.f21 G_strings_Cut.ann G_strings_Cut.body Q
theorem G_strings_Cut.goR {Q : AV → AHeap → Prop} {k : Nat} {p : List Nat} (hl : lookJ (places G_strings_Cut.ann G_strings_Cut.body) k = some (p, false)) {e : Env} {h : AHeap} (hk : atJ prog C 13 (G_strings_Cut.J Q) false p G_strings_Cut.ann G_strings_Cut.body e h (kFun prog Tryz.f21 Q)) : G_strings_Cut.J Q k e h := goJ_run (P := prog) (fn := Tryz.f21) (ann := G_strings_Cut.ann) (body := G_strings_Cut.body) (Q := Q) (k := k) (p := p) (e := e) (h := h) (acall_le X) G_strings_Cut.dist hl hk
theorem G_strings_Cut.goH {Q : AV → AHeap → Prop} {k : Nat} {p : List Nat} (hl : lookJ (places G_strings_Cut.ann G_strings_Cut.body) k = some (p, true)) {e : Env} {h : AHeap} (hk : atJ prog C 13 (G_strings_Cut.J Q) true p G_strings_Cut.ann G_strings_Cut.body e h (kFun prog Tryz.f21 Q)) : G_strings_Cut.J Q k e h := goJ_head (P := prog) (fn := Tryz.f21) (ann := G_strings_Cut.ann) (body := G_strings_Cut.body) (Q := Q) (k := k) (p := p) (e := e) (h := h) (acall_le X) G_strings_Cut.dist hl hk
def G_strings_Cut.t (J : JT) (Q : AV → AHeap → Prop) (x0 : List UInt8) (x1 : List UInt8) (h : AHeap) : Prop :=
C G_i_stringslite_Cut.id [(AV.s x0), (AV.s x1)] h fun v1 h2 =>
pExtract 0 v1 fun v3 =>
asS v3 fun l4 =>
pExtract 1 v1 fun v5 =>
asS v5 fun l6 =>
pExtract 2 v1 fun v7 =>
asB v7 fun c8 =>
Q (AV.tu [(AV.s l4), (AV.s l6), (AV.b c8)]) h2
theorem G_strings_Cut.t_eq (J : JT) (Q : AV → AHeap → Prop) (x0 : List UInt8) (x1 : List UInt8) (h : AHeap) : G_strings_Cut.t J Q x0 x1 h = exJ prog C 13 J G_strings_Cut.ann G_strings_Cut.body (initEnv 0 [(AV.s x0), (AV.s x1)]) h (kFun prog Tryz.f21 Q) := by kernel_rfl
theorem G_strings_Cut.call {K : AV → AHeap → Prop} {x0 : List UInt8} {x1 : List UInt8} {h : AHeap} (H : G_strings_Cut.t (G_strings_Cut.J (kRet h K)) (kRet h K) x0 x1 h) : C G_strings_Cut.id [(AV.s x0), (AV.s x1)] h K :=
  callJ (P := prog) (fn := Tryz.f21) (ann := G_strings_Cut.ann) (body := G_strings_Cut.body) Tryz.func21 G_strings_Cut.body_eq (by kernel_rfl) G_strings_Cut.dist (by kernel_rfl) ((G_strings_Cut.t_eq (G_strings_Cut.J (kRet h K)) (kRet h K) x0 x1 h).mp H)

--@@ G_strings_Contains
/-! ### 22: strings.Contains -/
noncomputable def G_strings_Contains.body : Code := (Tryz.f22.body).getD .skip
def G_strings_Contains.ann : Ann := (.seq 0 [0, 1] .leaf (.seq 0 [4] .leaf .leaf))
theorem G_strings_Contains.body_eq : Tryz.f22.body = some G_strings_Contains.body := by kernel_rfl
theorem G_strings_Contains.dist : noTwice (places G_strings_Contains.ann G_strings_Contains.body) = true := by kernel_rfl
noncomputable def G_strings_Contains.J (Q : AV → AHeap → Prop) : JT := funJ prog C Tryz.f22 G_strings_Contains.ann G_strings_Contains.body Q
theorem G_strings_Contains.goR {Q : AV → AHeap → Prop} {k : Nat} {p : List Nat} (hl : lookJ (places G_strings_Contains.ann G_strings_Contains.body) k = some (p, false)) {e : Env} {h : AHeap} (hk : atJ prog C 9 (G_strings_Contains.J Q) false p G_strings_Contains.ann G_strings_Contains.body e h (kFun prog Tryz.f22 Q)) : G_strings_Contains.J Q k e h := goJ_run (P := prog) (fn := Tryz.f22) (ann := G_strings_Contains.ann) (body := G_strings_Contains.body) (Q := Q) (k := k) (p := p) (e := e) (h := h) (acall_le X) G_strings_Contains.dist hl hk
theorem G_strings_Contains.goH {Q : AV → AHeap → Prop} {k : Nat} {p : List Nat} (hl : lookJ (places G_strings_Contains.ann G_strings_Contains.body) k = some (p, true)) {e : Env} {h : AHeap} (hk : atJ prog C 9 (G_strings_Contains.J Q) true p G_strings_Contains.ann G_strings_Contains.body e h (kFun prog Tryz.f22 Q)) : G_strings_Contains.J Q k e h := goJ_head (P := prog) (fn := Tryz.f22) (ann := G_strings_Contains.ann) (body := G_strings_Contains.body) (Q := Q) (k := k) (p := p) (e := e) (h := h) (acall_le X) G_strings_Contains.dist hl hk
def G_strings_Contains.t (J : JT) (Q : AV → AHeap → Prop) (x0 : List UInt8) (x1 : List UInt8) (h : AHeap) : Prop :=
C G_strings_Index.id [(AV.s x0), (AV.s x1)] h fun v1 h2 =>
asI .i64 v1 fun n3 =>
Q (AV.b (decide ((0 : Int) ≤ n3))) h2
theorem G_strings_Contains.t_eq (J : JT) (Q : AV → AHeap → Prop) (x0 : List UInt8) (x1 : List UInt8) (h : AHeap) : G_strings_Contains.t J Q x0 x1 h = exJ prog C 9 J G_strings_Contains.ann G_strings_Contains.body (initEnv 0 [(AV.s x0), (AV.s x1)]) h (kFun prog Tryz.f22 Q) := by kernel_rfl
theorem G_strings_Contains.call {K : AV → AHeap → Prop} {x0 : List UInt8} {x1 : List UInt8} {h : AHeap} (H : G_strings_Contains.t (G_strings_Contains.J (kRet h K)) (kRet h K) x0 x1 h) : C G_strings_Contains.id [(AV.s x0), (AV.s x1)] h K :=
  callJ (P := prog) (fn := Tryz.f22) (ann := G_strings_Contains.ann) (body := G_strings_Contains.body) Tryz.func22 G_strings_Contains.body_eq (by kernel_rfl) G_strings_Contains.dist (by kernel_rfl) ((G_strings_Contains.t_eq (G_strings_Contains.J (kRet h K)) (kRet h K) x0 x1 h).mp H)

--@@ G_ref26_Apply
/-! ### 23: intrusion/intrusionref26.Apply -/
noncomputable def G_ref26_Apply.body : Code := (Tryz.f23.body).getD .skip
def G_ref26_Apply.ann : Ann := (.seq 0 [0, 1] .leaf (.seq 0 [1] (.seq 0 [1, 5] .leaf (.one (.seq 0 [1, 5, 6] .leaf (.br (.seq 0 [4] .leaf .leaf) (.seq 0 [1, 5, 10] .leaf (.br (.seq 0 [4] .leaf .leaf) (.seq 0 [1, 5, 14] .leaf (.br (.seq 0 [4] .leaf .leaf) (.seq 0 [1, 5, 18] .leaf (.br (.seq 0 [4] .leaf .leaf) (.seq 0 [1, 5, 22] .leaf (.br (.seq 0 [4] .leaf .leaf) (.seq 0 [1, 26] .leaf (.br (.seq 0 [4] .leaf .leaf) .leaf)))))))))))))) (.seq 0 [4] .leaf .leaf)))
theorem G_ref26_Apply.body_eq : Tryz.f23.body = some G_ref26_Apply.body := by kernel_rfl
theorem G_ref26_Apply.dist : noTwice (places G_ref26_Apply.ann G_ref26_Apply.body) = true := by kernel_rfl
noncomputable def G_ref26_Apply.J (Q : AV → AHeap → Prop) : JT := funJ prog C Tryz.f23 G_ref26_Apply.ann G_ref26_Apply.body Q
theorem G_ref26_Apply.goR {Q : AV → AHeap → Prop} {k : Nat} {p : List Nat} (hl : lookJ (places G_ref26_Apply.ann G_ref26_Apply.body) k = some (p, false)) {e : Env} {h : AHeap} (hk : atJ prog C 31 (G_ref26_Apply.J Q) false p G_ref26_Apply.ann G_ref26_Apply.body e h (kFun prog Tryz.f23 Q)) : G_ref26_Apply.J Q k e h := goJ_run (P := prog) (fn := Tryz.f23) (ann := G_ref26_Apply.ann) (body := G_ref26_Apply.body) (Q := Q) (k := k) (p := p) (e := e) (h := h) (acall_le X) G_ref26_Apply.dist hl hk
theorem G_ref26_Apply.goH {Q : AV → AHeap → Prop} {k : Nat} {p : List Nat} (hl : lookJ (places G_ref26_Apply.ann G_ref26_Apply.body) k = some (p, true)) {e : Env} {h : AHeap} (hk : atJ prog C 31 (G_ref26_Apply.J Q) true p G_ref26_Apply.ann G_ref26_Apply.body e h (kFun prog Tryz.f23 Q)) : G_ref26_Apply.J Q k e h := goJ_head (P := prog) (fn := Tryz.f23) (ann := G_ref26_Apply.ann) (body := G_ref26_Apply.body) (Q := Q) (k := k) (p := p) (e := e) (h := h) (acall_le X) G_ref26_Apply.dist hl hk
def G_ref26_Apply.t (J : JT) (Q : AV → AHeap → Prop) (x0 : Int) (x1 : List UInt8) (h : AHeap) : Prop :=
(bif (decide ((x0 : Int) = 1)) then
(C G_ref26_lower.id [(AV.s x1)] h fun v3 h4 =>
asS v3 fun l5 =>
Q (AV.s l5) h4)
else
((bif (decide ((x0 : Int) = 2)) then
(C G_ref26_strip.id [(AV.s x1)] h fun v8 h9 =>
asS v8 fun l10 =>
Q (AV.s l10) h9)
else
((bif (decide ((x0 : Int) = 3)) then
(C G_ref26_percent.id [(AV.s x1)] h fun v13 h14 =>
asS v13 fun l15 =>
Q (AV.s l15) h14)
else
((bif (decide ((x0 : Int) = 4)) then
(C G_ref26_base64.id [(AV.s x1)] h fun v18 h19 =>
asS v18 fun l20 =>
Q (AV.s l20) h19)
else
((bif (decide ((x0 : Int) = 5)) then
(C G_ref26_path.id [(AV.s x1)] h fun v23 h24 =>
asS v23 fun l25 =>
Q (AV.s l25) h24)
else
((bif (decide ((x0 : Int) = 6)) then
(C G_ref26_hex.id [(AV.s x1)] h fun v28 h29 =>
asS v28 fun l30 =>
Q (AV.s l30) h29)
else
(Q (AV.s x1) h))))))))))))
theorem G_ref26_Apply.t_eq (J : JT) (Q : AV → AHeap → Prop) (x0 : Int) (x1 : List UInt8) (h : AHeap) : G_ref26_Apply.t J Q x0 x1 h = exJ prog C 31 J G_ref26_Apply.ann G_ref26_Apply.body (initEnv 0 [(AV.i .i64 x0), (AV.s x1)]) h (kFun prog Tryz.f23 Q) := by kernel_rfl
theorem G_ref26_Apply.call {K : AV → AHeap → Prop} {x0 : Int} {x1 : List UInt8} {h : AHeap} (H : G_ref26_Apply.t (G_ref26_Apply.J (kRet h K)) (kRet h K) x0 x1 h) : C G_ref26_Apply.id [(AV.i .i64 x0), (AV.s x1)] h K :=
  callJ (P := prog) (fn := Tryz.f23) (ann := G_ref26_Apply.ann) (body := G_ref26_Apply.body) Tryz.func23 G_ref26_Apply.body_eq (by kernel_rfl) G_ref26_Apply.dist (by kernel_rfl) ((G_ref26_Apply.t_eq (G_ref26_Apply.J (kRet h K)) (kRet h K) x0 x1 h).mp H)

--@@ G_ref35_after
/-! ### 24: intrusion/intrusionref35.after -/
noncomputable def G_ref35_after.body : Code := (Tryz.f24.body).getD .skip
def G_ref35_after.ann : Ann := (.seq 0 [0] .leaf (.seq 0 [] (.seq 0 [0, 4] .leaf (.one (.loop 1 [0, 4] (.seq 0 [0, 4] (.seq 0 [0, 4, 8] .leaf (.br .leaf .leaf)) (.seq 0 [0, 4] (.one (.seq 0 [0, 4, 14] .leaf (.br (.seq 0 [2, 3] .leaf .leaf) .leaf))) .leaf))))) (.seq 0 [2, 3] .leaf .leaf)))
theorem G_ref35_after.body_eq : Tryz.f24.body = some G_ref35_after.body := by kernel_rfl
theorem G_ref35_after.dist : noTwice (places G_ref35_after.ann G_ref35_after.body) = true := by kernel_rfl
noncomputable def G_ref35_after.J (Q : AV → AHeap → Prop) : JT := funJ prog C Tryz.f24 G_ref35_after.ann G_ref35_after.body Q
theorem G_ref35_after.goR {Q : AV → AHeap → Prop} {k : Nat} {p : List Nat} (hl : lookJ (places G_ref35_after.ann G_ref35_after.body) k = some (p, false)) {e : Env} {h : AHeap} (hk : atJ prog C 21 (G_ref35_after.J Q) false p G_ref35_after.ann G_ref35_after.body e h (kFun prog Tryz.f24 Q)) : G_ref35_after.J Q k e h := goJ_run (P := prog) (fn := Tryz.f24) (ann := G_ref35_after.ann) (body := G_ref35_after.body) (Q := Q) (k := k) (p := p) (e := e) (h := h) (acall_le X) G_ref35_after.dist hl hk
theorem G_ref35_after.goH {Q : AV → AHeap → Prop} {k : Nat} {p : List Nat} (hl : lookJ (places G_ref35_after.ann G_ref35_after.body) k = some (p, true)) {e : Env} {h : AHeap} (hk : atJ prog C 21 (G_ref35_after.J Q) true p G_ref35_after.ann G_ref35_after.body e h (kFun prog Tryz.f24 Q)) : G_ref35_after.J Q k e h := goJ_head (P := prog) (fn := Tryz.f24) (ann := G_ref35_after.ann) (body := G_ref35_after.body) (Q := Q) (k := k) (p := p) (e := e) (h := h) (acall_le X) G_ref35_after.dist hl hk
def G_ref35_after.p0 (Q : AV → AHeap → Prop) (x0 : List UInt8) (x4 : Int) (h : AHeap) : Prop := G_ref35_after.J Q 1 [(0, (AV.s x0)), (4, (AV.i .i64 x4))] h
theorem G_ref35_after.j0 (Q : AV → AHeap → Prop) (x0 : List UInt8) (x4 : Int) (h : AHeap) : G_ref35_after.J Q 1 [(0, (AV.s x0)), (4, (AV.i .i64 x4))] h = G_ref35_after.p0 Q x0 x4 h := rfl
def G_ref35_after.t0 (J : JT) (Q : AV → AHeap → Prop) (x0 : List UInt8) (x4 : Int) (h : AHeap) : Prop :=
(bif (decide ((x4 : Int) < (x0.length : Int))) then
(pIdxStr (AV.s x0) (AV.i .i64 x4) fun n5 =>
(bif (decide ((n5 : Int) = 46)) then
(withI (IntKind.wrap .i64 (x4 + 1)) fun n7 =>
pSliceStr (AV.s x0) (some (AV.i .i64 n7)) none fun l8 =>
Q (AV.tu [(AV.s l8), (AV.b (decide ((0 : Int) < x4)))]) h)
else
(withI (IntKind.wrap .i64 (x4 + 1)) fun n11 =>
J 1 [(0, (AV.s x0)), (4, (AV.i .i64 n11))] h)))
else
(Q (AV.tu [(AV.s []), (AV.b false)]) h))
theorem G_ref35_after.t0_eq (J : JT) (Q : AV → AHeap → Prop) (x0 : List UInt8) (x4 : Int) (h : AHeap) : G_ref35_after.t0 J Q x0 x4 h = atJ prog C 21 J true [1, 0, 1, 0] G_ref35_after.ann G_ref35_after.body [(0, (AV.s x0)), (4, (AV.i .i64 x4))] h (kFun prog Tryz.f24 Q) := by kernel_rfl
theorem G_ref35_after.i0 {Q : AV → AHeap → Prop} {x0 : List UInt8} {x4 : Int} {h : AHeap} (H : G_ref35_after.t0 (G_ref35_after.J Q) Q x0 x4 h) : G_ref35_after.p0 Q x0 x4 h := G_ref35_after.goH (k := 1) (p := [1, 0, 1, 0]) (by kernel_rfl) ((G_ref35_after.t0_eq (G_ref35_after.J Q) Q x0 x4 h).mp H)
def G_ref35_after.t (J : JT) (Q : AV → AHeap → Prop) (x0 : List UInt8) (h : AHeap) : Prop :=
J 1 [(0, (AV.s x0)), (4, (AV.i .i64 0))] h
theorem G_ref35_after.t_eq (J : JT) (Q : AV → AHeap → Prop) (x0 : List UInt8) (h : AHeap) : G_ref35_after.t J Q x0 h = exJ prog C 21 J G_ref35_after.ann G_ref35_after.body (initEnv 0 [(AV.s x0)]) h (kFun prog Tryz.f24 Q) := by kernel_rfl
theorem G_ref35_after.call {K : AV → AHeap → Prop} {x0 : List UInt8} {h : AHeap} (H : G_ref35_after.t (G_ref35_after.J (kRet h K)) (kRet h K) x0 h) : C G_ref35_after.id [(AV.s x0)] h K :=
  callJ (P := prog) (fn := Tryz.f24) (ann := G_ref35_after.ann) (body := G_ref35_after.body) Tryz.func24 G_ref35_after.body_eq (by kernel_rfl) G_ref35_after.dist (by kernel_rfl) ((G_ref35_after.t_eq (G_ref35_after.J (kRet h K)) (kRet h K) x0 h).mp H)

--@@ G_certcheck_newTrust
/-! ### 25: intrusion/certcheck.newTrust -/
noncomputable def G_certcheck_newTrust.body : Code := (Tryz.f25.body).getD .skip
def G_certcheck_newTrust.ann : Ann := (.seq 0 [0, 2] .leaf (.seq 0 [0, 2, 3] .leaf (.seq 0 [2, 3] (.seq 0 [2, 3, 9, 10, 11] .leaf (.one (.loop 1 [2, 3, 9, 10, 11] (.seq 0 [2, 3, 9, 10, 11, 12] .leaf (.seq 0 [2, 3, 9, 10, 11] (.br .leaf .leaf) (.seq 2 [2, 3, 9, 10, 11] (.one (.seq 0 [2, 3, 5, 9, 10, 11] .leaf (.seq 0 [2, 3, 5, 9, 10, 11] .leaf (.seq 0 [2, 3, 5, 9, 10, 11, 23] .leaf (.br .leaf .leaf))))) .leaf)))))) (.seq 0 [2] .leaf .leaf))))
theorem G_certcheck_newTrust.body_eq : Tryz.f25.body = some G_certcheck_newTrust.body := by kernel_rfl
theorem G_certcheck_newTrust.dist : noTwice (places G_certcheck_newTrust.ann G_certcheck_newTrust.body) = true := by kernel_rfl
noncomputable def G_certcheck_newTrust.J (Q : AV → AHeap → Prop) : JT := funJ prog C Tryz.f25 G_certcheck_newTrust.ann G_certcheck_newTrust.body Q
theorem G_certcheck_newTrust.goR {Q : AV → AHeap → Prop} {k : Nat} {p : List Nat} (hl : lookJ (places G_certcheck_newTrust.ann G_certcheck_newTrust.body) k = some (p, false)) {e : Env} {h : AHeap} (hk : atJ prog C 30 (G_certcheck_newTrust.J Q) false p G_certcheck_newTrust.ann G_certcheck_newTrust.body e h (kFun prog Tryz.f25 Q)) : G_certcheck_newTrust.J Q k e h := goJ_run (P := prog) (fn := Tryz.f25) (ann := G_certcheck_newTrust.ann) (body := G_certcheck_newTrust.body) (Q := Q) (k := k) (p := p) (e := e) (h := h) (acall_le X) G_certcheck_newTrust.dist hl hk
theorem G_certcheck_newTrust.goH {Q : AV → AHeap → Prop} {k : Nat} {p : List Nat} (hl : lookJ (places G_certcheck_newTrust.ann G_certcheck_newTrust.body) k = some (p, true)) {e : Env} {h : AHeap} (hk : atJ prog C 30 (G_certcheck_newTrust.J Q) true p G_certcheck_newTrust.ann G_certcheck_newTrust.body e h (kFun prog Tryz.f25 Q)) : G_certcheck_newTrust.J Q k e h := goJ_head (P := prog) (fn := Tryz.f25) (ann := G_certcheck_newTrust.ann) (body := G_certcheck_newTrust.body) (Q := Q) (k := k) (p := p) (e := e) (h := h) (acall_le X) G_certcheck_newTrust.dist hl hk
def G_certcheck_newTrust.p1 (Q : AV → AHeap → Prop) (x2 : AV) (x3 : AV) (x9 : AV) (x10 : Int) (x11 : Int) (h : AHeap) : Prop := G_certcheck_newTrust.J Q 2 [(2, x2), (3, x3), (9, x9), (10, (AV.i .i64 x10)), (11, (AV.i .i64 x11))] h
theorem G_certcheck_newTrust.j1 (Q : AV → AHeap → Prop) (x2 : AV) (x3 : AV) (x9 : AV) (x10 : Int) (x11 : Int) (h : AHeap) : G_certcheck_newTrust.J Q 2 [(2, x2), (3, x3), (9, x9), (10, (AV.i .i64 x10)), (11, (AV.i .i64 x11))] h = G_certcheck_newTrust.p1 Q x2 x3 x9 x10 x11 h := rfl
def G_certcheck_newTrust.p0 (Q : AV → AHeap → Prop) (x2 : AV) (x3 : AV) (x9 : AV) (x10 : Int) (x11 : Int) (h : AHeap) : Prop := G_certcheck_newTrust.J Q 1 [(2, x2), (3, x3), (9, x9), (10, (AV.i .i64 x10)), (11, (AV.i .i64 x11))] h
theorem G_certcheck_newTrust.j0 (Q : AV → AHeap → Prop) (x2 : AV) (x3 : AV) (x9 : AV) (x10 : Int) (x11 : Int) (h : AHeap) : G_certcheck_newTrust.J Q 1 [(2, x2), (3, x3), (9, x9), (10, (AV.i .i64 x10)), (11, (AV.i .i64 x11))] h = G_certcheck_newTrust.p0 Q x2 x3 x9 x10 x11 h := rfl
def G_certcheck_newTrust.t1 (J : JT) (Q : AV → AHeap → Prop) (x2 : AV) (x3 : AV) (x9 : AV) (x10 : Int) (x11 : Int) (h : AHeap) : Prop :=
withI (IntKind.wrap .i64 (x11 + 1)) fun n45 =>
J 1 [(2, x2), (3, x3), (9, x9), (10, (AV.i .i64 x10)), (11, (AV.i .i64 n45))] h
theorem G_certcheck_newTrust.t1_eq (J : JT) (Q : AV → AHeap → Prop) (x2 : AV) (x3 : AV) (x9 : AV) (x10 : Int) (x11 : Int) (h : AHeap) : G_certcheck_newTrust.t1 J Q x2 x3 x9 x10 x11 h = atJ prog C 30 J false [1, 1, 0, 1, 0, 0, 1, 1, 1] G_certcheck_newTrust.ann G_certcheck_newTrust.body [(2, x2), (3, x3), (9, x9), (10, (AV.i .i64 x10)), (11, (AV.i .i64 x11))] h (kFun prog Tryz.f25 Q) := by kernel_rfl
theorem G_certcheck_newTrust.i1 {Q : AV → AHeap → Prop} {x2 : AV} {x3 : AV} {x9 : AV} {x10 : Int} {x11 : Int} {h : AHeap} (H : G_certcheck_newTrust.t1 (G_certcheck_newTrust.J Q) Q x2 x3 x9 x10 x11 h) : G_certcheck_newTrust.p1 Q x2 x3 x9 x10 x11 h := G_certcheck_newTrust.goR (k := 2) (p := [1, 1, 0, 1, 0, 0, 1, 1, 1]) (by kernel_rfl) ((G_certcheck_newTrust.t1_eq (G_certcheck_newTrust.J Q) Q x2 x3 x9 x10 x11 h).mp H)
def G_certcheck_newTrust.t0 (J : JT) (Q : AV → AHeap → Prop) (x2 : AV) (x3 : AV) (x9 : AV) (x10 : Int) (x11 : Int) (h : AHeap) : Prop :=
(bif (decide ((x11 : Int) < x10)) then
(pIdxAddrSl 8 x9 (AV.i .i64 x11) h fun v17 =>
pLoadN 8 v17 h fun v18 =>
pAlloc (some 36) [(AV.s []), (AV.s []), (AV.s []), (AV.i .i64 0), (AV.i .i64 0), (AV.sl none 0 none), (AV.b false), (AV.s [])] h fun v19 h20 =>
pStore 8 v19 v18 h20 fun h21 =>
pFieldAddr 0 x3 fun v23 =>
pLoad1 v23 h21 fun v24 =>
pFieldAddr 2 v19 fun v25 =>
pLoad1 v25 h21 fun v26 =>
asS v26 fun l27 =>
pFieldAddr 7 v19 fun v28 =>
pLoad1 v28 h21 fun v29 =>
asS v29 fun l30 =>
pMapSet prog 60 v24 (AV.ag [(AV.s l27), (AV.s l30)]) (AV.b true) h21 fun h31 =>
pFieldAddr 6 v19 fun v33 =>
pLoad1 v33 h31 fun v34 =>
asB v34 fun c35 =>
(bif c35 then
(pFieldAddr 1 x3 fun v37 =>
pLoad1 v37 h31 fun v38 =>
pFieldAddr 2 v19 fun v39 =>
pLoad1 v39 h31 fun v40 =>
asS v40 fun l41 =>
pMapSet prog 9 v38 (AV.s l41) (AV.b true) h31 fun h42 =>
J 2 [(2, x2), (3, x3), (9, x9), (10, (AV.i .i64 x10)), (11, (AV.i .i64 x11))] h42)
else
(J 2 [(2, x2), (3, x3), (9, x9), (10, (AV.i .i64 x10)), (11, (AV.i .i64 x11))] h31)))
else
(pLoadN 2 x3 h fun v47 =>
pStore 2 x2 v47 h fun h48 =>
pLoadN 2 x2 h48 fun v50 =>
Q v50 h48))
theorem G_certcheck_newTrust.t0_eq (J : JT) (Q : AV → AHeap → Prop) (x2 : AV) (x3 : AV) (x9 : AV) (x10 : Int) (x11 : Int) (h : AHeap) : G_certcheck_newTrust.t0 J Q x2 x3 x9 x10 x11 h = atJ prog C 30 J true [1, 1, 0, 1, 0] G_certcheck_newTrust.ann G_certcheck_newTrust.body [(2, x2), (3, x3), (9, x9), (10, (AV.i .i64 x10)), (11, (AV.i .i64 x11))] h (kFun prog Tryz.f25 Q) := by kernel_rfl
theorem G_certcheck_newTrust.i0 {Q : AV → AHeap → Prop} {x2 : AV} {x3 : AV} {x9 : AV} {x10 : Int} {x11 : Int} {h : AHeap} (H : G_certcheck_newTrust.t0 (G_certcheck_newTrust.J Q) Q x2 x3 x9 x10 x11 h) : G_certcheck_newTrust.p0 Q x2 x3 x9 x10 x11 h := G_certcheck_newTrust.goH (k := 1) (p := [1, 1, 0, 1, 0]) (by kernel_rfl) ((G_certcheck_newTrust.t0_eq (G_certcheck_newTrust.J Q) Q x2 x3 x9 x10 x11 h).mp H)
def G_certcheck_newTrust.t (J : JT) (Q : AV → AHeap → Prop) (x0 : AV) (h : AHeap) : Prop :=
pAlloc (some 50) [(AV.mp none), (AV.mp none)] h fun v0 h1 =>
pMakeMap h1 fun v3 h4 =>
pMakeMap h4 fun v5 h6 =>
pBuild [(AV.mp none), (AV.mp none)] [(0, 1, v3), (1, 1, v5)] fun v7 =>
pAlloc (some 50) [(AV.mp none), (AV.mp none)] h6 fun v8 h9 =>
pStore 2 v8 v7 h9 fun h10 =>
pLenSl x0 fun n12 =>
J 1 [(2, v0), (3, v8), (9, x0), (10, (AV.i .i64 n12)), (11, (AV.i .i64 0))] h10
theorem G_certcheck_newTrust.t_eq (J : JT) (Q : AV → AHeap → Prop) (x0 : AV) (h : AHeap) : G_certcheck_newTrust.t J Q x0 h = exJ prog C 30 J G_certcheck_newTrust.ann G_certcheck_newTrust.body (initEnv 0 [x0]) h (kFun prog Tryz.f25 Q) := by kernel_rfl
theorem G_certcheck_newTrust.call {K : AV → AHeap → Prop} {x0 : AV} {h : AHeap} (H : G_certcheck_newTrust.t (G_certcheck_newTrust.J (kRet h K)) (kRet h K) x0 h) : C G_certcheck_newTrust.id [x0] h K :=
  callJ (P := prog) (fn := Tryz.f25) (ann := G_certcheck_newTrust.ann) (body := G_certcheck_newTrust.body) Tryz.func25 G_certcheck_newTrust.body_eq (by kernel_rfl) G_certcheck_newTrust.dist (by kernel_rfl) ((G_certcheck_newTrust.t_eq (G_certcheck_newTrust.J (kRet h K)) (kRet h K) x0 h).mp H)

--@@ G_certcheck_Check_1
/-! ### 26: intrusion/certcheck.Check$1 -/
noncomputable def G_certcheck_Check_1.body : Code := (Tryz.f26.body).getD .skip
def G_certcheck_Check_1.ann : Ann := (.seq 0 [0, 1, 2, 3, 4] .leaf (.seq 0 [] (.seq 0 [1, 2, 3, 4, 7] .leaf (.one (.seq 0 [1, 2, 3, 4, 7, 8] .leaf (.br (.seq 1 [6] (.ord (.neu 0 (.neu 1 (.neu 2 (.neu 3 (.neu 4 (.neu 5 (.neu 6 (.eff 7 (.neu 8 (.neu 9 (.neu 10 .done))) .stop))))))))) .leaf) (.seq 0 [2, 3, 4, 20] .leaf (.br (.seq 2 [6] (.ord (.neu 0 (.neu 1 (.neu 2 (.neu 3 (.neu 4 (.eff 5 (.neu 6 (.neu 7 (.neu 8 (.neu 9 (.neu 10 (.neu 11 (.neu 12 (.neu 13 (.neu 14 (.neu 15 (.neu 16 (.neu 17 (.neu 18 .done))))))))))))) .stop))))))) .leaf) .leaf)))))) (.seq 0 [6] .leaf .leaf)))
theorem G_certcheck_Check_1.body_eq : Tryz.f26.body = some G_certcheck_Check_1.body := by kernel_rfl
theorem G_certcheck_Check_1.dist : noTwice (places G_certcheck_Check_1.ann G_certcheck_Check_1.body) = true := by kernel_rfl
noncomputable def G_certcheck_Check_1.J (Q : AV → AHeap → Prop) : JT := funJ prog C Tryz.f26 G_certcheck_Check_1.ann G_certcheck_Check_1.body Q
theorem G_certcheck_Check_1.goR {Q : AV → AHeap → Prop} {k : Nat} {p : List Nat} (hl : lookJ (places G_certcheck_Check_1.ann G_certcheck_Check_1.body) k = some (p, false)) {e : Env} {h : AHeap} (hk : atJ prog C 40 (G_certcheck_Check_1.J Q) false p G_certcheck_Check_1.ann G_certcheck_Check_1.body e h (kFun prog Tryz.f26 Q)) : G_certcheck_Check_1.J Q k e h := goJ_run (P := prog) (fn := Tryz.f26) (ann := G_certcheck_Check_1.ann) (body := G_certcheck_Check_1.body) (Q := Q) (k := k) (p := p) (e := e) (h := h) (acall_le X) G_certcheck_Check_1.dist hl hk
theorem G_certcheck_Check_1.goH {Q : AV → AHeap → Prop} {k : Nat} {p : List Nat} (hl : lookJ (places G_certcheck_Check_1.ann G_certcheck_Check_1.body) k = some (p, true)) {e : Env} {h : AHeap} (hk : atJ prog C 40 (G_certcheck_Check_1.J Q) true p G_certcheck_Check_1.ann G_certcheck_Check_1.body e h (kFun prog Tryz.f26 Q)) : G_certcheck_Check_1.J Q k e h := goJ_head (P := prog) (fn := Tryz.f26) (ann := G_certcheck_Check_1.ann) (body := G_certcheck_Check_1.body) (Q := Q) (k := k) (p := p) (e := e) (h := h) (acall_le X) G_certcheck_Check_1.dist hl hk
def G_certcheck_Check_1.p0 (Q : AV → AHeap → Prop) (x6 : Bool) (h : AHeap) : Prop := G_certcheck_Check_1.J Q 1 [(6, (AV.b x6))] h
theorem G_certcheck_Check_1.j0 (Q : AV → AHeap → Prop) (x6 : Bool) (h : AHeap) : G_certcheck_Check_1.J Q 1 [(6, (AV.b x6))] h = G_certcheck_Check_1.p0 Q x6 h := rfl
def G_certcheck_Check_1.p1 (Q : AV → AHeap → Prop) (x6 : Bool) (h : AHeap) : Prop := G_certcheck_Check_1.J Q 2 [(6, (AV.b x6))] h
theorem G_certcheck_Check_1.j1 (Q : AV → AHeap → Prop) (x6 : Bool) (h : AHeap) : G_certcheck_Check_1.J Q 2 [(6, (AV.b x6))] h = G_certcheck_Check_1.p1 Q x6 h := rfl
def G_certcheck_Check_1.t0 (J : JT) (Q : AV → AHeap → Prop) (x6 : Bool) (h : AHeap) : Prop :=
Q (AV.b x6) h
theorem G_certcheck_Check_1.t0_eq (J : JT) (Q : AV → AHeap → Prop) (x6 : Bool) (h : AHeap) : G_certcheck_Check_1.t0 J Q x6 h = atJ prog C 40 J false [1, 0, 1, 0, 1, 0, 1] G_certcheck_Check_1.ann G_certcheck_Check_1.body [(6, (AV.b x6))] h (kFun prog Tryz.f26 Q) := by kernel_rfl
theorem G_certcheck_Check_1.i0 {Q : AV → AHeap → Prop} {x6 : Bool} {h : AHeap} (H : G_certcheck_Check_1.t0 (G_certcheck_Check_1.J Q) Q x6 h) : G_certcheck_Check_1.p0 Q x6 h := G_certcheck_Check_1.goR (k := 1) (p := [1, 0, 1, 0, 1, 0, 1]) (by kernel_rfl) ((G_certcheck_Check_1.t0_eq (G_certcheck_Check_1.J Q) Q x6 h).mp H)
def G_certcheck_Check_1.t1 (J : JT) (Q : AV → AHeap → Prop) (x6 : Bool) (h : AHeap) : Prop :=
Q (AV.b x6) h
theorem G_certcheck_Check_1.t1_eq (J : JT) (Q : AV → AHeap → Prop) (x6 : Bool) (h : AHeap) : G_certcheck_Check_1.t1 J Q x6 h = atJ prog C 40 J false [1, 0, 1, 0, 1, 1, 1, 0, 1] G_certcheck_Check_1.ann G_certcheck_Check_1.body [(6, (AV.b x6))] h (kFun prog Tryz.f26 Q) := by kernel_rfl
theorem G_certcheck_Check_1.i1 {Q : AV → AHeap → Prop} {x6 : Bool} {h : AHeap} (H : G_certcheck_Check_1.t1 (G_certcheck_Check_1.J Q) Q x6 h) : G_certcheck_Check_1.p1 Q x6 h := G_certcheck_Check_1.goR (k := 2) (p := [1, 0, 1, 0, 1, 1, 1, 0, 1]) (by kernel_rfl) ((G_certcheck_Check_1.t1_eq (G_certcheck_Check_1.J Q) Q x6 h).mp H)
def G_certcheck_Check_1.t (J : JT) (Q : AV → AHeap → Prop) (x0 : Int) (x1 : AV) (x2 : AV) (x3 : AV) (x4 : AV) (h : AHeap) : Prop :=
(bif (decide ((x0 : Int) = 3)) then
(pLoad1 x1 h fun v3 =>
asS v3 fun l4 =>
(bif (!(decide ((l4 : List UInt8) = []))) then
(pLoad1 x2 h fun v5 =>
pIdxAddrSl 8 v5 (AV.i .i64 0) h fun v6 =>
pLoadN 8 v6 h fun v7 =>
pLoad1 x1 h fun v8 =>
asS v8 fun l9 =>
C G_certcheck_names.id [v7, (AV.s l9)] h fun v10 h11 =>
asB v10 fun c12 =>
pIdxAddrSl 8 v5 (AV.i .i64 0) h11 fun v13 =>
(v6 = v13 ∧
(pLoad1 x2 h11 fun v14 =>
(v5 = v14 ∧
(pLoad1 x1 h11 fun v15 =>
asS v15 fun l16 =>
((AV.s l4) = (AV.s l16) ∧
(J 1 [(6, (AV.b (!c12)))] h11)))))))
else
(J 1 [(6, (AV.b false))] h)))
else
((bif (decide ((x0 : Int) = 5)) then
(pLoadN 2 x3 h fun v20 =>
pLoad1 x2 h fun v21 =>
pLoad1 x4 h fun v22 =>
asI .i64 v22 fun n23 =>
pIdxAddrSl 8 v21 (AV.i .i64 n23) h fun v24 =>
pLoadN 8 v24 h fun v25 =>
C G_certcheck_trust_has.id [v20, v25] h fun v26 h27 =>
asB v26 fun c28 =>
pIdxAddrSl 8 v21 (AV.i .i64 n23) h27 fun v29 =>
(v24 = v29 ∧
(pLoad1 x4 h27 fun v30 =>
asI .i64 v30 fun n31 =>
((AV.i .i64 n23) = (AV.i .i64 n31) ∧
(pLoad1 x2 h27 fun v32 =>
(v21 = v32 ∧
((bif (!c28) then
(pFieldAddr 1 x3 fun v33 =>
pLoad1 v33 h27 fun v34 =>
pLoad1 x2 h27 fun v35 =>
pLoad1 x4 h27 fun v36 =>
asI .i64 v36 fun n37 =>
pIdxAddrSl 8 v35 (AV.i .i64 n37) h27 fun v38 =>
pFieldAddr 1 v38 fun v39 =>
pLoad1 v39 h27 fun v40 =>
asS v40 fun l41 =>
pLookup prog 9 4 false v34 (AV.s l41) h27 fun v42 =>
asB v42 fun c43 =>
J 2 [(6, (AV.b (!c43)))] h27)
else
(J 2 [(6, (AV.b false))] h27)))))))))
else
(Q (AV.b false) h))))
theorem G_certcheck_Check_1.t_eq (J : JT) (Q : AV → AHeap → Prop) (x0 : Int) (x1 : AV) (x2 : AV) (x3 : AV) (x4 : AV) (h : AHeap) : G_certcheck_Check_1.t J Q x0 x1 x2 x3 x4 h = exJ prog C 40 J G_certcheck_Check_1.ann G_certcheck_Check_1.body (initEnv 0 [(AV.i .i64 x0), x1, x2, x3, x4]) h (kFun prog Tryz.f26 Q) := by kernel_rfl
theorem G_certcheck_Check_1.call {K : AV → AHeap → Prop} {x0 : Int} {x1 : AV} {x2 : AV} {x3 : AV} {x4 : AV} {h : AHeap} (H : G_certcheck_Check_1.t (G_certcheck_Check_1.J (kRet h K)) (kRet h K) x0 x1 x2 x3 x4 h) : C G_certcheck_Check_1.id [(AV.i .i64 x0), x1, x2, x3, x4] h K :=
  callJ (P := prog) (fn := Tryz.f26) (ann := G_certcheck_Check_1.ann) (body := G_certcheck_Check_1.body) Tryz.func26 G_certcheck_Check_1.body_eq (by kernel_rfl) G_certcheck_Check_1.dist (by kernel_rfl) ((G_certcheck_Check_1.t_eq (G_certcheck_Check_1.J (kRet h K)) (kRet h K) x0 x1 x2 x3 x4 h).mp H)

--@@ G_certcheck_names
/-! ### 27: intrusion/certcheck.names -/
noncomputable def G_certcheck_names.body : Code := (Tryz.f27.body).getD .skip
def G_certcheck_names.ann : Ann := (.seq 0 [1, 2] .leaf (.seq 0 [1, 2] (.seq 0 [1, 2, 10] .leaf (.br (.seq 0 [4] .leaf .leaf) .leaf)) (.seq 0 [] (.seq 0 [1, 17, 18, 19] .leaf (.one (.loop 1 [1, 17, 18, 19] (.seq 0 [1, 17, 18, 19, 20] .leaf (.seq 0 [1, 17, 18, 19] (.br .leaf .leaf) (.seq 0 [1, 17, 18, 19] (.one (.seq 0 [1, 6, 17, 18, 19] .leaf (.seq 0 [1, 17, 18, 19, 25] .leaf (.br (.seq 0 [4] .leaf .leaf) .leaf)))) .leaf)))))) (.seq 0 [4] .leaf .leaf))))
theorem G_certcheck_names.body_eq : Tryz.f27.body = some G_certcheck_names.body := by kernel_rfl
theorem G_certcheck_names.dist : noTwice (places G_certcheck_names.ann G_certcheck_names.body) = true := by kernel_rfl
noncomputable def G_certcheck_names.J (Q : AV → AHeap → Prop) : JT := funJ prog C Tryz.f27 G_certcheck_names.ann G_certcheck_names.body Q
theorem G_certcheck_names.goR {Q : AV → AHeap → Prop} {k : Nat} {p : List Nat} (hl : lookJ (places G_certcheck_names.ann G_certcheck_names.body) k = some (p, false)) {e : Env} {h : AHeap} (hk : atJ prog C 27 (G_certcheck_names.J Q) false p G_certcheck_names.ann G_certcheck_names.body e h (kFun prog Tryz.f27 Q)) : G_certcheck_names.J Q k e h := goJ_run (P := prog) (fn := Tryz.f27) (ann := G_certcheck_names.ann) (body := G_certcheck_names.body) (Q := Q) (k := k) (p := p) (e := e) (h := h) (acall_le X) G_certcheck_names.dist hl hk
theorem G_certcheck_names.goH {Q : AV → AHeap → Prop} {k : Nat} {p : List Nat} (hl : lookJ (places G_certcheck_names.ann G_certcheck_names.body) k = some (p, true)) {e : Env} {h : AHeap} (hk : atJ prog C 27 (G_certcheck_names.J Q) true p G_certcheck_names.ann G_certcheck_names.body e h (kFun prog Tryz.f27 Q)) : G_certcheck_names.J Q k e h := goJ_head (P := prog) (fn := Tryz.f27) (ann := G_certcheck_names.ann) (body := G_certcheck_names.body) (Q := Q) (k := k) (p := p) (e := e) (h := h) (acall_le X) G_certcheck_names.dist hl hk
def G_certcheck_names.p0 (Q : AV → AHeap → Prop) (x1 : List UInt8) (x17 : AV) (x18 : Int) (x19 : Int) (h : AHeap) : Prop := G_certcheck_names.J Q 1 [(1, (AV.s x1)), (17, x17), (18, (AV.i .i64 x18)), (19, (AV.i .i64 x19))] h
theorem G_certcheck_names.j0 (Q : AV → AHeap → Prop) (x1 : List UInt8) (x17 : AV) (x18 : Int) (x19 : Int) (h : AHeap) : G_certcheck_names.J Q 1 [(1, (AV.s x1)), (17, x17), (18, (AV.i .i64 x18)), (19, (AV.i .i64 x19))] h = G_certcheck_names.p0 Q x1 x17 x18 x19 h := rfl
def G_certcheck_names.t0 (J : JT) (Q : AV → AHeap → Prop) (x1 : List UInt8) (x17 : AV) (x18 : Int) (x19 : Int) (h : AHeap) : Prop :=
(bif (decide ((x19 : Int) < x18)) then
(pIdxAddrSl 1 x17 (AV.i .i64 x19) h fun v25 =>
pLoad1 v25 h fun v26 =>
asS v26 fun l27 =>
C G_certcheck_MatchName.id [(AV.s l27), (AV.s x1)] h fun v29 h30 =>
asB v29 fun c31 =>
(bif c31 then
(Q (AV.b true) h30)
else
(withI (IntKind.wrap .i64 (x19 + 1)) fun n35 =>
J 1 [(1, (AV.s x1)), (17, x17), (18, (AV.i .i64 x18)), (19, (AV.i .i64 n35))] h30)))
else
(Q (AV.b false) h))
theorem G_certcheck_names.t0_eq (J : JT) (Q : AV → AHeap → Prop) (x1 : List UInt8) (x17 : AV) (x18 : Int) (x19 : Int) (h : AHeap) : G_certcheck_names.t0 J Q x1 x17 x18 x19 h = atJ prog C 27 J true [1, 1, 0, 1, 0] G_certcheck_names.ann G_certcheck_names.body [(1, (AV.s x1)), (17, x17), (18, (AV.i .i64 x18)), (19, (AV.i .i64 x19))] h (kFun prog Tryz.f27 Q) := by kernel_rfl
theorem G_certcheck_names.i0 {Q : AV → AHeap → Prop} {x1 : List UInt8} {x17 : AV} {x18 : Int} {x19 : Int} {h : AHeap} (H : G_certcheck_names.t0 (G_certcheck_names.J Q) Q x1 x17 x18 x19 h) : G_certcheck_names.p0 Q x1 x17 x18 x19 h := G_certcheck_names.goH (k := 1) (p := [1, 1, 0, 1, 0]) (by kernel_rfl) ((G_certcheck_names.t0_eq (G_certcheck_names.J Q) Q x1 x17 x18 x19 h).mp H)
def G_certcheck_names.t (J : JT) (Q : AV → AHeap → Prop) (x0 : AV) (x1 : List UInt8) (h : AHeap) : Prop :=
pBox (some 36) x0 h fun v0 h1 =>
pFieldAddr 5 v0 fun v3 =>
pLoad1 v3 h1 fun v4 =>
pLenSl v4 fun n5 =>
(bif (decide ((n5 : Int) = 0)) then
(pFieldAddr 2 v0 fun v7 =>
pLoad1 v7 h1 fun v8 =>
asS v8 fun l9 =>
C G_certificate_Common.id [(AV.s l9)] h1 fun v10 h11 =>
asS v10 fun l12 =>
C G_certcheck_MatchName.id [(AV.s l12), (AV.s x1)] h11 fun v13 h14 =>
asB v13 fun c15 =>
Q (AV.b c15) h14)
else
(pFieldAddr 5 v0 fun v18 =>
pLoad1 v18 h1 fun v19 =>
pLenSl v19 fun n20 =>
J 1 [(1, (AV.s x1)), (17, v19), (18, (AV.i .i64 n20)), (19, (AV.i .i64 0))] h1))
theorem G_certcheck_names.t_eq (J : JT) (Q : AV → AHeap → Prop) (x0 : AV) (x1 : List UInt8) (h : AHeap) : G_certcheck_names.t J Q x0 x1 h = exJ prog C 27 J G_certcheck_names.ann G_certcheck_names.body (initEnv 0 [x0, (AV.s x1)]) h (kFun prog Tryz.f27 Q) := by kernel_rfl
theorem G_certcheck_names.call {K : AV → AHeap → Prop} {x0 : AV} {x1 : List UInt8} {h : AHeap} (H : G_certcheck_names.t (G_certcheck_names.J (kRet h K)) (kRet h K) x0 x1 h) : C G_certcheck_names.id [x0, (AV.s x1)] h K :=
  callJ (P := prog) (fn := Tryz.f27) (ann := G_certcheck_names.ann) (body := G_certcheck_names.body) Tryz.func27 G_certcheck_names.body_eq (by kernel_rfl) G_certcheck_names.dist (by kernel_rfl) ((G_certcheck_names.t_eq (G_certcheck_names.J (kRet h K)) (kRet h K) x0 x1 h).mp H)

--@@ G_certcheck_trust_has
/-! ### 28: (intrusion/certcheck.trust).has -/
noncomputable def G_certcheck_trust_has.body : Code := (Tryz.f28.body).getD .skip
def G_certcheck_trust_has.ann : Ann := (.seq 0 [2, 3] .leaf (.seq 0 [4] .leaf .leaf))
theorem G_certcheck_trust_has.body_eq : Tryz.f28.body = some G_certcheck_trust_has.body := by kernel_rfl
theorem G_certcheck_trust_has.dist : noTwice (places G_certcheck_trust_has.ann G_certcheck_trust_has.body) = true := by kernel_rfl
noncomputable def G_certcheck_trust_has.J (Q : AV → AHeap → Prop) : JT := funJ prog C Tryz.f28 G_certcheck_trust_has.ann G_certcheck_trust_has.body Q
theorem G_certcheck_trust_has.goR {Q : AV → AHeap → Prop} {k : Nat} {p : List Nat} (hl : lookJ (places G_certcheck_trust_has.ann G_certcheck_trust_has.body) k = some (p, false)) {e : Env} {h : AHeap} (hk : atJ prog C 13 (G_certcheck_trust_has.J Q) false p G_certcheck_trust_has.ann G_certcheck_trust_has.body e h (kFun prog Tryz.f28 Q)) : G_certcheck_trust_has.J Q k e h := goJ_run (P := prog) (fn := Tryz.f28) (ann := G_certcheck_trust_has.ann) (body := G_certcheck_trust_has.body) (Q := Q) (k := k) (p := p) (e := e) (h := h) (acall_le X) G_certcheck_trust_has.dist hl hk
theorem G_certcheck_trust_has.goH {Q : AV → AHeap → Prop} {k : Nat} {p : List Nat} (hl : lookJ (places G_certcheck_trust_has.ann G_certcheck_trust_has.body) k = some (p, true)) {e : Env} {h : AHeap} (hk : atJ prog C 13 (G_certcheck_trust_has.J Q) true p G_certcheck_trust_has.ann G_certcheck_trust_has.body e h (kFun prog Tryz.f28 Q)) : G_certcheck_trust_has.J Q k e h := goJ_head (P := prog) (fn := Tryz.f28) (ann := G_certcheck_trust_has.ann) (body := G_certcheck_trust_has.body) (Q := Q) (k := k) (p := p) (e := e) (h := h) (acall_le X) G_certcheck_trust_has.dist hl hk
def G_certcheck_trust_has.t (J : JT) (Q : AV → AHeap → Prop) (x0 : AV) (x1 : AV) (h : AHeap) : Prop :=
pBox (some 50) x0 h fun v0 h1 =>
pBox (some 36) x1 h1 fun v2 h3 =>
pFieldAddr 0 v0 fun v5 =>
pLoad1 v5 h3 fun v6 =>
pFieldAddr 2 v2 fun v7 =>
pLoad1 v7 h3 fun v8 =>
asS v8 fun l9 =>
pFieldAddr 7 v2 fun v10 =>
pLoad1 v10 h3 fun v11 =>
asS v11 fun l12 =>
pLookup prog 60 4 false v6 (AV.ag [(AV.s l9), (AV.s l12)]) h3 fun v13 =>
asB v13 fun c14 =>
Q (AV.b c14) h3
theorem G_certcheck_trust_has.t_eq (J : JT) (Q : AV → AHeap → Prop) (x0 : AV) (x1 : AV) (h : AHeap) : G_certcheck_trust_has.t J Q x0 x1 h = exJ prog C 13 J G_certcheck_trust_has.ann G_certcheck_trust_has.body (initEnv 0 [x0, x1]) h (kFun prog Tryz.f28 Q) := by kernel_rfl
theorem G_certcheck_trust_has.call {K : AV → AHeap → Prop} {x0 : AV} {x1 : AV} {h : AHeap} (H : G_certcheck_trust_has.t (G_certcheck_trust_has.J (kRet h K)) (kRet h K) x0 x1 h) : C G_certcheck_trust_has.id [x0, x1] h K :=
  callJ (P := prog) (fn := Tryz.f28) (ann := G_certcheck_trust_has.ann) (body := G_certcheck_trust_has.body) Tryz.func28 G_certcheck_trust_has.body_eq (by kernel_rfl) G_certcheck_trust_has.dist (by kernel_rfl) ((G_certcheck_trust_has.t_eq (G_certcheck_trust_has.J (kRet h K)) (kRet h K) x0 x1 h).mp H)

--@@ G_ref35_trusts
/-! ### 29: intrusion/intrusionref35.trusts -/
noncomputable def G_ref35_trusts.body : Code := (Tryz.f29.body).getD .skip
def G_ref35_trusts.ann : Ann := (.seq 0 [0, 3] .leaf (.seq 0 [] (.seq 0 [0, 3, 5] .leaf (.one (.loop 1 [0, 3, 5] (.seq 0 [0, 3, 5] (.seq 0 [0, 3, 5, 9] .leaf (.br .leaf .leaf)) (.seq 0 [0, 3, 5] (.one (.seq 2 [0, 3, 5, 29] (.ord (.neu 0 (.neu 1 (.neu 2 (.neu 3 (.neu 4 (.neu 5 (.neu 6 (.neu 7 (.neu 8 (.neu 9 (.neu 10 (.neu 11 (.neu 12 (.neu 13 (.neu 14 (.neu 15 (.neu 16 (.neu 17 .done))))))))))))))))))) (.br (.seq 0 [4] .leaf .leaf) .leaf))) .leaf))))) (.seq 0 [4] .leaf .leaf)))
theorem G_ref35_trusts.body_eq : Tryz.f29.body = some G_ref35_trusts.body := by kernel_rfl
theorem G_ref35_trusts.dist : noTwice (places G_ref35_trusts.ann G_ref35_trusts.body) = true := by kernel_rfl
noncomputable def G_ref35_trusts.J (Q : AV → AHeap → Prop) : JT := funJ prog C Tryz.f29 G_ref35_trusts.ann G_ref35_trusts.body Q
theorem G_ref35_trusts.goR {Q : AV → AHeap → Prop} {k : Nat} {p : List Nat} (hl : lookJ (places G_ref35_trusts.ann G_ref35_trusts.body) k = some (p, false)) {e : Env} {h : AHeap} (hk : atJ prog C 30 (G_ref35_trusts.J Q) false p G_ref35_trusts.ann G_ref35_trusts.body e h (kFun prog Tryz.f29 Q)) : G_ref35_trusts.J Q k e h := goJ_run (P := prog) (fn := Tryz.f29) (ann := G_ref35_trusts.ann) (body := G_ref35_trusts.body) (Q := Q) (k := k) (p := p) (e := e) (h := h) (acall_le X) G_ref35_trusts.dist hl hk
theorem G_ref35_trusts.goH {Q : AV → AHeap → Prop} {k : Nat} {p : List Nat} (hl : lookJ (places G_ref35_trusts.ann G_ref35_trusts.body) k = some (p, true)) {e : Env} {h : AHeap} (hk : atJ prog C 30 (G_ref35_trusts.J Q) true p G_ref35_trusts.ann G_ref35_trusts.body e h (kFun prog Tryz.f29 Q)) : G_ref35_trusts.J Q k e h := goJ_head (P := prog) (fn := Tryz.f29) (ann := G_ref35_trusts.ann) (body := G_ref35_trusts.body) (Q := Q) (k := k) (p := p) (e := e) (h := h) (acall_le X) G_ref35_trusts.dist hl hk
def G_ref35_trusts.p1 (Q : AV → AHeap → Prop) (x0 : AV) (x3 : AV) (x5 : Int) (x29 : Bool) (h : AHeap) : Prop := G_ref35_trusts.J Q 2 [(0, x0), (3, x3), (5, (AV.i .i64 x5)), (29, (AV.b x29))] h
theorem G_ref35_trusts.j1 (Q : AV → AHeap → Prop) (x0 : AV) (x3 : AV) (x5 : Int) (x29 : Bool) (h : AHeap) : G_ref35_trusts.J Q 2 [(0, x0), (3, x3), (5, (AV.i .i64 x5)), (29, (AV.b x29))] h = G_ref35_trusts.p1 Q x0 x3 x5 x29 h := rfl
def G_ref35_trusts.p0 (Q : AV → AHeap → Prop) (x0 : AV) (x3 : AV) (x5 : Int) (h : AHeap) : Prop := G_ref35_trusts.J Q 1 [(0, x0), (3, x3), (5, (AV.i .i64 x5))] h
theorem G_ref35_trusts.j0 (Q : AV → AHeap → Prop) (x0 : AV) (x3 : AV) (x5 : Int) (h : AHeap) : G_ref35_trusts.J Q 1 [(0, x0), (3, x3), (5, (AV.i .i64 x5))] h = G_ref35_trusts.p0 Q x0 x3 x5 h := rfl
def G_ref35_trusts.t1 (J : JT) (Q : AV → AHeap → Prop) (x0 : AV) (x3 : AV) (x5 : Int) (x29 : Bool) (h : AHeap) : Prop :=
(bif x29 then
(Q (AV.b true) h)
else
(withI (IntKind.wrap .i64 (x5 + 1)) fun n26 =>
J 1 [(0, x0), (3, x3), (5, (AV.i .i64 n26))] h))
theorem G_ref35_trusts.t1_eq (J : JT) (Q : AV → AHeap → Prop) (x0 : AV) (x3 : AV) (x5 : Int) (x29 : Bool) (h : AHeap) : G_ref35_trusts.t1 J Q x0 x3 x5 x29 h = atJ prog C 30 J false [1, 0, 1, 0, 0, 1, 0, 0, 1] G_ref35_trusts.ann G_ref35_trusts.body [(0, x0), (3, x3), (5, (AV.i .i64 x5)), (29, (AV.b x29))] h (kFun prog Tryz.f29 Q) := by kernel_rfl
theorem G_ref35_trusts.i1 {Q : AV → AHeap → Prop} {x0 : AV} {x3 : AV} {x5 : Int} {x29 : Bool} {h : AHeap} (H : G_ref35_trusts.t1 (G_ref35_trusts.J Q) Q x0 x3 x5 x29 h) : G_ref35_trusts.p1 Q x0 x3 x5 x29 h := G_ref35_trusts.goR (k := 2) (p := [1, 0, 1, 0, 0, 1, 0, 0, 1]) (by kernel_rfl) ((G_ref35_trusts.t1_eq (G_ref35_trusts.J Q) Q x0 x3 x5 x29 h).mp H)
def G_ref35_trusts.t0 (J : JT) (Q : AV → AHeap → Prop) (x0 : AV) (x3 : AV) (x5 : Int) (h : AHeap) : Prop :=
pLenSl x0 fun n4 =>
(bif (decide ((x5 : Int) < n4)) then
(pIdxAddrSl 8 x0 (AV.i .i64 x5) h fun v8 =>
pFieldAddr 2 v8 fun v9 =>
pLoad1 v9 h fun v10 =>
asS v10 fun l11 =>
pFieldAddr 2 x3 fun v12 =>
pLoad1 v12 h fun v13 =>
asS v13 fun l14 =>
(bif (decide ((l11 : List UInt8) = l14)) then
(pIdxAddrSl 8 x0 (AV.i .i64 x5) h fun v15 =>
pFieldAddr 7 v15 fun v16 =>
pLoad1 v16 h fun v17 =>
asS v17 fun l18 =>
pFieldAddr 7 x3 fun v19 =>
pLoad1 v19 h fun v20 =>
asS v20 fun l21 =>
J 2 [(0, x0), (3, x3), (5, (AV.i .i64 x5)), (29, (AV.b (decide ((l18 : List UInt8) = l21))))] h)
else
(J 2 [(0, x0), (3, x3), (5, (AV.i .i64 x5)), (29, (AV.b false))] h)))
else
(Q (AV.b false) h))
theorem G_ref35_trusts.t0_eq (J : JT) (Q : AV → AHeap → Prop) (x0 : AV) (x3 : AV) (x5 : Int) (h : AHeap) : G_ref35_trusts.t0 J Q x0 x3 x5 h = atJ prog C 30 J true [1, 0, 1, 0] G_ref35_trusts.ann G_ref35_trusts.body [(0, x0), (3, x3), (5, (AV.i .i64 x5))] h (kFun prog Tryz.f29 Q) := by kernel_rfl
theorem G_ref35_trusts.i0 {Q : AV → AHeap → Prop} {x0 : AV} {x3 : AV} {x5 : Int} {h : AHeap} (H : G_ref35_trusts.t0 (G_ref35_trusts.J Q) Q x0 x3 x5 h) : G_ref35_trusts.p0 Q x0 x3 x5 h := G_ref35_trusts.goH (k := 1) (p := [1, 0, 1, 0]) (by kernel_rfl) ((G_ref35_trusts.t0_eq (G_ref35_trusts.J Q) Q x0 x3 x5 h).mp H)
def G_ref35_trusts.t (J : JT) (Q : AV → AHeap → Prop) (x0 : AV) (x1 : AV) (h : AHeap) : Prop :=
pBox (some 36) x1 h fun v0 h1 =>
J 1 [(0, x0), (3, v0), (5, (AV.i .i64 0))] h1
theorem G_ref35_trusts.t_eq (J : JT) (Q : AV → AHeap → Prop) (x0 : AV) (x1 : AV) (h : AHeap) : G_ref35_trusts.t J Q x0 x1 h = exJ prog C 30 J G_ref35_trusts.ann G_ref35_trusts.body (initEnv 0 [x0, x1]) h (kFun prog Tryz.f29 Q) := by kernel_rfl
theorem G_ref35_trusts.call {K : AV → AHeap → Prop} {x0 : AV} {x1 : AV} {h : AHeap} (H : G_ref35_trusts.t (G_ref35_trusts.J (kRet h K)) (kRet h K) x0 x1 h) : C G_ref35_trusts.id [x0, x1] h K :=
  callJ (P := prog) (fn := Tryz.f29) (ann := G_ref35_trusts.ann) (body := G_ref35_trusts.body) Tryz.func29 G_ref35_trusts.body_eq (by kernel_rfl) G_ref35_trusts.dist (by kernel_rfl) ((G_ref35_trusts.t_eq (G_ref35_trusts.J (kRet h K)) (kRet h K) x0 x1 h).mp H)

--@@ G_ref35_named
/-! ### 30: intrusion/intrusionref35.named -/
noncomputable def G_ref35_named.body : Code := (Tryz.f30.body).getD .skip
def G_ref35_named.ann : Ann := (.seq 0 [1, 2] .leaf (.seq 0 [1, 2] (.seq 0 [1, 2, 9] .leaf (.br (.seq 0 [4] .leaf .leaf) .leaf)) (.seq 0 [] (.seq 0 [1, 2, 5] .leaf (.one (.loop 1 [1, 2, 5] (.seq 0 [1, 2, 5] (.seq 0 [1, 2, 5, 19] .leaf (.br .leaf .leaf)) (.seq 0 [1, 2, 5] (.one (.seq 0 [1, 2, 5, 28] .leaf (.br (.seq 0 [4] .leaf .leaf) .leaf))) .leaf))))) (.seq 0 [4] .leaf .leaf))))
theorem G_ref35_named.body_eq : Tryz.f30.body = some G_ref35_named.body := by kernel_rfl
theorem G_ref35_named.dist : noTwice (places G_ref35_named.ann G_ref35_named.body) = true := by kernel_rfl
noncomputable def G_ref35_named.J (Q : AV → AHeap → Prop) : JT := funJ prog C Tryz.f30 G_ref35_named.ann G_ref35_named.body Q
theorem G_ref35_named.goR {Q : AV → AHeap → Prop} {k : Nat} {p : List Nat} (hl : lookJ (places G_ref35_named.ann G_ref35_named.body) k = some (p, false)) {e : Env} {h : AHeap} (hk : atJ prog C 29 (G_ref35_named.J Q) false p G_ref35_named.ann G_ref35_named.body e h (kFun prog Tryz.f30 Q)) : G_ref35_named.J Q k e h := goJ_run (P := prog) (fn := Tryz.f30) (ann := G_ref35_named.ann) (body := G_ref35_named.body) (Q := Q) (k := k) (p := p) (e := e) (h := h) (acall_le X) G_ref35_named.dist hl hk
theorem G_ref35_named.goH {Q : AV → AHeap → Prop} {k : Nat} {p : List Nat} (hl : lookJ (places G_ref35_named.ann G_ref35_named.body) k = some (p, true)) {e : Env} {h : AHeap} (hk : atJ prog C 29 (G_ref35_named.J Q) true p G_ref35_named.ann G_ref35_named.body e h (kFun prog Tryz.f30 Q)) : G_ref35_named.J Q k e h := goJ_head (P := prog) (fn := Tryz.f30) (ann := G_ref35_named.ann) (body := G_ref35_named.body) (Q := Q) (k := k) (p := p) (e := e) (h := h) (acall_le X) G_ref35_named.dist hl hk
def G_ref35_named.p0 (Q : AV → AHeap → Prop) (x1 : List UInt8) (x2 : AV) (x5 : Int) (h : AHeap) : Prop := G_ref35_named.J Q 1 [(1, (AV.s x1)), (2, x2), (5, (AV.i .i64 x5))] h
theorem G_ref35_named.j0 (Q : AV → AHeap → Prop) (x1 : List UInt8) (x2 : AV) (x5 : Int) (h : AHeap) : G_ref35_named.J Q 1 [(1, (AV.s x1)), (2, x2), (5, (AV.i .i64 x5))] h = G_ref35_named.p0 Q x1 x2 x5 h := rfl
def G_ref35_named.t0 (J : JT) (Q : AV → AHeap → Prop) (x1 : List UInt8) (x2 : AV) (x5 : Int) (h : AHeap) : Prop :=
pFieldAddr 5 x2 fun v19 =>
pLoad1 v19 h fun v20 =>
pLenSl v20 fun n21 =>
(bif (decide ((x5 : Int) < n21)) then
(pFieldAddr 5 x2 fun v25 =>
pLoad1 v25 h fun v26 =>
pIdxAddrSl 1 v26 (AV.i .i64 x5) h fun v27 =>
pLoad1 v27 h fun v28 =>
asS v28 fun l29 =>
C G_ref35_MatchName.id [(AV.s l29), (AV.s x1)] h fun v30 h31 =>
asB v30 fun c32 =>
(bif c32 then
(Q (AV.b true) h31)
else
(withI (IntKind.wrap .i64 (x5 + 1)) fun n36 =>
J 1 [(1, (AV.s x1)), (2, x2), (5, (AV.i .i64 n36))] h31)))
else
(Q (AV.b false) h))
theorem G_ref35_named.t0_eq (J : JT) (Q : AV → AHeap → Prop) (x1 : List UInt8) (x2 : AV) (x5 : Int) (h : AHeap) : G_ref35_named.t0 J Q x1 x2 x5 h = atJ prog C 29 J true [1, 1, 0, 1, 0] G_ref35_named.ann G_ref35_named.body [(1, (AV.s x1)), (2, x2), (5, (AV.i .i64 x5))] h (kFun prog Tryz.f30 Q) := by kernel_rfl
theorem G_ref35_named.i0 {Q : AV → AHeap → Prop} {x1 : List UInt8} {x2 : AV} {x5 : Int} {h : AHeap} (H : G_ref35_named.t0 (G_ref35_named.J Q) Q x1 x2 x5 h) : G_ref35_named.p0 Q x1 x2 x5 h := G_ref35_named.goH (k := 1) (p := [1, 1, 0, 1, 0]) (by kernel_rfl) ((G_ref35_named.t0_eq (G_ref35_named.J Q) Q x1 x2 x5 h).mp H)
def G_ref35_named.t (J : JT) (Q : AV → AHeap → Prop) (x0 : AV) (x1 : List UInt8) (h : AHeap) : Prop :=
pBox (some 36) x0 h fun v0 h1 =>
pFieldAddr 5 v0 fun v3 =>
pLoad1 v3 h1 fun v4 =>
pLenSl v4 fun n5 =>
(bif (decide ((n5 : Int) = 0)) then
(pFieldAddr 2 v0 fun v7 =>
pLoad1 v7 h1 fun v8 =>
asS v8 fun l9 =>
C G_ref34_Common.id [(AV.s l9)] h1 fun v10 h11 =>
asS v10 fun l12 =>
C G_ref35_MatchName.id [(AV.s l12), (AV.s x1)] h11 fun v13 h14 =>
asB v13 fun c15 =>
Q (AV.b c15) h14)
else
(J 1 [(1, (AV.s x1)), (2, v0), (5, (AV.i .i64 0))] h1))
theorem G_ref35_named.t_eq (J : JT) (Q : AV → AHeap → Prop) (x0 : AV) (x1 : List UInt8) (h : AHeap) : G_ref35_named.t J Q x0 x1 h = exJ prog C 29 J G_ref35_named.ann G_ref35_named.body (initEnv 0 [x0, (AV.s x1)]) h (kFun prog Tryz.f30 Q) := by kernel_rfl
theorem G_ref35_named.call {K : AV → AHeap → Prop} {x0 : AV} {x1 : List UInt8} {h : AHeap} (H : G_ref35_named.t (G_ref35_named.J (kRet h K)) (kRet h K) x0 x1 h) : C G_ref35_named.id [x0, (AV.s x1)] h K :=
  callJ (P := prog) (fn := Tryz.f30) (ann := G_ref35_named.ann) (body := G_ref35_named.body) Tryz.func30 G_ref35_named.body_eq (by kernel_rfl) G_ref35_named.dist (by kernel_rfl) ((G_ref35_named.t_eq (G_ref35_named.J (kRet h K)) (kRet h K) x0 x1 h).mp H)

--@@ G_ref35_issued
/-! ### 31: intrusion/intrusionref35.issued -/
noncomputable def G_ref35_issued.body : Code := (Tryz.f31.body).getD .skip
def G_ref35_issued.ann : Ann := (.seq 0 [0, 3] .leaf (.seq 0 [] (.seq 0 [0, 3, 5] .leaf (.one (.loop 1 [0, 3, 5] (.seq 0 [0, 3, 5] (.seq 0 [0, 3, 5, 9] .leaf (.br .leaf .leaf)) (.seq 0 [0, 3, 5] (.one (.seq 2 [0, 3, 5, 26] (.ord (.neu 0 (.neu 1 (.neu 2 (.neu 3 (.neu 4 (.neu 5 (.neu 6 (.neu 7 (.neu 8 (.neu 9 (.neu 10 (.neu 11 (.neu 12 (.neu 13 (.neu 14 .done)))))))))))))))) (.br (.seq 0 [4] .leaf .leaf) .leaf))) .leaf))))) (.seq 0 [4] .leaf .leaf)))
theorem G_ref35_issued.body_eq : Tryz.f31.body = some G_ref35_issued.body := by kernel_rfl
theorem G_ref35_issued.dist : noTwice (places G_ref35_issued.ann G_ref35_issued.body) = true := by kernel_rfl
noncomputable def G_ref35_issued.J (Q : AV → AHeap → Prop) : JT := funJ prog C Tryz.f31 G_ref35_issued.ann G_ref35_issued.body Q
theorem G_ref35_issued.goR {Q : AV → AHeap → Prop} {k : Nat} {p : List Nat} (hl : lookJ (places G_ref35_issued.ann G_ref35_issued.body) k = some (p, false)) {e : Env} {h : AHeap} (hk : atJ prog C 27 (G_ref35_issued.J Q) false p G_ref35_issued.ann G_ref35_issued.body e h (kFun prog Tryz.f31 Q)) : G_ref35_issued.J Q k e h := goJ_run (P := prog) (fn := Tryz.f31) (ann := G_ref35_issued.ann) (body := G_ref35_issued.body) (Q := Q) (k := k) (p := p) (e := e) (h := h) (acall_le X) G_ref35_issued.dist hl hk
theorem G_ref35_issued.goH {Q : AV → AHeap → Prop} {k : Nat} {p : List Nat} (hl : lookJ (places G_ref35_issued.ann G_ref35_issued.body) k = some (p, true)) {e : Env} {h : AHeap} (hk : atJ prog C 27 (G_ref35_issued.J Q) true p G_ref35_issued.ann G_ref35_issued.body e h (kFun prog Tryz.f31 Q)) : G_ref35_issued.J Q k e h := goJ_head (P := prog) (fn := Tryz.f31) (ann := G_ref35_issued.ann) (body := G_ref35_issued.body) (Q := Q) (k := k) (p := p) (e := e) (h := h) (acall_le X) G_ref35_issued.dist hl hk
def G_ref35_issued.p1 (Q : AV → AHeap → Prop) (x0 : AV) (x3 : AV) (x5 : Int) (x26 : Bool) (h : AHeap) : Prop := G_ref35_issued.J Q 2 [(0, x0), (3, x3), (5, (AV.i .i64 x5)), (26, (AV.b x26))] h
theorem G_ref35_issued.j1 (Q : AV → AHeap → Prop) (x0 : AV) (x3 : AV) (x5 : Int) (x26 : Bool) (h : AHeap) : G_ref35_issued.J Q 2 [(0, x0), (3, x3), (5, (AV.i .i64 x5)), (26, (AV.b x26))] h = G_ref35_issued.p1 Q x0 x3 x5 x26 h := rfl
def G_ref35_issued.p0 (Q : AV → AHeap → Prop) (x0 : AV) (x3 : AV) (x5 : Int) (h : AHeap) : Prop := G_ref35_issued.J Q 1 [(0, x0), (3, x3), (5, (AV.i .i64 x5))] h
theorem G_ref35_issued.j0 (Q : AV → AHeap → Prop) (x0 : AV) (x3 : AV) (x5 : Int) (h : AHeap) : G_ref35_issued.J Q 1 [(0, x0), (3, x3), (5, (AV.i .i64 x5))] h = G_ref35_issued.p0 Q x0 x3 x5 h := rfl
def G_ref35_issued.t1 (J : JT) (Q : AV → AHeap → Prop) (x0 : AV) (x3 : AV) (x5 : Int) (x26 : Bool) (h : AHeap) : Prop :=
(bif x26 then
(Q (AV.b true) h)
else
(withI (IntKind.wrap .i64 (x5 + 1)) fun n23 =>
J 1 [(0, x0), (3, x3), (5, (AV.i .i64 n23))] h))
theorem G_ref35_issued.t1_eq (J : JT) (Q : AV → AHeap → Prop) (x0 : AV) (x3 : AV) (x5 : Int) (x26 : Bool) (h : AHeap) : G_ref35_issued.t1 J Q x0 x3 x5 x26 h = atJ prog C 27 J false [1, 0, 1, 0, 0, 1, 0, 0, 1] G_ref35_issued.ann G_ref35_issued.body [(0, x0), (3, x3), (5, (AV.i .i64 x5)), (26, (AV.b x26))] h (kFun prog Tryz.f31 Q) := by kernel_rfl
theorem G_ref35_issued.i1 {Q : AV → AHeap → Prop} {x0 : AV} {x3 : AV} {x5 : Int} {x26 : Bool} {h : AHeap} (H : G_ref35_issued.t1 (G_ref35_issued.J Q) Q x0 x3 x5 x26 h) : G_ref35_issued.p1 Q x0 x3 x5 x26 h := G_ref35_issued.goR (k := 2) (p := [1, 0, 1, 0, 0, 1, 0, 0, 1]) (by kernel_rfl) ((G_ref35_issued.t1_eq (G_ref35_issued.J Q) Q x0 x3 x5 x26 h).mp H)
def G_ref35_issued.t0 (J : JT) (Q : AV → AHeap → Prop) (x0 : AV) (x3 : AV) (x5 : Int) (h : AHeap) : Prop :=
pLenSl x0 fun n4 =>
(bif (decide ((x5 : Int) < n4)) then
(pIdxAddrSl 8 x0 (AV.i .i64 x5) h fun v8 =>
pFieldAddr 6 v8 fun v9 =>
pLoad1 v9 h fun v10 =>
asB v10 fun c11 =>
(bif c11 then
(pIdxAddrSl 8 x0 (AV.i .i64 x5) h fun v12 =>
pFieldAddr 2 v12 fun v13 =>
pLoad1 v13 h fun v14 =>
asS v14 fun l15 =>
pFieldAddr 1 x3 fun v16 =>
pLoad1 v16 h fun v17 =>
asS v17 fun l18 =>
J 2 [(0, x0), (3, x3), (5, (AV.i .i64 x5)), (26, (AV.b (decide ((l15 : List UInt8) = l18))))] h)
else
(J 2 [(0, x0), (3, x3), (5, (AV.i .i64 x5)), (26, (AV.b false))] h)))
else
(Q (AV.b false) h))
theorem G_ref35_issued.t0_eq (J : JT) (Q : AV → AHeap → Prop) (x0 : AV) (x3 : AV) (x5 : Int) (h : AHeap) : G_ref35_issued.t0 J Q x0 x3 x5 h = atJ prog C 27 J true [1, 0, 1, 0] G_ref35_issued.ann G_ref35_issued.body [(0, x0), (3, x3), (5, (AV.i .i64 x5))] h (kFun prog Tryz.f31 Q) := by kernel_rfl
theorem G_ref35_issued.i0 {Q : AV → AHeap → Prop} {x0 : AV} {x3 : AV} {x5 : Int} {h : AHeap} (H : G_ref35_issued.t0 (G_ref35_issued.J Q) Q x0 x3 x5 h) : G_ref35_issued.p0 Q x0 x3 x5 h := G_ref35_issued.goH (k := 1) (p := [1, 0, 1, 0]) (by kernel_rfl) ((G_ref35_issued.t0_eq (G_ref35_issued.J Q) Q x0 x3 x5 h).mp H)
def G_ref35_issued.t (J : JT) (Q : AV → AHeap → Prop) (x0 : AV) (x1 : AV) (h : AHeap) : Prop :=
pBox (some 36) x1 h fun v0 h1 =>
J 1 [(0, x0), (3, v0), (5, (AV.i .i64 0))] h1
theorem G_ref35_issued.t_eq (J : JT) (Q : AV → AHeap → Prop) (x0 : AV) (x1 : AV) (h : AHeap) : G_ref35_issued.t J Q x0 x1 h = exJ prog C 27 J G_ref35_issued.ann G_ref35_issued.body (initEnv 0 [x0, x1]) h (kFun prog Tryz.f31 Q) := by kernel_rfl
theorem G_ref35_issued.call {K : AV → AHeap → Prop} {x0 : AV} {x1 : AV} {h : AHeap} (H : G_ref35_issued.t (G_ref35_issued.J (kRet h K)) (kRet h K) x0 x1 h) : C G_ref35_issued.id [x0, x1] h K :=
  callJ (P := prog) (fn := Tryz.f31) (ann := G_ref35_issued.ann) (body := G_ref35_issued.body) Tryz.func31 G_ref35_issued.body_eq (by kernel_rfl) G_ref35_issued.dist (by kernel_rfl) ((G_ref35_issued.t_eq (G_ref35_issued.J (kRet h K)) (kRet h K) x0 x1 h).mp H)

--@@ G_i_stringslite_CutPrefix
/-! ### 32: internal/stringslite.CutPrefix -/
noncomputable def G_i_stringslite_CutPrefix.body : Code := (Tryz.f32.body).getD .skip
def G_i_stringslite_CutPrefix.ann : Ann := (.seq 0 [0, 1] .leaf (.seq 0 [0, 1] (.seq 0 [0, 1, 9] .leaf (.br (.seq 0 [4, 5] .leaf .leaf) .leaf)) (.seq 0 [4, 5] .leaf .leaf)))
theorem G_i_stringslite_CutPrefix.body_eq : Tryz.f32.body = some G_i_stringslite_CutPrefix.body := by kernel_rfl
theorem G_i_stringslite_CutPrefix.dist : noTwice (places G_i_stringslite_CutPrefix.ann G_i_stringslite_CutPrefix.body) = true := by kernel_rfl
noncomputable def G_i_stringslite_CutPrefix.J (Q : AV → AHeap → Prop) : JT := funJ prog C Tryz.f32 G_i_stringslite_CutPrefix.ann G_i_stringslite_CutPrefix.body Q
theorem G_i_stringslite_CutPrefix.goR {Q : AV → AHeap → Prop} {k : Nat} {p : List Nat} (hl : lookJ (places G_i_stringslite_CutPrefix.ann G_i_stringslite_CutPrefix.body) k = some (p, false)) {e : Env} {h : AHeap} (hk : atJ prog C 15 (G_i_stringslite_CutPrefix.J Q) false p G_i_stringslite_CutPrefix.ann G_i_stringslite_CutPrefix.body e h (kFun prog Tryz.f32 Q)) : G_i_stringslite_CutPrefix.J Q k e h := goJ_run (P := prog) (fn := Tryz.f32) (ann := G_i_stringslite_CutPrefix.ann) (body := G_i_stringslite_CutPrefix.body) (Q := Q) (k := k) (p := p) (e := e) (h := h) (acall_le X) G_i_stringslite_CutPrefix.dist hl hk
theorem G_i_stringslite_CutPrefix.goH {Q : AV → AHeap → Prop} {k : Nat} {p : List Nat} (hl : lookJ (places G_i_stringslite_CutPrefix.ann G_i_stringslite_CutPrefix.body) k = some (p, true)) {e : Env} {h : AHeap} (hk : atJ prog C 15 (G_i_stringslite_CutPrefix.J Q) true p G_i_stringslite_CutPrefix.ann G_i_stringslite_CutPrefix.body e h (kFun prog Tryz.f32 Q)) : G_i_stringslite_CutPrefix.J Q k e h := goJ_head (P := prog) (fn := Tryz.f32) (ann := G_i_stringslite_CutPrefix.ann) (body := G_i_stringslite_CutPrefix.body) (Q := Q) (k := k) (p := p) (e := e) (h := h) (acall_le X) G_i_stringslite_CutPrefix.dist hl hk
def G_i_stringslite_CutPrefix.t (J : JT) (Q : AV → AHeap → Prop) (x0 : List UInt8) (x1 : List UInt8) (h : AHeap) : Prop :=
C G_i_stringslite_HasPrefix.id [(AV.s x0), (AV.s x1)] h fun v1 h2 =>
asB v1 fun c3 =>
(bif (!c3) then
(Q (AV.tu [(AV.s x0), (AV.b false)]) h2)
else
(pSliceStr (AV.s x0) (some (AV.i .i64 (x1.length : Int))) none fun l7 =>
Q (AV.tu [(AV.s l7), (AV.b true)]) h2))
theorem G_i_stringslite_CutPrefix.t_eq (J : JT) (Q : AV → AHeap → Prop) (x0 : List UInt8) (x1 : List UInt8) (h : AHeap) : G_i_stringslite_CutPrefix.t J Q x0 x1 h = exJ prog C 15 J G_i_stringslite_CutPrefix.ann G_i_stringslite_CutPrefix.body (initEnv 0 [(AV.s x0), (AV.s x1)]) h (kFun prog Tryz.f32 Q) := by kernel_rfl
theorem G_i_stringslite_CutPrefix.call {K : AV → AHeap → Prop} {x0 : List UInt8} {x1 : List UInt8} {h : AHeap} (H : G_i_stringslite_CutPrefix.t (G_i_stringslite_CutPrefix.J (kRet h K)) (kRet h K) x0 x1 h) : C G_i_stringslite_CutPrefix.id [(AV.s x0), (AV.s x1)] h K :=
  callJ (P := prog) (fn := Tryz.f32) (ann := G_i_stringslite_CutPrefix.ann) (body := G_i_stringslite_CutPrefix.body) Tryz.func32 G_i_stringslite_CutPrefix.body_eq (by kernel_rfl) G_i_stringslite_CutPrefix.dist (by kernel_rfl) ((G_i_stringslite_CutPrefix.t_eq (G_i_stringslite_CutPrefix.J (kRet h K)) (kRet h K) x0 x1 h).mp H)

--@@ G_i_stringslite_Cut
/-! ### 33: internal/stringslite.Cut -/
noncomputable def G_i_stringslite_Cut.body : Code := (Tryz.f33.body).getD .skip
def G_i_stringslite_Cut.ann : Ann := (.seq 0 [0, 1] .leaf (.seq 0 [0] (.seq 0 [0, 1, 7] .leaf (.seq 0 [0, 1, 7, 12] .leaf (.br (.seq 0 [4, 5, 6] (.ord (.neu 0 (.neu 1 (.neu 2 (.neu 3 (.neu 4 (.neu 5 (.neu 6 (.neu 7 (.neu 8 (.neu 9 (.neu 10 (.neu 11 .done))))))))))))) .leaf) .leaf))) (.seq 0 [4, 5, 6] .leaf .leaf)))
theorem G_i_stringslite_Cut.body_eq : Tryz.f33.body = some G_i_stringslite_Cut.body := by kernel_rfl
theorem G_i_stringslite_Cut.dist : noTwice (places G_i_stringslite_Cut.ann G_i_stringslite_Cut.body) = true := by kernel_rfl
noncomputable def G_i_stringslite_Cut.J (Q : AV → AHeap → Prop) : JT := funJ prog C Tryz.f33 G_i_stringslite_Cut.ann G_i_stringslite_Cut.body Q
theorem G_i_stringslite_Cut.goR {Q : AV → AHeap → Prop} {k : Nat} {p : List Nat} (hl : lookJ (places G_i_stringslite_Cut.ann G_i_stringslite_Cut.body) k = some (p, false)) {e : Env} {h : AHeap} (hk : atJ prog C 23 (G_i_stringslite_Cut.J Q) false p G_i_stringslite_Cut.ann G_i_stringslite_Cut.body e h (kFun prog Tryz.f33 Q)) : G_i_stringslite_Cut.J Q k e h := goJ_run (P := prog) (fn := Tryz.f33) (ann := G_i_stringslite_Cut.ann) (body := G_i_stringslite_Cut.body) (Q := Q) (k := k) (p := p) (e := e) (h := h) (acall_le X) G_i_stringslite_Cut.dist hl hk
theorem G_i_stringslite_Cut.goH {Q : AV → AHeap → Prop} {k : Nat} {p : List Nat} (hl : lookJ (places G_i_stringslite_Cut.ann G_i_stringslite_Cut.body) k = some (p, true)) {e : Env} {h : AHeap} (hk : atJ prog C 23 (G_i_stringslite_Cut.J Q) true p G_i_stringslite_Cut.ann G_i_stringslite_Cut.body e h (kFun prog Tryz.f33 Q)) : G_i_stringslite_Cut.J Q k e h := goJ_head (P := prog) (fn := Tryz.f33) (ann := G_i_stringslite_Cut.ann) (body := G_i_stringslite_Cut.body) (Q := Q) (k := k) (p := p) (e := e) (h := h) (acall_le X) G_i_stringslite_Cut.dist hl hk
def G_i_stringslite_Cut.t (J : JT) (Q : AV → AHeap → Prop) (x0 : List UInt8) (x1 : List UInt8) (h : AHeap) : Prop :=
C G_i_stringslite_Index.id [(AV.s x0), (AV.s x1)] h fun v1 h2 =>
asI .i64 v1 fun n3 =>
(bif (decide ((0 : Int) ≤ n3)) then
(pSliceStr (AV.s x0) none (some (AV.i .i64 n3)) fun l6 =>
withI (IntKind.wrap .i64 (n3 + (x1.length : Int))) fun n7 =>
pSliceStr (AV.s x0) (some (AV.i .i64 n7)) none fun l8 =>
Q (AV.tu [(AV.s l6), (AV.s l8), (AV.b true)]) h2)
else
(Q (AV.tu [(AV.s x0), (AV.s []), (AV.b false)]) h2))
theorem G_i_stringslite_Cut.t_eq (J : JT) (Q : AV → AHeap → Prop) (x0 : List UInt8) (x1 : List UInt8) (h : AHeap) : G_i_stringslite_Cut.t J Q x0 x1 h = exJ prog C 23 J G_i_stringslite_Cut.ann G_i_stringslite_Cut.body (initEnv 0 [(AV.s x0), (AV.s x1)]) h (kFun prog Tryz.f33 Q) := by kernel_rfl
theorem G_i_stringslite_Cut.call {K : AV → AHeap → Prop} {x0 : List UInt8} {x1 : List UInt8} {h : AHeap} (H : G_i_stringslite_Cut.t (G_i_stringslite_Cut.J (kRet h K)) (kRet h K) x0 x1 h) : C G_i_stringslite_Cut.id [(AV.s x0), (AV.s x1)] h K :=
  callJ (P := prog) (fn := Tryz.f33) (ann := G_i_stringslite_Cut.ann) (body := G_i_stringslite_Cut.body) Tryz.func33 G_i_stringslite_Cut.body_eq (by kernel_rfl) G_i_stringslite_Cut.dist (by kernel_rfl) ((G_i_stringslite_Cut.t_eq (G_i_stringslite_Cut.J (kRet h K)) (kRet h K) x0 x1 h).mp H)

--@@ G_strings_Index
/-! ### 34: strings.Index -/
noncomputable def G_strings_Index.body : Code := (Tryz.f34.body).getD .skip
def G_strings_Index.ann : Ann := (.seq 0 [0, 1] .leaf (.seq 0 [4] .leaf .leaf))
theorem G_strings_Index.body_eq : Tryz.f34.body = some G_strings_Index.body := by kernel_rfl
theorem G_strings_Index.dist : noTwice (places G_strings_Index.ann G_strings_Index.body) = true := by kernel_rfl
noncomputable def G_strings_Index.J (Q : AV → AHeap → Prop) : JT := funJ prog C Tryz.f34 G_strings_Index.ann G_strings_Index.body Q
theorem G_strings_Index.goR {Q : AV → AHeap → Prop} {k : Nat} {p : List Nat} (hl : lookJ (places G_strings_Index.ann G_strings_Index.body) k = some (p, false)) {e : Env} {h : AHeap} (hk : atJ prog C 8 (G_strings_Index.J Q) false p G_strings_Index.ann G_strings_Index.body e h (kFun prog Tryz.f34 Q)) : G_strings_Index.J Q k e h := goJ_run (P := prog) (fn := Tryz.f34) (ann := G_strings_Index.ann) (body := G_strings_Index.body) (Q := Q) (k := k) (p := p) (e := e) (h := h) (acall_le X) G_strings_Index.dist hl hk
theorem G_strings_Index.goH {Q : AV → AHeap → Prop} {k : Nat} {p : List Nat} (hl : lookJ (places G_strings_Index.ann G_strings_Index.body) k = some (p, true)) {e : Env} {h : AHeap} (hk : atJ prog C 8 (G_strings_Index.J Q) true p G_strings_Index.ann G_strings_Index.body e h (kFun prog Tryz.f34 Q)) : G_strings_Index.J Q k e h := goJ_head (P := prog) (fn := Tryz.f34) (ann := G_strings_Index.ann) (body := G_strings_Index.body) (Q := Q) (k := k) (p := p) (e := e) (h := h) (acall_le X) G_strings_Index.dist hl hk
def G_strings_Index.t (J : JT) (Q : AV → AHeap → Prop) (x0 : List UInt8) (x1 : List UInt8) (h : AHeap) : Prop :=
C G_i_stringslite_Index.id [(AV.s x0), (AV.s x1)] h fun v1 h2 =>
asI .i64 v1 fun n3 =>
Q (AV.i .i64 n3) h2
theorem G_strings_Index.t_eq (J : JT) (Q : AV → AHeap → Prop) (x0 : List UInt8) (x1 : List UInt8) (h : AHeap) : G_strings_Index.t J Q x0 x1 h = exJ prog C 8 J G_strings_Index.ann G_strings_Index.body (initEnv 0 [(AV.s x0), (AV.s x1)]) h (kFun prog Tryz.f34 Q) := by kernel_rfl
theorem G_strings_Index.call {K : AV → AHeap → Prop} {x0 : List UInt8} {x1 : List UInt8} {h : AHeap} (H : G_strings_Index.t (G_strings_Index.J (kRet h K)) (kRet h K) x0 x1 h) : C G_strings_Index.id [(AV.s x0), (AV.s x1)] h K :=
  callJ (P := prog) (fn := Tryz.f34) (ann := G_strings_Index.ann) (body := G_strings_Index.body) Tryz.func34 G_strings_Index.body_eq (by kernel_rfl) G_strings_Index.dist (by kernel_rfl) ((G_strings_Index.t_eq (G_strings_Index.J (kRet h K)) (kRet h K) x0 x1 h).mp H)

--@@ G_ref26_lower
/-! ### 35: intrusion/intrusionref26.lower -/
noncomputable def G_ref26_lower.body : Code := (Tryz.f35.body).getD .skip
def G_ref26_lower.ann : Ann := (.seq 0 [0] .leaf (.seq 0 [0, 3] .leaf (.seq 0 [3] (.seq 0 [0, 3, 4] .leaf (.one (.loop 1 [0, 3, 4] (.seq 0 [0, 3, 4] (.seq 0 [0, 3, 4, 10] .leaf (.br .leaf .leaf)) (.seq 0 [0, 3, 4] (.one (.seq 0 [0, 3, 4, 5] .leaf (.seq 3 [0, 3, 4, 5] (.seq 2 [0, 3, 4, 5, 21] .leaf (.br .leaf .leaf)) .leaf))) .leaf))))) (.seq 0 [2] .leaf .leaf))))
theorem G_ref26_lower.body_eq : Tryz.f35.body = some G_ref26_lower.body := by kernel_rfl
theorem G_ref26_lower.dist : noTwice (places G_ref26_lower.ann G_ref26_lower.body) = true := by kernel_rfl
noncomputable def G_ref26_lower.J (Q : AV → AHeap → Prop) : JT := funJ prog C Tryz.f35 G_ref26_lower.ann G_ref26_lower.body Q
theorem G_ref26_lower.goR {Q : AV → AHeap → Prop} {k : Nat} {p : List Nat} (hl : lookJ (places G_ref26_lower.ann G_ref26_lower.body) k = some (p, false)) {e : Env} {h : AHeap} (hk : atJ prog C 30 (G_ref26_lower.J Q) false p G_ref26_lower.ann G_ref26_lower.body e h (kFun prog Tryz.f35 Q)) : G_ref26_lower.J Q k e h := goJ_run (P := prog) (fn := Tryz.f35) (ann := G_ref26_lower.ann) (body := G_ref26_lower.body) (Q := Q) (k := k) (p := p) (e := e) (h := h) (acall_le X) G_ref26_lower.dist hl hk
theorem G_ref26_lower.goH {Q : AV → AHeap → Prop} {k : Nat} {p : List Nat} (hl : lookJ (places G_ref26_lower.ann G_ref26_lower.body) k = some (p, true)) {e : Env} {h : AHeap} (hk : atJ prog C 30 (G_ref26_lower.J Q) true p G_ref26_lower.ann G_ref26_lower.body e h (kFun prog Tryz.f35 Q)) : G_ref26_lower.J Q k e h := goJ_head (P := prog) (fn := Tryz.f35) (ann := G_ref26_lower.ann) (body := G_ref26_lower.body) (Q := Q) (k := k) (p := p) (e := e) (h := h) (acall_le X) G_ref26_lower.dist hl hk
def G_ref26_lower.p1 (Q : AV → AHeap → Prop) (x0 : List UInt8) (x3 : AV) (x4 : Int) (x5 : Int) (x21 : Bool) (h : AHeap) : Prop := G_ref26_lower.J Q 2 [(0, (AV.s x0)), (3, x3), (4, (AV.i .i64 x4)), (5, (AV.i .u8 x5)), (21, (AV.b x21))] h
theorem G_ref26_lower.j1 (Q : AV → AHeap → Prop) (x0 : List UInt8) (x3 : AV) (x4 : Int) (x5 : Int) (x21 : Bool) (h : AHeap) : G_ref26_lower.J Q 2 [(0, (AV.s x0)), (3, x3), (4, (AV.i .i64 x4)), (5, (AV.i .u8 x5)), (21, (AV.b x21))] h = G_ref26_lower.p1 Q x0 x3 x4 x5 x21 h := rfl
def G_ref26_lower.p2 (Q : AV → AHeap → Prop) (x0 : List UInt8) (x3 : AV) (x4 : Int) (x5 : Int) (h : AHeap) : Prop := G_ref26_lower.J Q 3 [(0, (AV.s x0)), (3, x3), (4, (AV.i .i64 x4)), (5, (AV.i .u8 x5))] h
theorem G_ref26_lower.j2 (Q : AV → AHeap → Prop) (x0 : List UInt8) (x3 : AV) (x4 : Int) (x5 : Int) (h : AHeap) : G_ref26_lower.J Q 3 [(0, (AV.s x0)), (3, x3), (4, (AV.i .i64 x4)), (5, (AV.i .u8 x5))] h = G_ref26_lower.p2 Q x0 x3 x4 x5 h := rfl
def G_ref26_lower.p0 (Q : AV → AHeap → Prop) (x0 : List UInt8) (x3 : AV) (x4 : Int) (h : AHeap) : Prop := G_ref26_lower.J Q 1 [(0, (AV.s x0)), (3, x3), (4, (AV.i .i64 x4))] h
theorem G_ref26_lower.j0 (Q : AV → AHeap → Prop) (x0 : List UInt8) (x3 : AV) (x4 : Int) (h : AHeap) : G_ref26_lower.J Q 1 [(0, (AV.s x0)), (3, x3), (4, (AV.i .i64 x4))] h = G_ref26_lower.p0 Q x0 x3 x4 h := rfl
def G_ref26_lower.t1 (J : JT) (Q : AV → AHeap → Prop) (x0 : List UInt8) (x3 : AV) (x4 : Int) (x5 : Int) (x21 : Bool) (h : AHeap) : Prop :=
(bif x21 then
(withI (IntKind.wrap .u8 (x5 + 32)) fun n12 =>
J 3 [(0, (AV.s x0)), (3, x3), (4, (AV.i .i64 x4)), (5, (AV.i .u8 n12))] h)
else
(J 3 [(0, (AV.s x0)), (3, x3), (4, (AV.i .i64 x4)), (5, (AV.i .u8 x5))] h))
theorem G_ref26_lower.t1_eq (J : JT) (Q : AV → AHeap → Prop) (x0 : List UInt8) (x3 : AV) (x4 : Int) (x5 : Int) (x21 : Bool) (h : AHeap) : G_ref26_lower.t1 J Q x0 x3 x4 x5 x21 h = atJ prog C 30 J false [1, 1, 0, 1, 0, 0, 1, 0, 0, 1, 0, 1] G_ref26_lower.ann G_ref26_lower.body [(0, (AV.s x0)), (3, x3), (4, (AV.i .i64 x4)), (5, (AV.i .u8 x5)), (21, (AV.b x21))] h (kFun prog Tryz.f35 Q) := by kernel_rfl
theorem G_ref26_lower.i1 {Q : AV → AHeap → Prop} {x0 : List UInt8} {x3 : AV} {x4 : Int} {x5 : Int} {x21 : Bool} {h : AHeap} (H : G_ref26_lower.t1 (G_ref26_lower.J Q) Q x0 x3 x4 x5 x21 h) : G_ref26_lower.p1 Q x0 x3 x4 x5 x21 h := G_ref26_lower.goR (k := 2) (p := [1, 1, 0, 1, 0, 0, 1, 0, 0, 1, 0, 1]) (by kernel_rfl) ((G_ref26_lower.t1_eq (G_ref26_lower.J Q) Q x0 x3 x4 x5 x21 h).mp H)
def G_ref26_lower.t2 (J : JT) (Q : AV → AHeap → Prop) (x0 : List UInt8) (x3 : AV) (x4 : Int) (x5 : Int) (h : AHeap) : Prop :=
pBuildSl 1 1 [(AV.i .u8 0)] [(0, 1, (AV.i .u8 x5))] h fun v15 h16 =>
pAppend (some 5) 1 1 x3 v15 h16 fun v17 h18 =>
withI (IntKind.wrap .i64 (x4 + 1)) fun n20 =>
J 1 [(0, (AV.s x0)), (3, v17), (4, (AV.i .i64 n20))] h18
theorem G_ref26_lower.t2_eq (J : JT) (Q : AV → AHeap → Prop) (x0 : List UInt8) (x3 : AV) (x4 : Int) (x5 : Int) (h : AHeap) : G_ref26_lower.t2 J Q x0 x3 x4 x5 h = atJ prog C 30 J false [1, 1, 0, 1, 0, 0, 1, 0, 0, 1, 1] G_ref26_lower.ann G_ref26_lower.body [(0, (AV.s x0)), (3, x3), (4, (AV.i .i64 x4)), (5, (AV.i .u8 x5))] h (kFun prog Tryz.f35 Q) := by kernel_rfl
theorem G_ref26_lower.i2 {Q : AV → AHeap → Prop} {x0 : List UInt8} {x3 : AV} {x4 : Int} {x5 : Int} {h : AHeap} (H : G_ref26_lower.t2 (G_ref26_lower.J Q) Q x0 x3 x4 x5 h) : G_ref26_lower.p2 Q x0 x3 x4 x5 h := G_ref26_lower.goR (k := 3) (p := [1, 1, 0, 1, 0, 0, 1, 0, 0, 1, 1]) (by kernel_rfl) ((G_ref26_lower.t2_eq (G_ref26_lower.J Q) Q x0 x3 x4 x5 h).mp H)
def G_ref26_lower.t0 (J : JT) (Q : AV → AHeap → Prop) (x0 : List UInt8) (x3 : AV) (x4 : Int) (h : AHeap) : Prop :=
(bif (decide ((x4 : Int) < (x0.length : Int))) then
(pIdxStr (AV.s x0) (AV.i .i64 x4) fun n8 =>
(bif (decide ((65 : Int) ≤ n8)) then
(J 2 [(0, (AV.s x0)), (3, x3), (4, (AV.i .i64 x4)), (5, (AV.i .u8 n8)), (21, (AV.b (decide ((n8 : Int) ≤ 90))))] h)
else
(J 2 [(0, (AV.s x0)), (3, x3), (4, (AV.i .i64 x4)), (5, (AV.i .u8 n8)), (21, (AV.b false))] h)))
else
(pBytesStr x3 h fun l22 =>
Q (AV.s l22) h))
theorem G_ref26_lower.t0_eq (J : JT) (Q : AV → AHeap → Prop) (x0 : List UInt8) (x3 : AV) (x4 : Int) (h : AHeap) : G_ref26_lower.t0 J Q x0 x3 x4 h = atJ prog C 30 J true [1, 1, 0, 1, 0] G_ref26_lower.ann G_ref26_lower.body [(0, (AV.s x0)), (3, x3), (4, (AV.i .i64 x4))] h (kFun prog Tryz.f35 Q) := by kernel_rfl
theorem G_ref26_lower.i0 {Q : AV → AHeap → Prop} {x0 : List UInt8} {x3 : AV} {x4 : Int} {h : AHeap} (H : G_ref26_lower.t0 (G_ref26_lower.J Q) Q x0 x3 x4 h) : G_ref26_lower.p0 Q x0 x3 x4 h := G_ref26_lower.goH (k := 1) (p := [1, 1, 0, 1, 0]) (by kernel_rfl) ((G_ref26_lower.t0_eq (G_ref26_lower.J Q) Q x0 x3 x4 h).mp H)
def G_ref26_lower.t (J : JT) (Q : AV → AHeap → Prop) (x0 : List UInt8) (h : AHeap) : Prop :=
pBuildSl 1 0 [] [] h fun v1 h2 =>
J 1 [(0, (AV.s x0)), (3, v1), (4, (AV.i .i64 0))] h2
theorem G_ref26_lower.t_eq (J : JT) (Q : AV → AHeap → Prop) (x0 : List UInt8) (h : AHeap) : G_ref26_lower.t J Q x0 h = exJ prog C 30 J G_ref26_lower.ann G_ref26_lower.body (initEnv 0 [(AV.s x0)]) h (kFun prog Tryz.f35 Q) := by kernel_rfl
theorem G_ref26_lower.call {K : AV → AHeap → Prop} {x0 : List UInt8} {h : AHeap} (H : G_ref26_lower.t (G_ref26_lower.J (kRet h K)) (kRet h K) x0 h) : C G_ref26_lower.id [(AV.s x0)] h K :=
  callJ (P := prog) (fn := Tryz.f35) (ann := G_ref26_lower.ann) (body := G_ref26_lower.body) Tryz.func35 G_ref26_lower.body_eq (by kernel_rfl) G_ref26_lower.dist (by kernel_rfl) ((G_ref26_lower.t_eq (G_ref26_lower.J (kRet h K)) (kRet h K) x0 h).mp H)

--@@ G_certificate_Common
/-! ### 41: intrusion/certificate.Common -/
noncomputable def G_certificate_Common.body : Code := (Tryz.f41.body).getD .skip
def G_certificate_Common.ann : Ann := (.seq 0 [0] .leaf (.seq 0 [0] (.seq 0 [0, 4] .leaf (.seq 0 [0, 15] .leaf (.br (.seq 0 [2] .leaf .leaf) .leaf))) (.seq 0 [] (.seq 0 [17, 18, 19] .leaf (.one (.loop 1 [17, 18, 19] (.seq 0 [17, 18, 19, 20] .leaf (.seq 0 [17, 18, 19] (.br .leaf .leaf) (.seq 0 [17, 18, 19] (.one (.seq 0 [6, 17, 18, 19] .leaf (.seq 0 [7, 8, 17, 18, 19] .leaf (.seq 0 [7, 17, 18, 19, 28] .leaf (.br (.seq 0 [2] .leaf .leaf) .leaf))))) .leaf)))))) (.seq 0 [2] .leaf .leaf))))
theorem G_certificate_Common.body_eq : Tryz.f41.body = some G_certificate_Common.body := by kernel_rfl
theorem G_certificate_Common.dist : noTwice (places G_certificate_Common.ann G_certificate_Common.body) = true := by kernel_rfl
noncomputable def G_certificate_Common.J (Q : AV → AHeap → Prop) : JT := funJ prog C Tryz.f41 G_certificate_Common.ann G_certificate_Common.body Q
theorem G_certificate_Common.goR {Q : AV → AHeap → Prop} {k : Nat} {p : List Nat} (hl : lookJ (places G_certificate_Common.ann G_certificate_Common.body) k = some (p, false)) {e : Env} {h : AHeap} (hk : atJ prog C 32 (G_certificate_Common.J Q) false p G_certificate_Common.ann G_certificate_Common.body e h (kFun prog Tryz.f41 Q)) : G_certificate_Common.J Q k e h := goJ_run (P := prog) (fn := Tryz.f41) (ann := G_certificate_Common.ann) (body := G_certificate_Common.body) (Q := Q) (k := k) (p := p) (e := e) (h := h) (acall_le X) G_certificate_Common.dist hl hk
theorem G_certificate_Common.goH {Q : AV → AHeap → Prop} {k : Nat} {p : List Nat} (hl : lookJ (places G_certificate_Common.ann G_certificate_Common.body) k = some (p, true)) {e : Env} {h : AHeap} (hk : atJ prog C 32 (G_certificate_Common.J Q) true p G_certificate_Common.ann G_certificate_Common.body e h (kFun prog Tryz.f41 Q)) : G_certificate_Common.J Q k e h := goJ_head (P := prog) (fn := Tryz.f41) (ann := G_certificate_Common.ann) (body := G_certificate_Common.body) (Q := Q) (k := k) (p := p) (e := e) (h := h) (acall_le X) G_certificate_Common.dist hl hk
def G_certificate_Common.p0 (Q : AV → AHeap → Prop) (x17 : AV) (x18 : Int) (x19 : Int) (h : AHeap) : Prop := G_certificate_Common.J Q 1 [(17, x17), (18, (AV.i .i64 x18)), (19, (AV.i .i64 x19))] h
theorem G_certificate_Common.j0 (Q : AV → AHeap → Prop) (x17 : AV) (x18 : Int) (x19 : Int) (h : AHeap) : G_certificate_Common.J Q 1 [(17, x17), (18, (AV.i .i64 x18)), (19, (AV.i .i64 x19))] h = G_certificate_Common.p0 Q x17 x18 x19 h := rfl
def G_certificate_Common.t0 (J : JT) (Q : AV → AHeap → Prop) (x17 : AV) (x18 : Int) (x19 : Int) (h : AHeap) : Prop :=
(bif (decide ((x19 : Int) < x18)) then
(pIdxAddrSl 1 x17 (AV.i .i64 x19) h fun v20 =>
pLoad1 v20 h fun v21 =>
asS v21 fun l22 =>
C G_strings_CutPrefix.id [(AV.s l22), (AV.s [67, 78, 61])] h fun v24 h25 =>
pExtract 0 v24 fun v26 =>
asS v26 fun l27 =>
pExtract 1 v24 fun v28 =>
asB v28 fun c29 =>
(bif c29 then
(C G_certificate_plain.id [(AV.s l27)] h25 fun v32 h33 =>
asS v32 fun l34 =>
Q (AV.s l34) h33)
else
(withI (IntKind.wrap .i64 (x19 + 1)) fun n37 =>
J 1 [(17, x17), (18, (AV.i .i64 x18)), (19, (AV.i .i64 n37))] h25)))
else
(Q (AV.s []) h))
theorem G_certificate_Common.t0_eq (J : JT) (Q : AV → AHeap → Prop) (x17 : AV) (x18 : Int) (x19 : Int) (h : AHeap) : G_certificate_Common.t0 J Q x17 x18 x19 h = atJ prog C 32 J true [1, 1, 0, 1, 0] G_certificate_Common.ann G_certificate_Common.body [(17, x17), (18, (AV.i .i64 x18)), (19, (AV.i .i64 x19))] h (kFun prog Tryz.f41 Q) := by kernel_rfl
theorem G_certificate_Common.i0 {Q : AV → AHeap → Prop} {x17 : AV} {x18 : Int} {x19 : Int} {h : AHeap} (H : G_certificate_Common.t0 (G_certificate_Common.J Q) Q x17 x18 x19 h) : G_certificate_Common.p0 Q x17 x18 x19 h := G_certificate_Common.goH (k := 1) (p := [1, 1, 0, 1, 0]) (by kernel_rfl) ((G_certificate_Common.t0_eq (G_certificate_Common.J Q) Q x17 x18 x19 h).mp H)
def G_certificate_Common.t (J : JT) (Q : AV → AHeap → Prop) (x0 : List UInt8) (h : AHeap) : Prop :=
C G_certificate_NameOf.id [(AV.s x0)] h fun v1 h2 =>
pExtract 0 v1 fun v3 =>
pExtract 1 v1 fun v4 =>
asI .i64 v4 fun n5 =>
pAlloc (some 65) [(AV.i .i64 0), (AV.i .i64 0), (AV.b false), (AV.s []), (AV.sl none 0 none)] h2 fun v6 h7 =>
pStore 5 v6 v3 h7 fun h8 =>
(bif (!decide ((n5 : Int) = 0)) then
(Q (AV.s []) h8)
else
(C G_certificate_split.id [(AV.s x0)] h8 fun v13 h14 =>
pLenSl v13 fun n15 =>
J 1 [(17, v13), (18, (AV.i .i64 n15)), (19, (AV.i .i64 0))] h14))
theorem G_certificate_Common.t_eq (J : JT) (Q : AV → AHeap → Prop) (x0 : List UInt8) (h : AHeap) : G_certificate_Common.t J Q x0 h = exJ prog C 32 J G_certificate_Common.ann G_certificate_Common.body (initEnv 0 [(AV.s x0)]) h (kFun prog Tryz.f41 Q) := by kernel_rfl
theorem G_certificate_Common.call {K : AV → AHeap → Prop} {x0 : List UInt8} {h : AHeap} (H : G_certificate_Common.t (G_certificate_Common.J (kRet h K)) (kRet h K) x0 h) : C G_certificate_Common.id [(AV.s x0)] h K :=
  callJ (P := prog) (fn := Tryz.f41) (ann := G_certificate_Common.ann) (body := G_certificate_Common.body) Tryz.func41 G_certificate_Common.body_eq (by kernel_rfl) G_certificate_Common.dist (by kernel_rfl) ((G_certificate_Common.t_eq (G_certificate_Common.J (kRet h K)) (kRet h K) x0 h).mp H)

--@@ G_ref34_Common
/-! ### 42: intrusion/intrusionref34.Common -/
noncomputable def G_ref34_Common.body : Code := (Tryz.f42.body).getD .skip
def G_ref34_Common.ann : Ann := (.seq 0 [0] .leaf (.seq 0 [0] (.seq 0 [0, 8] .leaf (.br (.seq 0 [2] .leaf .leaf) .leaf)) (.seq 0 [3] .leaf (.seq 0 [] (.seq 0 [3, 5] .leaf (.one (.loop 1 [3, 5] (.seq 0 [3, 5] (.seq 0 [3, 5, 17] .leaf (.br .leaf .leaf)) (.seq 0 [3, 5] (.one (.seq 0 [3, 5, 25] .leaf (.br (.seq 0 [2] .leaf .leaf) .leaf))) .leaf))))) (.seq 0 [2] .leaf .leaf)))))
theorem G_ref34_Common.body_eq : Tryz.f42.body = some G_ref34_Common.body := by kernel_rfl
theorem G_ref34_Common.dist : noTwice (places G_ref34_Common.ann G_ref34_Common.body) = true := by kernel_rfl
noncomputable def G_ref34_Common.J (Q : AV → AHeap → Prop) : JT := funJ prog C Tryz.f42 G_ref34_Common.ann G_ref34_Common.body Q
theorem G_ref34_Common.goR {Q : AV → AHeap → Prop} {k : Nat} {p : List Nat} (hl : lookJ (places G_ref34_Common.ann G_ref34_Common.body) k = some (p, false)) {e : Env} {h : AHeap} (hk : atJ prog C 31 (G_ref34_Common.J Q) false p G_ref34_Common.ann G_ref34_Common.body e h (kFun prog Tryz.f42 Q)) : G_ref34_Common.J Q k e h := goJ_run (P := prog) (fn := Tryz.f42) (ann := G_ref34_Common.ann) (body := G_ref34_Common.body) (Q := Q) (k := k) (p := p) (e := e) (h := h) (acall_le X) G_ref34_Common.dist hl hk
theorem G_ref34_Common.goH {Q : AV → AHeap → Prop} {k : Nat} {p : List Nat} (hl : lookJ (places G_ref34_Common.ann G_ref34_Common.body) k = some (p, true)) {e : Env} {h : AHeap} (hk : atJ prog C 31 (G_ref34_Common.J Q) true p G_ref34_Common.ann G_ref34_Common.body e h (kFun prog Tryz.f42 Q)) : G_ref34_Common.J Q k e h := goJ_head (P := prog) (fn := Tryz.f42) (ann := G_ref34_Common.ann) (body := G_ref34_Common.body) (Q := Q) (k := k) (p := p) (e := e) (h := h) (acall_le X) G_ref34_Common.dist hl hk
def G_ref34_Common.p0 (Q : AV → AHeap → Prop) (x3 : AV) (x5 : Int) (h : AHeap) : Prop := G_ref34_Common.J Q 1 [(3, x3), (5, (AV.i .i64 x5))] h
theorem G_ref34_Common.j0 (Q : AV → AHeap → Prop) (x3 : AV) (x5 : Int) (h : AHeap) : G_ref34_Common.J Q 1 [(3, x3), (5, (AV.i .i64 x5))] h = G_ref34_Common.p0 Q x3 x5 h := rfl
def G_ref34_Common.t0 (J : JT) (Q : AV → AHeap → Prop) (x3 : AV) (x5 : Int) (h : AHeap) : Prop :=
pLenSl x3 fun n11 =>
(bif (decide ((x5 : Int) < n11)) then
(pIdxAddrSl 2 x3 (AV.i .i64 x5) h fun v15 =>
pFieldAddr 0 v15 fun v16 =>
pLoad1 v16 h fun v17 =>
asS v17 fun l18 =>
(bif (decide ((l18 : List UInt8) = [67, 78])) then
(pIdxAddrSl 2 x3 (AV.i .i64 x5) h fun v20 =>
pFieldAddr 1 v20 fun v21 =>
pLoad1 v21 h fun v22 =>
asS v22 fun l23 =>
Q (AV.s l23) h)
else
(withI (IntKind.wrap .i64 (x5 + 1)) fun n26 =>
J 1 [(3, x3), (5, (AV.i .i64 n26))] h)))
else
(Q (AV.s []) h))
theorem G_ref34_Common.t0_eq (J : JT) (Q : AV → AHeap → Prop) (x3 : AV) (x5 : Int) (h : AHeap) : G_ref34_Common.t0 J Q x3 x5 h = atJ prog C 31 J true [1, 1, 1, 0, 1, 0] G_ref34_Common.ann G_ref34_Common.body [(3, x3), (5, (AV.i .i64 x5))] h (kFun prog Tryz.f42 Q) := by kernel_rfl
theorem G_ref34_Common.i0 {Q : AV → AHeap → Prop} {x3 : AV} {x5 : Int} {h : AHeap} (H : G_ref34_Common.t0 (G_ref34_Common.J Q) Q x3 x5 h) : G_ref34_Common.p0 Q x3 x5 h := G_ref34_Common.goH (k := 1) (p := [1, 1, 1, 0, 1, 0]) (by kernel_rfl) ((G_ref34_Common.t0_eq (G_ref34_Common.J Q) Q x3 x5 h).mp H)
def G_ref34_Common.t (J : JT) (Q : AV → AHeap → Prop) (x0 : List UInt8) (h : AHeap) : Prop :=
(bif (decide ((512 : Int) < (x0.length : Int))) then
(Q (AV.s []) h)
else
(C G_ref34_Attributes.id [(AV.s x0)] h fun v4 h5 =>
pExtract 0 v4 fun v6 =>
pExtract 1 v4 fun v7 =>
asB v7 fun c8 =>
J 1 [(3, v6), (5, (AV.i .i64 0))] h5))
theorem G_ref34_Common.t_eq (J : JT) (Q : AV → AHeap → Prop) (x0 : List UInt8) (h : AHeap) : G_ref34_Common.t J Q x0 h = exJ prog C 31 J G_ref34_Common.ann G_ref34_Common.body (initEnv 0 [(AV.s x0)]) h (kFun prog Tryz.f42 Q) := by kernel_rfl
theorem G_ref34_Common.call {K : AV → AHeap → Prop} {x0 : List UInt8} {h : AHeap} (H : G_ref34_Common.t (G_ref34_Common.J (kRet h K)) (kRet h K) x0 h) : C G_ref34_Common.id [(AV.s x0)] h K :=
  callJ (P := prog) (fn := Tryz.f42) (ann := G_ref34_Common.ann) (body := G_ref34_Common.body) Tryz.func42 G_ref34_Common.body_eq (by kernel_rfl) G_ref34_Common.dist (by kernel_rfl) ((G_ref34_Common.t_eq (G_ref34_Common.J (kRet h K)) (kRet h K) x0 h).mp H)

--@@ G_i_stringslite_HasPrefix
/-! ### 43: internal/stringslite.HasPrefix -/
noncomputable def G_i_stringslite_HasPrefix.body : Code := (Tryz.f43.body).getD .skip
def G_i_stringslite_HasPrefix.ann : Ann := (.seq 0 [0, 1] .leaf (.seq 1 [4] .leaf .leaf))
theorem G_i_stringslite_HasPrefix.body_eq : Tryz.f43.body = some G_i_stringslite_HasPrefix.body := by kernel_rfl
theorem G_i_stringslite_HasPrefix.dist : noTwice (places G_i_stringslite_HasPrefix.ann G_i_stringslite_HasPrefix.body) = true := by kernel_rfl
noncomputable def G_i_stringslite_HasPrefix.J (Q : AV → AHeap → Prop) : JT := funJ prog C Tryz.f43 G_i_stringslite_HasPrefix.ann G_i_stringslite_HasPrefix.body Q
theorem G_i_stringslite_HasPrefix.goR {Q : AV → AHeap → Prop} {k : Nat} {p : List Nat} (hl : lookJ (places G_i_stringslite_HasPrefix.ann G_i_stringslite_HasPrefix.body) k = some (p, false)) {e : Env} {h : AHeap} (hk : atJ prog C 18 (G_i_stringslite_HasPrefix.J Q) false p G_i_stringslite_HasPrefix.ann G_i_stringslite_HasPrefix.body e h (kFun prog Tryz.f43 Q)) : G_i_stringslite_HasPrefix.J Q k e h := goJ_run (P := prog) (fn := Tryz.f43) (ann := G_i_stringslite_HasPrefix.ann) (body := G_i_stringslite_HasPrefix.body) (Q := Q) (k := k) (p := p) (e := e) (h := h) (acall_le X) G_i_stringslite_HasPrefix.dist hl hk
theorem G_i_stringslite_HasPrefix.goH {Q : AV → AHeap → Prop} {k : Nat} {p : List Nat} (hl : lookJ (places G_i_stringslite_HasPrefix.ann G_i_stringslite_HasPrefix.body) k = some (p, true)) {e : Env} {h : AHeap} (hk : atJ prog C 18 (G_i_stringslite_HasPrefix.J Q) true p G_i_stringslite_HasPrefix.ann G_i_stringslite_HasPrefix.body e h (kFun prog Tryz.f43 Q)) : G_i_stringslite_HasPrefix.J Q k e h := goJ_head (P := prog) (fn := Tryz.f43) (ann := G_i_stringslite_HasPrefix.ann) (body := G_i_stringslite_HasPrefix.body) (Q := Q) (k := k) (p := p) (e := e) (h := h) (acall_le X) G_i_stringslite_HasPrefix.dist hl hk
def G_i_stringslite_HasPrefix.p0 (Q : AV → AHeap → Prop) (x4 : Bool) (h : AHeap) : Prop := G_i_stringslite_HasPrefix.J Q 1 [(4, (AV.b x4))] h
theorem G_i_stringslite_HasPrefix.j0 (Q : AV → AHeap → Prop) (x4 : Bool) (h : AHeap) : G_i_stringslite_HasPrefix.J Q 1 [(4, (AV.b x4))] h = G_i_stringslite_HasPrefix.p0 Q x4 h := rfl
def G_i_stringslite_HasPrefix.t0 (J : JT) (Q : AV → AHeap → Prop) (x4 : Bool) (h : AHeap) : Prop :=
Q (AV.b x4) h
theorem G_i_stringslite_HasPrefix.t0_eq (J : JT) (Q : AV → AHeap → Prop) (x4 : Bool) (h : AHeap) : G_i_stringslite_HasPrefix.t0 J Q x4 h = atJ prog C 18 J false [1, 1] G_i_stringslite_HasPrefix.ann G_i_stringslite_HasPrefix.body [(4, (AV.b x4))] h (kFun prog Tryz.f43 Q) := by kernel_rfl
theorem G_i_stringslite_HasPrefix.i0 {Q : AV → AHeap → Prop} {x4 : Bool} {h : AHeap} (H : G_i_stringslite_HasPrefix.t0 (G_i_stringslite_HasPrefix.J Q) Q x4 h) : G_i_stringslite_HasPrefix.p0 Q x4 h := G_i_stringslite_HasPrefix.goR (k := 1) (p := [1, 1]) (by kernel_rfl) ((G_i_stringslite_HasPrefix.t0_eq (G_i_stringslite_HasPrefix.J Q) Q x4 h).mp H)
def G_i_stringslite_HasPrefix.t (J : JT) (Q : AV → AHeap → Prop) (x0 : List UInt8) (x1 : List UInt8) (h : AHeap) : Prop :=
(bif (decide (((x1.length : Int) : Int) ≤ (x0.length : Int))) then
(pSliceStr (AV.s x0) none (some (AV.i .i64 (x1.length : Int))) fun l1 =>
J 1 [(4, (AV.b (decide ((l1 : List UInt8) = x1))))] h)
else
(J 1 [(4, (AV.b false))] h))
theorem G_i_stringslite_HasPrefix.t_eq (J : JT) (Q : AV → AHeap → Prop) (x0 : List UInt8) (x1 : List UInt8) (h : AHeap) : G_i_stringslite_HasPrefix.t J Q x0 x1 h = exJ prog C 18 J G_i_stringslite_HasPrefix.ann G_i_stringslite_HasPrefix.body (initEnv 0 [(AV.s x0), (AV.s x1)]) h (kFun prog Tryz.f43 Q) := by kernel_rfl
theorem G_i_stringslite_HasPrefix.call {K : AV → AHeap → Prop} {x0 : List UInt8} {x1 : List UInt8} {h : AHeap} (H : G_i_stringslite_HasPrefix.t (G_i_stringslite_HasPrefix.J (kRet h K)) (kRet h K) x0 x1 h) : C G_i_stringslite_HasPrefix.id [(AV.s x0), (AV.s x1)] h K :=
  callJ (P := prog) (fn := Tryz.f43) (ann := G_i_stringslite_HasPrefix.ann) (body := G_i_stringslite_HasPrefix.body) Tryz.func43 G_i_stringslite_HasPrefix.body_eq (by kernel_rfl) G_i_stringslite_HasPrefix.dist (by kernel_rfl) ((G_i_stringslite_HasPrefix.t_eq (G_i_stringslite_HasPrefix.J (kRet h K)) (kRet h K) x0 x1 h).mp H)

--@@ G_i_stringslite_Index
/-! ### 44: internal/stringslite.Index -/
noncomputable def G_i_stringslite_Index.body : Code := (Tryz.f44.body).getD .skip
def G_i_stringslite_Index.ann : Ann := (.seq 0 [0, 1] .leaf (.seq 0 [0, 1, 5] .leaf (.seq 0 [0, 1, 5] (.one (.seq 1 [0, 1, 5, 16] .leaf (.br (.seq 0 [4] .leaf .leaf) (.seq 0 [0, 1, 5, 24] .leaf (.br (.seq 0 [4] .leaf .leaf) (.seq 0 [0, 1, 5, 31] .leaf (.br (.seq 0 [4] .leaf .leaf) (.seq 2 [0, 1, 5, 36] .leaf (.br (.seq 0 [4] .leaf .leaf) .leaf))))))))) (.seq 0 [0, 1, 5, 6] .leaf (.seq 0 [0, 1, 5, 6, 7] .leaf (.seq 0 [0, 1, 5, 6, 7, 8] .leaf (.seq 0 [0, 1, 5, 6, 7, 8, 9] .leaf (.seq 0 [0, 1, 5, 6, 7, 8, 9, 10] .leaf (.seq 0 [] (.one (.loop 3 [0, 1, 5, 6, 7, 8, 9, 10] (.seq 0 [0, 1, 5, 6, 7, 8, 9, 10] (.seq 0 [0, 1, 5, 6, 7, 8, 9, 10, 59] .leaf (.br .leaf .leaf)) (.one (.seq 4 [0, 1, 5, 6, 7, 8, 9, 10] (.seq 0 [0, 1, 5, 6, 7, 8, 9, 10, 64] .leaf (.br (.seq 0 [0, 1, 5, 6, 7, 8, 9, 10, 11] .leaf (.seq 0 [0, 1, 5, 6, 7, 8, 9, 10, 11] (.seq 0 [0, 1, 5, 6, 7, 8, 9, 10, 11, 73] .leaf (.br (.seq 0 [4] .leaf .leaf) .leaf)) .leaf)) .leaf)) (.seq 0 [0, 1, 5, 6, 7, 8, 9, 10] (.seq 5 [0, 1, 5, 6, 7, 8, 9, 10, 93] .leaf (.br (.seq 0 [4] .leaf .leaf) .leaf)) (.seq 0 [0, 1, 5, 6, 7, 8, 9, 10] .leaf (.seq 0 [0, 1, 5, 6, 7, 8, 9, 10] .leaf (.seq 6 [0, 1, 5, 6, 7, 8, 9, 10, 107] .leaf (.br (.seq 0 [8, 12] .leaf (.seq 0 [] (.seq 0 [8, 12, 114] .leaf (.br (.seq 0 [4] .leaf .leaf) .leaf)) (.seq 0 [4] .leaf .leaf))) (.seq 7 [0, 1, 5, 6, 7, 8, 9, 10, 132] .leaf (.br (.seq 0 [8, 13] .leaf (.seq 0 [8, 13] (.seq 0 [8, 13, 139] .leaf (.br (.seq 0 [4] .leaf .leaf) .leaf)) (.seq 0 [4] .leaf .leaf))) .leaf)))))))))))) (.seq 0 [4] .leaf .leaf))))))))))
theorem G_i_stringslite_Index.body_eq : Tryz.f44.body = some G_i_stringslite_Index.body := by kernel_rfl
theorem G_i_stringslite_Index.dist : noTwice (places G_i_stringslite_Index.ann G_i_stringslite_Index.body) = true := by kernel_rfl
noncomputable def G_i_stringslite_Index.J (Q : AV → AHeap → Prop) : JT := funJ prog C Tryz.f44 G_i_stringslite_Index.ann G_i_stringslite_Index.body Q
theorem G_i_stringslite_Index.goR {Q : AV → AHeap → Prop} {k : Nat} {p : List Nat} (hl : lookJ (places G_i_stringslite_Index.ann G_i_stringslite_Index.body) k = some (p, false)) {e : Env} {h : AHeap} (hk : atJ prog C 143 (G_i_stringslite_Index.J Q) false p G_i_stringslite_Index.ann G_i_stringslite_Index.body e h (kFun prog Tryz.f44 Q)) : G_i_stringslite_Index.J Q k e h := goJ_run (P := prog) (fn := Tryz.f44) (ann := G_i_stringslite_Index.ann) (body := G_i_stringslite_Index.body) (Q := Q) (k := k) (p := p) (e := e) (h := h) (acall_le X) G_i_stringslite_Index.dist hl hk
theorem G_i_stringslite_Index.goH {Q : AV → AHeap → Prop} {k : Nat} {p : List Nat} (hl : lookJ (places G_i_stringslite_Index.ann G_i_stringslite_Index.body) k = some (p, true)) {e : Env} {h : AHeap} (hk : atJ prog C 143 (G_i_stringslite_Index.J Q) true p G_i_stringslite_Index.ann G_i_stringslite_Index.body e h (kFun prog Tryz.f44 Q)) : G_i_stringslite_Index.J Q k e h := goJ_head (P := prog) (fn := Tryz.f44) (ann := G_i_stringslite_Index.ann) (body := G_i_stringslite_Index.body) (Q := Q) (k := k) (p := p) (e := e) (h := h) (acall_le X) G_i_stringslite_Index.dist hl hk
def G_i_stringslite_Index.p1 (Q : AV → AHeap → Prop) (x0 : List UInt8) (x1 : List UInt8) (x5 : Int) (x36 : Bool) (h : AHeap) : Prop := G_i_stringslite_Index.J Q 2 [(0, (AV.s x0)), (1, (AV.s x1)), (5, (AV.i .i64 x5)), (36, (AV.b x36))] h
theorem G_i_stringslite_Index.j1 (Q : AV → AHeap → Prop) (x0 : List UInt8) (x1 : List UInt8) (x5 : Int) (x36 : Bool) (h : AHeap) : G_i_stringslite_Index.J Q 2 [(0, (AV.s x0)), (1, (AV.s x1)), (5, (AV.i .i64 x5)), (36, (AV.b x36))] h = G_i_stringslite_Index.p1 Q x0 x1 x5 x36 h := rfl
def G_i_stringslite_Index.p0 (Q : AV → AHeap → Prop) (x0 : List UInt8) (x1 : List UInt8) (x5 : Int) (x16 : Bool) (h : AHeap) : Prop := G_i_stringslite_Index.J Q 1 [(0, (AV.s x0)), (1, (AV.s x1)), (5, (AV.i .i64 x5)), (16, (AV.b x16))] h
theorem G_i_stringslite_Index.j0 (Q : AV → AHeap → Prop) (x0 : List UInt8) (x1 : List UInt8) (x5 : Int) (x16 : Bool) (h : AHeap) : G_i_stringslite_Index.J Q 1 [(0, (AV.s x0)), (1, (AV.s x1)), (5, (AV.i .i64 x5)), (16, (AV.b x16))] h = G_i_stringslite_Index.p0 Q x0 x1 x5 x16 h := rfl
def G_i_stringslite_Index.p4 (Q : AV → AHeap → Prop) (x0 : List UInt8) (x1 : List UInt8) (x5 : Int) (x6 : Int) (x7 : Int) (x8 : Int) (x9 : Int) (x10 : Int) (x93 : Bool) (h : AHeap) : Prop := G_i_stringslite_Index.J Q 5 [(0, (AV.s x0)), (1, (AV.s x1)), (5, (AV.i .i64 x5)), (6, (AV.i .u8 x6)), (7, (AV.i .u8 x7)), (8, (AV.i .i64 x8)), (9, (AV.i .i64 x9)), (10, (AV.i .i64 x10)), (93, (AV.b x93))] h
theorem G_i_stringslite_Index.j4 (Q : AV → AHeap → Prop) (x0 : List UInt8) (x1 : List UInt8) (x5 : Int) (x6 : Int) (x7 : Int) (x8 : Int) (x9 : Int) (x10 : Int) (x93 : Bool) (h : AHeap) : G_i_stringslite_Index.J Q 5 [(0, (AV.s x0)), (1, (AV.s x1)), (5, (AV.i .i64 x5)), (6, (AV.i .u8 x6)), (7, (AV.i .u8 x7)), (8, (AV.i .i64 x8)), (9, (AV.i .i64 x9)), (10, (AV.i .i64 x10)), (93, (AV.b x93))] h = G_i_stringslite_Index.p4 Q x0 x1 x5 x6 x7 x8 x9 x10 x93 h := rfl
def G_i_stringslite_Index.p6 (Q : AV → AHeap → Prop) (x0 : List UInt8) (x1 : List UInt8) (x5 : Int) (x6 : Int) (x7 : Int) (x8 : Int) (x9 : Int) (x10 : Int) (x132 : Bool) (h : AHeap) : Prop := G_i_stringslite_Index.J Q 7 [(0, (AV.s x0)), (1, (AV.s x1)), (5, (AV.i .i64 x5)), (6, (AV.i .u8 x6)), (7, (AV.i .u8 x7)), (8, (AV.i .i64 x8)), (9, (AV.i .i64 x9)), (10, (AV.i .i64 x10)), (132, (AV.b x132))] h
theorem G_i_stringslite_Index.j6 (Q : AV → AHeap → Prop) (x0 : List UInt8) (x1 : List UInt8) (x5 : Int) (x6 : Int) (x7 : Int) (x8 : Int) (x9 : Int) (x10 : Int) (x132 : Bool) (h : AHeap) : G_i_stringslite_Index.J Q 7 [(0, (AV.s x0)), (1, (AV.s x1)), (5, (AV.i .i64 x5)), (6, (AV.i .u8 x6)), (7, (AV.i .u8 x7)), (8, (AV.i .i64 x8)), (9, (AV.i .i64 x9)), (10, (AV.i .i64 x10)), (132, (AV.b x132))] h = G_i_stringslite_Index.p6 Q x0 x1 x5 x6 x7 x8 x9 x10 x132 h := rfl
def G_i_stringslite_Index.p5 (Q : AV → AHeap → Prop) (x0 : List UInt8) (x1 : List UInt8) (x5 : Int) (x6 : Int) (x7 : Int) (x8 : Int) (x9 : Int) (x10 : Int) (x107 : Bool) (h : AHeap) : Prop := G_i_stringslite_Index.J Q 6 [(0, (AV.s x0)), (1, (AV.s x1)), (5, (AV.i .i64 x5)), (6, (AV.i .u8 x6)), (7, (AV.i .u8 x7)), (8, (AV.i .i64 x8)), (9, (AV.i .i64 x9)), (10, (AV.i .i64 x10)), (107, (AV.b x107))] h
theorem G_i_stringslite_Index.j5 (Q : AV → AHeap → Prop) (x0 : List UInt8) (x1 : List UInt8) (x5 : Int) (x6 : Int) (x7 : Int) (x8 : Int) (x9 : Int) (x10 : Int) (x107 : Bool) (h : AHeap) : G_i_stringslite_Index.J Q 6 [(0, (AV.s x0)), (1, (AV.s x1)), (5, (AV.i .i64 x5)), (6, (AV.i .u8 x6)), (7, (AV.i .u8 x7)), (8, (AV.i .i64 x8)), (9, (AV.i .i64 x9)), (10, (AV.i .i64 x10)), (107, (AV.b x107))] h = G_i_stringslite_Index.p5 Q x0 x1 x5 x6 x7 x8 x9 x10 x107 h := rfl
def G_i_stringslite_Index.p3 (Q : AV → AHeap → Prop) (x0 : List UInt8) (x1 : List UInt8) (x5 : Int) (x6 : Int) (x7 : Int) (x8 : Int) (x9 : Int) (x10 : Int) (h : AHeap) : Prop := G_i_stringslite_Index.J Q 4 [(0, (AV.s x0)), (1, (AV.s x1)), (5, (AV.i .i64 x5)), (6, (AV.i .u8 x6)), (7, (AV.i .u8 x7)), (8, (AV.i .i64 x8)), (9, (AV.i .i64 x9)), (10, (AV.i .i64 x10))] h
theorem G_i_stringslite_Index.j3 (Q : AV → AHeap → Prop) (x0 : List UInt8) (x1 : List UInt8) (x5 : Int) (x6 : Int) (x7 : Int) (x8 : Int) (x9 : Int) (x10 : Int) (h : AHeap) : G_i_stringslite_Index.J Q 4 [(0, (AV.s x0)), (1, (AV.s x1)), (5, (AV.i .i64 x5)), (6, (AV.i .u8 x6)), (7, (AV.i .u8 x7)), (8, (AV.i .i64 x8)), (9, (AV.i .i64 x9)), (10, (AV.i .i64 x10))] h = G_i_stringslite_Index.p3 Q x0 x1 x5 x6 x7 x8 x9 x10 h := rfl
def G_i_stringslite_Index.p2 (Q : AV → AHeap → Prop) (x0 : List UInt8) (x1 : List UInt8) (x5 : Int) (x6 : Int) (x7 : Int) (x8 : Int) (x9 : Int) (x10 : Int) (h : AHeap) : Prop := G_i_stringslite_Index.J Q 3 [(0, (AV.s x0)), (1, (AV.s x1)), (5, (AV.i .i64 x5)), (6, (AV.i .u8 x6)), (7, (AV.i .u8 x7)), (8, (AV.i .i64 x8)), (9, (AV.i .i64 x9)), (10, (AV.i .i64 x10))] h
theorem G_i_stringslite_Index.j2 (Q : AV → AHeap → Prop) (x0 : List UInt8) (x1 : List UInt8) (x5 : Int) (x6 : Int) (x7 : Int) (x8 : Int) (x9 : Int) (x10 : Int) (h : AHeap) : G_i_stringslite_Index.J Q 3 [(0, (AV.s x0)), (1, (AV.s x1)), (5, (AV.i .i64 x5)), (6, (AV.i .u8 x6)), (7, (AV.i .u8 x7)), (8, (AV.i .i64 x8)), (9, (AV.i .i64 x9)), (10, (AV.i .i64 x10))] h = G_i_stringslite_Index.p2 Q x0 x1 x5 x6 x7 x8 x9 x10 h := rfl
def G_i_stringslite_Index.t1 (J : JT) (Q : AV → AHeap → Prop) (x0 : List UInt8) (x1 : List UInt8) (x5 : Int) (x36 : Bool) (h : AHeap) : Prop :=
(bif x36 then
(C G_i_bytealg_IndexString.id [(AV.s x0), (AV.s x1)] h fun v17 h18 =>
asI .i64 v17 fun n19 =>
Q (AV.i .i64 n19) h18)
else
(pIdxStr (AV.s x1) (AV.i .i64 0) fun n22 =>
pIdxStr (AV.s x1) (AV.i .i64 1) fun n24 =>
withI (IntKind.wrap .i64 ((x0.length : Int) - x5)) fun n27 =>
withI (IntKind.wrap .i64 (n27 + 1)) fun n28 =>
J 3 [(0, (AV.s x0)), (1, (AV.s x1)), (5, (AV.i .i64 x5)), (6, (AV.i .u8 n22)), (7, (AV.i .u8 n24)), (8, (AV.i .i64 0)), (9, (AV.i .i64 n28)), (10, (AV.i .i64 0))] h))
theorem G_i_stringslite_Index.t1_eq (J : JT) (Q : AV → AHeap → Prop) (x0 : List UInt8) (x1 : List UInt8) (x5 : Int) (x36 : Bool) (h : AHeap) : G_i_stringslite_Index.t1 J Q x0 x1 x5 x36 h = atJ prog C 143 J false [1, 1, 0, 0, 1, 1, 1, 1, 1, 1, 1] G_i_stringslite_Index.ann G_i_stringslite_Index.body [(0, (AV.s x0)), (1, (AV.s x1)), (5, (AV.i .i64 x5)), (36, (AV.b x36))] h (kFun prog Tryz.f44 Q) := by kernel_rfl
theorem G_i_stringslite_Index.i1 {Q : AV → AHeap → Prop} {x0 : List UInt8} {x1 : List UInt8} {x5 : Int} {x36 : Bool} {h : AHeap} (H : G_i_stringslite_Index.t1 (G_i_stringslite_Index.J Q) Q x0 x1 x5 x36 h) : G_i_stringslite_Index.p1 Q x0 x1 x5 x36 h := G_i_stringslite_Index.goR (k := 2) (p := [1, 1, 0, 0, 1, 1, 1, 1, 1, 1, 1]) (by kernel_rfl) ((G_i_stringslite_Index.t1_eq (G_i_stringslite_Index.J Q) Q x0 x1 x5 x36 h).mp H)
def G_i_stringslite_Index.t0 (J : JT) (Q : AV → AHeap → Prop) (x0 : List UInt8) (x1 : List UInt8) (x5 : Int) (x16 : Bool) (h : AHeap) : Prop :=
(bif x16 then
(Q (AV.i .i64 0) h)
else
((bif (decide ((x5 : Int) = 1)) then
(pIdxStr (AV.s x1) (AV.i .i64 0) fun n6 =>
C G_i_stringslite_IndexByte.id [(AV.s x0), (AV.i .u8 n6)] h fun v7 h8 =>
asI .i64 v7 fun n9 =>
Q (AV.i .i64 n9) h8)
else
((bif (decide (((x0.length : Int) : Int) ≤ x5)) then
(Q (AV.i .i64 (-1)) h)
else
(pLoad1 (gvar h 0) h fun v13 =>
asI .i64 v13 fun n14 =>
(bif (decide ((x5 : Int) ≤ n14)) then
(J 2 [(0, (AV.s x0)), (1, (AV.s x1)), (5, (AV.i .i64 x5)), (36, (AV.b (decide (((x0.length : Int) : Int) ≤ 64))))] h)
else
(J 2 [(0, (AV.s x0)), (1, (AV.s x1)), (5, (AV.i .i64 x5)), (36, (AV.b false))] h))))))))
theorem G_i_stringslite_Index.t0_eq (J : JT) (Q : AV → AHeap → Prop) (x0 : List UInt8) (x1 : List UInt8) (x5 : Int) (x16 : Bool) (h : AHeap) : G_i_stringslite_Index.t0 J Q x0 x1 x5 x16 h = atJ prog C 143 J false [1, 1, 0, 0, 1] G_i_stringslite_Index.ann G_i_stringslite_Index.body [(0, (AV.s x0)), (1, (AV.s x1)), (5, (AV.i .i64 x5)), (16, (AV.b x16))] h (kFun prog Tryz.f44 Q) := by kernel_rfl
theorem G_i_stringslite_Index.i0 {Q : AV → AHeap → Prop} {x0 : List UInt8} {x1 : List UInt8} {x5 : Int} {x16 : Bool} {h : AHeap} (H : G_i_stringslite_Index.t0 (G_i_stringslite_Index.J Q) Q x0 x1 x5 x16 h) : G_i_stringslite_Index.p0 Q x0 x1 x5 x16 h := G_i_stringslite_Index.goR (k := 1) (p := [1, 1, 0, 0, 1]) (by kernel_rfl) ((G_i_stringslite_Index.t0_eq (G_i_stringslite_Index.J Q) Q x0 x1 x5 x16 h).mp H)
def G_i_stringslite_Index.t4 (J : JT) (Q : AV → AHeap → Prop) (x0 : List UInt8) (x1 : List UInt8) (x5 : Int) (x6 : Int) (x7 : Int) (x8 : Int) (x9 : Int) (x10 : Int) (x93 : Bool) (h : AHeap) : Prop :=
(bif x93 then
(Q (AV.i .i64 x8) h)
else
(withI (IntKind.wrap .i64 (x8 + 1)) fun n57 =>
withI (IntKind.wrap .i64 (x10 + 1)) fun n59 =>
pLoad1 (gvar h 0) h fun v61 =>
asI .i64 v61 fun n62 =>
(bif (decide ((x5 : Int) ≤ n62)) then
(C G_i_bytealg_Cutover.id [(AV.i .i64 n57)] h fun v63 h64 =>
asI .i64 v63 fun n65 =>
J 6 [(0, (AV.s x0)), (1, (AV.s x1)), (5, (AV.i .i64 x5)), (6, (AV.i .u8 x6)), (7, (AV.i .u8 x7)), (8, (AV.i .i64 n57)), (9, (AV.i .i64 x9)), (10, (AV.i .i64 n59)), (107, (AV.b (decide ((n65 : Int) < n59))))] h64)
else
(J 6 [(0, (AV.s x0)), (1, (AV.s x1)), (5, (AV.i .i64 x5)), (6, (AV.i .u8 x6)), (7, (AV.i .u8 x7)), (8, (AV.i .i64 n57)), (9, (AV.i .i64 x9)), (10, (AV.i .i64 n59)), (107, (AV.b false))] h))))
theorem G_i_stringslite_Index.t4_eq (J : JT) (Q : AV → AHeap → Prop) (x0 : List UInt8) (x1 : List UInt8) (x5 : Int) (x6 : Int) (x7 : Int) (x8 : Int) (x9 : Int) (x10 : Int) (x93 : Bool) (h : AHeap) : G_i_stringslite_Index.t4 J Q x0 x1 x5 x6 x7 x8 x9 x10 x93 h = atJ prog C 143 J false [1, 1, 1, 1, 1, 1, 1, 1, 0, 0, 0, 1, 0, 1, 0, 1] G_i_stringslite_Index.ann G_i_stringslite_Index.body [(0, (AV.s x0)), (1, (AV.s x1)), (5, (AV.i .i64 x5)), (6, (AV.i .u8 x6)), (7, (AV.i .u8 x7)), (8, (AV.i .i64 x8)), (9, (AV.i .i64 x9)), (10, (AV.i .i64 x10)), (93, (AV.b x93))] h (kFun prog Tryz.f44 Q) := by kernel_rfl
theorem G_i_stringslite_Index.i4 {Q : AV → AHeap → Prop} {x0 : List UInt8} {x1 : List UInt8} {x5 : Int} {x6 : Int} {x7 : Int} {x8 : Int} {x9 : Int} {x10 : Int} {x93 : Bool} {h : AHeap} (H : G_i_stringslite_Index.t4 (G_i_stringslite_Index.J Q) Q x0 x1 x5 x6 x7 x8 x9 x10 x93 h) : G_i_stringslite_Index.p4 Q x0 x1 x5 x6 x7 x8 x9 x10 x93 h := G_i_stringslite_Index.goR (k := 5) (p := [1, 1, 1, 1, 1, 1, 1, 1, 0, 0, 0, 1, 0, 1, 0, 1]) (by kernel_rfl) ((G_i_stringslite_Index.t4_eq (G_i_stringslite_Index.J Q) Q x0 x1 x5 x6 x7 x8 x9 x10 x93 h).mp H)
def G_i_stringslite_Index.t6 (J : JT) (Q : AV → AHeap → Prop) (x0 : List UInt8) (x1 : List UInt8) (x5 : Int) (x6 : Int) (x7 : Int) (x8 : Int) (x9 : Int) (x10 : Int) (x132 : Bool) (h : AHeap) : Prop :=
(bif x132 then
(pSliceStr (AV.s x0) (some (AV.i .i64 x8)) none fun l85 =>
C G_i_bytealg_IndexRabinKarp_string_.id [(AV.s l85), (AV.s x1)] h fun v86 h87 =>
asI .i64 v86 fun n88 =>
(bif (decide ((n88 : Int) < 0)) then
(Q (AV.i .i64 (-1)) h87)
else
(withI (IntKind.wrap .i64 (x8 + n88)) fun n93 =>
Q (AV.i .i64 n93) h87)))
else
(J 3 [(0, (AV.s x0)), (1, (AV.s x1)), (5, (AV.i .i64 x5)), (6, (AV.i .u8 x6)), (7, (AV.i .u8 x7)), (8, (AV.i .i64 x8)), (9, (AV.i .i64 x9)), (10, (AV.i .i64 x10))] h))
theorem G_i_stringslite_Index.t6_eq (J : JT) (Q : AV → AHeap → Prop) (x0 : List UInt8) (x1 : List UInt8) (x5 : Int) (x6 : Int) (x7 : Int) (x8 : Int) (x9 : Int) (x10 : Int) (x132 : Bool) (h : AHeap) : G_i_stringslite_Index.t6 J Q x0 x1 x5 x6 x7 x8 x9 x10 x132 h = atJ prog C 143 J false [1, 1, 1, 1, 1, 1, 1, 1, 0, 0, 0, 1, 0, 1, 1, 1, 1, 1, 1, 1] G_i_stringslite_Index.ann G_i_stringslite_Index.body [(0, (AV.s x0)), (1, (AV.s x1)), (5, (AV.i .i64 x5)), (6, (AV.i .u8 x6)), (7, (AV.i .u8 x7)), (8, (AV.i .i64 x8)), (9, (AV.i .i64 x9)), (10, (AV.i .i64 x10)), (132, (AV.b x132))] h (kFun prog Tryz.f44 Q) := by kernel_rfl
theorem G_i_stringslite_Index.i6 {Q : AV → AHeap → Prop} {x0 : List UInt8} {x1 : List UInt8} {x5 : Int} {x6 : Int} {x7 : Int} {x8 : Int} {x9 : Int} {x10 : Int} {x132 : Bool} {h : AHeap} (H : G_i_stringslite_Index.t6 (G_i_stringslite_Index.J Q) Q x0 x1 x5 x6 x7 x8 x9 x10 x132 h) : G_i_stringslite_Index.p6 Q x0 x1 x5 x6 x7 x8 x9 x10 x132 h := G_i_stringslite_Index.goR (k := 7) (p := [1, 1, 1, 1, 1, 1, 1, 1, 0, 0, 0, 1, 0, 1, 1, 1, 1, 1, 1, 1]) (by kernel_rfl) ((G_i_stringslite_Index.t6_eq (G_i_stringslite_Index.J Q) Q x0 x1 x5 x6 x7 x8 x9 x10 x132 h).mp H)
def G_i_stringslite_Index.t5 (J : JT) (Q : AV → AHeap → Prop) (x0 : List UInt8) (x1 : List UInt8) (x5 : Int) (x6 : Int) (x7 : Int) (x8 : Int) (x9 : Int) (x10 : Int) (x107 : Bool) (h : AHeap) : Prop :=
(bif x107 then
(pSliceStr (AV.s x0) (some (AV.i .i64 x8)) none fun l68 =>
C G_i_bytealg_IndexString.id [(AV.s l68), (AV.s x1)] h fun v69 h70 =>
asI .i64 v69 fun n71 =>
(bif (decide ((0 : Int) ≤ n71)) then
(withI (IntKind.wrap .i64 (n71 + x8)) fun n74 =>
Q (AV.i .i64 n74) h70)
else
(Q (AV.i .i64 (-1)) h70)))
else
(pLoad1 (gvar h 0) h fun v78 =>
asI .i64 v78 fun n79 =>
(bif (decide ((n79 : Int) < x5)) then
(pShr .i64 x8 4 fun n80 =>
withI (IntKind.wrap .i64 (4 + n80)) fun n81 =>
(bif (decide ((n81 : Int) ≤ x10)) then
(J 7 [(0, (AV.s x0)), (1, (AV.s x1)), (5, (AV.i .i64 x5)), (6, (AV.i .u8 x6)), (7, (AV.i .u8 x7)), (8, (AV.i .i64 x8)), (9, (AV.i .i64 x9)), (10, (AV.i .i64 x10)), (132, (AV.b (decide ((x8 : Int) < x9))))] h)
else
(J 7 [(0, (AV.s x0)), (1, (AV.s x1)), (5, (AV.i .i64 x5)), (6, (AV.i .u8 x6)), (7, (AV.i .u8 x7)), (8, (AV.i .i64 x8)), (9, (AV.i .i64 x9)), (10, (AV.i .i64 x10)), (132, (AV.b false))] h)))
else
(J 7 [(0, (AV.s x0)), (1, (AV.s x1)), (5, (AV.i .i64 x5)), (6, (AV.i .u8 x6)), (7, (AV.i .u8 x7)), (8, (AV.i .i64 x8)), (9, (AV.i .i64 x9)), (10, (AV.i .i64 x10)), (132, (AV.b false))] h))))
theorem G_i_stringslite_Index.t5_eq (J : JT) (Q : AV → AHeap → Prop) (x0 : List UInt8) (x1 : List UInt8) (x5 : Int) (x6 : Int) (x7 : Int) (x8 : Int) (x9 : Int) (x10 : Int) (x107 : Bool) (h : AHeap) : G_i_stringslite_Index.t5 J Q x0 x1 x5 x6 x7 x8 x9 x10 x107 h = atJ prog C 143 J false [1, 1, 1, 1, 1, 1, 1, 1, 0, 0, 0, 1, 0, 1, 1, 1, 1, 1] G_i_stringslite_Index.ann G_i_stringslite_Index.body [(0, (AV.s x0)), (1, (AV.s x1)), (5, (AV.i .i64 x5)), (6, (AV.i .u8 x6)), (7, (AV.i .u8 x7)), (8, (AV.i .i64 x8)), (9, (AV.i .i64 x9)), (10, (AV.i .i64 x10)), (107, (AV.b x107))] h (kFun prog Tryz.f44 Q) := by kernel_rfl
theorem G_i_stringslite_Index.i5 {Q : AV → AHeap → Prop} {x0 : List UInt8} {x1 : List UInt8} {x5 : Int} {x6 : Int} {x7 : Int} {x8 : Int} {x9 : Int} {x10 : Int} {x107 : Bool} {h : AHeap} (H : G_i_stringslite_Index.t5 (G_i_stringslite_Index.J Q) Q x0 x1 x5 x6 x7 x8 x9 x10 x107 h) : G_i_stringslite_Index.p5 Q x0 x1 x5 x6 x7 x8 x9 x10 x107 h := G_i_stringslite_Index.goR (k := 6) (p := [1, 1, 1, 1, 1, 1, 1, 1, 0, 0, 0, 1, 0, 1, 1, 1, 1, 1]) (by kernel_rfl) ((G_i_stringslite_Index.t5_eq (G_i_stringslite_Index.J Q) Q x0 x1 x5 x6 x7 x8 x9 x10 x107 h).mp H)
def G_i_stringslite_Index.t3 (J : JT) (Q : AV → AHeap → Prop) (x0 : List UInt8) (x1 : List UInt8) (x5 : Int) (x6 : Int) (x7 : Int) (x8 : Int) (x9 : Int) (x10 : Int) (h : AHeap) : Prop :=
withI (IntKind.wrap .i64 (x8 + 1)) fun n49 =>
pIdxStr (AV.s x0) (AV.i .i64 n49) fun n50 =>
(bif (decide ((n50 : Int) = x7)) then
(withI (IntKind.wrap .i64 (x8 + x5)) fun n51 =>
pSliceStr (AV.s x0) (some (AV.i .i64 x8)) (some (AV.i .i64 n51)) fun l52 =>
J 5 [(0, (AV.s x0)), (1, (AV.s x1)), (5, (AV.i .i64 x5)), (6, (AV.i .u8 x6)), (7, (AV.i .u8 x7)), (8, (AV.i .i64 x8)), (9, (AV.i .i64 x9)), (10, (AV.i .i64 x10)), (93, (AV.b (decide ((l52 : List UInt8) = x1))))] h)
else
(J 5 [(0, (AV.s x0)), (1, (AV.s x1)), (5, (AV.i .i64 x5)), (6, (AV.i .u8 x6)), (7, (AV.i .u8 x7)), (8, (AV.i .i64 x8)), (9, (AV.i .i64 x9)), (10, (AV.i .i64 x10)), (93, (AV.b false))] h))
theorem G_i_stringslite_Index.t3_eq (J : JT) (Q : AV → AHeap → Prop) (x0 : List UInt8) (x1 : List UInt8) (x5 : Int) (x6 : Int) (x7 : Int) (x8 : Int) (x9 : Int) (x10 : Int) (h : AHeap) : G_i_stringslite_Index.t3 J Q x0 x1 x5 x6 x7 x8 x9 x10 h = atJ prog C 143 J false [1, 1, 1, 1, 1, 1, 1, 1, 0, 0, 0, 1, 0, 1] G_i_stringslite_Index.ann G_i_stringslite_Index.body [(0, (AV.s x0)), (1, (AV.s x1)), (5, (AV.i .i64 x5)), (6, (AV.i .u8 x6)), (7, (AV.i .u8 x7)), (8, (AV.i .i64 x8)), (9, (AV.i .i64 x9)), (10, (AV.i .i64 x10))] h (kFun prog Tryz.f44 Q) := by kernel_rfl
theorem G_i_stringslite_Index.i3 {Q : AV → AHeap → Prop} {x0 : List UInt8} {x1 : List UInt8} {x5 : Int} {x6 : Int} {x7 : Int} {x8 : Int} {x9 : Int} {x10 : Int} {h : AHeap} (H : G_i_stringslite_Index.t3 (G_i_stringslite_Index.J Q) Q x0 x1 x5 x6 x7 x8 x9 x10 h) : G_i_stringslite_Index.p3 Q x0 x1 x5 x6 x7 x8 x9 x10 h := G_i_stringslite_Index.goR (k := 4) (p := [1, 1, 1, 1, 1, 1, 1, 1, 0, 0, 0, 1, 0, 1]) (by kernel_rfl) ((G_i_stringslite_Index.t3_eq (G_i_stringslite_Index.J Q) Q x0 x1 x5 x6 x7 x8 x9 x10 h).mp H)
def G_i_stringslite_Index.t2 (J : JT) (Q : AV → AHeap → Prop) (x0 : List UInt8) (x1 : List UInt8) (x5 : Int) (x6 : Int) (x7 : Int) (x8 : Int) (x9 : Int) (x10 : Int) (h : AHeap) : Prop :=
(bif (decide ((x8 : Int) < x9)) then
(pIdxStr (AV.s x0) (AV.i .i64 x8) fun n34 =>
(bif (!decide ((n34 : Int) = x6)) then
(withI (IntKind.wrap .i64 (x8 + 1)) fun n36 =>
pSliceStr (AV.s x0) (some (AV.i .i64 n36)) (some (AV.i .i64 x9)) fun l37 =>
C G_i_stringslite_IndexByte.id [(AV.s l37), (AV.i .u8 x6)] h fun v38 h39 =>
asI .i64 v38 fun n40 =>
(bif (decide ((n40 : Int) < 0)) then
(Q (AV.i .i64 (-1)) h39)
else
(withI (IntKind.wrap .i64 (n40 + 1)) fun n45 =>
withI (IntKind.wrap .i64 (x8 + n45)) fun n46 =>
J 4 [(0, (AV.s x0)), (1, (AV.s x1)), (5, (AV.i .i64 x5)), (6, (AV.i .u8 x6)), (7, (AV.i .u8 x7)), (8, (AV.i .i64 n46)), (9, (AV.i .i64 x9)), (10, (AV.i .i64 x10))] h39)))
else
(J 4 [(0, (AV.s x0)), (1, (AV.s x1)), (5, (AV.i .i64 x5)), (6, (AV.i .u8 x6)), (7, (AV.i .u8 x7)), (8, (AV.i .i64 x8)), (9, (AV.i .i64 x9)), (10, (AV.i .i64 x10))] h)))
else
(Q (AV.i .i64 (-1)) h))
theorem G_i_stringslite_Index.t2_eq (J : JT) (Q : AV → AHeap → Prop) (x0 : List UInt8) (x1 : List UInt8) (x5 : Int) (x6 : Int) (x7 : Int) (x8 : Int) (x9 : Int) (x10 : Int) (h : AHeap) : G_i_stringslite_Index.t2 J Q x0 x1 x5 x6 x7 x8 x9 x10 h = atJ prog C 143 J true [1, 1, 1, 1, 1, 1, 1, 1, 0, 0] G_i_stringslite_Index.ann G_i_stringslite_Index.body [(0, (AV.s x0)), (1, (AV.s x1)), (5, (AV.i .i64 x5)), (6, (AV.i .u8 x6)), (7, (AV.i .u8 x7)), (8, (AV.i .i64 x8)), (9, (AV.i .i64 x9)), (10, (AV.i .i64 x10))] h (kFun prog Tryz.f44 Q) := by kernel_rfl
theorem G_i_stringslite_Index.i2 {Q : AV → AHeap → Prop} {x0 : List UInt8} {x1 : List UInt8} {x5 : Int} {x6 : Int} {x7 : Int} {x8 : Int} {x9 : Int} {x10 : Int} {h : AHeap} (H : G_i_stringslite_Index.t2 (G_i_stringslite_Index.J Q) Q x0 x1 x5 x6 x7 x8 x9 x10 h) : G_i_stringslite_Index.p2 Q x0 x1 x5 x6 x7 x8 x9 x10 h := G_i_stringslite_Index.goH (k := 3) (p := [1, 1, 1, 1, 1, 1, 1, 1, 0, 0]) (by kernel_rfl) ((G_i_stringslite_Index.t2_eq (G_i_stringslite_Index.J Q) Q x0 x1 x5 x6 x7 x8 x9 x10 h).mp H)
def G_i_stringslite_Index.t (J : JT) (Q : AV → AHeap → Prop) (x0 : List UInt8) (x1 : List UInt8) (h : AHeap) : Prop :=
(bif (decide (((x1.length : Int) : Int) = 0)) then
(J 1 [(0, (AV.s x0)), (1, (AV.s x1)), (5, (AV.i .i64 (x1.length : Int))), (16, (AV.b true))] h)
else
(J 1 [(0, (AV.s x0)), (1, (AV.s x1)), (5, (AV.i .i64 (x1.length : Int))), (16, (AV.b (decide ((x1 : List UInt8) = x0))))] h))
theorem G_i_stringslite_Index.t_eq (J : JT) (Q : AV → AHeap → Prop) (x0 : List UInt8) (x1 : List UInt8) (h : AHeap) : G_i_stringslite_Index.t J Q x0 x1 h = exJ prog C 143 J G_i_stringslite_Index.ann G_i_stringslite_Index.body (initEnv 0 [(AV.s x0), (AV.s x1)]) h (kFun prog Tryz.f44 Q) := by kernel_rfl
theorem G_i_stringslite_Index.call {K : AV → AHeap → Prop} {x0 : List UInt8} {x1 : List UInt8} {h : AHeap} (H : G_i_stringslite_Index.t (G_i_stringslite_Index.J (kRet h K)) (kRet h K) x0 x1 h) : C G_i_stringslite_Index.id [(AV.s x0), (AV.s x1)] h K :=
  callJ (P := prog) (fn := Tryz.f44) (ann := G_i_stringslite_Index.ann) (body := G_i_stringslite_Index.body) Tryz.func44 G_i_stringslite_Index.body_eq (by kernel_rfl) G_i_stringslite_Index.dist (by kernel_rfl) ((G_i_stringslite_Index.t_eq (G_i_stringslite_Index.J (kRet h K)) (kRet h K) x0 x1 h).mp H)

--@@ G_certificate_NameOf
/-! ### 47: intrusion/certificate.NameOf -/
noncomputable def G_certificate_NameOf.body : Code := (Tryz.f47.body).getD .skip
def G_certificate_NameOf.ann : Ann := (.seq 0 [0, 2] .leaf (.seq 0 [0, 2] (.seq 0 [0, 2, 18] .leaf (.br (.seq 0 [2, 3] .leaf .leaf) .leaf)) (.seq 0 [0, 2, 4] .leaf (.seq 0 [0, 2, 4] (.seq 0 [0, 2, 4, 23] .leaf (.br (.seq 0 [2, 3] .leaf .leaf) .leaf)) (.seq 0 [0, 2, 4] (.seq 0 [0, 2, 4, 26, 27, 28] .leaf (.one (.loop 1 [0, 2, 4, 26, 27, 28] (.seq 0 [0, 2, 4, 26, 27, 28, 29] .leaf (.seq 0 [0, 2, 4, 26, 27, 28] (.br .leaf .leaf) (.seq 0 [0, 2, 4, 26, 27, 28] (.one (.seq 0 [0, 2, 4, 6, 26, 27, 28] .leaf (.seq 0 [0, 2, 4, 7, 8, 26, 27, 28] .leaf (.seq 0 [0, 2, 4, 7, 8, 26, 27, 28, 38, 39, 40] .leaf (.one (.loop 2 [0, 2, 4, 7, 8, 26, 27, 28, 38, 39, 40] (.seq 0 [0, 2, 4, 7, 8, 26, 27, 28, 38, 39, 40, 41] .leaf (.seq 0 [0, 2, 4, 7, 8, 26, 27, 28, 38, 39, 40] (.br .leaf .leaf) (.seq 3 [0, 2, 4, 7, 8, 26, 27, 28, 38, 39, 40] (.one (.seq 0 [0, 2, 4, 7, 8, 11, 26, 27, 28, 38, 39, 40] .leaf (.seq 0 [0, 2, 4, 7, 8, 11, 26, 27, 28, 38, 39, 40, 47] .leaf (.br (.seq 0 [0, 2, 4, 7, 8, 12, 26, 27, 28, 38, 39, 40] .leaf (.ord (.neu 0 (.neu 1 (.neu 2 (.neu 3 (.neu 4 (.neu 5 (.neu 6 (.eff 7 (.eff 8 (.eff 9 (.eff 10 (.eff 11 (.eff 12 (.eff 13 (.eff 14 (.neu 15 (.eff 16 .done .stop)) .stop) .stop) .stop) .stop) .stop) .stop) .stop) .stop)))))))))) .leaf)))) .leaf))))))))) .leaf)))))) (.seq 0 [2, 4] (.seq 0 [0, 2, 4, 14, 15] .leaf (.seq 4 [2, 4, 83] .leaf (.br (.seq 0 [2, 3] .leaf .leaf) .leaf))) (.seq 0 [2, 3] .leaf .leaf)))))))
theorem G_certificate_NameOf.body_eq : Tryz.f47.body = some G_certificate_NameOf.body := by kernel_rfl
theorem G_certificate_NameOf.dist : noTwice (places G_certificate_NameOf.ann G_certificate_NameOf.body) = true := by kernel_rfl
noncomputable def G_certificate_NameOf.J (Q : AV → AHeap → Prop) : JT := funJ prog C Tryz.f47 G_certificate_NameOf.ann G_certificate_NameOf.body Q
theorem G_certificate_NameOf.goR {Q : AV → AHeap → Prop} {k : Nat} {p : List Nat} (hl : lookJ (places G_certificate_NameOf.ann G_certificate_NameOf.body) k = some (p, false)) {e : Env} {h : AHeap} (hk : atJ prog C 86 (G_certificate_NameOf.J Q) false p G_certificate_NameOf.ann G_certificate_NameOf.body e h (kFun prog Tryz.f47 Q)) : G_certificate_NameOf.J Q k e h := goJ_run (P := prog) (fn := Tryz.f47) (ann := G_certificate_NameOf.ann) (body := G_certificate_NameOf.body) (Q := Q) (k := k) (p := p) (e := e) (h := h) (acall_le X) G_certificate_NameOf.dist hl hk
theorem G_certificate_NameOf.goH {Q : AV → AHeap → Prop} {k : Nat} {p : List Nat} (hl : lookJ (places G_certificate_NameOf.ann G_certificate_NameOf.body) k = some (p, true)) {e : Env} {h : AHeap} (hk : atJ prog C 86 (G_certificate_NameOf.J Q) true p G_certificate_NameOf.ann G_certificate_NameOf.body e h (kFun prog Tryz.f47 Q)) : G_certificate_NameOf.J Q k e h := goJ_head (P := prog) (fn := Tryz.f47) (ann := G_certificate_NameOf.ann) (body := G_certificate_NameOf.body) (Q := Q) (k := k) (p := p) (e := e) (h := h) (acall_le X) G_certificate_NameOf.dist hl hk
def G_certificate_NameOf.p2 (Q : AV → AHeap → Prop) (x0 : List UInt8) (x2 : AV) (x4 : AV) (x7 : List UInt8) (x8 : List UInt8) (x26 : AV) (x27 : Int) (x28 : Int) (x38 : AV) (x39 : Int) (x40 : Int) (h : AHeap) : Prop := G_certificate_NameOf.J Q 3 [(0, (AV.s x0)), (2, x2), (4, x4), (7, (AV.s x7)), (8, (AV.s x8)), (26, x26), (27, (AV.i .i64 x27)), (28, (AV.i .i64 x28)), (38, x38), (39, (AV.i .i64 x39)), (40, (AV.i .i64 x40))] h
theorem G_certificate_NameOf.j2 (Q : AV → AHeap → Prop) (x0 : List UInt8) (x2 : AV) (x4 : AV) (x7 : List UInt8) (x8 : List UInt8) (x26 : AV) (x27 : Int) (x28 : Int) (x38 : AV) (x39 : Int) (x40 : Int) (h : AHeap) : G_certificate_NameOf.J Q 3 [(0, (AV.s x0)), (2, x2), (4, x4), (7, (AV.s x7)), (8, (AV.s x8)), (26, x26), (27, (AV.i .i64 x27)), (28, (AV.i .i64 x28)), (38, x38), (39, (AV.i .i64 x39)), (40, (AV.i .i64 x40))] h = G_certificate_NameOf.p2 Q x0 x2 x4 x7 x8 x26 x27 x28 x38 x39 x40 h := rfl
def G_certificate_NameOf.p1 (Q : AV → AHeap → Prop) (x0 : List UInt8) (x2 : AV) (x4 : AV) (x7 : List UInt8) (x8 : List UInt8) (x26 : AV) (x27 : Int) (x28 : Int) (x38 : AV) (x39 : Int) (x40 : Int) (h : AHeap) : Prop := G_certificate_NameOf.J Q 2 [(0, (AV.s x0)), (2, x2), (4, x4), (7, (AV.s x7)), (8, (AV.s x8)), (26, x26), (27, (AV.i .i64 x27)), (28, (AV.i .i64 x28)), (38, x38), (39, (AV.i .i64 x39)), (40, (AV.i .i64 x40))] h
theorem G_certificate_NameOf.j1 (Q : AV → AHeap → Prop) (x0 : List UInt8) (x2 : AV) (x4 : AV) (x7 : List UInt8) (x8 : List UInt8) (x26 : AV) (x27 : Int) (x28 : Int) (x38 : AV) (x39 : Int) (x40 : Int) (h : AHeap) : G_certificate_NameOf.J Q 2 [(0, (AV.s x0)), (2, x2), (4, x4), (7, (AV.s x7)), (8, (AV.s x8)), (26, x26), (27, (AV.i .i64 x27)), (28, (AV.i .i64 x28)), (38, x38), (39, (AV.i .i64 x39)), (40, (AV.i .i64 x40))] h = G_certificate_NameOf.p1 Q x0 x2 x4 x7 x8 x26 x27 x28 x38 x39 x40 h := rfl
def G_certificate_NameOf.p0 (Q : AV → AHeap → Prop) (x0 : List UInt8) (x2 : AV) (x4 : AV) (x26 : AV) (x27 : Int) (x28 : Int) (h : AHeap) : Prop := G_certificate_NameOf.J Q 1 [(0, (AV.s x0)), (2, x2), (4, x4), (26, x26), (27, (AV.i .i64 x27)), (28, (AV.i .i64 x28))] h
theorem G_certificate_NameOf.j0 (Q : AV → AHeap → Prop) (x0 : List UInt8) (x2 : AV) (x4 : AV) (x26 : AV) (x27 : Int) (x28 : Int) (h : AHeap) : G_certificate_NameOf.J Q 1 [(0, (AV.s x0)), (2, x2), (4, x4), (26, x26), (27, (AV.i .i64 x27)), (28, (AV.i .i64 x28))] h = G_certificate_NameOf.p0 Q x0 x2 x4 x26 x27 x28 h := rfl
def G_certificate_NameOf.p3 (Q : AV → AHeap → Prop) (x2 : AV) (x4 : AV) (x83 : Bool) (h : AHeap) : Prop := G_certificate_NameOf.J Q 4 [(2, x2), (4, x4), (83, (AV.b x83))] h
theorem G_certificate_NameOf.j3 (Q : AV → AHeap → Prop) (x2 : AV) (x4 : AV) (x83 : Bool) (h : AHeap) : G_certificate_NameOf.J Q 4 [(2, x2), (4, x4), (83, (AV.b x83))] h = G_certificate_NameOf.p3 Q x2 x4 x83 h := rfl
def G_certificate_NameOf.t2 (J : JT) (Q : AV → AHeap → Prop) (x0 : List UInt8) (x2 : AV) (x4 : AV) (x7 : List UInt8) (x8 : List UInt8) (x26 : AV) (x27 : Int) (x28 : Int) (x38 : AV) (x39 : Int) (x40 : Int) (h : AHeap) : Prop :=
withI (IntKind.wrap .i64 (x40 + 1)) fun n123 =>
J 2 [(0, (AV.s x0)), (2, x2), (4, x4), (7, (AV.s x7)), (8, (AV.s x8)), (26, x26), (27, (AV.i .i64 x27)), (28, (AV.i .i64 x28)), (38, x38), (39, (AV.i .i64 x39)), (40, (AV.i .i64 n123))] h
theorem G_certificate_NameOf.t2_eq (J : JT) (Q : AV → AHeap → Prop) (x0 : List UInt8) (x2 : AV) (x4 : AV) (x7 : List UInt8) (x8 : List UInt8) (x26 : AV) (x27 : Int) (x28 : Int) (x38 : AV) (x39 : Int) (x40 : Int) (h : AHeap) : G_certificate_NameOf.t2 J Q x0 x2 x4 x7 x8 x26 x27 x28 x38 x39 x40 h = atJ prog C 86 J false [1, 1, 1, 1, 0, 1, 0, 0, 1, 1, 0, 0, 1, 1, 1, 0, 0, 1, 1, 1] G_certificate_NameOf.ann G_certificate_NameOf.body [(0, (AV.s x0)), (2, x2), (4, x4), (7, (AV.s x7)), (8, (AV.s x8)), (26, x26), (27, (AV.i .i64 x27)), (28, (AV.i .i64 x28)), (38, x38), (39, (AV.i .i64 x39)), (40, (AV.i .i64 x40))] h (kFun prog Tryz.f47 Q) := by kernel_rfl
theorem G_certificate_NameOf.i2 {Q : AV → AHeap → Prop} {x0 : List UInt8} {x2 : AV} {x4 : AV} {x7 : List UInt8} {x8 : List UInt8} {x26 : AV} {x27 : Int} {x28 : Int} {x38 : AV} {x39 : Int} {x40 : Int} {h : AHeap} (H : G_certificate_NameOf.t2 (G_certificate_NameOf.J Q) Q x0 x2 x4 x7 x8 x26 x27 x28 x38 x39 x40 h) : G_certificate_NameOf.p2 Q x0 x2 x4 x7 x8 x26 x27 x28 x38 x39 x40 h := G_certificate_NameOf.goR (k := 3) (p := [1, 1, 1, 1, 0, 1, 0, 0, 1, 1, 0, 0, 1, 1, 1, 0, 0, 1, 1, 1]) (by kernel_rfl) ((G_certificate_NameOf.t2_eq (G_certificate_NameOf.J Q) Q x0 x2 x4 x7 x8 x26 x27 x28 x38 x39 x40 h).mp H)
def G_certificate_NameOf.t1 (J : JT) (Q : AV → AHeap → Prop) (x0 : List UInt8) (x2 : AV) (x4 : AV) (x7 : List UInt8) (x8 : List UInt8) (x26 : AV) (x27 : Int) (x28 : Int) (x38 : AV) (x39 : Int) (x40 : Int) (h : AHeap) : Prop :=
(bif (decide ((x40 : Int) < x39)) then
(pIdxAddrSl 2 x38 (AV.i .i64 x40) h fun v47 =>
pLoadN 2 v47 h fun v48 =>
pAlloc (some 82) [(AV.s []), (AV.s [])] h fun v49 h50 =>
pStore 2 v49 v48 h50 fun h51 =>
pFieldAddr 0 v49 fun v53 =>
pLoad1 v53 h51 fun v54 =>
asS v54 fun l55 =>
(bif (decide ((l55 : List UInt8) = x7)) then
(pFieldAddr 1 v49 fun v57 =>
pLoad1 v57 h51 fun v58 =>
asS v58 fun l59 =>
C G_der_OidOf.id [(AV.s l59)] h51 fun v60 h61 =>
pExtract 0 v60 fun v62 =>
pExtract 1 v60 fun v63 =>
asI .i64 v63 fun n64 =>
pAlloc (some 65) [(AV.i .i64 0), (AV.i .i64 0), (AV.b false), (AV.s []), (AV.sl none 0 none)] h61 fun v65 h66 =>
pStore 5 v65 v62 h66 fun h67 =>
pFieldAddr 4 x4 fun v69 =>
pLoad1 v69 h67 fun v70 =>
pLoadN 3 (gvar h67 3) h67 fun v71 =>
pLoadN 3 (gvar h67 1) h67 fun v72 =>
pLoadN 5 v65 h67 fun v73 =>
C G_certificate_plain.id [(AV.s x8)] h67 fun v74 h75 =>
asS v74 fun l76 =>
pLoadN 5 v65 h75 fun v77 =>
(v73 = v77 ∧
(pLoadN 3 (gvar h75 1) h75 fun v78 =>
(v72 = v78 ∧
(pLoadN 3 (gvar h75 3) h75 fun v79 =>
(v71 = v79 ∧
(pLoad1 v69 h75 fun v80 =>
(v70 = v80 ∧
(C G_certificate_shape_value.id [(AV.ag [(AV.i .i64 0), (AV.i .i64 12), (AV.b false)]), (AV.s l76)] h75 fun v81 h82 =>
pLoadN 5 v65 h82 fun v83 =>
(v73 = v83 ∧
(pLoadN 3 (gvar h82 1) h82 fun v84 =>
(v72 = v84 ∧
(pLoadN 3 (gvar h82 3) h82 fun v85 =>
(v71 = v85 ∧
(pLoad1 v69 h82 fun v86 =>
(v70 = v86 ∧
(pBuildSl 5 2 [(AV.i .i64 0), (AV.i .i64 0), (AV.b false), (AV.s []), (AV.sl none 0 none), (AV.i .i64 0), (AV.i .i64 0), (AV.b false), (AV.s []), (AV.sl none 0 none)] [(0, 5, v73), (5, 5, v81)] h82 fun v87 h88 =>
pLoadN 3 (gvar h88 1) h88 fun v89 =>
(v72 = v89 ∧
(pLoadN 3 (gvar h88 3) h88 fun v90 =>
(v71 = v90 ∧
(pLoad1 v69 h88 fun v91 =>
(v70 = v91 ∧
(C G_certificate_shape_of.id [v72, v87] h88 fun v92 h93 =>
pLoadN 5 v65 h93 fun v94 =>
(v73 = v94 ∧
(pLoadN 3 (gvar h93 3) h93 fun v95 =>
(v71 = v95 ∧
(pLoad1 v69 h93 fun v96 =>
(v70 = v96 ∧
(pBuildSl 5 1 [(AV.i .i64 0), (AV.i .i64 0), (AV.b false), (AV.s []), (AV.sl none 0 none)] [(0, 5, v92)] h93 fun v97 h98 =>
pLoadN 5 v65 h98 fun v99 =>
(v73 = v99 ∧
(pLoadN 3 (gvar h98 1) h98 fun v100 =>
(v72 = v100 ∧
(pLoadN 3 (gvar h98 3) h98 fun v101 =>
(v71 = v101 ∧
(pLoad1 v69 h98 fun v102 =>
(v70 = v102 ∧
(C G_certificate_shape_of.id [v71, v97] h98 fun v103 h104 =>
pLoadN 5 v65 h104 fun v105 =>
(v73 = v105 ∧
(pLoadN 3 (gvar h104 1) h104 fun v106 =>
(v72 = v106 ∧
(pLoad1 v69 h104 fun v107 =>
(v70 = v107 ∧
(pBuildSl 5 1 [(AV.i .i64 0), (AV.i .i64 0), (AV.b false), (AV.s []), (AV.sl none 0 none)] [(0, 5, v103)] h104 fun v108 h109 =>
pLoadN 5 v65 h109 fun v110 =>
(v73 = v110 ∧
(pLoadN 3 (gvar h109 1) h109 fun v111 =>
(v72 = v111 ∧
(pLoadN 3 (gvar h109 3) h109 fun v112 =>
(v71 = v112 ∧
(pLoad1 v69 h109 fun v113 =>
(v70 = v113 ∧
(pAppend none 5 64 v70 v108 h109 fun v114 h115 =>
pLoadN 5 v65 h115 fun v116 =>
(v73 = v116 ∧
(pLoadN 3 (gvar h115 1) h115 fun v117 =>
(v72 = v117 ∧
(pLoadN 3 (gvar h115 3) h115 fun v118 =>
(v71 = v118 ∧
(pFieldAddr 4 x4 fun v119 =>
pStore 1 v119 v114 h115 fun h120 =>
J 3 [(0, (AV.s x0)), (2, x2), (4, x4), (7, (AV.s x7)), (8, (AV.s x8)), (26, x26), (27, (AV.i .i64 x27)), (28, (AV.i .i64 x28)), (38, x38), (39, (AV.i .i64 x39)), (40, (AV.i .i64 x40))] h120)))))))))))))))))))))))))))))))))))))))))))))))))))))))))
else
(J 3 [(0, (AV.s x0)), (2, x2), (4, x4), (7, (AV.s x7)), (8, (AV.s x8)), (26, x26), (27, (AV.i .i64 x27)), (28, (AV.i .i64 x28)), (38, x38), (39, (AV.i .i64 x39)), (40, (AV.i .i64 x40))] h51)))
else
(withI (IntKind.wrap .i64 (x28 + 1)) fun n125 =>
J 1 [(0, (AV.s x0)), (2, x2), (4, x4), (26, x26), (27, (AV.i .i64 x27)), (28, (AV.i .i64 n125))] h))
theorem G_certificate_NameOf.t1_eq (J : JT) (Q : AV → AHeap → Prop) (x0 : List UInt8) (x2 : AV) (x4 : AV) (x7 : List UInt8) (x8 : List UInt8) (x26 : AV) (x27 : Int) (x28 : Int) (x38 : AV) (x39 : Int) (x40 : Int) (h : AHeap) : G_certificate_NameOf.t1 J Q x0 x2 x4 x7 x8 x26 x27 x28 x38 x39 x40 h = atJ prog C 86 J true [1, 1, 1, 1, 0, 1, 0, 0, 1, 1, 0, 0, 1, 1, 1, 0] G_certificate_NameOf.ann G_certificate_NameOf.body [(0, (AV.s x0)), (2, x2), (4, x4), (7, (AV.s x7)), (8, (AV.s x8)), (26, x26), (27, (AV.i .i64 x27)), (28, (AV.i .i64 x28)), (38, x38), (39, (AV.i .i64 x39)), (40, (AV.i .i64 x40))] h (kFun prog Tryz.f47 Q) := by kernel_rfl
theorem G_certificate_NameOf.i1 {Q : AV → AHeap → Prop} {x0 : List UInt8} {x2 : AV} {x4 : AV} {x7 : List UInt8} {x8 : List UInt8} {x26 : AV} {x27 : Int} {x28 : Int} {x38 : AV} {x39 : Int} {x40 : Int} {h : AHeap} (H : G_certificate_NameOf.t1 (G_certificate_NameOf.J Q) Q x0 x2 x4 x7 x8 x26 x27 x28 x38 x39 x40 h) : G_certificate_NameOf.p1 Q x0 x2 x4 x7 x8 x26 x27 x28 x38 x39 x40 h := G_certificate_NameOf.goH (k := 2) (p := [1, 1, 1, 1, 0, 1, 0, 0, 1, 1, 0, 0, 1, 1, 1, 0]) (by kernel_rfl) ((G_certificate_NameOf.t1_eq (G_certificate_NameOf.J Q) Q x0 x2 x4 x7 x8 x26 x27 x28 x38 x39 x40 h).mp H)
def G_certificate_NameOf.t0 (J : JT) (Q : AV → AHeap → Prop) (x0 : List UInt8) (x2 : AV) (x4 : AV) (x26 : AV) (x27 : Int) (x28 : Int) (h : AHeap) : Prop :=
(bif (decide ((x28 : Int) < x27)) then
(pIdxAddrSl 1 x26 (AV.i .i64 x28) h fun v28 =>
pLoad1 v28 h fun v29 =>
asS v29 fun l30 =>
C G_strings_Cut.id [(AV.s l30), (AV.s [61])] h fun v32 h33 =>
pExtract 0 v32 fun v34 =>
asS v34 fun l35 =>
pExtract 1 v32 fun v36 =>
asS v36 fun l37 =>
pExtract 2 v32 fun v38 =>
asB v38 fun c39 =>
pLoad1 (gvar h33 2) h33 fun v41 =>
pLenSl v41 fun n42 =>
J 2 [(0, (AV.s x0)), (2, x2), (4, x4), (7, (AV.s l35)), (8, (AV.s l37)), (26, x26), (27, (AV.i .i64 x27)), (28, (AV.i .i64 x28)), (38, v41), (39, (AV.i .i64 n42)), (40, (AV.i .i64 0))] h33)
else
(pLoadN 5 x4 h fun v127 =>
C G_certificate_Name.id [v127] h fun v128 h129 =>
pExtract 0 v128 fun v130 =>
asS v130 fun l131 =>
pExtract 1 v128 fun v132 =>
asI .i64 v132 fun n133 =>
(bif (!decide ((n133 : Int) = 0)) then
(J 4 [(2, x2), (4, x4), (83, (AV.b true))] h129)
else
(J 4 [(2, x2), (4, x4), (83, (AV.b (!(decide ((l131 : List UInt8) = x0)))))] h129))))
theorem G_certificate_NameOf.t0_eq (J : JT) (Q : AV → AHeap → Prop) (x0 : List UInt8) (x2 : AV) (x4 : AV) (x26 : AV) (x27 : Int) (x28 : Int) (h : AHeap) : G_certificate_NameOf.t0 J Q x0 x2 x4 x26 x27 x28 h = atJ prog C 86 J true [1, 1, 1, 1, 0, 1, 0] G_certificate_NameOf.ann G_certificate_NameOf.body [(0, (AV.s x0)), (2, x2), (4, x4), (26, x26), (27, (AV.i .i64 x27)), (28, (AV.i .i64 x28))] h (kFun prog Tryz.f47 Q) := by kernel_rfl
theorem G_certificate_NameOf.i0 {Q : AV → AHeap → Prop} {x0 : List UInt8} {x2 : AV} {x4 : AV} {x26 : AV} {x27 : Int} {x28 : Int} {h : AHeap} (H : G_certificate_NameOf.t0 (G_certificate_NameOf.J Q) Q x0 x2 x4 x26 x27 x28 h) : G_certificate_NameOf.p0 Q x0 x2 x4 x26 x27 x28 h := G_certificate_NameOf.goH (k := 1) (p := [1, 1, 1, 1, 0, 1, 0]) (by kernel_rfl) ((G_certificate_NameOf.t0_eq (G_certificate_NameOf.J Q) Q x0 x2 x4 x26 x27 x28 h).mp H)
def G_certificate_NameOf.t3 (J : JT) (Q : AV → AHeap → Prop) (x2 : AV) (x4 : AV) (x83 : Bool) (h : AHeap) : Prop :=
(bif x83 then
(pStore 5 x2 (AV.ag [(AV.i .i64 0), (AV.i .i64 0), (AV.b false), (AV.s []), (AV.sl none 0 none)]) h fun h137 =>
pLoadN 5 x2 h137 fun v139 =>
Q (AV.tu [v139, (AV.i .i64 5)]) h137)
else
(pLoadN 5 x4 h fun v141 =>
pStore 5 x2 v141 h fun h142 =>
pLoadN 5 x2 h142 fun v144 =>
Q (AV.tu [v144, (AV.i .i64 0)]) h142))
theorem G_certificate_NameOf.t3_eq (J : JT) (Q : AV → AHeap → Prop) (x2 : AV) (x4 : AV) (x83 : Bool) (h : AHeap) : G_certificate_NameOf.t3 J Q x2 x4 x83 h = atJ prog C 86 J false [1, 1, 1, 1, 1, 0, 1, 1] G_certificate_NameOf.ann G_certificate_NameOf.body [(2, x2), (4, x4), (83, (AV.b x83))] h (kFun prog Tryz.f47 Q) := by kernel_rfl
theorem G_certificate_NameOf.i3 {Q : AV → AHeap → Prop} {x2 : AV} {x4 : AV} {x83 : Bool} {h : AHeap} (H : G_certificate_NameOf.t3 (G_certificate_NameOf.J Q) Q x2 x4 x83 h) : G_certificate_NameOf.p3 Q x2 x4 x83 h := G_certificate_NameOf.goR (k := 4) (p := [1, 1, 1, 1, 1, 0, 1, 1]) (by kernel_rfl) ((G_certificate_NameOf.t3_eq (G_certificate_NameOf.J Q) Q x2 x4 x83 h).mp H)
def G_certificate_NameOf.t (J : JT) (Q : AV → AHeap → Prop) (x0 : List UInt8) (h : AHeap) : Prop :=
pAlloc (some 65) [(AV.i .i64 0), (AV.i .i64 0), (AV.b false), (AV.s []), (AV.sl none 0 none)] h fun v0 h1 =>
(bif (decide ((512 : Int) < (x0.length : Int))) then
(pStore 5 v0 (AV.ag [(AV.i .i64 0), (AV.i .i64 0), (AV.b false), (AV.s []), (AV.sl none 0 none)]) h1 fun h4 =>
pLoadN 5 v0 h4 fun v6 =>
Q (AV.tu [v6, (AV.i .i64 3)]) h4)
else
(pLoadN 3 (gvar h1 1) h1 fun v8 =>
C G_certificate_shape_of.id [v8, (AV.sl none 0 none)] h1 fun v9 h10 =>
pAlloc (some 65) [(AV.i .i64 0), (AV.i .i64 0), (AV.b false), (AV.s []), (AV.sl none 0 none)] h10 fun v11 h12 =>
pStore 5 v11 v9 h12 fun h13 =>
(bif (decide ((x0 : List UInt8) = [])) then
(pLoadN 5 v11 h13 fun v16 =>
pStore 5 v0 v16 h13 fun h17 =>
pLoadN 5 v0 h17 fun v19 =>
Q (AV.tu [v19, (AV.i .i64 0)]) h17)
else
(C G_certificate_split.id [(AV.s x0)] h13 fun v21 h22 =>
pLenSl v21 fun n23 =>
J 1 [(0, (AV.s x0)), (2, v0), (4, v11), (26, v21), (27, (AV.i .i64 n23)), (28, (AV.i .i64 0))] h22))))
theorem G_certificate_NameOf.t_eq (J : JT) (Q : AV → AHeap → Prop) (x0 : List UInt8) (h : AHeap) : G_certificate_NameOf.t J Q x0 h = exJ prog C 86 J G_certificate_NameOf.ann G_certificate_NameOf.body (initEnv 0 [(AV.s x0)]) h (kFun prog Tryz.f47 Q) := by kernel_rfl
theorem G_certificate_NameOf.call {K : AV → AHeap → Prop} {x0 : List UInt8} {h : AHeap} (H : G_certificate_NameOf.t (G_certificate_NameOf.J (kRet h K)) (kRet h K) x0 h) : C G_certificate_NameOf.id [(AV.s x0)] h K :=
  callJ (P := prog) (fn := Tryz.f47) (ann := G_certificate_NameOf.ann) (body := G_certificate_NameOf.body) Tryz.func47 G_certificate_NameOf.body_eq (by kernel_rfl) G_certificate_NameOf.dist (by kernel_rfl) ((G_certificate_NameOf.t_eq (G_certificate_NameOf.J (kRet h K)) (kRet h K) x0 h).mp H)

--@@ G_certificate_split
/-! ### 48: intrusion/certificate.split -/
noncomputable def G_certificate_split.body : Code := (Tryz.f48.body).getD .skip
def G_certificate_split.ann : Ann := (.seq 0 [0] .leaf (.seq 0 [0, 3] .leaf (.seq 0 [0, 3, 4] .leaf (.seq 0 [0, 3, 4] (.seq 0 [0, 3, 4, 5] .leaf (.one (.loop 1 [0, 3, 4, 5] (.seq 0 [0, 3, 4, 5] (.seq 0 [0, 3, 4, 5, 9] .leaf (.br .leaf .leaf)) (.seq 2 [0, 3, 4, 5] (.one (.seq 0 [0, 3, 4, 5, 14] .leaf (.one (.seq 0 [0, 3, 4, 5, 14, 15] .leaf (.br .leaf (.seq 0 [0, 3, 4, 5, 19] .leaf (.br (.seq 0 [0, 3, 5] .leaf .leaf) .leaf))))))) .leaf))))) (.seq 0 [2] .leaf .leaf)))))
theorem G_certificate_split.body_eq : Tryz.f48.body = some G_certificate_split.body := by kernel_rfl
theorem G_certificate_split.dist : noTwice (places G_certificate_split.ann G_certificate_split.body) = true := by kernel_rfl
noncomputable def G_certificate_split.J (Q : AV → AHeap → Prop) : JT := funJ prog C Tryz.f48 G_certificate_split.ann G_certificate_split.body Q
theorem G_certificate_split.goR {Q : AV → AHeap → Prop} {k : Nat} {p : List Nat} (hl : lookJ (places G_certificate_split.ann G_certificate_split.body) k = some (p, false)) {e : Env} {h : AHeap} (hk : atJ prog C 36 (G_certificate_split.J Q) false p G_certificate_split.ann G_certificate_split.body e h (kFun prog Tryz.f48 Q)) : G_certificate_split.J Q k e h := goJ_run (P := prog) (fn := Tryz.f48) (ann := G_certificate_split.ann) (body := G_certificate_split.body) (Q := Q) (k := k) (p := p) (e := e) (h := h) (acall_le X) G_certificate_split.dist hl hk
theorem G_certificate_split.goH {Q : AV → AHeap → Prop} {k : Nat} {p : List Nat} (hl : lookJ (places G_certificate_split.ann G_certificate_split.body) k = some (p, true)) {e : Env} {h : AHeap} (hk : atJ prog C 36 (G_certificate_split.J Q) true p G_certificate_split.ann G_certificate_split.body e h (kFun prog Tryz.f48 Q)) : G_certificate_split.J Q k e h := goJ_head (P := prog) (fn := Tryz.f48) (ann := G_certificate_split.ann) (body := G_certificate_split.body) (Q := Q) (k := k) (p := p) (e := e) (h := h) (acall_le X) G_certificate_split.dist hl hk
def G_certificate_split.p1 (Q : AV → AHeap → Prop) (x0 : List UInt8) (x3 : AV) (x4 : Int) (x5 : Int) (h : AHeap) : Prop := G_certificate_split.J Q 2 [(0, (AV.s x0)), (3, x3), (4, (AV.i .i64 x4)), (5, (AV.i .i64 x5))] h
theorem G_certificate_split.j1 (Q : AV → AHeap → Prop) (x0 : List UInt8) (x3 : AV) (x4 : Int) (x5 : Int) (h : AHeap) : G_certificate_split.J Q 2 [(0, (AV.s x0)), (3, x3), (4, (AV.i .i64 x4)), (5, (AV.i .i64 x5))] h = G_certificate_split.p1 Q x0 x3 x4 x5 h := rfl
def G_certificate_split.p0 (Q : AV → AHeap → Prop) (x0 : List UInt8) (x3 : AV) (x4 : Int) (x5 : Int) (h : AHeap) : Prop := G_certificate_split.J Q 1 [(0, (AV.s x0)), (3, x3), (4, (AV.i .i64 x4)), (5, (AV.i .i64 x5))] h
theorem G_certificate_split.j0 (Q : AV → AHeap → Prop) (x0 : List UInt8) (x3 : AV) (x4 : Int) (x5 : Int) (h : AHeap) : G_certificate_split.J Q 1 [(0, (AV.s x0)), (3, x3), (4, (AV.i .i64 x4)), (5, (AV.i .i64 x5))] h = G_certificate_split.p0 Q x0 x3 x4 x5 h := rfl
def G_certificate_split.t1 (J : JT) (Q : AV → AHeap → Prop) (x0 : List UInt8) (x3 : AV) (x4 : Int) (x5 : Int) (h : AHeap) : Prop :=
withI (IntKind.wrap .i64 (x5 + 1)) fun n22 =>
J 1 [(0, (AV.s x0)), (3, x3), (4, (AV.i .i64 x4)), (5, (AV.i .i64 n22))] h
theorem G_certificate_split.t1_eq (J : JT) (Q : AV → AHeap → Prop) (x0 : List UInt8) (x3 : AV) (x4 : Int) (x5 : Int) (h : AHeap) : G_certificate_split.t1 J Q x0 x3 x4 x5 h = atJ prog C 36 J false [1, 1, 1, 0, 1, 0, 0, 1, 1] G_certificate_split.ann G_certificate_split.body [(0, (AV.s x0)), (3, x3), (4, (AV.i .i64 x4)), (5, (AV.i .i64 x5))] h (kFun prog Tryz.f48 Q) := by kernel_rfl
theorem G_certificate_split.i1 {Q : AV → AHeap → Prop} {x0 : List UInt8} {x3 : AV} {x4 : Int} {x5 : Int} {h : AHeap} (H : G_certificate_split.t1 (G_certificate_split.J Q) Q x0 x3 x4 x5 h) : G_certificate_split.p1 Q x0 x3 x4 x5 h := G_certificate_split.goR (k := 2) (p := [1, 1, 1, 0, 1, 0, 0, 1, 1]) (by kernel_rfl) ((G_certificate_split.t1_eq (G_certificate_split.J Q) Q x0 x3 x4 x5 h).mp H)
def G_certificate_split.t0 (J : JT) (Q : AV → AHeap → Prop) (x0 : List UInt8) (x3 : AV) (x4 : Int) (x5 : Int) (h : AHeap) : Prop :=
(bif (decide ((x5 : Int) < (x0.length : Int))) then
(pIdxStr (AV.s x0) (AV.i .i64 x5) fun n7 =>
(bif (decide ((n7 : Int) = 92)) then
(withI (IntKind.wrap .i64 (x5 + 1)) fun n10 =>
J 2 [(0, (AV.s x0)), (3, x3), (4, (AV.i .i64 x4)), (5, (AV.i .i64 n10))] h)
else
((bif (decide ((n7 : Int) = 44)) then
(pSliceStr (AV.s x0) (some (AV.i .i64 x4)) (some (AV.i .i64 x5)) fun l13 =>
pBuildSl 1 1 [(AV.s [])] [(0, 1, (AV.s l13))] h fun v14 h15 =>
pAppend none 1 16 x3 v14 h15 fun v16 h17 =>
withI (IntKind.wrap .i64 (x5 + 1)) fun n19 =>
J 2 [(0, (AV.s x0)), (3, v16), (4, (AV.i .i64 n19)), (5, (AV.i .i64 x5))] h17)
else
(J 2 [(0, (AV.s x0)), (3, x3), (4, (AV.i .i64 x4)), (5, (AV.i .i64 x5))] h)))))
else
(pSliceStr (AV.s x0) (some (AV.i .i64 x4)) none fun l24 =>
pBuildSl 1 1 [(AV.s [])] [(0, 1, (AV.s l24))] h fun v25 h26 =>
pAppend none 1 16 x3 v25 h26 fun v27 h28 =>
Q v27 h28))
theorem G_certificate_split.t0_eq (J : JT) (Q : AV → AHeap → Prop) (x0 : List UInt8) (x3 : AV) (x4 : Int) (x5 : Int) (h : AHeap) : G_certificate_split.t0 J Q x0 x3 x4 x5 h = atJ prog C 36 J true [1, 1, 1, 0, 1, 0] G_certificate_split.ann G_certificate_split.body [(0, (AV.s x0)), (3, x3), (4, (AV.i .i64 x4)), (5, (AV.i .i64 x5))] h (kFun prog Tryz.f48 Q) := by kernel_rfl
theorem G_certificate_split.i0 {Q : AV → AHeap → Prop} {x0 : List UInt8} {x3 : AV} {x4 : Int} {x5 : Int} {h : AHeap} (H : G_certificate_split.t0 (G_certificate_split.J Q) Q x0 x3 x4 x5 h) : G_certificate_split.p0 Q x0 x3 x4 x5 h := G_certificate_split.goH (k := 1) (p := [1, 1, 1, 0, 1, 0]) (by kernel_rfl) ((G_certificate_split.t0_eq (G_certificate_split.J Q) Q x0 x3 x4 x5 h).mp H)
def G_certificate_split.t (J : JT) (Q : AV → AHeap → Prop) (x0 : List UInt8) (h : AHeap) : Prop :=
J 1 [(0, (AV.s x0)), (3, (AV.sl none 0 none)), (4, (AV.i .i64 0)), (5, (AV.i .i64 0))] h
theorem G_certificate_split.t_eq (J : JT) (Q : AV → AHeap → Prop) (x0 : List UInt8) (h : AHeap) : G_certificate_split.t J Q x0 h = exJ prog C 36 J G_certificate_split.ann G_certificate_split.body (initEnv 0 [(AV.s x0)]) h (kFun prog Tryz.f48 Q) := by kernel_rfl
theorem G_certificate_split.call {K : AV → AHeap → Prop} {x0 : List UInt8} {h : AHeap} (H : G_certificate_split.t (G_certificate_split.J (kRet h K)) (kRet h K) x0 h) : C G_certificate_split.id [(AV.s x0)] h K :=
  callJ (P := prog) (fn := Tryz.f48) (ann := G_certificate_split.ann) (body := G_certificate_split.body) Tryz.func48 G_certificate_split.body_eq (by kernel_rfl) G_certificate_split.dist (by kernel_rfl) ((G_certificate_split.t_eq (G_certificate_split.J (kRet h K)) (kRet h K) x0 h).mp H)

--@@ G_certificate_plain
/-! ### 49: intrusion/certificate.plain -/
noncomputable def G_certificate_plain.body : Code := (Tryz.f49.body).getD .skip
def G_certificate_plain.ann : Ann := (.seq 0 [0] .leaf (.seq 0 [0, 3] .leaf (.seq 0 [3] (.seq 0 [0, 3, 4] .leaf (.one (.loop 1 [0, 3, 4] (.seq 0 [0, 3, 4] (.seq 0 [0, 3, 4, 8] .leaf (.br .leaf .leaf)) (.seq 0 [0, 3, 4] (.one (.seq 3 [0, 3, 4] (.seq 2 [0, 3, 4, 21] .leaf (.br .leaf .leaf)) .leaf)) .leaf))))) (.seq 0 [2] .leaf .leaf))))
theorem G_certificate_plain.body_eq : Tryz.f49.body = some G_certificate_plain.body := by kernel_rfl
theorem G_certificate_plain.dist : noTwice (places G_certificate_plain.ann G_certificate_plain.body) = true := by kernel_rfl
noncomputable def G_certificate_plain.J (Q : AV → AHeap → Prop) : JT := funJ prog C Tryz.f49 G_certificate_plain.ann G_certificate_plain.body Q
theorem G_certificate_plain.goR {Q : AV → AHeap → Prop} {k : Nat} {p : List Nat} (hl : lookJ (places G_certificate_plain.ann G_certificate_plain.body) k = some (p, false)) {e : Env} {h : AHeap} (hk : atJ prog C 29 (G_certificate_plain.J Q) false p G_certificate_plain.ann G_certificate_plain.body e h (kFun prog Tryz.f49 Q)) : G_certificate_plain.J Q k e h := goJ_run (P := prog) (fn := Tryz.f49) (ann := G_certificate_plain.ann) (body := G_certificate_plain.body) (Q := Q) (k := k) (p := p) (e := e) (h := h) (acall_le X) G_certificate_plain.dist hl hk
theorem G_certificate_plain.goH {Q : AV → AHeap → Prop} {k : Nat} {p : List Nat} (hl : lookJ (places G_certificate_plain.ann G_certificate_plain.body) k = some (p, true)) {e : Env} {h : AHeap} (hk : atJ prog C 29 (G_certificate_plain.J Q) true p G_certificate_plain.ann G_certificate_plain.body e h (kFun prog Tryz.f49 Q)) : G_certificate_plain.J Q k e h := goJ_head (P := prog) (fn := Tryz.f49) (ann := G_certificate_plain.ann) (body := G_certificate_plain.body) (Q := Q) (k := k) (p := p) (e := e) (h := h) (acall_le X) G_certificate_plain.dist hl hk
def G_certificate_plain.p1 (Q : AV → AHeap → Prop) (x0 : List UInt8) (x3 : AV) (x4 : Int) (x21 : Bool) (h : AHeap) : Prop := G_certificate_plain.J Q 2 [(0, (AV.s x0)), (3, x3), (4, (AV.i .i64 x4)), (21, (AV.b x21))] h
theorem G_certificate_plain.j1 (Q : AV → AHeap → Prop) (x0 : List UInt8) (x3 : AV) (x4 : Int) (x21 : Bool) (h : AHeap) : G_certificate_plain.J Q 2 [(0, (AV.s x0)), (3, x3), (4, (AV.i .i64 x4)), (21, (AV.b x21))] h = G_certificate_plain.p1 Q x0 x3 x4 x21 h := rfl
def G_certificate_plain.p2 (Q : AV → AHeap → Prop) (x0 : List UInt8) (x3 : AV) (x4 : Int) (h : AHeap) : Prop := G_certificate_plain.J Q 3 [(0, (AV.s x0)), (3, x3), (4, (AV.i .i64 x4))] h
theorem G_certificate_plain.j2 (Q : AV → AHeap → Prop) (x0 : List UInt8) (x3 : AV) (x4 : Int) (h : AHeap) : G_certificate_plain.J Q 3 [(0, (AV.s x0)), (3, x3), (4, (AV.i .i64 x4))] h = G_certificate_plain.p2 Q x0 x3 x4 h := rfl
def G_certificate_plain.p0 (Q : AV → AHeap → Prop) (x0 : List UInt8) (x3 : AV) (x4 : Int) (h : AHeap) : Prop := G_certificate_plain.J Q 1 [(0, (AV.s x0)), (3, x3), (4, (AV.i .i64 x4))] h
theorem G_certificate_plain.j0 (Q : AV → AHeap → Prop) (x0 : List UInt8) (x3 : AV) (x4 : Int) (h : AHeap) : G_certificate_plain.J Q 1 [(0, (AV.s x0)), (3, x3), (4, (AV.i .i64 x4))] h = G_certificate_plain.p0 Q x0 x3 x4 h := rfl
def G_certificate_plain.t1 (J : JT) (Q : AV → AHeap → Prop) (x0 : List UInt8) (x3 : AV) (x4 : Int) (x21 : Bool) (h : AHeap) : Prop :=
(bif x21 then
(withI (IntKind.wrap .i64 (x4 + 1)) fun n12 =>
J 3 [(0, (AV.s x0)), (3, x3), (4, (AV.i .i64 n12))] h)
else
(J 3 [(0, (AV.s x0)), (3, x3), (4, (AV.i .i64 x4))] h))
theorem G_certificate_plain.t1_eq (J : JT) (Q : AV → AHeap → Prop) (x0 : List UInt8) (x3 : AV) (x4 : Int) (x21 : Bool) (h : AHeap) : G_certificate_plain.t1 J Q x0 x3 x4 x21 h = atJ prog C 29 J false [1, 1, 0, 1, 0, 0, 1, 0, 0, 0, 1] G_certificate_plain.ann G_certificate_plain.body [(0, (AV.s x0)), (3, x3), (4, (AV.i .i64 x4)), (21, (AV.b x21))] h (kFun prog Tryz.f49 Q) := by kernel_rfl
theorem G_certificate_plain.i1 {Q : AV → AHeap → Prop} {x0 : List UInt8} {x3 : AV} {x4 : Int} {x21 : Bool} {h : AHeap} (H : G_certificate_plain.t1 (G_certificate_plain.J Q) Q x0 x3 x4 x21 h) : G_certificate_plain.p1 Q x0 x3 x4 x21 h := G_certificate_plain.goR (k := 2) (p := [1, 1, 0, 1, 0, 0, 1, 0, 0, 0, 1]) (by kernel_rfl) ((G_certificate_plain.t1_eq (G_certificate_plain.J Q) Q x0 x3 x4 x21 h).mp H)
def G_certificate_plain.t2 (J : JT) (Q : AV → AHeap → Prop) (x0 : List UInt8) (x3 : AV) (x4 : Int) (h : AHeap) : Prop :=
pIdxStr (AV.s x0) (AV.i .i64 x4) fun n15 =>
C G_strings_Builder_WriteByte.id [x3, (AV.i .u8 n15)] h fun v16 h17 =>
withI (IntKind.wrap .i64 (x4 + 1)) fun n19 =>
J 1 [(0, (AV.s x0)), (3, x3), (4, (AV.i .i64 n19))] h17
theorem G_certificate_plain.t2_eq (J : JT) (Q : AV → AHeap → Prop) (x0 : List UInt8) (x3 : AV) (x4 : Int) (h : AHeap) : G_certificate_plain.t2 J Q x0 x3 x4 h = atJ prog C 29 J false [1, 1, 0, 1, 0, 0, 1, 0, 0, 1] G_certificate_plain.ann G_certificate_plain.body [(0, (AV.s x0)), (3, x3), (4, (AV.i .i64 x4))] h (kFun prog Tryz.f49 Q) := by kernel_rfl
theorem G_certificate_plain.i2 {Q : AV → AHeap → Prop} {x0 : List UInt8} {x3 : AV} {x4 : Int} {h : AHeap} (H : G_certificate_plain.t2 (G_certificate_plain.J Q) Q x0 x3 x4 h) : G_certificate_plain.p2 Q x0 x3 x4 h := G_certificate_plain.goR (k := 3) (p := [1, 1, 0, 1, 0, 0, 1, 0, 0, 1]) (by kernel_rfl) ((G_certificate_plain.t2_eq (G_certificate_plain.J Q) Q x0 x3 x4 h).mp H)
def G_certificate_plain.t0 (J : JT) (Q : AV → AHeap → Prop) (x0 : List UInt8) (x3 : AV) (x4 : Int) (h : AHeap) : Prop :=
(bif (decide ((x4 : Int) < (x0.length : Int))) then
(pIdxStr (AV.s x0) (AV.i .i64 x4) fun n8 =>
(bif (decide ((n8 : Int) = 92)) then
(withI (IntKind.wrap .i64 (x4 + 1)) fun n9 =>
J 2 [(0, (AV.s x0)), (3, x3), (4, (AV.i .i64 x4)), (21, (AV.b (decide ((n9 : Int) < (x0.length : Int)))))] h)
else
(J 2 [(0, (AV.s x0)), (3, x3), (4, (AV.i .i64 x4)), (21, (AV.b false))] h)))
else
(C G_strings_Builder_String.id [x3] h fun v21 h22 =>
asS v21 fun l23 =>
Q (AV.s l23) h22))
theorem G_certificate_plain.t0_eq (J : JT) (Q : AV → AHeap → Prop) (x0 : List UInt8) (x3 : AV) (x4 : Int) (h : AHeap) : G_certificate_plain.t0 J Q x0 x3 x4 h = atJ prog C 29 J true [1, 1, 0, 1, 0] G_certificate_plain.ann G_certificate_plain.body [(0, (AV.s x0)), (3, x3), (4, (AV.i .i64 x4))] h (kFun prog Tryz.f49 Q) := by kernel_rfl
theorem G_certificate_plain.i0 {Q : AV → AHeap → Prop} {x0 : List UInt8} {x3 : AV} {x4 : Int} {h : AHeap} (H : G_certificate_plain.t0 (G_certificate_plain.J Q) Q x0 x3 x4 h) : G_certificate_plain.p0 Q x0 x3 x4 h := G_certificate_plain.goH (k := 1) (p := [1, 1, 0, 1, 0]) (by kernel_rfl) ((G_certificate_plain.t0_eq (G_certificate_plain.J Q) Q x0 x3 x4 h).mp H)
def G_certificate_plain.t (J : JT) (Q : AV → AHeap → Prop) (x0 : List UInt8) (h : AHeap) : Prop :=
pAlloc (some 88) [(AV.p none), (AV.sl none 0 none)] h fun v1 h2 =>
J 1 [(0, (AV.s x0)), (3, v1), (4, (AV.i .i64 0))] h2
theorem G_certificate_plain.t_eq (J : JT) (Q : AV → AHeap → Prop) (x0 : List UInt8) (h : AHeap) : G_certificate_plain.t J Q x0 h = exJ prog C 29 J G_certificate_plain.ann G_certificate_plain.body (initEnv 0 [(AV.s x0)]) h (kFun prog Tryz.f49 Q) := by kernel_rfl
theorem G_certificate_plain.call {K : AV → AHeap → Prop} {x0 : List UInt8} {h : AHeap} (H : G_certificate_plain.t (G_certificate_plain.J (kRet h K)) (kRet h K) x0 h) : C G_certificate_plain.id [(AV.s x0)] h K :=
  callJ (P := prog) (fn := Tryz.f49) (ann := G_certificate_plain.ann) (body := G_certificate_plain.body) Tryz.func49 G_certificate_plain.body_eq (by kernel_rfl) G_certificate_plain.dist (by kernel_rfl) ((G_certificate_plain.t_eq (G_certificate_plain.J (kRet h K)) (kRet h K) x0 h).mp H)


end Go.Proofs.YtomghnmoomodiaaGreatDoor

