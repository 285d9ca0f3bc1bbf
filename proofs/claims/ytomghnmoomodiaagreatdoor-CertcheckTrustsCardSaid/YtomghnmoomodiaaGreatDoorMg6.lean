/- Lemmas (several texts in one). -/
import Derived.Test.YtomghnmoomodiaaGreatDoorRows
import Derived.Test.YtomghnmoomodiaaGreatDoorMg5
/- The law's text in the abstract machine: printed by Gen.lean, checked by Lean's kernel. -/
set_option linter.unusedVariables false
set_option linter.unusedSectionVars false
set_option maxRecDepth 100000
namespace Go.Proofs.YtomghnmoomodiaaGreatDoor
open Go.GAM
variable [XR]
--@@ G_law35_CertcheckTrusts
/-! ### 6: intrusion/intrusionlaw35.CertcheckTrusts -/
noncomputable def G_law35_CertcheckTrusts.body : Code := (Tryz.f6.body).getD .skip
def G_law35_CertcheckTrusts.ann : Ann := (.seq 0 [1] .leaf (.seq 0 [1] (.seq 0 [1, 13] .leaf (.br (.seq 0 [2] .leaf .leaf) .leaf)) (.seq 0 [1] (.seq 0 [1, 25] .leaf (.br (.seq 0 [2] .leaf .leaf) .leaf)) (.seq 0 [1] (.seq 0 [1, 30] .leaf (.br (.seq 0 [2] .leaf .leaf) .leaf)) (.seq 0 [1] (.seq 0 [1, 33, 34] .leaf (.one (.loop 1 [1, 33, 34] (.seq 0 [1, 33, 34, 35] .leaf (.seq 0 [1, 33, 34] (.br .leaf .leaf) (.seq 0 [1, 33, 34] (.one (.seq 0 [1, 3, 33, 34] .leaf (.seq 0 [1, 3, 4, 33, 34] .leaf (.seq 2 [1, 33, 34, 74] (.ord (.neu 0 (.neu 1 (.neu 2 (.neu 3 (.neu 4 (.neu 5 (.neu 6 (.neu 7 (.neu 8 (.neu 9 (.neu 10 (.neu 11 (.neu 12 (.neu 13 (.neu 14 (.neu 15 (.neu 16 (.neu 17 (.neu 18 (.neu 19 (.neu 20 (.neu 21 (.neu 22 (.neu 23 (.neu 24 (.neu 25 (.neu 26 (.neu 27 (.neu 28 (.neu 29 (.neu 30 (.neu 31 (.neu 32 .done)))))))))))))))))))))))))))))))))) (.br (.seq 0 [2] .leaf .leaf) .leaf))))) .leaf)))))) (.seq 0 [1, 5] .leaf (.seq 0 [1, 5, 6] .leaf (.seq 0 [6] (.seq 0 [1, 5, 6, 86, 87] .leaf (.one (.loop 3 [1, 5, 6, 86, 87] (.seq 0 [1, 5, 6, 86, 87, 88] .leaf (.seq 0 [1, 5, 6, 86, 87] (.br .leaf .leaf) (.seq 4 [1, 5, 6, 86, 87] (.one (.seq 0 [1, 5, 6, 7, 86, 87] .leaf (.seq 0 [1, 5, 6, 8, 86, 87] .leaf .leaf))) .leaf)))))) (.seq 5 [2] .leaf .leaf)))))))))
theorem G_law35_CertcheckTrusts.body_eq : Tryz.f6.body = some G_law35_CertcheckTrusts.body := by kernel_rfl
theorem G_law35_CertcheckTrusts.dist : noTwice (places G_law35_CertcheckTrusts.ann G_law35_CertcheckTrusts.body) = true := by kernel_rfl
noncomputable def G_law35_CertcheckTrusts.J (Q : AV → AHeap → Prop) : JT := funJ prog C Tryz.f6 G_law35_CertcheckTrusts.ann G_law35_CertcheckTrusts.body Q
theorem G_law35_CertcheckTrusts.goR {Q : AV → AHeap → Prop} {k : Nat} {p : List Nat} (hl : lookJ (places G_law35_CertcheckTrusts.ann G_law35_CertcheckTrusts.body) k = some (p, false)) {e : Env} {h : AHeap} (hk : atJ prog C 126 (G_law35_CertcheckTrusts.J Q) false p G_law35_CertcheckTrusts.ann G_law35_CertcheckTrusts.body e h (kFun prog Tryz.f6 Q)) : G_law35_CertcheckTrusts.J Q k e h := goJ_run (P := prog) (fn := Tryz.f6) (ann := G_law35_CertcheckTrusts.ann) (body := G_law35_CertcheckTrusts.body) (Q := Q) (k := k) (p := p) (e := e) (h := h) (acall_le X) G_law35_CertcheckTrusts.dist hl hk
theorem G_law35_CertcheckTrusts.goH {Q : AV → AHeap → Prop} {k : Nat} {p : List Nat} (hl : lookJ (places G_law35_CertcheckTrusts.ann G_law35_CertcheckTrusts.body) k = some (p, true)) {e : Env} {h : AHeap} (hk : atJ prog C 126 (G_law35_CertcheckTrusts.J Q) true p G_law35_CertcheckTrusts.ann G_law35_CertcheckTrusts.body e h (kFun prog Tryz.f6 Q)) : G_law35_CertcheckTrusts.J Q k e h := goJ_head (P := prog) (fn := Tryz.f6) (ann := G_law35_CertcheckTrusts.ann) (body := G_law35_CertcheckTrusts.body) (Q := Q) (k := k) (p := p) (e := e) (h := h) (acall_le X) G_law35_CertcheckTrusts.dist hl hk
def G_law35_CertcheckTrusts.p1 (Q : AV → AHeap → Prop) (x1 : AV) (x33 : Int) (x34 : Int) (x74 : Bool) (h : AHeap) : Prop := G_law35_CertcheckTrusts.J Q 2 [(1, x1), (33, (AV.i .i64 x33)), (34, (AV.i .i64 x34)), (74, (AV.b x74))] h
theorem G_law35_CertcheckTrusts.j1 (Q : AV → AHeap → Prop) (x1 : AV) (x33 : Int) (x34 : Int) (x74 : Bool) (h : AHeap) : G_law35_CertcheckTrusts.J Q 2 [(1, x1), (33, (AV.i .i64 x33)), (34, (AV.i .i64 x34)), (74, (AV.b x74))] h = G_law35_CertcheckTrusts.p1 Q x1 x33 x34 x74 h := rfl
def G_law35_CertcheckTrusts.p0 (Q : AV → AHeap → Prop) (x1 : AV) (x33 : Int) (x34 : Int) (h : AHeap) : Prop := G_law35_CertcheckTrusts.J Q 1 [(1, x1), (33, (AV.i .i64 x33)), (34, (AV.i .i64 x34))] h
theorem G_law35_CertcheckTrusts.j0 (Q : AV → AHeap → Prop) (x1 : AV) (x33 : Int) (x34 : Int) (h : AHeap) : G_law35_CertcheckTrusts.J Q 1 [(1, x1), (33, (AV.i .i64 x33)), (34, (AV.i .i64 x34))] h = G_law35_CertcheckTrusts.p0 Q x1 x33 x34 h := rfl
def G_law35_CertcheckTrusts.p3 (Q : AV → AHeap → Prop) (x1 : AV) (x5 : AV) (x6 : Bool) (x86 : Int) (x87 : Int) (h : AHeap) : Prop := G_law35_CertcheckTrusts.J Q 4 [(1, x1), (5, x5), (6, (AV.b x6)), (86, (AV.i .i64 x86)), (87, (AV.i .i64 x87))] h
theorem G_law35_CertcheckTrusts.j3 (Q : AV → AHeap → Prop) (x1 : AV) (x5 : AV) (x6 : Bool) (x86 : Int) (x87 : Int) (h : AHeap) : G_law35_CertcheckTrusts.J Q 4 [(1, x1), (5, x5), (6, (AV.b x6)), (86, (AV.i .i64 x86)), (87, (AV.i .i64 x87))] h = G_law35_CertcheckTrusts.p3 Q x1 x5 x6 x86 x87 h := rfl
def G_law35_CertcheckTrusts.p2 (Q : AV → AHeap → Prop) (x1 : AV) (x5 : AV) (x6 : Bool) (x86 : Int) (x87 : Int) (h : AHeap) : Prop := G_law35_CertcheckTrusts.J Q 3 [(1, x1), (5, x5), (6, (AV.b x6)), (86, (AV.i .i64 x86)), (87, (AV.i .i64 x87))] h
theorem G_law35_CertcheckTrusts.j2 (Q : AV → AHeap → Prop) (x1 : AV) (x5 : AV) (x6 : Bool) (x86 : Int) (x87 : Int) (h : AHeap) : G_law35_CertcheckTrusts.J Q 3 [(1, x1), (5, x5), (6, (AV.b x6)), (86, (AV.i .i64 x86)), (87, (AV.i .i64 x87))] h = G_law35_CertcheckTrusts.p2 Q x1 x5 x6 x86 x87 h := rfl
def G_law35_CertcheckTrusts.p4 (Q : AV → AHeap → Prop) (x2 : Bool) (h : AHeap) : Prop := G_law35_CertcheckTrusts.J Q 5 [(2, (AV.b x2))] h
theorem G_law35_CertcheckTrusts.j4 (Q : AV → AHeap → Prop) (x2 : Bool) (h : AHeap) : G_law35_CertcheckTrusts.J Q 5 [(2, (AV.b x2))] h = G_law35_CertcheckTrusts.p4 Q x2 h := rfl
def G_law35_CertcheckTrusts.t1 (J : JT) (Q : AV → AHeap → Prop) (x1 : AV) (x33 : Int) (x34 : Int) (x74 : Bool) (h : AHeap) : Prop :=
(bif x74 then
(Q (AV.b false) h)
else
(withI (IntKind.wrap .i64 (x34 + 1)) fun n89 =>
J 1 [(1, x1), (33, (AV.i .i64 x33)), (34, (AV.i .i64 n89))] h))
theorem G_law35_CertcheckTrusts.t1_eq (J : JT) (Q : AV → AHeap → Prop) (x1 : AV) (x33 : Int) (x34 : Int) (x74 : Bool) (h : AHeap) : G_law35_CertcheckTrusts.t1 J Q x1 x33 x34 x74 h = atJ prog C 126 J false [1, 1, 1, 1, 0, 1, 0, 0, 1, 1, 0, 0, 1, 1, 1] G_law35_CertcheckTrusts.ann G_law35_CertcheckTrusts.body [(1, x1), (33, (AV.i .i64 x33)), (34, (AV.i .i64 x34)), (74, (AV.b x74))] h (kFun prog Tryz.f6 Q) := by kernel_rfl
theorem G_law35_CertcheckTrusts.i1 {Q : AV → AHeap → Prop} {x1 : AV} {x33 : Int} {x34 : Int} {x74 : Bool} {h : AHeap} (H : G_law35_CertcheckTrusts.t1 (G_law35_CertcheckTrusts.J Q) Q x1 x33 x34 x74 h) : G_law35_CertcheckTrusts.p1 Q x1 x33 x34 x74 h := G_law35_CertcheckTrusts.goR (k := 2) (p := [1, 1, 1, 1, 0, 1, 0, 0, 1, 1, 0, 0, 1, 1, 1]) (by kernel_rfl) ((G_law35_CertcheckTrusts.t1_eq (G_law35_CertcheckTrusts.J Q) Q x1 x33 x34 x74 h).mp H)
def G_law35_CertcheckTrusts.t0 (J : JT) (Q : AV → AHeap → Prop) (x1 : AV) (x33 : Int) (x34 : Int) (h : AHeap) : Prop :=
(bif (decide ((x34 : Int) < x33)) then
(pFieldAddr 0 x1 fun v49 =>
pLoad1 v49 h fun v50 =>
pIdxAddrSl 8 v50 (AV.i .i64 x34) h fun v51 =>
pLoadN 8 v51 h fun v52 =>
pAlloc (some 36) [(AV.s []), (AV.s []), (AV.s []), (AV.i .i64 0), (AV.i .i64 0), (AV.sl none 0 none), (AV.b false), (AV.s [])] h fun v53 h54 =>
pStore 8 v53 v52 h54 fun h55 =>
pFieldAddr 2 x1 fun v57 =>
pLoad1 v57 h55 fun v58 =>
asI .i64 v58 fun n59 =>
pFieldAddr 3 v53 fun v60 =>
pLoad1 v60 h55 fun v61 =>
asI .i64 v61 fun n62 =>
(bif (decide ((n59 : Int) < n62)) then
(J 2 [(1, x1), (33, (AV.i .i64 x33)), (34, (AV.i .i64 x34)), (74, (AV.b true))] h55)
else
(pFieldAddr 2 x1 fun v64 =>
pLoad1 v64 h55 fun v65 =>
asI .i64 v65 fun n66 =>
pFieldAddr 4 v53 fun v67 =>
pLoad1 v67 h55 fun v68 =>
asI .i64 v68 fun n69 =>
(bif (decide ((n69 : Int) < n66)) then
(J 2 [(1, x1), (33, (AV.i .i64 x33)), (34, (AV.i .i64 x34)), (74, (AV.b true))] h55)
else
((bif (decide ((0 : Int) < x34)) then
(pFieldAddr 6 v53 fun v71 =>
pLoad1 v71 h55 fun v72 =>
asB v72 fun c73 =>
(bif (!c73) then
(J 2 [(1, x1), (33, (AV.i .i64 x33)), (34, (AV.i .i64 x34)), (74, (AV.b true))] h55)
else
(pFieldAddr 0 x1 fun v75 =>
pLoad1 v75 h55 fun v76 =>
withI (IntKind.wrap .i64 (x34 - 1)) fun n77 =>
pIdxAddrSl 8 v76 (AV.i .i64 n77) h55 fun v78 =>
pFieldAddr 1 v78 fun v79 =>
pLoad1 v79 h55 fun v80 =>
asS v80 fun l81 =>
pFieldAddr 2 v53 fun v82 =>
pLoad1 v82 h55 fun v83 =>
asS v83 fun l84 =>
J 2 [(1, x1), (33, (AV.i .i64 x33)), (34, (AV.i .i64 x34)), (74, (AV.b (!(decide ((l81 : List UInt8) = l84)))))] h55)))
else
(J 2 [(1, x1), (33, (AV.i .i64 x33)), (34, (AV.i .i64 x34)), (74, (AV.b false))] h55)))))))
else
(pFieldAddr 0 x1 fun v91 =>
pLoad1 v91 h fun v92 =>
pFieldAddr 0 x1 fun v93 =>
pLoad1 v93 h fun v94 =>
pLenSl v94 fun n95 =>
withI (IntKind.wrap .i64 (n95 - 1)) fun n96 =>
pIdxAddrSl 8 v92 (AV.i .i64 n96) h fun v97 =>
pLoadN 8 v97 h fun v98 =>
pAlloc (some 36) [(AV.s []), (AV.s []), (AV.s []), (AV.i .i64 0), (AV.i .i64 0), (AV.sl none 0 none), (AV.b false), (AV.s [])] h fun v99 h100 =>
pStore 8 v99 v98 h100 fun h101 =>
pFieldAddr 3 x1 fun v104 =>
pLoad1 v104 h101 fun v105 =>
pLenSl v105 fun n106 =>
J 3 [(1, x1), (5, v99), (6, (AV.b false)), (86, (AV.i .i64 n106)), (87, (AV.i .i64 0))] h101))
theorem G_law35_CertcheckTrusts.t0_eq (J : JT) (Q : AV → AHeap → Prop) (x1 : AV) (x33 : Int) (x34 : Int) (h : AHeap) : G_law35_CertcheckTrusts.t0 J Q x1 x33 x34 h = atJ prog C 126 J true [1, 1, 1, 1, 0, 1, 0] G_law35_CertcheckTrusts.ann G_law35_CertcheckTrusts.body [(1, x1), (33, (AV.i .i64 x33)), (34, (AV.i .i64 x34))] h (kFun prog Tryz.f6 Q) := by kernel_rfl
theorem G_law35_CertcheckTrusts.i0 {Q : AV → AHeap → Prop} {x1 : AV} {x33 : Int} {x34 : Int} {h : AHeap} (H : G_law35_CertcheckTrusts.t0 (G_law35_CertcheckTrusts.J Q) Q x1 x33 x34 h) : G_law35_CertcheckTrusts.p0 Q x1 x33 x34 h := G_law35_CertcheckTrusts.goH (k := 1) (p := [1, 1, 1, 1, 0, 1, 0]) (by kernel_rfl) ((G_law35_CertcheckTrusts.t0_eq (G_law35_CertcheckTrusts.J Q) Q x1 x33 x34 h).mp H)
def G_law35_CertcheckTrusts.t3 (J : JT) (Q : AV → AHeap → Prop) (x1 : AV) (x5 : AV) (x6 : Bool) (x86 : Int) (x87 : Int) (h : AHeap) : Prop :=
withI (IntKind.wrap .i64 (x87 + 1)) fun n156 =>
J 3 [(1, x1), (5, x5), (6, (AV.b x6)), (86, (AV.i .i64 x86)), (87, (AV.i .i64 n156))] h
theorem G_law35_CertcheckTrusts.t3_eq (J : JT) (Q : AV → AHeap → Prop) (x1 : AV) (x5 : AV) (x6 : Bool) (x86 : Int) (x87 : Int) (h : AHeap) : G_law35_CertcheckTrusts.t3 J Q x1 x5 x6 x86 x87 h = atJ prog C 126 J false [1, 1, 1, 1, 1, 1, 1, 0, 1, 0, 0, 1, 1, 1] G_law35_CertcheckTrusts.ann G_law35_CertcheckTrusts.body [(1, x1), (5, x5), (6, (AV.b x6)), (86, (AV.i .i64 x86)), (87, (AV.i .i64 x87))] h (kFun prog Tryz.f6 Q) := by kernel_rfl
theorem G_law35_CertcheckTrusts.i3 {Q : AV → AHeap → Prop} {x1 : AV} {x5 : AV} {x6 : Bool} {x86 : Int} {x87 : Int} {h : AHeap} (H : G_law35_CertcheckTrusts.t3 (G_law35_CertcheckTrusts.J Q) Q x1 x5 x6 x86 x87 h) : G_law35_CertcheckTrusts.p3 Q x1 x5 x6 x86 x87 h := G_law35_CertcheckTrusts.goR (k := 4) (p := [1, 1, 1, 1, 1, 1, 1, 0, 1, 0, 0, 1, 1, 1]) (by kernel_rfl) ((G_law35_CertcheckTrusts.t3_eq (G_law35_CertcheckTrusts.J Q) Q x1 x5 x6 x86 x87 h).mp H)
def G_law35_CertcheckTrusts.t2 (J : JT) (Q : AV → AHeap → Prop) (x1 : AV) (x5 : AV) (x6 : Bool) (x86 : Int) (x87 : Int) (h : AHeap) : Prop :=
(bif (decide ((x87 : Int) < x86)) then
(pFieldAddr 3 x1 fun v112 =>
pLoad1 v112 h fun v113 =>
pIdxAddrSl 8 v113 (AV.i .i64 x87) h fun v114 =>
pLoadN 8 v114 h fun v115 =>
pAlloc (some 36) [(AV.s []), (AV.s []), (AV.s []), (AV.i .i64 0), (AV.i .i64 0), (AV.sl none 0 none), (AV.b false), (AV.s [])] h fun v116 h117 =>
pStore 8 v116 v115 h117 fun h118 =>
(bif x6 then
(J 4 [(1, x1), (5, x5), (6, (AV.b true)), (86, (AV.i .i64 x86)), (87, (AV.i .i64 x87))] h118)
else
(pFieldAddr 2 v116 fun v121 =>
pLoad1 v121 h118 fun v122 =>
asS v122 fun l123 =>
pFieldAddr 2 x5 fun v124 =>
pLoad1 v124 h118 fun v125 =>
asS v125 fun l126 =>
(bif (decide ((l123 : List UInt8) = l126)) then
(pFieldAddr 7 v116 fun v127 =>
pLoad1 v127 h118 fun v128 =>
asS v128 fun l129 =>
pFieldAddr 7 x5 fun v130 =>
pLoad1 v130 h118 fun v131 =>
asS v131 fun l132 =>
(bif (decide ((l129 : List UInt8) = l132)) then
(J 4 [(1, x1), (5, x5), (6, (AV.b true)), (86, (AV.i .i64 x86)), (87, (AV.i .i64 x87))] h118)
else
(pFieldAddr 6 v116 fun v134 =>
pLoad1 v134 h118 fun v135 =>
asB v135 fun c136 =>
(bif c136 then
(pFieldAddr 2 v116 fun v137 =>
pLoad1 v137 h118 fun v138 =>
asS v138 fun l139 =>
pFieldAddr 1 x5 fun v140 =>
pLoad1 v140 h118 fun v141 =>
asS v141 fun l142 =>
J 4 [(1, x1), (5, x5), (6, (AV.b (decide ((l139 : List UInt8) = l142)))), (86, (AV.i .i64 x86)), (87, (AV.i .i64 x87))] h118)
else
(J 4 [(1, x1), (5, x5), (6, (AV.b false)), (86, (AV.i .i64 x86)), (87, (AV.i .i64 x87))] h118)))))
else
(pFieldAddr 6 v116 fun v145 =>
pLoad1 v145 h118 fun v146 =>
asB v146 fun c147 =>
(bif c147 then
(pFieldAddr 2 v116 fun v148 =>
pLoad1 v148 h118 fun v149 =>
asS v149 fun l150 =>
pFieldAddr 1 x5 fun v151 =>
pLoad1 v151 h118 fun v152 =>
asS v152 fun l153 =>
J 4 [(1, x1), (5, x5), (6, (AV.b (decide ((l150 : List UInt8) = l153)))), (86, (AV.i .i64 x86)), (87, (AV.i .i64 x87))] h118)
else
(J 4 [(1, x1), (5, x5), (6, (AV.b false)), (86, (AV.i .i64 x86)), (87, (AV.i .i64 x87))] h118)))))))
else
((bif x6 then
(C G_law35_awake.id [] h fun v158 h159 =>
asB v158 fun c160 =>
J 5 [(2, (AV.b c160))] h159)
else
(J 5 [(2, (AV.b false))] h))))
theorem G_law35_CertcheckTrusts.t2_eq (J : JT) (Q : AV → AHeap → Prop) (x1 : AV) (x5 : AV) (x6 : Bool) (x86 : Int) (x87 : Int) (h : AHeap) : G_law35_CertcheckTrusts.t2 J Q x1 x5 x6 x86 x87 h = atJ prog C 126 J true [1, 1, 1, 1, 1, 1, 1, 0, 1, 0] G_law35_CertcheckTrusts.ann G_law35_CertcheckTrusts.body [(1, x1), (5, x5), (6, (AV.b x6)), (86, (AV.i .i64 x86)), (87, (AV.i .i64 x87))] h (kFun prog Tryz.f6 Q) := by kernel_rfl
theorem G_law35_CertcheckTrusts.i2 {Q : AV → AHeap → Prop} {x1 : AV} {x5 : AV} {x6 : Bool} {x86 : Int} {x87 : Int} {h : AHeap} (H : G_law35_CertcheckTrusts.t2 (G_law35_CertcheckTrusts.J Q) Q x1 x5 x6 x86 x87 h) : G_law35_CertcheckTrusts.p2 Q x1 x5 x6 x86 x87 h := G_law35_CertcheckTrusts.goH (k := 3) (p := [1, 1, 1, 1, 1, 1, 1, 0, 1, 0]) (by kernel_rfl) ((G_law35_CertcheckTrusts.t2_eq (G_law35_CertcheckTrusts.J Q) Q x1 x5 x6 x86 x87 h).mp H)
def G_law35_CertcheckTrusts.t4 (J : JT) (Q : AV → AHeap → Prop) (x2 : Bool) (h : AHeap) : Prop :=
Q (AV.b x2) h
theorem G_law35_CertcheckTrusts.t4_eq (J : JT) (Q : AV → AHeap → Prop) (x2 : Bool) (h : AHeap) : G_law35_CertcheckTrusts.t4 J Q x2 h = atJ prog C 126 J false [1, 1, 1, 1, 1, 1, 1, 1, 1] G_law35_CertcheckTrusts.ann G_law35_CertcheckTrusts.body [(2, (AV.b x2))] h (kFun prog Tryz.f6 Q) := by kernel_rfl
theorem G_law35_CertcheckTrusts.i4 {Q : AV → AHeap → Prop} {x2 : Bool} {h : AHeap} (H : G_law35_CertcheckTrusts.t4 (G_law35_CertcheckTrusts.J Q) Q x2 h) : G_law35_CertcheckTrusts.p4 Q x2 h := G_law35_CertcheckTrusts.goR (k := 5) (p := [1, 1, 1, 1, 1, 1, 1, 1, 1]) (by kernel_rfl) ((G_law35_CertcheckTrusts.t4_eq (G_law35_CertcheckTrusts.J Q) Q x2 h).mp H)
def G_law35_CertcheckTrusts.t (J : JT) (Q : AV → AHeap → Prop) (x0 : AV) (h : AHeap) : Prop :=
pBox (some 26) x0 h fun v0 h1 =>
pFieldAddr 0 v0 fun v3 =>
pLoad1 v3 h1 fun v4 =>
pFieldAddr 3 v0 fun v5 =>
pLoad1 v5 h1 fun v6 =>
C G_law35_large.id [v4, v6] h1 fun v7 h8 =>
asB v7 fun c9 =>
(bif c9 then
(C G_law35_awake.id [] h8 fun v11 h12 =>
asB v11 fun c13 =>
Q (AV.b c13) h12)
else
(pFieldAddr 0 v0 fun v16 =>
pLoad1 v16 h8 fun v17 =>
pFieldAddr 1 v0 fun v18 =>
pLoad1 v18 h8 fun v19 =>
asS v19 fun l20 =>
pFieldAddr 2 v0 fun v21 =>
pLoad1 v21 h8 fun v22 =>
asI .i64 v22 fun n23 =>
pFieldAddr 3 v0 fun v24 =>
pLoad1 v24 h8 fun v25 =>
C G_certcheck_Check.id [v17, (AV.s l20), (AV.i .i64 n23), v25] h8 fun v26 h27 =>
pLenSl v26 fun n28 =>
(bif (decide ((0 : Int) < n28)) then
(C G_law35_awake.id [] h27 fun v30 h31 =>
asB v30 fun c32 =>
Q (AV.b c32) h31)
else
(pFieldAddr 0 v0 fun v35 =>
pLoad1 v35 h27 fun v36 =>
pLenSl v36 fun n37 =>
(bif (decide ((n37 : Int) = 0)) then
(Q (AV.b false) h27)
else
(pFieldAddr 0 v0 fun v41 =>
pLoad1 v41 h27 fun v42 =>
pLenSl v42 fun n43 =>
J 1 [(1, v0), (33, (AV.i .i64 n43)), (34, (AV.i .i64 0))] h27))))))
theorem G_law35_CertcheckTrusts.t_eq (J : JT) (Q : AV → AHeap → Prop) (x0 : AV) (h : AHeap) : G_law35_CertcheckTrusts.t J Q x0 h = exJ prog C 126 J G_law35_CertcheckTrusts.ann G_law35_CertcheckTrusts.body (initEnv 0 [x0]) h (kFun prog Tryz.f6 Q) := by kernel_rfl
theorem G_law35_CertcheckTrusts.call {K : AV → AHeap → Prop} {x0 : AV} {h : AHeap} (H : G_law35_CertcheckTrusts.t (G_law35_CertcheckTrusts.J (kRet h K)) (kRet h K) x0 h) : C G_law35_CertcheckTrusts.id [x0] h K :=
  callJ (P := prog) (fn := Tryz.f6) (ann := G_law35_CertcheckTrusts.ann) (body := G_law35_CertcheckTrusts.body) Tryz.func6 G_law35_CertcheckTrusts.body_eq (by kernel_rfl) G_law35_CertcheckTrusts.dist (by kernel_rfl) ((G_law35_CertcheckTrusts.t_eq (G_law35_CertcheckTrusts.J (kRet h K)) (kRet h K) x0 h).mp H)


end Go.Proofs.YtomghnmoomodiaaGreatDoor

/- CertcheckTrusts. -/
set_option linter.unusedVariables false
set_option linter.unusedSimpArgs false
set_option linter.unusedSectionVars false
set_option maxRecDepth 20000
namespace Go.Proofs.YtomghnmoomodiaaGreatDoor
open Go.GAM Go.RowKit Go.ChangeShapes

/-! ### What no findings say -/

section
variable {cm : List UInt8 → List UInt8} {tr ch : List Cert} {x : List UInt8} {at' : Int}
theorem no_find (hne : ch ≠ []) (h : checkS cm tr x at' ch = []) : ∀ f, 1 ≤ f → f ≤ 7 → foundS cm tr x at' ch f = false := by
  intro f h1 h7
  unfold checkS at h
  rw [if_neg hne] at h
  unfold outS at h
  rw [List.filter_eq_nil_iff] at h
  have := h f (List.mem_map.2 ⟨f - 1, List.mem_range.2 (by omega), by show f - 1 + 1 = f; omega⟩)
  simpa using this
theorem no_at (hne : ch ≠ []) (h : checkS cm tr x at' ch = []) {f i : Nat} (h1 : 1 ≤ f) (h7 : f ≤ 7) (hi : i < ch.length) : fAt tr at' ch f i = false := by
  have := no_find hne h f h1 h7
  unfold foundS fAny at this
  rw [Bool.or_eq_false_iff] at this
  have h2 := List.any_eq_false.1 this.2 i (by simpa using hi)
  simpa using h2
theorem fAt_1 {c : Cert} {i : Nat} (h : ch[i]? = some c) : fAt tr at' ch 1 i = decide (c.til < at') := by unfold fAt; rw [h]; rfl
theorem fAt_2 {c : Cert} {i : Nat} (h : ch[i]? = some c) : fAt tr at' ch 2 i = decide (at' < c.frm) := by unfold fAt; rw [h]; rfl
theorem fAt_6 {c d : Cert} {i : Nat} (h : ch[i]? = some c) (h2 : ch[i + 1]? = some d) : fAt tr at' ch 6 i = !decide (c.issuer = d.subject) := by unfold fAt; rw [h, h2]; rfl
theorem fAt_7 {c : Cert} {i : Nat} (h : ch[i]? = some c) : fAt tr at' ch 7 i = (decide (0 < i) && !c.auth) := by unfold fAt; rw [h]; rfl
def okS (last t : Cert) : Bool := (decide (t.subject = last.subject) && decide (t.key = last.key)) || (t.auth && decide (t.subject = last.issuer))
theorem no_last (hne : ch ≠ []) (h : checkS cm tr x at' ch = []) {c : Cert} (hc : ch[ch.length - 1]? = some c) : tr.any (okS c) = true := by
  have := no_find hne h 5 (by omega) (by omega)
  unfold foundS holdS at this
  rw [Bool.or_eq_false_iff] at this
  have h2 := this.1
  rw [if_neg (by omega), if_pos rfl, hc] at h2
  simp only [Bool.and_eq_false_iff, Bool.not_eq_false'] at h2
  rw [List.any_eq_true]
  rcases h2 with h2 | h2
  · unfold hasS at h2
    obtain ⟨t, h3, h4⟩ := List.any_eq_true.1 h2
    exact ⟨t, h3, by unfold okS; rw [h4]; rfl⟩
  · unfold autS at h2
    obtain ⟨t, h3, h4⟩ := List.any_eq_true.1 h2
    exact ⟨t, h3, by unfold okS; rw [h4, Bool.or_true]⟩
end

section
variable {h0 : AHeap} {vc vt : AV} {q : Que} {id : Nat}

theorem trusts_p2 {h1 : AHeap} (LT : CL h1 vt q.tr) (ht : q.tr.length ≤ 30) (R : RecAt h1 id [vc, .s q.host, .i .i64 q.at', vt]) {last : Cert} {wl : AV} {lid : Nat} (Rl : RecAt h1 lid (certC last wl)) : ∀ (r : List Cert) (i : Nat) (b : Bool) (hx : AHeap), q.tr.drop i = r → Upd (fun _ => False) h1 hx → (b || r.any (okS last)) = true →
    G_law35_CertcheckTrusts.p2 (kRet h0 Yes) (.p (some ⟨id, 4, 0⟩)) (.p (some ⟨lid, 8, 0⟩)) b q.tr.length i hx := by
  intro r
  induction r with
  | nil =>
    intro i b hx hr U hb
    have := drop_end hr
    refine G_law35_CertcheckTrusts.i2 ?_
    simp only [G_law35_CertcheckTrusts.t2, G_law35_CertcheckTrusts.j4]
    have hb : b = true := by simpa using hb
    subst hb
    refine bif_f (by simp; omega) (bif_t rfl (awake_c fun h' U' => st_asB ?_))
    refine G_law35_CertcheckTrusts.i4 ?_
    simp only [G_law35_CertcheckTrusts.t4]
    exact kRet_yes
  | cons t r ih =>
    intro i b hx hr U hb
    have hlt := drop_lt hr
    have hn := drop_next hr
    have hci := at_of_drop hr
    obtain ⟨p, rw_, A, B, hp⟩ := (LT.ext U).at hci
    have hA := A.ok
    obtain ⟨w, rfl, hw⟩ := A
    refine G_law35_CertcheckTrusts.i2 ?_
    simp only [G_law35_CertcheckTrusts.t2, G_law35_CertcheckTrusts.j3, G_law35_CertcheckTrusts.j4]
    have Rx := R.upd U fun h => h
    refine bif_t (by simp; omega) (st_fld (st_load Rx rfl rfl (hp _ hx _ (Upd.refl _ _) (B.loadN (st_alloc fun h2 hl2 U2 Rc => st_storeN Rc rfl rfl hA fun h3 hl3 U3 Rc => ?_)))))
    have Ux : Upd (fun _ => False) h1 h3 := U.trans (U2.own U3 (Nat.le_refl _)) fun _ _ h => h
    have Rl := Rl.upd Ux fun h => h
    have nxt : ∀ b', (b = true ∨ okS last t = true → b' = true) → G_law35_CertcheckTrusts.p3 (kRet h0 Yes) (.p (some ⟨id, 4, 0⟩)) (.p (some ⟨lid, 8, 0⟩)) b' q.tr.length i h3 := by
      intro b' hb'
      refine G_law35_CertcheckTrusts.i3 ?_
      simp only [G_law35_CertcheckTrusts.t3, G_law35_CertcheckTrusts.j2]
      refine inc (by omega) (ih (i + 1) b' h3 hn Ux ?_)
      rw [List.any_cons] at hb
      simp only [Bool.or_eq_true] at hb ⊢
      rcases hb with hb | hb | hb
      · exact .inl (hb' (.inl hb))
      · exact .inl (hb' (.inr hb))
      · exact .inr hb
    refine bif_both (fun e => nxt _ fun _ => rfl) fun e => ?_
    refine st_fld (st_load Rc rfl rfl (st_asS (st_fld (st_load Rl rfl rfl (st_asS ?_)))))
    refine bif_both (fun e1 => ?_) fun e1 => ?_
    · have e1 := of_decide_eq_true e1
      refine st_fld (st_load Rc rfl rfl (st_asS (st_fld (st_load Rl rfl rfl (st_asS ?_)))))
      refine bif_both (fun e2 => nxt _ fun _ => rfl) fun e2 => ?_
      have e2 := of_decide_eq_false e2
      refine st_fld (st_load Rc rfl rfl (st_asB ?_))
      refine bif_both (fun e3 => ?_) fun e3 => ?_
      · refine st_fld (st_load Rc rfl rfl (st_asS (st_fld (st_load Rl rfl rfl (st_asS (nxt _ ?_))))))
        intro h
        rcases h with h | h
        · rw [h] at e; cases e
        · unfold okS at h; rw [decide_eq_false e2, e3] at h; simpa using h
      · refine nxt _ fun h => ?_
        rcases h with h | h
        · rw [h] at e; cases e
        · unfold okS at h; rw [decide_eq_false e2, e3] at h; simp at h
    · have e1 := of_decide_eq_false e1
      refine st_fld (st_load Rc rfl rfl (st_asB ?_))
      refine bif_both (fun e3 => ?_) fun e3 => ?_
      · refine st_fld (st_load Rc rfl rfl (st_asS (st_fld (st_load Rl rfl rfl (st_asS (nxt _ ?_))))))
        intro h
        rcases h with h | h
        · rw [h] at e; cases e
        · unfold okS at h; rw [decide_eq_false e1, e3] at h; simpa using h
      · refine nxt _ fun h => ?_
        rcases h with h | h
        · rw [h] at e; cases e
        · unfold okS at h; rw [decide_eq_false e1, e3] at h; simp at h

theorem trusts_p0 {h1 : AHeap} (L : CL h1 vc q.ch) (LT : CL h1 vt q.tr) (hl : q.ch.length ≤ 30) (ht : q.tr.length ≤ 30) (hne : q.ch ≠ []) (hf : checkS commonS q.tr q.host q.at' q.ch = []) (R : RecAt h1 id [vc, .s q.host, .i .i64 q.at', vt]) : ∀ (r : List Cert) (i : Nat) (hx : AHeap), q.ch.drop i = r → Upd (fun _ => False) h1 hx →
    G_law35_CertcheckTrusts.p0 (kRet h0 Yes) (.p (some ⟨id, 4, 0⟩)) q.ch.length i hx := by
  intro r
  induction r with
  | nil =>
    intro i hx hr U
    have := drop_end hr
    have hpos : 0 < q.ch.length := List.length_pos_iff.2 hne
    have hci : q.ch[q.ch.length - 1]? = some q.ch[q.ch.length - 1] := List.getElem?_eq_getElem (by omega)
    generalize q.ch[q.ch.length - 1] = last at hci
    obtain ⟨p, rw_, A, B, hp⟩ := (L.ext U).at hci
    have hA := A.ok
    obtain ⟨w, rfl, hw⟩ := A
    have Rx := R.upd U fun h => h
    refine G_law35_CertcheckTrusts.i0 ?_
    simp only [G_law35_CertcheckTrusts.t0, G_law35_CertcheckTrusts.j2]
    refine bif_f (by simp; omega) (st_fld (st_load Rx rfl rfl (st_fld (st_load Rx rfl rfl ((L.ext U).len ?_)))))
    refine withI_is (n := ((q.ch.length - 1 : Nat) : Int)) (by rw [wrap_i64 (by omega) (by omega)]; omega) ?_
    refine hp _ hx _ (Upd.refl _ _) (B.loadN (st_alloc fun h2 hl2 U2 Rc => st_storeN Rc rfl rfl hA fun h3 hl3 U3 Rc => ?_))
    have Ux : Upd (fun _ => False) h1 h3 := U.trans (U2.own U3 (Nat.le_refl _)) fun _ _ h => h
    refine st_fld (st_load (R.upd Ux fun h => h) rfl rfl ((LT.ext Ux).len ?_))
    exact trusts_p2 (LT.ext Ux) ht (R.upd Ux fun h => h) Rc q.tr 0 false h3 rfl (Upd.refl _ _) (by rw [Bool.false_or]; exact no_last hne hf hci)
  | cons c r ih =>
    intro i hx hr U
    have hlt := drop_lt hr
    have hn := drop_next hr
    have hci := at_of_drop hr
    obtain ⟨p, rw_, A, B, hp⟩ := (L.ext U).at hci
    have hA := A.ok
    obtain ⟨w, rfl, hw⟩ := A
    have Rx := R.upd U fun h => h
    have f1 := no_at hne hf (f := 1) (by omega) (by omega) hlt
    have f2 := no_at hne hf (f := 2) (by omega) (by omega) hlt
    have f7 := no_at hne hf (f := 7) (by omega) (by omega) hlt
    rw [fAt_1 hci] at f1
    rw [fAt_2 hci] at f2
    rw [fAt_7 hci] at f7
    have f1 := of_decide_eq_false f1
    have f2 := of_decide_eq_false f2
    refine G_law35_CertcheckTrusts.i0 ?_
    simp only [G_law35_CertcheckTrusts.t0, G_law35_CertcheckTrusts.j1]
    refine bif_t (by simp; omega) (st_fld (st_load Rx rfl rfl (hp _ hx _ (Upd.refl _ _) (B.loadN (st_alloc fun h2 hl2 U2 Rc => st_storeN Rc rfl rfl hA fun h3 hl3 U3 Rc => ?_)))))
    have Ux : Upd (fun _ => False) h1 h3 := U.trans (U2.own U3 (Nat.le_refl _)) fun _ _ h => h
    have R3 := R.upd Ux fun h => h
    have nxt : ∀ b', b' = false → G_law35_CertcheckTrusts.p1 (kRet h0 Yes) (.p (some ⟨id, 4, 0⟩)) q.ch.length i b' h3 := by
      intro b' hb'
      subst hb'
      refine G_law35_CertcheckTrusts.i1 ?_
      simp only [G_law35_CertcheckTrusts.t1, G_law35_CertcheckTrusts.j0]
      exact bif_f rfl (inc (by omega) (ih (i + 1) h3 hn Ux))
    refine st_fld (st_load R3 rfl rfl (st_asI (st_fld (st_load Rc rfl rfl (st_asI (bif_f (decide_eq_false f2) ?_))))))
    refine st_fld (st_load R3 rfl rfl (st_asI (st_fld (st_load Rc rfl rfl (st_asI (bif_f (decide_eq_false f1) ?_))))))
    refine bif_both (fun e => ?_) fun e => nxt _ rfl
    have e : 0 < i := by have := of_decide_eq_true e; omega
    rw [decide_eq_true e, Bool.true_and, Bool.not_eq_false'] at f7
    have hpi : q.ch[i - 1]? = some q.ch[i - 1] := List.getElem?_eq_getElem (by omega)
    generalize q.ch[i - 1] = prev at hpi
    have f6 := no_at hne hf (f := 6) (i := i - 1) (by omega) (by omega) (by omega)
    rw [fAt_6 hpi (by rw [show i - 1 + 1 = i by omega]; exact hci), Bool.not_eq_false'] at f6
    obtain ⟨p2, rw2, A2, B2, hp2⟩ := (L.ext Ux).at hpi
    obtain ⟨w2, rfl, hw2⟩ := A2
    refine st_fld (st_load Rc rfl rfl (st_asB (bif_f (by rw [f7]; rfl) ?_)))
    refine st_fld (st_load R3 rfl rfl ?_)
    refine withI_is (n := ((i - 1 : Nat) : Int)) (by rw [wrap_i64 (by omega) (by omega)]; omega) ?_
    refine hp2 _ h3 _ (Upd.refl _ _) (B2.fld (o := 1) rfl (st_asS (st_fld (st_load Rc rfl rfl (st_asS (nxt _ ?_))))))
    rw [f6]; rfl

theorem trusts_c {cs : List AV} {h : AHeap} (G : CG h) (V : QV h q cs) (hw : wfQ q) : C G_law35_CertcheckTrusts.id [.ag cs] h Yes := by
  obtain ⟨vc, vt, rfl, L, LT⟩ := V
  obtain ⟨ac, nc, kc, rfl⟩ : ∃ a n c, vc = .sl a n c := by obtain ⟨_, R, _⟩ := L; exact R.isSl
  obtain ⟨at_, nt, kt, rfl⟩ : ∃ a n c, vt = .sl a n c := by obtain ⟨_, R, _⟩ := LT; exact R.isSl
  refine G_law35_CertcheckTrusts.call ?_
  simp only [G_law35_CertcheckTrusts.t, G_law35_CertcheckTrusts.j0]
  refine st_box rfl fun h1 hl1 U1 R => ?_
  have L := L.ext U1
  have LT := LT.ext U1
  refine st_fld (st_load R rfl rfl (st_fld (st_load R rfl rfl (large_c L LT (st_asB ?_)))))
  refine bif_both (fun e => awake_c fun h' _ => st_asB kRet_yes) fun e => ?_
  simp only [Bool.or_eq_false_iff, decide_eq_false_iff_not] at e
  refine st_fld (st_load R rfl rfl (st_fld (st_load R rfl rfl (st_asS (st_fld (st_load R rfl rfl (st_asI (st_fld (st_load R rfl rfl ?_)))))))))
  refine checkQ_c (G.ext U1) L LT hw (by omega) (by omega) fun w h2 U2 W => ?_
  refine W.len (bif_both (fun e => awake_c fun h' _ => st_asB kRet_yes) fun e2 => ?_)
  have e2 := of_decide_eq_false e2
  have hf : checkS commonS q.tr q.host q.at' q.ch = [] := List.eq_nil_of_length_eq_zero (by omega)
  have hne : q.ch ≠ [] := by
    intro h
    unfold checkS at hf
    rw [if_pos h] at hf
    cases hf
  have hpos : 0 < q.ch.length := List.length_pos_iff.2 hne
  have R := R.upd U2 fun h => h
  refine st_fld (st_load R rfl rfl ((L.ext U2).len (bif_f (by simp; omega) (st_fld (st_load R rfl rfl ((L.ext U2).len ?_))))))
  exact trusts_p0 (L.ext U2) (LT.ext U2) (by omega) (by omega) hne hf R q.ch 0 h2 rfl (Upd.refl _ _)
end

theorem walk_CertcheckTrusts {H : Type} {enc : TypeId × Value → H} {v : Value} {d : DataW H} {p : List MemPlace} (W : World) (hL : laidMet Tryz.prog Rows.certcheckTrustsRow.laid W) (k : DataW.Trod enc Tryz.prog W 0 (fun _ => true) true 26 v d p) :
    Calls Tryz.prog G_law35_CertcheckTrusts.id #[v] W fun e w' => e = .returned (.bool true) ∧ Below W.heap.size W w' := by
  obtain ⟨cs, q, hv, hq, hw⟩ := que_arg k
  exact law_callsAt mixedOK sizeOK (soundX (tab_ok (l := Rows.certcheckTrustsRow.laid) (List.mem_of_getElem? (i := 2) rfl) hL)) (by kernel_rfl) (szOf := fun _ => 1) (.cons _ _ _ _ hv .nil) (trusts_c (cg_of (l := Rows.certcheckTrustsRow.laid) (List.mem_of_getElem? (i := 5) rfl) (List.mem_of_getElem? (i := 4) rfl) (List.mem_of_getElem? (i := 6) rfl) hL) hq hw)

end Go.Proofs.YtomghnmoomodiaaGreatDoor

