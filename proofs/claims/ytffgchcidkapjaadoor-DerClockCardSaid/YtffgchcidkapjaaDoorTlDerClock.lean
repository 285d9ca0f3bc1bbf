/- The law's text in the abstract machine: printed by Gen.lean, checked by Lean's kernel. -/
import Derived.Test.YtffgchcidkapjaaDoorTx1
set_option linter.unusedVariables false
set_option linter.unusedSectionVars false
set_option maxRecDepth 100000
namespace Go.Proofs.YtffgchcidkapjaaDoor
open Go.GAM
variable [XR]
--@@ G_law33_DerClock
/-! ### 8: intrusion/intrusionlaw33.DerClock -/
noncomputable def G_law33_DerClock.body : Code := (Tryd.f8.body).getD .skip
def G_law33_DerClock.ann : Ann := (.seq 0 [0, 1] .leaf (.seq 0 [0, 1] (.seq 0 [0, 1, 8] .leaf (.br (.seq 0 [4] .leaf .leaf) .leaf)) (.seq 0 [0, 1] (.seq 1 [0, 1, 24] .leaf (.br (.seq 0 [4] .leaf .leaf) .leaf)) (.seq 0 [1, 5, 6] .leaf (.seq 0 [1, 5, 6] (.seq 2 [1, 5, 6, 66] .leaf (.br (.seq 0 [4] .leaf .leaf) .leaf)) (.seq 0 [5] (.seq 3 [5, 86] (.ord (.neu 0 (.neu 1 (.neu 2 (.neu 3 (.neu 4 (.neu 5 (.neu 6 (.neu 7 (.neu 8 (.neu 9 (.neu 10 (.neu 11 (.neu 12 (.neu 13 (.neu 14 (.neu 15 (.neu 16 (.neu 17 (.neu 18 (.neu 19 .done))))))))))))))))))))) (.br (.seq 0 [4] .leaf .leaf) .leaf)) (.seq 4 [4] .leaf .leaf)))))))
theorem G_law33_DerClock.body_eq : Tryd.f8.body = some G_law33_DerClock.body := by kernel_rfl
theorem G_law33_DerClock.dist : noTwice (places G_law33_DerClock.ann G_law33_DerClock.body) = true := by kernel_rfl
noncomputable def G_law33_DerClock.J (Q : AV → AHeap → Prop) : JT := funJ prog C Tryd.f8 G_law33_DerClock.ann G_law33_DerClock.body Q
theorem G_law33_DerClock.goR {Q : AV → AHeap → Prop} {k : Nat} {p : List Nat} (hl : lookJ (places G_law33_DerClock.ann G_law33_DerClock.body) k = some (p, false)) {e : Env} {h : AHeap} (hk : atJ prog C 117 (G_law33_DerClock.J Q) false p G_law33_DerClock.ann G_law33_DerClock.body e h (kFun prog Tryd.f8 Q)) : G_law33_DerClock.J Q k e h := goJ_run (P := prog) (fn := Tryd.f8) (ann := G_law33_DerClock.ann) (body := G_law33_DerClock.body) (Q := Q) (k := k) (p := p) (e := e) (h := h) (acall_le X) G_law33_DerClock.dist hl hk
theorem G_law33_DerClock.goH {Q : AV → AHeap → Prop} {k : Nat} {p : List Nat} (hl : lookJ (places G_law33_DerClock.ann G_law33_DerClock.body) k = some (p, true)) {e : Env} {h : AHeap} (hk : atJ prog C 117 (G_law33_DerClock.J Q) true p G_law33_DerClock.ann G_law33_DerClock.body e h (kFun prog Tryd.f8 Q)) : G_law33_DerClock.J Q k e h := goJ_head (P := prog) (fn := Tryd.f8) (ann := G_law33_DerClock.ann) (body := G_law33_DerClock.body) (Q := Q) (k := k) (p := p) (e := e) (h := h) (acall_le X) G_law33_DerClock.dist hl hk
def G_law33_DerClock.p0 (Q : AV → AHeap → Prop) (x0 : Int) (x1 : Int) (x24 : Bool) (h : AHeap) : Prop := G_law33_DerClock.J Q 1 [(0, (AV.i .i64 x0)), (1, (AV.i .i64 x1)), (24, (AV.b x24))] h
theorem G_law33_DerClock.j0 (Q : AV → AHeap → Prop) (x0 : Int) (x1 : Int) (x24 : Bool) (h : AHeap) : G_law33_DerClock.J Q 1 [(0, (AV.i .i64 x0)), (1, (AV.i .i64 x1)), (24, (AV.b x24))] h = G_law33_DerClock.p0 Q x0 x1 x24 h := rfl
def G_law33_DerClock.p1 (Q : AV → AHeap → Prop) (x1 : Int) (x5 : AV) (x6 : AV) (x66 : Bool) (h : AHeap) : Prop := G_law33_DerClock.J Q 2 [(1, (AV.i .i64 x1)), (5, x5), (6, x6), (66, (AV.b x66))] h
theorem G_law33_DerClock.j1 (Q : AV → AHeap → Prop) (x1 : Int) (x5 : AV) (x6 : AV) (x66 : Bool) (h : AHeap) : G_law33_DerClock.J Q 2 [(1, (AV.i .i64 x1)), (5, x5), (6, x6), (66, (AV.b x66))] h = G_law33_DerClock.p1 Q x1 x5 x6 x66 h := rfl
def G_law33_DerClock.p2 (Q : AV → AHeap → Prop) (x5 : AV) (x86 : Bool) (h : AHeap) : Prop := G_law33_DerClock.J Q 3 [(5, x5), (86, (AV.b x86))] h
theorem G_law33_DerClock.j2 (Q : AV → AHeap → Prop) (x5 : AV) (x86 : Bool) (h : AHeap) : G_law33_DerClock.J Q 3 [(5, x5), (86, (AV.b x86))] h = G_law33_DerClock.p2 Q x5 x86 h := rfl
def G_law33_DerClock.p3 (Q : AV → AHeap → Prop) (x4 : Bool) (h : AHeap) : Prop := G_law33_DerClock.J Q 4 [(4, (AV.b x4))] h
theorem G_law33_DerClock.j3 (Q : AV → AHeap → Prop) (x4 : Bool) (h : AHeap) : G_law33_DerClock.J Q 4 [(4, (AV.b x4))] h = G_law33_DerClock.p3 Q x4 h := rfl
def G_law33_DerClock.t0 (J : JT) (Q : AV → AHeap → Prop) (x0 : Int) (x1 : Int) (x24 : Bool) (h : AHeap) : Prop :=
(bif x24 then
(Q (AV.b true) h)
else
(C G_der_TimeOf.id [(AV.i .i64 x0)] h fun v14 h15 =>
withI (IntKind.wrap .i64 (x0 + x1)) fun n16 =>
C G_der_TimeOf.id [(AV.i .i64 n16)] h15 fun v17 h18 =>
pAlloc [(AV.i .i64 0), (AV.i .i64 0), (AV.b false), (AV.s []), (AV.sl none 0 none)] h18 fun v19 h20 =>
pAlloc [(AV.i .i64 0), (AV.i .i64 0), (AV.b false), (AV.s []), (AV.sl none 0 none)] h20 fun v21 h22 =>
pStore 5 v19 v14 h22 fun h23 =>
pStore 5 v21 v17 h23 fun h24 =>
pFieldAddr 1 v19 fun v26 =>
pLoad1 v26 h24 fun v27 =>
asI .i64 v27 fun n28 =>
pFieldAddr 1 v21 fun v29 =>
pLoad1 v29 h24 fun v30 =>
asI .i64 v30 fun n31 =>
(bif (decide ((n31 : Int) < n28)) then
(J 2 [(1, (AV.i .i64 x1)), (5, v19), (6, v21), (66, (AV.b true))] h24)
else
(pFieldAddr 1 v19 fun v33 =>
pLoad1 v33 h24 fun v34 =>
asI .i64 v34 fun n35 =>
pFieldAddr 1 v21 fun v36 =>
pLoad1 v36 h24 fun v37 =>
asI .i64 v37 fun n38 =>
(bif (decide ((n35 : Int) = n38)) then
(pFieldAddr 1 v19 fun v39 =>
pLoad1 v39 h24 fun v40 =>
asI .i64 v40 fun n41 =>
(bif (decide ((n41 : Int) = 24)) then
(pFieldAddr 3 v19 fun v42 =>
pLoad1 v42 h24 fun v43 =>
asS v43 fun l44 =>
pFieldAddr 3 v21 fun v45 =>
pLoad1 v45 h24 fun v46 =>
asS v46 fun l47 =>
(bif (!(Op.bytesLess l44 l47)) then
(J 2 [(1, (AV.i .i64 x1)), (5, v19), (6, v21), (66, (AV.b true))] h24)
else
(pFieldAddr 3 v19 fun v49 =>
pLoad1 v49 h24 fun v50 =>
asS v50 fun l51 =>
(bif (decide (((l51.length : Int) : Int) < 13)) then
(J 2 [(1, (AV.i .i64 x1)), (5, v19), (6, v21), (66, (AV.b true))] h24)
else
(pFieldAddr 3 v21 fun v53 =>
pLoad1 v53 h24 fun v54 =>
asS v54 fun l55 =>
J 2 [(1, (AV.i .i64 x1)), (5, v19), (6, v21), (66, (AV.b (decide (((l55.length : Int) : Int) < 13))))] h24)))))
else
(pFieldAddr 3 v19 fun v57 =>
pLoad1 v57 h24 fun v58 =>
asS v58 fun l59 =>
(bif (decide (((l59.length : Int) : Int) < 13)) then
(J 2 [(1, (AV.i .i64 x1)), (5, v19), (6, v21), (66, (AV.b true))] h24)
else
(pFieldAddr 3 v21 fun v61 =>
pLoad1 v61 h24 fun v62 =>
asS v62 fun l63 =>
J 2 [(1, (AV.i .i64 x1)), (5, v19), (6, v21), (66, (AV.b (decide (((l63.length : Int) : Int) < 13))))] h24)))))
else
(pFieldAddr 3 v19 fun v65 =>
pLoad1 v65 h24 fun v66 =>
asS v66 fun l67 =>
(bif (decide (((l67.length : Int) : Int) < 13)) then
(J 2 [(1, (AV.i .i64 x1)), (5, v19), (6, v21), (66, (AV.b true))] h24)
else
(pFieldAddr 3 v21 fun v69 =>
pLoad1 v69 h24 fun v70 =>
asS v70 fun l71 =>
J 2 [(1, (AV.i .i64 x1)), (5, v19), (6, v21), (66, (AV.b (decide (((l71.length : Int) : Int) < 13))))] h24))))))))
theorem G_law33_DerClock.t0_eq (J : JT) (Q : AV → AHeap → Prop) (x0 : Int) (x1 : Int) (x24 : Bool) (h : AHeap) : G_law33_DerClock.t0 J Q x0 x1 x24 h = atJ prog C 117 J false [1, 1, 0, 1] G_law33_DerClock.ann G_law33_DerClock.body [(0, (AV.i .i64 x0)), (1, (AV.i .i64 x1)), (24, (AV.b x24))] h (kFun prog Tryd.f8 Q) := by kernel_rfl
theorem G_law33_DerClock.i0 {Q : AV → AHeap → Prop} {x0 : Int} {x1 : Int} {x24 : Bool} {h : AHeap} (H : G_law33_DerClock.t0 (G_law33_DerClock.J Q) Q x0 x1 x24 h) : G_law33_DerClock.p0 Q x0 x1 x24 h := G_law33_DerClock.goR (k := 1) (p := [1, 1, 0, 1]) (by kernel_rfl) ((G_law33_DerClock.t0_eq (G_law33_DerClock.J Q) Q x0 x1 x24 h).mp H)
def G_law33_DerClock.t1 (J : JT) (Q : AV → AHeap → Prop) (x1 : Int) (x5 : AV) (x6 : AV) (x66 : Bool) (h : AHeap) : Prop :=
(bif x66 then
(Q (AV.b false) h)
else
(pRem x1 86400 fun n75 =>
(bif (decide ((n75 : Int) = 0)) then
(pFieldAddr 3 x5 fun v76 =>
pLoad1 v76 h fun v77 =>
asS v77 fun l78 =>
pFieldAddr 3 x5 fun v79 =>
pLoad1 v79 h fun v80 =>
asS v80 fun l81 =>
withI (IntKind.wrap .i64 ((l81.length : Int) - 7)) fun n82 =>
pSliceStr (AV.s l78) (some (AV.i .i64 n82)) none fun l83 =>
pFieldAddr 3 x6 fun v84 =>
pLoad1 v84 h fun v85 =>
asS v85 fun l86 =>
pFieldAddr 3 x6 fun v87 =>
pLoad1 v87 h fun v88 =>
asS v88 fun l89 =>
withI (IntKind.wrap .i64 ((l89.length : Int) - 7)) fun n90 =>
pSliceStr (AV.s l86) (some (AV.i .i64 n90)) none fun l91 =>
J 3 [(5, x5), (86, (AV.b (!(decide ((l83 : List UInt8) = l91)))))] h)
else
(J 3 [(5, x5), (86, (AV.b false))] h))))
theorem G_law33_DerClock.t1_eq (J : JT) (Q : AV → AHeap → Prop) (x1 : Int) (x5 : AV) (x6 : AV) (x66 : Bool) (h : AHeap) : G_law33_DerClock.t1 J Q x1 x5 x6 x66 h = atJ prog C 117 J false [1, 1, 1, 1, 0, 1] G_law33_DerClock.ann G_law33_DerClock.body [(1, (AV.i .i64 x1)), (5, x5), (6, x6), (66, (AV.b x66))] h (kFun prog Tryd.f8 Q) := by kernel_rfl
theorem G_law33_DerClock.i1 {Q : AV → AHeap → Prop} {x1 : Int} {x5 : AV} {x6 : AV} {x66 : Bool} {h : AHeap} (H : G_law33_DerClock.t1 (G_law33_DerClock.J Q) Q x1 x5 x6 x66 h) : G_law33_DerClock.p1 Q x1 x5 x6 x66 h := G_law33_DerClock.goR (k := 2) (p := [1, 1, 1, 1, 0, 1]) (by kernel_rfl) ((G_law33_DerClock.t1_eq (G_law33_DerClock.J Q) Q x1 x5 x6 x66 h).mp H)
def G_law33_DerClock.t2 (J : JT) (Q : AV → AHeap → Prop) (x5 : AV) (x86 : Bool) (h : AHeap) : Prop :=
(bif x86 then
(Q (AV.b false) h)
else
(pFieldAddr 3 x5 fun v96 =>
pLoad1 v96 h fun v97 =>
asS v97 fun l98 =>
pFieldAddr 3 x5 fun v99 =>
pLoad1 v99 h fun v100 =>
asS v100 fun l101 =>
withI (IntKind.wrap .i64 ((l101.length : Int) - 1)) fun n102 =>
pIdxStr (AV.s l98) (AV.i .i64 n102) fun n103 =>
(bif (decide ((n103 : Int) = 90)) then
(pFieldAddr 1 x5 fun v104 =>
pLoad1 v104 h fun v105 =>
asI .i64 v105 fun n106 =>
(bif (decide ((n106 : Int) = 23)) then
(pFieldAddr 3 x5 fun v107 =>
pLoad1 v107 h fun v108 =>
asS v108 fun l109 =>
(bif (decide (((l109.length : Int) : Int) = 13)) then
(J 4 [(4, (AV.b true))] h)
else
(pFieldAddr 1 x5 fun v111 =>
pLoad1 v111 h fun v112 =>
asI .i64 v112 fun n113 =>
(bif (decide ((n113 : Int) = 24)) then
(pFieldAddr 3 x5 fun v114 =>
pLoad1 v114 h fun v115 =>
asS v115 fun l116 =>
J 4 [(4, (AV.b (decide (((l116.length : Int) : Int) = 15))))] h)
else
(J 4 [(4, (AV.b false))] h)))))
else
(pFieldAddr 1 x5 fun v119 =>
pLoad1 v119 h fun v120 =>
asI .i64 v120 fun n121 =>
(bif (decide ((n121 : Int) = 24)) then
(pFieldAddr 3 x5 fun v122 =>
pLoad1 v122 h fun v123 =>
asS v123 fun l124 =>
J 4 [(4, (AV.b (decide (((l124.length : Int) : Int) = 15))))] h)
else
(J 4 [(4, (AV.b false))] h)))))
else
(J 4 [(4, (AV.b false))] h))))
theorem G_law33_DerClock.t2_eq (J : JT) (Q : AV → AHeap → Prop) (x5 : AV) (x86 : Bool) (h : AHeap) : G_law33_DerClock.t2 J Q x5 x86 h = atJ prog C 117 J false [1, 1, 1, 1, 1, 0, 1] G_law33_DerClock.ann G_law33_DerClock.body [(5, x5), (86, (AV.b x86))] h (kFun prog Tryd.f8 Q) := by kernel_rfl
theorem G_law33_DerClock.i2 {Q : AV → AHeap → Prop} {x5 : AV} {x86 : Bool} {h : AHeap} (H : G_law33_DerClock.t2 (G_law33_DerClock.J Q) Q x5 x86 h) : G_law33_DerClock.p2 Q x5 x86 h := G_law33_DerClock.goR (k := 3) (p := [1, 1, 1, 1, 1, 0, 1]) (by kernel_rfl) ((G_law33_DerClock.t2_eq (G_law33_DerClock.J Q) Q x5 x86 h).mp H)
def G_law33_DerClock.t3 (J : JT) (Q : AV → AHeap → Prop) (x4 : Bool) (h : AHeap) : Prop :=
Q (AV.b x4) h
theorem G_law33_DerClock.t3_eq (J : JT) (Q : AV → AHeap → Prop) (x4 : Bool) (h : AHeap) : G_law33_DerClock.t3 J Q x4 h = atJ prog C 117 J false [1, 1, 1, 1, 1, 1, 1] G_law33_DerClock.ann G_law33_DerClock.body [(4, (AV.b x4))] h (kFun prog Tryd.f8 Q) := by kernel_rfl
theorem G_law33_DerClock.i3 {Q : AV → AHeap → Prop} {x4 : Bool} {h : AHeap} (H : G_law33_DerClock.t3 (G_law33_DerClock.J Q) Q x4 h) : G_law33_DerClock.p3 Q x4 h := G_law33_DerClock.goR (k := 4) (p := [1, 1, 1, 1, 1, 1, 1]) (by kernel_rfl) ((G_law33_DerClock.t3_eq (G_law33_DerClock.J Q) Q x4 h).mp H)
def G_law33_DerClock.t (J : JT) (Q : AV → AHeap → Prop) (x0 : Int) (x1 : Int) (h : AHeap) : Prop :=
C G_law33_lives.id [] h fun v1 h2 =>
asB v1 fun c3 =>
(bif (!c3) then
(Q (AV.b false) h2)
else
((bif (decide ((x0 : Int) < 0)) then
(J 1 [(0, (AV.i .i64 x0)), (1, (AV.i .i64 x1)), (24, (AV.b true))] h2)
else
((bif (decide ((253402300799 : Int) < x0)) then
(J 1 [(0, (AV.i .i64 x0)), (1, (AV.i .i64 x1)), (24, (AV.b true))] h2)
else
((bif (decide ((x1 : Int) < 1)) then
(J 1 [(0, (AV.i .i64 x0)), (1, (AV.i .i64 x1)), (24, (AV.b true))] h2)
else
(withI (IntKind.wrap .i64 (253402300799 - x0)) fun n10 =>
J 1 [(0, (AV.i .i64 x0)), (1, (AV.i .i64 x1)), (24, (AV.b (decide ((n10 : Int) < x1))))] h2))))))))
theorem G_law33_DerClock.t_eq (J : JT) (Q : AV → AHeap → Prop) (x0 : Int) (x1 : Int) (h : AHeap) : G_law33_DerClock.t J Q x0 x1 h = exJ prog C 117 J G_law33_DerClock.ann G_law33_DerClock.body (initEnv 0 [(AV.i .i64 x0), (AV.i .i64 x1)]) h (kFun prog Tryd.f8 Q) := by kernel_rfl
theorem G_law33_DerClock.call {K : AV → AHeap → Prop} {x0 : Int} {x1 : Int} {h : AHeap} (H : G_law33_DerClock.t (G_law33_DerClock.J (kRet h K)) (kRet h K) x0 x1 h) : C G_law33_DerClock.id [(AV.i .i64 x0), (AV.i .i64 x1)] h K :=
  callJ (P := prog) (fn := Tryd.f8) (ann := G_law33_DerClock.ann) (body := G_law33_DerClock.body) Tryd.func8 G_law33_DerClock.body_eq (by kernel_rfl) G_law33_DerClock.dist (by kernel_rfl) ((G_law33_DerClock.t_eq (G_law33_DerClock.J (kRet h K)) (kRet h K) x0 x1 h).mp H)


end Go.Proofs.YtffgchcidkapjaaDoor
