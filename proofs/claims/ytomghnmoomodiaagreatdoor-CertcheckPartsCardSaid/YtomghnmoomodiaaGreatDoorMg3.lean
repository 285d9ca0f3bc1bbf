/- Lemmas (several texts in one). -/
import Derived.Test.YtomghnmoomodiaaGreatDoorMg2
/- Bodies' texts in the abstract machine: printed by Gen.lean, checked by Lean's kernel. -/
set_option linter.unusedVariables false
set_option linter.unusedSectionVars false
set_option maxRecDepth 100000
namespace Go.Proofs.YtomghnmoomodiaaGreatDoor
open Go.GAM
variable [XR]
--@@ G_ref34_Attributes
/-! ### 50: intrusion/intrusionref34.Attributes -/
noncomputable def G_ref34_Attributes.body : Code := (Tryz.f50.body).getD .skip
def G_ref34_Attributes.ann : Ann := (.seq 0 [0] .leaf (.seq 0 [0, 4] .leaf (.seq 0 [0, 4] (.seq 0 [0, 4, 13] .leaf (.br (.seq 0 [2, 3] .leaf .leaf) .leaf)) (.seq 0 [0, 4, 5] .leaf (.one (.loop 1 [0, 4, 5] (.one (.seq 0 [0, 4, 5, 6] .leaf (.seq 0 [0, 4, 5, 6] (.one (.loop 2 [0, 4, 5, 6] (.seq 0 [0, 4, 5, 6] (.seq 3 [0, 4, 5, 6, 25] .leaf (.br .leaf .leaf)) (.one .leaf)))) (.seq 0 [0, 4, 6, 7] .leaf (.seq 0 [0, 4, 6, 7] (.seq 0 [0, 4, 6, 7, 9] .leaf (.seq 4 [0, 4, 6, 7, 44] .leaf (.br (.seq 0 [2, 3] .leaf .leaf) .leaf))) (.seq 0 [0, 4, 5, 7] .leaf (.seq 0 [0, 4, 5, 7, 10] .leaf (.seq 0 [0, 4, 5, 7, 10] (.one (.loop 5 [0, 4, 5, 7, 10] (.seq 0 [0, 4, 5, 7, 10] (.seq 6 [0, 4, 5, 7, 10, 56] .leaf (.br .leaf .leaf)) (.one (.seq 0 [0, 4, 5, 7, 10, 11] .leaf (.seq 0 [0, 4, 5, 7, 10, 11] (.seq 7 [0, 4, 5, 7, 10, 11, 69] .leaf (.br (.seq 0 [2, 3] .leaf .leaf) .leaf)) (.seq 9 [0, 4, 5, 7, 10] (.seq 0 [0, 4, 5, 7, 10, 71] .leaf (.br (.seq 0 [0, 4, 5, 7, 10] .leaf (.seq 8 [0, 4, 5, 7, 10, 95] .leaf (.br (.seq 0 [2, 3] .leaf .leaf) .leaf))) .leaf)) (.seq 0 [0, 4, 5, 7, 10] .leaf .leaf)))))))) (.seq 0 [0, 4, 5] .leaf (.seq 0 [0, 4, 5] (.seq 0 [0, 4, 5, 114] .leaf (.br (.seq 0 [2, 3] .leaf .leaf) .leaf)) .leaf))))))))))))))))
theorem G_ref34_Attributes.body_eq : Tryz.f50.body = some G_ref34_Attributes.body := by kernel_rfl
theorem G_ref34_Attributes.dist : noTwice (places G_ref34_Attributes.ann G_ref34_Attributes.body) = true := by kernel_rfl
noncomputable def G_ref34_Attributes.J (Q : AV → AHeap → Prop) : JT := funJ prog C Tryz.f50 G_ref34_Attributes.ann G_ref34_Attributes.body Q
theorem G_ref34_Attributes.goR {Q : AV → AHeap → Prop} {k : Nat} {p : List Nat} (hl : lookJ (places G_ref34_Attributes.ann G_ref34_Attributes.body) k = some (p, false)) {e : Env} {h : AHeap} (hk : atJ prog C 118 (G_ref34_Attributes.J Q) false p G_ref34_Attributes.ann G_ref34_Attributes.body e h (kFun prog Tryz.f50 Q)) : G_ref34_Attributes.J Q k e h := goJ_run (P := prog) (fn := Tryz.f50) (ann := G_ref34_Attributes.ann) (body := G_ref34_Attributes.body) (Q := Q) (k := k) (p := p) (e := e) (h := h) (acall_le X) G_ref34_Attributes.dist hl hk
theorem G_ref34_Attributes.goH {Q : AV → AHeap → Prop} {k : Nat} {p : List Nat} (hl : lookJ (places G_ref34_Attributes.ann G_ref34_Attributes.body) k = some (p, true)) {e : Env} {h : AHeap} (hk : atJ prog C 118 (G_ref34_Attributes.J Q) true p G_ref34_Attributes.ann G_ref34_Attributes.body e h (kFun prog Tryz.f50 Q)) : G_ref34_Attributes.J Q k e h := goJ_head (P := prog) (fn := Tryz.f50) (ann := G_ref34_Attributes.ann) (body := G_ref34_Attributes.body) (Q := Q) (k := k) (p := p) (e := e) (h := h) (acall_le X) G_ref34_Attributes.dist hl hk
def G_ref34_Attributes.p2 (Q : AV → AHeap → Prop) (x0 : List UInt8) (x4 : AV) (x5 : Int) (x6 : Int) (x25 : Bool) (h : AHeap) : Prop := G_ref34_Attributes.J Q 3 [(0, (AV.s x0)), (4, x4), (5, (AV.i .i64 x5)), (6, (AV.i .i64 x6)), (25, (AV.b x25))] h
theorem G_ref34_Attributes.j2 (Q : AV → AHeap → Prop) (x0 : List UInt8) (x4 : AV) (x5 : Int) (x6 : Int) (x25 : Bool) (h : AHeap) : G_ref34_Attributes.J Q 3 [(0, (AV.s x0)), (4, x4), (5, (AV.i .i64 x5)), (6, (AV.i .i64 x6)), (25, (AV.b x25))] h = G_ref34_Attributes.p2 Q x0 x4 x5 x6 x25 h := rfl
def G_ref34_Attributes.p1 (Q : AV → AHeap → Prop) (x0 : List UInt8) (x4 : AV) (x5 : Int) (x6 : Int) (h : AHeap) : Prop := G_ref34_Attributes.J Q 2 [(0, (AV.s x0)), (4, x4), (5, (AV.i .i64 x5)), (6, (AV.i .i64 x6))] h
theorem G_ref34_Attributes.j1 (Q : AV → AHeap → Prop) (x0 : List UInt8) (x4 : AV) (x5 : Int) (x6 : Int) (h : AHeap) : G_ref34_Attributes.J Q 2 [(0, (AV.s x0)), (4, x4), (5, (AV.i .i64 x5)), (6, (AV.i .i64 x6))] h = G_ref34_Attributes.p1 Q x0 x4 x5 x6 h := rfl
def G_ref34_Attributes.p3 (Q : AV → AHeap → Prop) (x0 : List UInt8) (x4 : AV) (x6 : Int) (x7 : List UInt8) (x44 : Bool) (h : AHeap) : Prop := G_ref34_Attributes.J Q 4 [(0, (AV.s x0)), (4, x4), (6, (AV.i .i64 x6)), (7, (AV.s x7)), (44, (AV.b x44))] h
theorem G_ref34_Attributes.j3 (Q : AV → AHeap → Prop) (x0 : List UInt8) (x4 : AV) (x6 : Int) (x7 : List UInt8) (x44 : Bool) (h : AHeap) : G_ref34_Attributes.J Q 4 [(0, (AV.s x0)), (4, x4), (6, (AV.i .i64 x6)), (7, (AV.s x7)), (44, (AV.b x44))] h = G_ref34_Attributes.p3 Q x0 x4 x6 x7 x44 h := rfl
def G_ref34_Attributes.p5 (Q : AV → AHeap → Prop) (x0 : List UInt8) (x4 : AV) (x5 : Int) (x7 : List UInt8) (x10 : List UInt8) (x56 : Bool) (h : AHeap) : Prop := G_ref34_Attributes.J Q 6 [(0, (AV.s x0)), (4, x4), (5, (AV.i .i64 x5)), (7, (AV.s x7)), (10, (AV.s x10)), (56, (AV.b x56))] h
theorem G_ref34_Attributes.j5 (Q : AV → AHeap → Prop) (x0 : List UInt8) (x4 : AV) (x5 : Int) (x7 : List UInt8) (x10 : List UInt8) (x56 : Bool) (h : AHeap) : G_ref34_Attributes.J Q 6 [(0, (AV.s x0)), (4, x4), (5, (AV.i .i64 x5)), (7, (AV.s x7)), (10, (AV.s x10)), (56, (AV.b x56))] h = G_ref34_Attributes.p5 Q x0 x4 x5 x7 x10 x56 h := rfl
def G_ref34_Attributes.p6 (Q : AV → AHeap → Prop) (x0 : List UInt8) (x4 : AV) (x5 : Int) (x7 : List UInt8) (x10 : List UInt8) (x11 : Int) (x69 : Bool) (h : AHeap) : Prop := G_ref34_Attributes.J Q 7 [(0, (AV.s x0)), (4, x4), (5, (AV.i .i64 x5)), (7, (AV.s x7)), (10, (AV.s x10)), (11, (AV.i .u8 x11)), (69, (AV.b x69))] h
theorem G_ref34_Attributes.j6 (Q : AV → AHeap → Prop) (x0 : List UInt8) (x4 : AV) (x5 : Int) (x7 : List UInt8) (x10 : List UInt8) (x11 : Int) (x69 : Bool) (h : AHeap) : G_ref34_Attributes.J Q 7 [(0, (AV.s x0)), (4, x4), (5, (AV.i .i64 x5)), (7, (AV.s x7)), (10, (AV.s x10)), (11, (AV.i .u8 x11)), (69, (AV.b x69))] h = G_ref34_Attributes.p6 Q x0 x4 x5 x7 x10 x11 x69 h := rfl
def G_ref34_Attributes.p7 (Q : AV → AHeap → Prop) (x0 : List UInt8) (x4 : AV) (x5 : Int) (x7 : List UInt8) (x10 : List UInt8) (x95 : Bool) (h : AHeap) : Prop := G_ref34_Attributes.J Q 8 [(0, (AV.s x0)), (4, x4), (5, (AV.i .i64 x5)), (7, (AV.s x7)), (10, (AV.s x10)), (95, (AV.b x95))] h
theorem G_ref34_Attributes.j7 (Q : AV → AHeap → Prop) (x0 : List UInt8) (x4 : AV) (x5 : Int) (x7 : List UInt8) (x10 : List UInt8) (x95 : Bool) (h : AHeap) : G_ref34_Attributes.J Q 8 [(0, (AV.s x0)), (4, x4), (5, (AV.i .i64 x5)), (7, (AV.s x7)), (10, (AV.s x10)), (95, (AV.b x95))] h = G_ref34_Attributes.p7 Q x0 x4 x5 x7 x10 x95 h := rfl
def G_ref34_Attributes.p8 (Q : AV → AHeap → Prop) (x0 : List UInt8) (x4 : AV) (x5 : Int) (x7 : List UInt8) (x10 : List UInt8) (h : AHeap) : Prop := G_ref34_Attributes.J Q 9 [(0, (AV.s x0)), (4, x4), (5, (AV.i .i64 x5)), (7, (AV.s x7)), (10, (AV.s x10))] h
theorem G_ref34_Attributes.j8 (Q : AV → AHeap → Prop) (x0 : List UInt8) (x4 : AV) (x5 : Int) (x7 : List UInt8) (x10 : List UInt8) (h : AHeap) : G_ref34_Attributes.J Q 9 [(0, (AV.s x0)), (4, x4), (5, (AV.i .i64 x5)), (7, (AV.s x7)), (10, (AV.s x10))] h = G_ref34_Attributes.p8 Q x0 x4 x5 x7 x10 h := rfl
def G_ref34_Attributes.p4 (Q : AV → AHeap → Prop) (x0 : List UInt8) (x4 : AV) (x5 : Int) (x7 : List UInt8) (x10 : List UInt8) (h : AHeap) : Prop := G_ref34_Attributes.J Q 5 [(0, (AV.s x0)), (4, x4), (5, (AV.i .i64 x5)), (7, (AV.s x7)), (10, (AV.s x10))] h
theorem G_ref34_Attributes.j4 (Q : AV → AHeap → Prop) (x0 : List UInt8) (x4 : AV) (x5 : Int) (x7 : List UInt8) (x10 : List UInt8) (h : AHeap) : G_ref34_Attributes.J Q 5 [(0, (AV.s x0)), (4, x4), (5, (AV.i .i64 x5)), (7, (AV.s x7)), (10, (AV.s x10))] h = G_ref34_Attributes.p4 Q x0 x4 x5 x7 x10 h := rfl
def G_ref34_Attributes.p0 (Q : AV → AHeap → Prop) (x0 : List UInt8) (x4 : AV) (x5 : Int) (h : AHeap) : Prop := G_ref34_Attributes.J Q 1 [(0, (AV.s x0)), (4, x4), (5, (AV.i .i64 x5))] h
theorem G_ref34_Attributes.j0 (Q : AV → AHeap → Prop) (x0 : List UInt8) (x4 : AV) (x5 : Int) (h : AHeap) : G_ref34_Attributes.J Q 1 [(0, (AV.s x0)), (4, x4), (5, (AV.i .i64 x5))] h = G_ref34_Attributes.p0 Q x0 x4 x5 h := rfl
def G_ref34_Attributes.t2 (J : JT) (Q : AV → AHeap → Prop) (x0 : List UInt8) (x4 : AV) (x5 : Int) (x6 : Int) (x25 : Bool) (h : AHeap) : Prop :=
(bif x25 then
(withI (IntKind.wrap .i64 (x6 + 1)) fun n12 =>
J 2 [(0, (AV.s x0)), (4, x4), (5, (AV.i .i64 x5)), (6, (AV.i .i64 n12))] h)
else
(pSliceStr (AV.s x0) (some (AV.i .i64 x5)) (some (AV.i .i64 x6)) fun l14 =>
C G_ref34_identifier.id [(AV.s l14)] h fun v16 h17 =>
pExtract 0 v16 fun v18 =>
asS v18 fun l19 =>
pExtract 1 v16 fun v20 =>
asB v20 fun c21 =>
(bif (!c21) then
(J 4 [(0, (AV.s x0)), (4, x4), (6, (AV.i .i64 x6)), (7, (AV.s l14)), (44, (AV.b true))] h17)
else
(J 4 [(0, (AV.s x0)), (4, x4), (6, (AV.i .i64 x6)), (7, (AV.s l14)), (44, (AV.b (decide (((x0.length : Int) : Int) ≤ x6))))] h17))))
theorem G_ref34_Attributes.t2_eq (J : JT) (Q : AV → AHeap → Prop) (x0 : List UInt8) (x4 : AV) (x5 : Int) (x6 : Int) (x25 : Bool) (h : AHeap) : G_ref34_Attributes.t2 J Q x0 x4 x5 x6 x25 h = atJ prog C 118 J false [1, 1, 1, 1, 0, 0, 0, 1, 0, 0, 0, 0, 1] G_ref34_Attributes.ann G_ref34_Attributes.body [(0, (AV.s x0)), (4, x4), (5, (AV.i .i64 x5)), (6, (AV.i .i64 x6)), (25, (AV.b x25))] h (kFun prog Tryz.f50 Q) := by kernel_rfl
theorem G_ref34_Attributes.i2 {Q : AV → AHeap → Prop} {x0 : List UInt8} {x4 : AV} {x5 : Int} {x6 : Int} {x25 : Bool} {h : AHeap} (H : G_ref34_Attributes.t2 (G_ref34_Attributes.J Q) Q x0 x4 x5 x6 x25 h) : G_ref34_Attributes.p2 Q x0 x4 x5 x6 x25 h := G_ref34_Attributes.goR (k := 3) (p := [1, 1, 1, 1, 0, 0, 0, 1, 0, 0, 0, 0, 1]) (by kernel_rfl) ((G_ref34_Attributes.t2_eq (G_ref34_Attributes.J Q) Q x0 x4 x5 x6 x25 h).mp H)
def G_ref34_Attributes.t1 (J : JT) (Q : AV → AHeap → Prop) (x0 : List UInt8) (x4 : AV) (x5 : Int) (x6 : Int) (h : AHeap) : Prop :=
(bif (decide ((x6 : Int) < (x0.length : Int))) then
(pIdxStr (AV.s x0) (AV.i .i64 x6) fun n7 =>
J 3 [(0, (AV.s x0)), (4, x4), (5, (AV.i .i64 x5)), (6, (AV.i .i64 x6)), (25, (AV.b (!decide ((n7 : Int) = 61))))] h)
else
(J 3 [(0, (AV.s x0)), (4, x4), (5, (AV.i .i64 x5)), (6, (AV.i .i64 x6)), (25, (AV.b false))] h))
theorem G_ref34_Attributes.t1_eq (J : JT) (Q : AV → AHeap → Prop) (x0 : List UInt8) (x4 : AV) (x5 : Int) (x6 : Int) (h : AHeap) : G_ref34_Attributes.t1 J Q x0 x4 x5 x6 h = atJ prog C 118 J true [1, 1, 1, 1, 0, 0, 0, 1, 0, 0] G_ref34_Attributes.ann G_ref34_Attributes.body [(0, (AV.s x0)), (4, x4), (5, (AV.i .i64 x5)), (6, (AV.i .i64 x6))] h (kFun prog Tryz.f50 Q) := by kernel_rfl
theorem G_ref34_Attributes.i1 {Q : AV → AHeap → Prop} {x0 : List UInt8} {x4 : AV} {x5 : Int} {x6 : Int} {h : AHeap} (H : G_ref34_Attributes.t1 (G_ref34_Attributes.J Q) Q x0 x4 x5 x6 h) : G_ref34_Attributes.p1 Q x0 x4 x5 x6 h := G_ref34_Attributes.goH (k := 2) (p := [1, 1, 1, 1, 0, 0, 0, 1, 0, 0]) (by kernel_rfl) ((G_ref34_Attributes.t1_eq (G_ref34_Attributes.J Q) Q x0 x4 x5 x6 h).mp H)
def G_ref34_Attributes.t3 (J : JT) (Q : AV → AHeap → Prop) (x0 : List UInt8) (x4 : AV) (x6 : Int) (x7 : List UInt8) (x44 : Bool) (h : AHeap) : Prop :=
(bif x44 then
(Q (AV.tu [(AV.sl none 0 none), (AV.b false)]) h)
else
(withI (IntKind.wrap .i64 (x6 + 1)) fun n27 =>
J 5 [(0, (AV.s x0)), (4, x4), (5, (AV.i .i64 n27)), (7, (AV.s x7)), (10, (AV.s []))] h))
theorem G_ref34_Attributes.t3_eq (J : JT) (Q : AV → AHeap → Prop) (x0 : List UInt8) (x4 : AV) (x6 : Int) (x7 : List UInt8) (x44 : Bool) (h : AHeap) : G_ref34_Attributes.t3 J Q x0 x4 x6 x7 x44 h = atJ prog C 118 J false [1, 1, 1, 1, 0, 0, 0, 1, 1, 1, 0, 1, 1] G_ref34_Attributes.ann G_ref34_Attributes.body [(0, (AV.s x0)), (4, x4), (6, (AV.i .i64 x6)), (7, (AV.s x7)), (44, (AV.b x44))] h (kFun prog Tryz.f50 Q) := by kernel_rfl
theorem G_ref34_Attributes.i3 {Q : AV → AHeap → Prop} {x0 : List UInt8} {x4 : AV} {x6 : Int} {x7 : List UInt8} {x44 : Bool} {h : AHeap} (H : G_ref34_Attributes.t3 (G_ref34_Attributes.J Q) Q x0 x4 x6 x7 x44 h) : G_ref34_Attributes.p3 Q x0 x4 x6 x7 x44 h := G_ref34_Attributes.goR (k := 4) (p := [1, 1, 1, 1, 0, 0, 0, 1, 1, 1, 0, 1, 1]) (by kernel_rfl) ((G_ref34_Attributes.t3_eq (G_ref34_Attributes.J Q) Q x0 x4 x6 x7 x44 h).mp H)
def G_ref34_Attributes.t5 (J : JT) (Q : AV → AHeap → Prop) (x0 : List UInt8) (x4 : AV) (x5 : Int) (x7 : List UInt8) (x10 : List UInt8) (x56 : Bool) (h : AHeap) : Prop :=
(bif x56 then
(pIdxStr (AV.s x0) (AV.i .i64 x5) fun n35 =>
(bif (decide ((n35 : Int) = 61)) then
(J 7 [(0, (AV.s x0)), (4, x4), (5, (AV.i .i64 x5)), (7, (AV.s x7)), (10, (AV.s x10)), (11, (AV.i .u8 n35)), (69, (AV.b true))] h)
else
((bif (decide ((n35 : Int) < 32)) then
(J 7 [(0, (AV.s x0)), (4, x4), (5, (AV.i .i64 x5)), (7, (AV.s x7)), (10, (AV.s x10)), (11, (AV.i .u8 n35)), (69, (AV.b true))] h)
else
(J 7 [(0, (AV.s x0)), (4, x4), (5, (AV.i .i64 x5)), (7, (AV.s x7)), (10, (AV.s x10)), (11, (AV.i .u8 n35)), (69, (AV.b (decide ((126 : Int) < n35))))] h)))))
else
(pBuildSl 2 1 [(AV.s []), (AV.s [])] [(0, 2, (AV.ag [(AV.s x7), (AV.s x10)]))] h fun v61 h62 =>
pAppend none 2 32 x4 v61 h62 fun v63 h64 =>
(bif (decide (((x0.length : Int) : Int) ≤ x5)) then
(Q (AV.tu [v63, (AV.b true)]) h64)
else
(withI (IntKind.wrap .i64 (x5 + 1)) fun n69 =>
J 1 [(0, (AV.s x0)), (4, v63), (5, (AV.i .i64 n69))] h64))))
theorem G_ref34_Attributes.t5_eq (J : JT) (Q : AV → AHeap → Prop) (x0 : List UInt8) (x4 : AV) (x5 : Int) (x7 : List UInt8) (x10 : List UInt8) (x56 : Bool) (h : AHeap) : G_ref34_Attributes.t5 J Q x0 x4 x5 x7 x10 x56 h = atJ prog C 118 J false [1, 1, 1, 1, 0, 0, 0, 1, 1, 1, 1, 1, 1, 0, 0, 0, 0, 1] G_ref34_Attributes.ann G_ref34_Attributes.body [(0, (AV.s x0)), (4, x4), (5, (AV.i .i64 x5)), (7, (AV.s x7)), (10, (AV.s x10)), (56, (AV.b x56))] h (kFun prog Tryz.f50 Q) := by kernel_rfl
theorem G_ref34_Attributes.i5 {Q : AV → AHeap → Prop} {x0 : List UInt8} {x4 : AV} {x5 : Int} {x7 : List UInt8} {x10 : List UInt8} {x56 : Bool} {h : AHeap} (H : G_ref34_Attributes.t5 (G_ref34_Attributes.J Q) Q x0 x4 x5 x7 x10 x56 h) : G_ref34_Attributes.p5 Q x0 x4 x5 x7 x10 x56 h := G_ref34_Attributes.goR (k := 6) (p := [1, 1, 1, 1, 0, 0, 0, 1, 1, 1, 1, 1, 1, 0, 0, 0, 0, 1]) (by kernel_rfl) ((G_ref34_Attributes.t5_eq (G_ref34_Attributes.J Q) Q x0 x4 x5 x7 x10 x56 h).mp H)
def G_ref34_Attributes.t6 (J : JT) (Q : AV → AHeap → Prop) (x0 : List UInt8) (x4 : AV) (x5 : Int) (x7 : List UInt8) (x10 : List UInt8) (x11 : Int) (x69 : Bool) (h : AHeap) : Prop :=
(bif x69 then
(Q (AV.tu [(AV.sl none 0 none), (AV.b false)]) h)
else
((bif (decide ((x11 : Int) = 92)) then
(withI (IntKind.wrap .i64 (x5 + 1)) fun n43 =>
(bif (decide (((x0.length : Int) : Int) ≤ n43)) then
(J 8 [(0, (AV.s x0)), (4, x4), (5, (AV.i .i64 n43)), (7, (AV.s x7)), (10, (AV.s x10)), (95, (AV.b true))] h)
else
(pIdxStr (AV.s x0) (AV.i .i64 n43) fun n46 =>
(bif (!decide ((n46 : Int) = 44)) then
(pIdxStr (AV.s x0) (AV.i .i64 n43) fun n47 =>
(bif (!decide ((n47 : Int) = 61)) then
(pIdxStr (AV.s x0) (AV.i .i64 n43) fun n48 =>
J 8 [(0, (AV.s x0)), (4, x4), (5, (AV.i .i64 n43)), (7, (AV.s x7)), (10, (AV.s x10)), (95, (AV.b (!decide ((n48 : Int) = 92))))] h)
else
(J 8 [(0, (AV.s x0)), (4, x4), (5, (AV.i .i64 n43)), (7, (AV.s x7)), (10, (AV.s x10)), (95, (AV.b false))] h)))
else
(J 8 [(0, (AV.s x0)), (4, x4), (5, (AV.i .i64 n43)), (7, (AV.s x7)), (10, (AV.s x10)), (95, (AV.b false))] h)))))
else
(J 9 [(0, (AV.s x0)), (4, x4), (5, (AV.i .i64 x5)), (7, (AV.s x7)), (10, (AV.s x10))] h))))
theorem G_ref34_Attributes.t6_eq (J : JT) (Q : AV → AHeap → Prop) (x0 : List UInt8) (x4 : AV) (x5 : Int) (x7 : List UInt8) (x10 : List UInt8) (x11 : Int) (x69 : Bool) (h : AHeap) : G_ref34_Attributes.t6 J Q x0 x4 x5 x7 x10 x11 x69 h = atJ prog C 118 J false [1, 1, 1, 1, 0, 0, 0, 1, 1, 1, 1, 1, 1, 0, 0, 0, 1, 0, 1, 0, 1] G_ref34_Attributes.ann G_ref34_Attributes.body [(0, (AV.s x0)), (4, x4), (5, (AV.i .i64 x5)), (7, (AV.s x7)), (10, (AV.s x10)), (11, (AV.i .u8 x11)), (69, (AV.b x69))] h (kFun prog Tryz.f50 Q) := by kernel_rfl
theorem G_ref34_Attributes.i6 {Q : AV → AHeap → Prop} {x0 : List UInt8} {x4 : AV} {x5 : Int} {x7 : List UInt8} {x10 : List UInt8} {x11 : Int} {x69 : Bool} {h : AHeap} (H : G_ref34_Attributes.t6 (G_ref34_Attributes.J Q) Q x0 x4 x5 x7 x10 x11 x69 h) : G_ref34_Attributes.p6 Q x0 x4 x5 x7 x10 x11 x69 h := G_ref34_Attributes.goR (k := 7) (p := [1, 1, 1, 1, 0, 0, 0, 1, 1, 1, 1, 1, 1, 0, 0, 0, 1, 0, 1, 0, 1]) (by kernel_rfl) ((G_ref34_Attributes.t6_eq (G_ref34_Attributes.J Q) Q x0 x4 x5 x7 x10 x11 x69 h).mp H)
def G_ref34_Attributes.t7 (J : JT) (Q : AV → AHeap → Prop) (x0 : List UInt8) (x4 : AV) (x5 : Int) (x7 : List UInt8) (x10 : List UInt8) (x95 : Bool) (h : AHeap) : Prop :=
(bif x95 then
(Q (AV.tu [(AV.sl none 0 none), (AV.b false)]) h)
else
(J 9 [(0, (AV.s x0)), (4, x4), (5, (AV.i .i64 x5)), (7, (AV.s x7)), (10, (AV.s x10))] h))
theorem G_ref34_Attributes.t7_eq (J : JT) (Q : AV → AHeap → Prop) (x0 : List UInt8) (x4 : AV) (x5 : Int) (x7 : List UInt8) (x10 : List UInt8) (x95 : Bool) (h : AHeap) : G_ref34_Attributes.t7 J Q x0 x4 x5 x7 x10 x95 h = atJ prog C 118 J false [1, 1, 1, 1, 0, 0, 0, 1, 1, 1, 1, 1, 1, 0, 0, 0, 1, 0, 1, 1, 0, 1, 0, 1, 1] G_ref34_Attributes.ann G_ref34_Attributes.body [(0, (AV.s x0)), (4, x4), (5, (AV.i .i64 x5)), (7, (AV.s x7)), (10, (AV.s x10)), (95, (AV.b x95))] h (kFun prog Tryz.f50 Q) := by kernel_rfl
theorem G_ref34_Attributes.i7 {Q : AV → AHeap → Prop} {x0 : List UInt8} {x4 : AV} {x5 : Int} {x7 : List UInt8} {x10 : List UInt8} {x95 : Bool} {h : AHeap} (H : G_ref34_Attributes.t7 (G_ref34_Attributes.J Q) Q x0 x4 x5 x7 x10 x95 h) : G_ref34_Attributes.p7 Q x0 x4 x5 x7 x10 x95 h := G_ref34_Attributes.goR (k := 8) (p := [1, 1, 1, 1, 0, 0, 0, 1, 1, 1, 1, 1, 1, 0, 0, 0, 1, 0, 1, 1, 0, 1, 0, 1, 1]) (by kernel_rfl) ((G_ref34_Attributes.t7_eq (G_ref34_Attributes.J Q) Q x0 x4 x5 x7 x10 x95 h).mp H)
def G_ref34_Attributes.t8 (J : JT) (Q : AV → AHeap → Prop) (x0 : List UInt8) (x4 : AV) (x5 : Int) (x7 : List UInt8) (x10 : List UInt8) (h : AHeap) : Prop :=
withI (IntKind.wrap .i64 (x5 + 1)) fun n55 =>
pSliceStr (AV.s x0) (some (AV.i .i64 x5)) (some (AV.i .i64 n55)) fun l56 =>
pCat x10 l56 fun l57 =>
withI (IntKind.wrap .i64 (x5 + 1)) fun n59 =>
J 5 [(0, (AV.s x0)), (4, x4), (5, (AV.i .i64 n59)), (7, (AV.s x7)), (10, (AV.s l57))] h
theorem G_ref34_Attributes.t8_eq (J : JT) (Q : AV → AHeap → Prop) (x0 : List UInt8) (x4 : AV) (x5 : Int) (x7 : List UInt8) (x10 : List UInt8) (h : AHeap) : G_ref34_Attributes.t8 J Q x0 x4 x5 x7 x10 h = atJ prog C 118 J false [1, 1, 1, 1, 0, 0, 0, 1, 1, 1, 1, 1, 1, 0, 0, 0, 1, 0, 1, 1, 1] G_ref34_Attributes.ann G_ref34_Attributes.body [(0, (AV.s x0)), (4, x4), (5, (AV.i .i64 x5)), (7, (AV.s x7)), (10, (AV.s x10))] h (kFun prog Tryz.f50 Q) := by kernel_rfl
theorem G_ref34_Attributes.i8 {Q : AV → AHeap → Prop} {x0 : List UInt8} {x4 : AV} {x5 : Int} {x7 : List UInt8} {x10 : List UInt8} {h : AHeap} (H : G_ref34_Attributes.t8 (G_ref34_Attributes.J Q) Q x0 x4 x5 x7 x10 h) : G_ref34_Attributes.p8 Q x0 x4 x5 x7 x10 h := G_ref34_Attributes.goR (k := 9) (p := [1, 1, 1, 1, 0, 0, 0, 1, 1, 1, 1, 1, 1, 0, 0, 0, 1, 0, 1, 1, 1]) (by kernel_rfl) ((G_ref34_Attributes.t8_eq (G_ref34_Attributes.J Q) Q x0 x4 x5 x7 x10 h).mp H)
def G_ref34_Attributes.t4 (J : JT) (Q : AV → AHeap → Prop) (x0 : List UInt8) (x4 : AV) (x5 : Int) (x7 : List UInt8) (x10 : List UInt8) (h : AHeap) : Prop :=
(bif (decide ((x5 : Int) < (x0.length : Int))) then
(pIdxStr (AV.s x0) (AV.i .i64 x5) fun n30 =>
J 6 [(0, (AV.s x0)), (4, x4), (5, (AV.i .i64 x5)), (7, (AV.s x7)), (10, (AV.s x10)), (56, (AV.b (!decide ((n30 : Int) = 44))))] h)
else
(J 6 [(0, (AV.s x0)), (4, x4), (5, (AV.i .i64 x5)), (7, (AV.s x7)), (10, (AV.s x10)), (56, (AV.b false))] h))
theorem G_ref34_Attributes.t4_eq (J : JT) (Q : AV → AHeap → Prop) (x0 : List UInt8) (x4 : AV) (x5 : Int) (x7 : List UInt8) (x10 : List UInt8) (h : AHeap) : G_ref34_Attributes.t4 J Q x0 x4 x5 x7 x10 h = atJ prog C 118 J true [1, 1, 1, 1, 0, 0, 0, 1, 1, 1, 1, 1, 1, 0, 0] G_ref34_Attributes.ann G_ref34_Attributes.body [(0, (AV.s x0)), (4, x4), (5, (AV.i .i64 x5)), (7, (AV.s x7)), (10, (AV.s x10))] h (kFun prog Tryz.f50 Q) := by kernel_rfl
theorem G_ref34_Attributes.i4 {Q : AV → AHeap → Prop} {x0 : List UInt8} {x4 : AV} {x5 : Int} {x7 : List UInt8} {x10 : List UInt8} {h : AHeap} (H : G_ref34_Attributes.t4 (G_ref34_Attributes.J Q) Q x0 x4 x5 x7 x10 h) : G_ref34_Attributes.p4 Q x0 x4 x5 x7 x10 h := G_ref34_Attributes.goH (k := 5) (p := [1, 1, 1, 1, 0, 0, 0, 1, 1, 1, 1, 1, 1, 0, 0]) (by kernel_rfl) ((G_ref34_Attributes.t4_eq (G_ref34_Attributes.J Q) Q x0 x4 x5 x7 x10 h).mp H)
def G_ref34_Attributes.t0 (J : JT) (Q : AV → AHeap → Prop) (x0 : List UInt8) (x4 : AV) (x5 : Int) (h : AHeap) : Prop :=
J 2 [(0, (AV.s x0)), (4, x4), (5, (AV.i .i64 x5)), (6, (AV.i .i64 x5))] h
theorem G_ref34_Attributes.t0_eq (J : JT) (Q : AV → AHeap → Prop) (x0 : List UInt8) (x4 : AV) (x5 : Int) (h : AHeap) : G_ref34_Attributes.t0 J Q x0 x4 x5 h = atJ prog C 118 J true [1, 1, 1, 1, 0] G_ref34_Attributes.ann G_ref34_Attributes.body [(0, (AV.s x0)), (4, x4), (5, (AV.i .i64 x5))] h (kFun prog Tryz.f50 Q) := by kernel_rfl
theorem G_ref34_Attributes.i0 {Q : AV → AHeap → Prop} {x0 : List UInt8} {x4 : AV} {x5 : Int} {h : AHeap} (H : G_ref34_Attributes.t0 (G_ref34_Attributes.J Q) Q x0 x4 x5 h) : G_ref34_Attributes.p0 Q x0 x4 x5 h := G_ref34_Attributes.goH (k := 1) (p := [1, 1, 1, 1, 0]) (by kernel_rfl) ((G_ref34_Attributes.t0_eq (G_ref34_Attributes.J Q) Q x0 x4 x5 h).mp H)
def G_ref34_Attributes.t (J : JT) (Q : AV → AHeap → Prop) (x0 : List UInt8) (h : AHeap) : Prop :=
(bif (decide ((x0 : List UInt8) = [])) then
(Q (AV.tu [(AV.sl none 0 none), (AV.b true)]) h)
else
(J 1 [(0, (AV.s x0)), (4, (AV.sl none 0 none)), (5, (AV.i .i64 0))] h))
theorem G_ref34_Attributes.t_eq (J : JT) (Q : AV → AHeap → Prop) (x0 : List UInt8) (h : AHeap) : G_ref34_Attributes.t J Q x0 h = exJ prog C 118 J G_ref34_Attributes.ann G_ref34_Attributes.body (initEnv 0 [(AV.s x0)]) h (kFun prog Tryz.f50 Q) := by kernel_rfl
theorem G_ref34_Attributes.call {K : AV → AHeap → Prop} {x0 : List UInt8} {h : AHeap} (H : G_ref34_Attributes.t (G_ref34_Attributes.J (kRet h K)) (kRet h K) x0 h) : C G_ref34_Attributes.id [(AV.s x0)] h K :=
  callJ (P := prog) (fn := Tryz.f50) (ann := G_ref34_Attributes.ann) (body := G_ref34_Attributes.body) Tryz.func50 G_ref34_Attributes.body_eq (by kernel_rfl) G_ref34_Attributes.dist (by kernel_rfl) ((G_ref34_Attributes.t_eq (G_ref34_Attributes.J (kRet h K)) (kRet h K) x0 h).mp H)

--@@ G_i_stringslite_IndexByte
/-! ### 51: internal/stringslite.IndexByte -/
noncomputable def G_i_stringslite_IndexByte.body : Code := (Tryz.f51.body).getD .skip
def G_i_stringslite_IndexByte.ann : Ann := (.seq 0 [0, 1] .leaf (.seq 0 [4] .leaf .leaf))
theorem G_i_stringslite_IndexByte.body_eq : Tryz.f51.body = some G_i_stringslite_IndexByte.body := by kernel_rfl
theorem G_i_stringslite_IndexByte.dist : noTwice (places G_i_stringslite_IndexByte.ann G_i_stringslite_IndexByte.body) = true := by kernel_rfl
noncomputable def G_i_stringslite_IndexByte.J (Q : AV → AHeap → Prop) : JT := funJ prog C Tryz.f51 G_i_stringslite_IndexByte.ann G_i_stringslite_IndexByte.body Q
theorem G_i_stringslite_IndexByte.goR {Q : AV → AHeap → Prop} {k : Nat} {p : List Nat} (hl : lookJ (places G_i_stringslite_IndexByte.ann G_i_stringslite_IndexByte.body) k = some (p, false)) {e : Env} {h : AHeap} (hk : atJ prog C 8 (G_i_stringslite_IndexByte.J Q) false p G_i_stringslite_IndexByte.ann G_i_stringslite_IndexByte.body e h (kFun prog Tryz.f51 Q)) : G_i_stringslite_IndexByte.J Q k e h := goJ_run (P := prog) (fn := Tryz.f51) (ann := G_i_stringslite_IndexByte.ann) (body := G_i_stringslite_IndexByte.body) (Q := Q) (k := k) (p := p) (e := e) (h := h) (acall_le X) G_i_stringslite_IndexByte.dist hl hk
theorem G_i_stringslite_IndexByte.goH {Q : AV → AHeap → Prop} {k : Nat} {p : List Nat} (hl : lookJ (places G_i_stringslite_IndexByte.ann G_i_stringslite_IndexByte.body) k = some (p, true)) {e : Env} {h : AHeap} (hk : atJ prog C 8 (G_i_stringslite_IndexByte.J Q) true p G_i_stringslite_IndexByte.ann G_i_stringslite_IndexByte.body e h (kFun prog Tryz.f51 Q)) : G_i_stringslite_IndexByte.J Q k e h := goJ_head (P := prog) (fn := Tryz.f51) (ann := G_i_stringslite_IndexByte.ann) (body := G_i_stringslite_IndexByte.body) (Q := Q) (k := k) (p := p) (e := e) (h := h) (acall_le X) G_i_stringslite_IndexByte.dist hl hk
def G_i_stringslite_IndexByte.t (J : JT) (Q : AV → AHeap → Prop) (x0 : List UInt8) (x1 : Int) (h : AHeap) : Prop :=
C G_i_bytealg_IndexByteString.id [(AV.s x0), (AV.i .u8 x1)] h fun v1 h2 =>
asI .i64 v1 fun n3 =>
Q (AV.i .i64 n3) h2
theorem G_i_stringslite_IndexByte.t_eq (J : JT) (Q : AV → AHeap → Prop) (x0 : List UInt8) (x1 : Int) (h : AHeap) : G_i_stringslite_IndexByte.t J Q x0 x1 h = exJ prog C 8 J G_i_stringslite_IndexByte.ann G_i_stringslite_IndexByte.body (initEnv 0 [(AV.s x0), (AV.i .u8 x1)]) h (kFun prog Tryz.f51 Q) := by kernel_rfl
theorem G_i_stringslite_IndexByte.call {K : AV → AHeap → Prop} {x0 : List UInt8} {x1 : Int} {h : AHeap} (H : G_i_stringslite_IndexByte.t (G_i_stringslite_IndexByte.J (kRet h K)) (kRet h K) x0 x1 h) : C G_i_stringslite_IndexByte.id [(AV.s x0), (AV.i .u8 x1)] h K :=
  callJ (P := prog) (fn := Tryz.f51) (ann := G_i_stringslite_IndexByte.ann) (body := G_i_stringslite_IndexByte.body) Tryz.func51 G_i_stringslite_IndexByte.body_eq (by kernel_rfl) G_i_stringslite_IndexByte.dist (by kernel_rfl) ((G_i_stringslite_IndexByte.t_eq (G_i_stringslite_IndexByte.J (kRet h K)) (kRet h K) x0 x1 h).mp H)

--@@ G_i_bytealg_Cutover
/-! ### 53: internal/bytealg.Cutover -/
noncomputable def G_i_bytealg_Cutover.body : Code := (Tryz.f53.body).getD .skip
def G_i_bytealg_Cutover.ann : Ann := (.seq 0 [0] .leaf (.seq 0 [2] .leaf .leaf))
theorem G_i_bytealg_Cutover.body_eq : Tryz.f53.body = some G_i_bytealg_Cutover.body := by kernel_rfl
theorem G_i_bytealg_Cutover.dist : noTwice (places G_i_bytealg_Cutover.ann G_i_bytealg_Cutover.body) = true := by kernel_rfl
noncomputable def G_i_bytealg_Cutover.J (Q : AV → AHeap → Prop) : JT := funJ prog C Tryz.f53 G_i_bytealg_Cutover.ann G_i_bytealg_Cutover.body Q
theorem G_i_bytealg_Cutover.goR {Q : AV → AHeap → Prop} {k : Nat} {p : List Nat} (hl : lookJ (places G_i_bytealg_Cutover.ann G_i_bytealg_Cutover.body) k = some (p, false)) {e : Env} {h : AHeap} (hk : atJ prog C 6 (G_i_bytealg_Cutover.J Q) false p G_i_bytealg_Cutover.ann G_i_bytealg_Cutover.body e h (kFun prog Tryz.f53 Q)) : G_i_bytealg_Cutover.J Q k e h := goJ_run (P := prog) (fn := Tryz.f53) (ann := G_i_bytealg_Cutover.ann) (body := G_i_bytealg_Cutover.body) (Q := Q) (k := k) (p := p) (e := e) (h := h) (acall_le X) G_i_bytealg_Cutover.dist hl hk
theorem G_i_bytealg_Cutover.goH {Q : AV → AHeap → Prop} {k : Nat} {p : List Nat} (hl : lookJ (places G_i_bytealg_Cutover.ann G_i_bytealg_Cutover.body) k = some (p, true)) {e : Env} {h : AHeap} (hk : atJ prog C 6 (G_i_bytealg_Cutover.J Q) true p G_i_bytealg_Cutover.ann G_i_bytealg_Cutover.body e h (kFun prog Tryz.f53 Q)) : G_i_bytealg_Cutover.J Q k e h := goJ_head (P := prog) (fn := Tryz.f53) (ann := G_i_bytealg_Cutover.ann) (body := G_i_bytealg_Cutover.body) (Q := Q) (k := k) (p := p) (e := e) (h := h) (acall_le X) G_i_bytealg_Cutover.dist hl hk
def G_i_bytealg_Cutover.t (J : JT) (Q : AV → AHeap → Prop) (x0 : Int) (h : AHeap) : Prop :=
withI (IntKind.wrap .i64 (x0 + 16)) fun n1 =>
pQuo .i64 n1 8 fun n2 =>
Q (AV.i .i64 n2) h
theorem G_i_bytealg_Cutover.t_eq (J : JT) (Q : AV → AHeap → Prop) (x0 : Int) (h : AHeap) : G_i_bytealg_Cutover.t J Q x0 h = exJ prog C 6 J G_i_bytealg_Cutover.ann G_i_bytealg_Cutover.body (initEnv 0 [(AV.i .i64 x0)]) h (kFun prog Tryz.f53 Q) := by kernel_rfl
theorem G_i_bytealg_Cutover.call {K : AV → AHeap → Prop} {x0 : Int} {h : AHeap} (H : G_i_bytealg_Cutover.t (G_i_bytealg_Cutover.J (kRet h K)) (kRet h K) x0 h) : C G_i_bytealg_Cutover.id [(AV.i .i64 x0)] h K :=
  callJ (P := prog) (fn := Tryz.f53) (ann := G_i_bytealg_Cutover.ann) (body := G_i_bytealg_Cutover.body) Tryz.func53 G_i_bytealg_Cutover.body_eq (by kernel_rfl) G_i_bytealg_Cutover.dist (by kernel_rfl) ((G_i_bytealg_Cutover.t_eq (G_i_bytealg_Cutover.J (kRet h K)) (kRet h K) x0 h).mp H)

--@@ G_certificate_shape_of
/-! ### 55: (intrusion/certificate.shape).of -/
noncomputable def G_certificate_shape_of.body : Code := (Tryz.f55.body).getD .skip
def G_certificate_shape_of.ann : Ann := (.seq 0 [1, 2, 4] .leaf (.seq 0 [4] .leaf .leaf))
theorem G_certificate_shape_of.body_eq : Tryz.f55.body = some G_certificate_shape_of.body := by kernel_rfl
theorem G_certificate_shape_of.dist : noTwice (places G_certificate_shape_of.ann G_certificate_shape_of.body) = true := by kernel_rfl
noncomputable def G_certificate_shape_of.J (Q : AV → AHeap → Prop) : JT := funJ prog C Tryz.f55 G_certificate_shape_of.ann G_certificate_shape_of.body Q
theorem G_certificate_shape_of.goR {Q : AV → AHeap → Prop} {k : Nat} {p : List Nat} (hl : lookJ (places G_certificate_shape_of.ann G_certificate_shape_of.body) k = some (p, false)) {e : Env} {h : AHeap} (hk : atJ prog C 11 (G_certificate_shape_of.J Q) false p G_certificate_shape_of.ann G_certificate_shape_of.body e h (kFun prog Tryz.f55 Q)) : G_certificate_shape_of.J Q k e h := goJ_run (P := prog) (fn := Tryz.f55) (ann := G_certificate_shape_of.ann) (body := G_certificate_shape_of.body) (Q := Q) (k := k) (p := p) (e := e) (h := h) (acall_le X) G_certificate_shape_of.dist hl hk
theorem G_certificate_shape_of.goH {Q : AV → AHeap → Prop} {k : Nat} {p : List Nat} (hl : lookJ (places G_certificate_shape_of.ann G_certificate_shape_of.body) k = some (p, true)) {e : Env} {h : AHeap} (hk : atJ prog C 11 (G_certificate_shape_of.J Q) true p G_certificate_shape_of.ann G_certificate_shape_of.body e h (kFun prog Tryz.f55 Q)) : G_certificate_shape_of.J Q k e h := goJ_head (P := prog) (fn := Tryz.f55) (ann := G_certificate_shape_of.ann) (body := G_certificate_shape_of.body) (Q := Q) (k := k) (p := p) (e := e) (h := h) (acall_le X) G_certificate_shape_of.dist hl hk
def G_certificate_shape_of.t (J : JT) (Q : AV → AHeap → Prop) (x0 : AV) (x1 : AV) (h : AHeap) : Prop :=
pBox (some 78) x0 h fun v0 h1 =>
pAlloc (some 65) [(AV.i .i64 0), (AV.i .i64 0), (AV.b false), (AV.s []), (AV.sl none 0 none)] h1 fun v2 h3 =>
pFieldAddr 0 v0 fun v5 =>
pLoad1 v5 h3 fun v6 =>
asI .i64 v6 fun n7 =>
pFieldAddr 1 v0 fun v8 =>
pLoad1 v8 h3 fun v9 =>
asI .i64 v9 fun n10 =>
pBuild [(AV.i .i64 0), (AV.i .i64 0), (AV.b false), (AV.s []), (AV.sl none 0 none)] [(0, 1, (AV.i .i64 n7)), (1, 1, (AV.i .i64 n10)), (2, 1, (AV.b true)), (4, 1, x1)] fun v11 =>
pStore 5 v2 v11 h3 fun h12 =>
pLoadN 5 v2 h12 fun v14 =>
Q v14 h12
theorem G_certificate_shape_of.t_eq (J : JT) (Q : AV → AHeap → Prop) (x0 : AV) (x1 : AV) (h : AHeap) : G_certificate_shape_of.t J Q x0 x1 h = exJ prog C 11 J G_certificate_shape_of.ann G_certificate_shape_of.body (initEnv 0 [x0, x1]) h (kFun prog Tryz.f55 Q) := by kernel_rfl
theorem G_certificate_shape_of.call {K : AV → AHeap → Prop} {x0 : AV} {x1 : AV} {h : AHeap} (H : G_certificate_shape_of.t (G_certificate_shape_of.J (kRet h K)) (kRet h K) x0 x1 h) : C G_certificate_shape_of.id [x0, x1] h K :=
  callJ (P := prog) (fn := Tryz.f55) (ann := G_certificate_shape_of.ann) (body := G_certificate_shape_of.body) Tryz.func55 G_certificate_shape_of.body_eq (by kernel_rfl) G_certificate_shape_of.dist (by kernel_rfl) ((G_certificate_shape_of.t_eq (G_certificate_shape_of.J (kRet h K)) (kRet h K) x0 x1 h).mp H)

--@@ G_der_OidOf
/-! ### 56: intrusion/der.OidOf -/
noncomputable def G_der_OidOf.body : Code := (Tryz.f56.body).getD .skip
def G_der_OidOf.ann : Ann := (.seq 0 [0, 2] .leaf (.seq 0 [0, 2] (.seq 0 [0, 2, 15] .leaf (.br (.seq 0 [2, 3] .leaf .leaf) .leaf)) (.seq 0 [0, 2, 4] .leaf (.seq 0 [2, 4] (.seq 0 [2, 4, 18, 19, 20] .leaf (.one (.loop 1 [2, 4, 18, 19, 20] (.seq 0 [2, 4, 18, 19, 20, 21] .leaf (.seq 0 [2, 4, 18, 19, 20] (.br .leaf .leaf) (.seq 0 [2, 4, 18, 19, 20] (.one (.seq 0 [2, 4, 6, 18, 19, 20] .leaf (.seq 0 [2, 4, 7, 8, 18, 19, 20] .leaf (.seq 0 [2, 4, 7, 18, 19, 20] (.seq 0 [2, 4, 7, 18, 19, 20, 30] .leaf (.br (.seq 0 [2, 3] .leaf .leaf) .leaf)) .leaf)))) .leaf)))))) (.seq 0 [2, 4] (.seq 2 [2, 4, 68] (.ord (.neu 0 (.neu 1 (.neu 2 (.neu 3 (.neu 4 (.neu 5 (.neu 6 (.neu 7 (.neu 8 (.neu 9 (.neu 10 (.neu 11 (.neu 12 (.neu 13 (.neu 14 (.neu 15 (.neu 16 (.neu 17 (.neu 18 (.neu 19 (.neu 20 (.neu 21 (.neu 22 (.neu 23 (.neu 24 (.neu 25 (.neu 26 (.neu 27 (.neu 28 (.neu 29 (.neu 30 (.neu 31 .done))))))))))))))))))))))))))))))))) (.br (.seq 0 [2, 3] .leaf .leaf) .leaf)) (.seq 0 [2, 4, 9] .leaf (.seq 0 [2, 9] (.seq 0 [2, 9, 81, 82, 83] (.ord (.neu 0 (.neu 1 (.neu 2 (.neu 3 (.neu 4 (.neu 5 (.neu 6 (.neu 7 (.neu 9 (.neu 10 (.neu 13 (.eff 8 (.eff 11 (.neu 12 .done) .stop) .stop))))))))))))) (.one (.loop 3 [2, 9, 81, 82, 83] (.seq 0 [2, 9, 81, 82, 83, 84] .leaf (.seq 0 [2, 9, 81, 82, 83] (.br .leaf .leaf) (.seq 0 [2, 9, 81, 82, 83] (.one (.seq 0 [2, 9, 11, 81, 82, 83] .leaf (.seq 0 [2, 9, 11, 12, 81, 82, 83] .leaf (.seq 0 [2, 9, 11, 12, 81, 82, 83] (.one (.loop 4 [2, 9, 11, 12, 81, 82, 83] (.seq 0 [2, 9, 11, 12, 81, 82, 83] (.seq 0 [2, 9, 11, 12, 81, 82, 83, 92] .leaf (.br .leaf .leaf)) (.one .leaf)))) (.seq 0 [2, 9, 11, 81, 82, 83] (.one (.loop 5 [2, 9, 11, 12, 81, 82, 83] (.seq 0 [2, 9, 11, 12, 81, 82, 83] (.seq 0 [2, 9, 11, 12, 81, 82, 83, 96] .leaf (.br .leaf .leaf)) (.seq 0 [2, 9, 11, 12, 81, 82, 83] (.one .leaf) .leaf)))) .leaf))))) .leaf)))))) (.seq 0 [2, 3] .leaf .leaf))))))))
theorem G_der_OidOf.body_eq : Tryz.f56.body = some G_der_OidOf.body := by kernel_rfl
theorem G_der_OidOf.dist : noTwice (places G_der_OidOf.ann G_der_OidOf.body) = true := by kernel_rfl
noncomputable def G_der_OidOf.J (Q : AV → AHeap → Prop) : JT := funJ prog C Tryz.f56 G_der_OidOf.ann G_der_OidOf.body Q
theorem G_der_OidOf.goR {Q : AV → AHeap → Prop} {k : Nat} {p : List Nat} (hl : lookJ (places G_der_OidOf.ann G_der_OidOf.body) k = some (p, false)) {e : Env} {h : AHeap} (hk : atJ prog C 119 (G_der_OidOf.J Q) false p G_der_OidOf.ann G_der_OidOf.body e h (kFun prog Tryz.f56 Q)) : G_der_OidOf.J Q k e h := goJ_run (P := prog) (fn := Tryz.f56) (ann := G_der_OidOf.ann) (body := G_der_OidOf.body) (Q := Q) (k := k) (p := p) (e := e) (h := h) (acall_le X) G_der_OidOf.dist hl hk
theorem G_der_OidOf.goH {Q : AV → AHeap → Prop} {k : Nat} {p : List Nat} (hl : lookJ (places G_der_OidOf.ann G_der_OidOf.body) k = some (p, true)) {e : Env} {h : AHeap} (hk : atJ prog C 119 (G_der_OidOf.J Q) true p G_der_OidOf.ann G_der_OidOf.body e h (kFun prog Tryz.f56 Q)) : G_der_OidOf.J Q k e h := goJ_head (P := prog) (fn := Tryz.f56) (ann := G_der_OidOf.ann) (body := G_der_OidOf.body) (Q := Q) (k := k) (p := p) (e := e) (h := h) (acall_le X) G_der_OidOf.dist hl hk
def G_der_OidOf.p0 (Q : AV → AHeap → Prop) (x2 : AV) (x4 : AV) (x18 : AV) (x19 : Int) (x20 : Int) (h : AHeap) : Prop := G_der_OidOf.J Q 1 [(2, x2), (4, x4), (18, x18), (19, (AV.i .i64 x19)), (20, (AV.i .i64 x20))] h
theorem G_der_OidOf.j0 (Q : AV → AHeap → Prop) (x2 : AV) (x4 : AV) (x18 : AV) (x19 : Int) (x20 : Int) (h : AHeap) : G_der_OidOf.J Q 1 [(2, x2), (4, x4), (18, x18), (19, (AV.i .i64 x19)), (20, (AV.i .i64 x20))] h = G_der_OidOf.p0 Q x2 x4 x18 x19 x20 h := rfl
def G_der_OidOf.p1 (Q : AV → AHeap → Prop) (x2 : AV) (x4 : AV) (x68 : Bool) (h : AHeap) : Prop := G_der_OidOf.J Q 2 [(2, x2), (4, x4), (68, (AV.b x68))] h
theorem G_der_OidOf.j1 (Q : AV → AHeap → Prop) (x2 : AV) (x4 : AV) (x68 : Bool) (h : AHeap) : G_der_OidOf.J Q 2 [(2, x2), (4, x4), (68, (AV.b x68))] h = G_der_OidOf.p1 Q x2 x4 x68 h := rfl
def G_der_OidOf.p3 (Q : AV → AHeap → Prop) (x2 : AV) (x9 : AV) (x11 : Int) (x12 : Int) (x81 : AV) (x82 : Int) (x83 : Int) (h : AHeap) : Prop := G_der_OidOf.J Q 4 [(2, x2), (9, x9), (11, (AV.i .i64 x11)), (12, (AV.i .i64 x12)), (81, x81), (82, (AV.i .i64 x82)), (83, (AV.i .i64 x83))] h
theorem G_der_OidOf.j3 (Q : AV → AHeap → Prop) (x2 : AV) (x9 : AV) (x11 : Int) (x12 : Int) (x81 : AV) (x82 : Int) (x83 : Int) (h : AHeap) : G_der_OidOf.J Q 4 [(2, x2), (9, x9), (11, (AV.i .i64 x11)), (12, (AV.i .i64 x12)), (81, x81), (82, (AV.i .i64 x82)), (83, (AV.i .i64 x83))] h = G_der_OidOf.p3 Q x2 x9 x11 x12 x81 x82 x83 h := rfl
def G_der_OidOf.p4 (Q : AV → AHeap → Prop) (x2 : AV) (x9 : AV) (x11 : Int) (x12 : Int) (x81 : AV) (x82 : Int) (x83 : Int) (h : AHeap) : Prop := G_der_OidOf.J Q 5 [(2, x2), (9, x9), (11, (AV.i .i64 x11)), (12, (AV.i .i64 x12)), (81, x81), (82, (AV.i .i64 x82)), (83, (AV.i .i64 x83))] h
theorem G_der_OidOf.j4 (Q : AV → AHeap → Prop) (x2 : AV) (x9 : AV) (x11 : Int) (x12 : Int) (x81 : AV) (x82 : Int) (x83 : Int) (h : AHeap) : G_der_OidOf.J Q 5 [(2, x2), (9, x9), (11, (AV.i .i64 x11)), (12, (AV.i .i64 x12)), (81, x81), (82, (AV.i .i64 x82)), (83, (AV.i .i64 x83))] h = G_der_OidOf.p4 Q x2 x9 x11 x12 x81 x82 x83 h := rfl
def G_der_OidOf.p2 (Q : AV → AHeap → Prop) (x2 : AV) (x9 : AV) (x81 : AV) (x82 : Int) (x83 : Int) (h : AHeap) : Prop := G_der_OidOf.J Q 3 [(2, x2), (9, x9), (81, x81), (82, (AV.i .i64 x82)), (83, (AV.i .i64 x83))] h
theorem G_der_OidOf.j2 (Q : AV → AHeap → Prop) (x2 : AV) (x9 : AV) (x81 : AV) (x82 : Int) (x83 : Int) (h : AHeap) : G_der_OidOf.J Q 3 [(2, x2), (9, x9), (81, x81), (82, (AV.i .i64 x82)), (83, (AV.i .i64 x83))] h = G_der_OidOf.p2 Q x2 x9 x81 x82 x83 h := rfl
def G_der_OidOf.t0 (J : JT) (Q : AV → AHeap → Prop) (x2 : AV) (x4 : AV) (x18 : AV) (x19 : Int) (x20 : Int) (h : AHeap) : Prop :=
(bif (decide ((x20 : Int) < x19)) then
(pIdxAddrSl 1 x18 (AV.i .i64 x20) h fun v16 =>
pLoad1 v16 h fun v17 =>
asS v17 fun l18 =>
C G_der_number.id [(AV.s l18)] h fun v20 h21 =>
pExtract 0 v20 fun v22 =>
asI .i64 v22 fun n23 =>
pExtract 1 v20 fun v24 =>
asB v24 fun c25 =>
(bif (!c25) then
(pStore 5 x2 (AV.ag [(AV.i .i64 0), (AV.i .i64 0), (AV.b false), (AV.s []), (AV.sl none 0 none)]) h21 fun h28 =>
pLoadN 5 x2 h28 fun v30 =>
Q (AV.tu [v30, (AV.i .i64 2)]) h28)
else
(pBuildSl 1 1 [(AV.i .i64 0)] [(0, 1, (AV.i .i64 n23))] h21 fun v32 h33 =>
pAppend none 1 8 x4 v32 h33 fun v34 h35 =>
withI (IntKind.wrap .i64 (x20 + 1)) fun n37 =>
J 1 [(2, x2), (4, v34), (18, x18), (19, (AV.i .i64 x19)), (20, (AV.i .i64 n37))] h35)))
else
(pLenSl x4 fun n39 =>
(bif (decide ((n39 : Int) < 2)) then
(J 2 [(2, x2), (4, x4), (68, (AV.b true))] h)
else
(pIdxAddrSl 1 x4 (AV.i .i64 0) h fun v41 =>
pLoad1 v41 h fun v42 =>
asI .i64 v42 fun n43 =>
(bif (decide ((2 : Int) < n43)) then
(J 2 [(2, x2), (4, x4), (68, (AV.b true))] h)
else
(pIdxAddrSl 1 x4 (AV.i .i64 0) h fun v45 =>
pLoad1 v45 h fun v46 =>
asI .i64 v46 fun n47 =>
(bif (decide ((n47 : Int) < 2)) then
(pIdxAddrSl 1 x4 (AV.i .i64 1) h fun v48 =>
pLoad1 v48 h fun v49 =>
asI .i64 v49 fun n50 =>
(bif (decide ((40 : Int) ≤ n50)) then
(J 2 [(2, x2), (4, x4), (68, (AV.b true))] h)
else
(pIdxAddrSl 1 x4 (AV.i .i64 0) h fun v52 =>
pLoad1 v52 h fun v53 =>
asI .i64 v53 fun n54 =>
withI (IntKind.wrap .i64 (40 * n54)) fun n55 =>
pIdxAddrSl 1 x4 (AV.i .i64 1) h fun v56 =>
pLoad1 v56 h fun v57 =>
asI .i64 v57 fun n58 =>
withI (IntKind.wrap .i64 (n55 + n58)) fun n59 =>
J 2 [(2, x2), (4, x4), (68, (AV.b (decide ((268435456 : Int) ≤ n59))))] h)))
else
(pIdxAddrSl 1 x4 (AV.i .i64 0) h fun v61 =>
pLoad1 v61 h fun v62 =>
asI .i64 v62 fun n63 =>
withI (IntKind.wrap .i64 (40 * n63)) fun n64 =>
pIdxAddrSl 1 x4 (AV.i .i64 1) h fun v65 =>
pLoad1 v65 h fun v66 =>
asI .i64 v66 fun n67 =>
withI (IntKind.wrap .i64 (n64 + n67)) fun n68 =>
J 2 [(2, x2), (4, x4), (68, (AV.b (decide ((268435456 : Int) ≤ n68))))] h))))))))
theorem G_der_OidOf.t0_eq (J : JT) (Q : AV → AHeap → Prop) (x2 : AV) (x4 : AV) (x18 : AV) (x19 : Int) (x20 : Int) (h : AHeap) : G_der_OidOf.t0 J Q x2 x4 x18 x19 x20 h = atJ prog C 119 J true [1, 1, 1, 0, 1, 0] G_der_OidOf.ann G_der_OidOf.body [(2, x2), (4, x4), (18, x18), (19, (AV.i .i64 x19)), (20, (AV.i .i64 x20))] h (kFun prog Tryz.f56 Q) := by kernel_rfl
theorem G_der_OidOf.i0 {Q : AV → AHeap → Prop} {x2 : AV} {x4 : AV} {x18 : AV} {x19 : Int} {x20 : Int} {h : AHeap} (H : G_der_OidOf.t0 (G_der_OidOf.J Q) Q x2 x4 x18 x19 x20 h) : G_der_OidOf.p0 Q x2 x4 x18 x19 x20 h := G_der_OidOf.goH (k := 1) (p := [1, 1, 1, 0, 1, 0]) (by kernel_rfl) ((G_der_OidOf.t0_eq (G_der_OidOf.J Q) Q x2 x4 x18 x19 x20 h).mp H)
def G_der_OidOf.t1 (J : JT) (Q : AV → AHeap → Prop) (x2 : AV) (x4 : AV) (x68 : Bool) (h : AHeap) : Prop :=
(bif x68 then
(pStore 5 x2 (AV.ag [(AV.i .i64 0), (AV.i .i64 0), (AV.b false), (AV.s []), (AV.sl none 0 none)]) h fun h70 =>
pLoadN 5 x2 h70 fun v72 =>
Q (AV.tu [v72, (AV.i .i64 2)]) h70)
else
(pIdxAddrSl 1 x4 (AV.i .i64 0) h fun v75 =>
pLoad1 v75 h fun v76 =>
asI .i64 v76 fun n77 =>
withI (IntKind.wrap .i64 (40 * n77)) fun n78 =>
pIdxAddrSl 1 x4 (AV.i .i64 1) h fun v79 =>
pLoad1 v79 h fun v80 =>
asI .i64 v80 fun n81 =>
withI (IntKind.wrap .i64 (n78 + n81)) fun n82 =>
pSliceSl 1 x4 (some (AV.i .i64 2)) none none h fun v83 =>
pBuildSl 1 1 [(AV.i .i64 0)] [(0, 1, (AV.i .i64 n82))] h fun v84 h85 =>
pSliceSl 1 x4 (some (AV.i .i64 2)) none none h85 fun v86 =>
(v83 = v86 ∧
(pLoad1 v79 h85 fun v87 =>
asI .i64 v87 fun n88 =>
((AV.i .i64 n81) = (AV.i .i64 n88) ∧
(pIdxAddrSl 1 x4 (AV.i .i64 1) h85 fun v89 =>
(v79 = v89 ∧
(pLoad1 v75 h85 fun v90 =>
asI .i64 v90 fun n91 =>
((AV.i .i64 n77) = (AV.i .i64 n91) ∧
(pIdxAddrSl 1 x4 (AV.i .i64 0) h85 fun v92 =>
(v75 = v92 ∧
(pAppend none 1 8 v84 v83 h85 fun v93 h94 =>
pLoad1 v79 h94 fun v95 =>
asI .i64 v95 fun n96 =>
((AV.i .i64 n81) = (AV.i .i64 n96) ∧
(pIdxAddrSl 1 x4 (AV.i .i64 1) h94 fun v97 =>
(v79 = v97 ∧
(pLoad1 v75 h94 fun v98 =>
asI .i64 v98 fun n99 =>
((AV.i .i64 n77) = (AV.i .i64 n99) ∧
(pIdxAddrSl 1 x4 (AV.i .i64 0) h94 fun v100 =>
(v75 = v100 ∧
(pLenSl v93 fun n101 =>
J 3 [(2, x2), (9, (AV.sl none 0 none)), (81, v93), (82, (AV.i .i64 n101)), (83, (AV.i .i64 0))] h94))))))))))))))))))))
theorem G_der_OidOf.t1_eq (J : JT) (Q : AV → AHeap → Prop) (x2 : AV) (x4 : AV) (x68 : Bool) (h : AHeap) : G_der_OidOf.t1 J Q x2 x4 x68 h = atJ prog C 119 J false [1, 1, 1, 1, 0, 1] G_der_OidOf.ann G_der_OidOf.body [(2, x2), (4, x4), (68, (AV.b x68))] h (kFun prog Tryz.f56 Q) := by kernel_rfl
theorem G_der_OidOf.i1 {Q : AV → AHeap → Prop} {x2 : AV} {x4 : AV} {x68 : Bool} {h : AHeap} (H : G_der_OidOf.t1 (G_der_OidOf.J Q) Q x2 x4 x68 h) : G_der_OidOf.p1 Q x2 x4 x68 h := G_der_OidOf.goR (k := 2) (p := [1, 1, 1, 1, 0, 1]) (by kernel_rfl) ((G_der_OidOf.t1_eq (G_der_OidOf.J Q) Q x2 x4 x68 h).mp H)
def G_der_OidOf.t3 (J : JT) (Q : AV → AHeap → Prop) (x2 : AV) (x9 : AV) (x11 : Int) (x12 : Int) (x81 : AV) (x82 : Int) (x83 : Int) (h : AHeap) : Prop :=
withI (IntKind.wrap .i64 (x12 + 1)) fun n111 =>
withI (IntKind.wrap .i64 (7 * n111)) fun n112 =>
pShr .i64 x11 n112 fun n113 =>
(bif (decide ((0 : Int) < n113)) then
(withI (IntKind.wrap .i64 (x12 + 1)) fun n117 =>
J 4 [(2, x2), (9, x9), (11, (AV.i .i64 x11)), (12, (AV.i .i64 n117)), (81, x81), (82, (AV.i .i64 x82)), (83, (AV.i .i64 x83))] h)
else
(J 5 [(2, x2), (9, x9), (11, (AV.i .i64 x11)), (12, (AV.i .i64 x12)), (81, x81), (82, (AV.i .i64 x82)), (83, (AV.i .i64 x83))] h))
theorem G_der_OidOf.t3_eq (J : JT) (Q : AV → AHeap → Prop) (x2 : AV) (x9 : AV) (x11 : Int) (x12 : Int) (x81 : AV) (x82 : Int) (x83 : Int) (h : AHeap) : G_der_OidOf.t3 J Q x2 x9 x11 x12 x81 x82 x83 h = atJ prog C 119 J true [1, 1, 1, 1, 1, 1, 0, 1, 0, 0, 1, 1, 0, 0, 1, 1, 0, 0] G_der_OidOf.ann G_der_OidOf.body [(2, x2), (9, x9), (11, (AV.i .i64 x11)), (12, (AV.i .i64 x12)), (81, x81), (82, (AV.i .i64 x82)), (83, (AV.i .i64 x83))] h (kFun prog Tryz.f56 Q) := by kernel_rfl
theorem G_der_OidOf.i3 {Q : AV → AHeap → Prop} {x2 : AV} {x9 : AV} {x11 : Int} {x12 : Int} {x81 : AV} {x82 : Int} {x83 : Int} {h : AHeap} (H : G_der_OidOf.t3 (G_der_OidOf.J Q) Q x2 x9 x11 x12 x81 x82 x83 h) : G_der_OidOf.p3 Q x2 x9 x11 x12 x81 x82 x83 h := G_der_OidOf.goH (k := 4) (p := [1, 1, 1, 1, 1, 1, 0, 1, 0, 0, 1, 1, 0, 0, 1, 1, 0, 0]) (by kernel_rfl) ((G_der_OidOf.t3_eq (G_der_OidOf.J Q) Q x2 x9 x11 x12 x81 x82 x83 h).mp H)
def G_der_OidOf.t4 (J : JT) (Q : AV → AHeap → Prop) (x2 : AV) (x9 : AV) (x11 : Int) (x12 : Int) (x81 : AV) (x82 : Int) (x83 : Int) (h : AHeap) : Prop :=
(bif (decide ((0 : Int) < x12)) then
(withI (IntKind.wrap .i64 (7 * x12)) fun n122 =>
pShr .i64 x11 n122 fun n123 =>
withI (bitsOp .and .i64 n123 127) fun n124 =>
withI (bitsOp .or .i64 n124 128) fun n125 =>
pBuildSl 1 1 [(AV.i .u8 0)] [(0, 1, (AV.i .u8 (IntKind.wrap .u8 n125)))] h fun v126 h127 =>
pAppend (some 5) 1 1 x9 v126 h127 fun v128 h129 =>
withI (IntKind.wrap .i64 (x12 - 1)) fun n131 =>
J 5 [(2, x2), (9, v128), (11, (AV.i .i64 x11)), (12, (AV.i .i64 n131)), (81, x81), (82, (AV.i .i64 x82)), (83, (AV.i .i64 x83))] h129)
else
(withI (bitsOp .and .i64 x11 127) fun n133 =>
pBuildSl 1 1 [(AV.i .u8 0)] [(0, 1, (AV.i .u8 (IntKind.wrap .u8 n133)))] h fun v134 h135 =>
pAppend (some 5) 1 1 x9 v134 h135 fun v136 h137 =>
withI (IntKind.wrap .i64 (x83 + 1)) fun n139 =>
J 3 [(2, x2), (9, v136), (81, x81), (82, (AV.i .i64 x82)), (83, (AV.i .i64 n139))] h137))
theorem G_der_OidOf.t4_eq (J : JT) (Q : AV → AHeap → Prop) (x2 : AV) (x9 : AV) (x11 : Int) (x12 : Int) (x81 : AV) (x82 : Int) (x83 : Int) (h : AHeap) : G_der_OidOf.t4 J Q x2 x9 x11 x12 x81 x82 x83 h = atJ prog C 119 J true [1, 1, 1, 1, 1, 1, 0, 1, 0, 0, 1, 1, 0, 0, 1, 1, 1, 0, 0] G_der_OidOf.ann G_der_OidOf.body [(2, x2), (9, x9), (11, (AV.i .i64 x11)), (12, (AV.i .i64 x12)), (81, x81), (82, (AV.i .i64 x82)), (83, (AV.i .i64 x83))] h (kFun prog Tryz.f56 Q) := by kernel_rfl
theorem G_der_OidOf.i4 {Q : AV → AHeap → Prop} {x2 : AV} {x9 : AV} {x11 : Int} {x12 : Int} {x81 : AV} {x82 : Int} {x83 : Int} {h : AHeap} (H : G_der_OidOf.t4 (G_der_OidOf.J Q) Q x2 x9 x11 x12 x81 x82 x83 h) : G_der_OidOf.p4 Q x2 x9 x11 x12 x81 x82 x83 h := G_der_OidOf.goH (k := 5) (p := [1, 1, 1, 1, 1, 1, 0, 1, 0, 0, 1, 1, 0, 0, 1, 1, 1, 0, 0]) (by kernel_rfl) ((G_der_OidOf.t4_eq (G_der_OidOf.J Q) Q x2 x9 x11 x12 x81 x82 x83 h).mp H)
def G_der_OidOf.t2 (J : JT) (Q : AV → AHeap → Prop) (x2 : AV) (x9 : AV) (x81 : AV) (x82 : Int) (x83 : Int) (h : AHeap) : Prop :=
(bif (decide ((x83 : Int) < x82)) then
(pIdxAddrSl 1 x81 (AV.i .i64 x83) h fun v106 =>
pLoad1 v106 h fun v107 =>
asI .i64 v107 fun n108 =>
J 4 [(2, x2), (9, x9), (11, (AV.i .i64 n108)), (12, (AV.i .i64 0)), (81, x81), (82, (AV.i .i64 x82)), (83, (AV.i .i64 x83))] h)
else
(pBytesStr x9 h fun l141 =>
pStore 5 x2 (AV.ag [(AV.i .i64 0), (AV.i .i64 6), (AV.b false), (AV.s l141), (AV.sl none 0 none)]) h fun h142 =>
pLoadN 5 x2 h142 fun v144 =>
Q (AV.tu [v144, (AV.i .i64 0)]) h142))
theorem G_der_OidOf.t2_eq (J : JT) (Q : AV → AHeap → Prop) (x2 : AV) (x9 : AV) (x81 : AV) (x82 : Int) (x83 : Int) (h : AHeap) : G_der_OidOf.t2 J Q x2 x9 x81 x82 x83 h = atJ prog C 119 J true [1, 1, 1, 1, 1, 1, 0, 1, 0] G_der_OidOf.ann G_der_OidOf.body [(2, x2), (9, x9), (81, x81), (82, (AV.i .i64 x82)), (83, (AV.i .i64 x83))] h (kFun prog Tryz.f56 Q) := by kernel_rfl
theorem G_der_OidOf.i2 {Q : AV → AHeap → Prop} {x2 : AV} {x9 : AV} {x81 : AV} {x82 : Int} {x83 : Int} {h : AHeap} (H : G_der_OidOf.t2 (G_der_OidOf.J Q) Q x2 x9 x81 x82 x83 h) : G_der_OidOf.p2 Q x2 x9 x81 x82 x83 h := G_der_OidOf.goH (k := 3) (p := [1, 1, 1, 1, 1, 1, 0, 1, 0]) (by kernel_rfl) ((G_der_OidOf.t2_eq (G_der_OidOf.J Q) Q x2 x9 x81 x82 x83 h).mp H)
def G_der_OidOf.t (J : JT) (Q : AV → AHeap → Prop) (x0 : List UInt8) (h : AHeap) : Prop :=
pAlloc (some 65) [(AV.i .i64 0), (AV.i .i64 0), (AV.b false), (AV.s []), (AV.sl none 0 none)] h fun v0 h1 =>
(bif (decide ((256 : Int) < (x0.length : Int))) then
(pStore 5 v0 (AV.ag [(AV.i .i64 0), (AV.i .i64 0), (AV.b false), (AV.s []), (AV.sl none 0 none)]) h1 fun h4 =>
pLoadN 5 v0 h4 fun v6 =>
Q (AV.tu [v6, (AV.i .i64 3)]) h4)
else
(C G_strings_Split.id [(AV.s x0), (AV.s [46])] h1 fun v9 h10 =>
pLenSl v9 fun n11 =>
J 1 [(2, v0), (4, (AV.sl none 0 none)), (18, v9), (19, (AV.i .i64 n11)), (20, (AV.i .i64 0))] h10))
theorem G_der_OidOf.t_eq (J : JT) (Q : AV → AHeap → Prop) (x0 : List UInt8) (h : AHeap) : G_der_OidOf.t J Q x0 h = exJ prog C 119 J G_der_OidOf.ann G_der_OidOf.body (initEnv 0 [(AV.s x0)]) h (kFun prog Tryz.f56 Q) := by kernel_rfl
theorem G_der_OidOf.call {K : AV → AHeap → Prop} {x0 : List UInt8} {h : AHeap} (H : G_der_OidOf.t (G_der_OidOf.J (kRet h K)) (kRet h K) x0 h) : C G_der_OidOf.id [(AV.s x0)] h K :=
  callJ (P := prog) (fn := Tryz.f56) (ann := G_der_OidOf.ann) (body := G_der_OidOf.body) Tryz.func56 G_der_OidOf.body_eq (by kernel_rfl) G_der_OidOf.dist (by kernel_rfl) ((G_der_OidOf.t_eq (G_der_OidOf.J (kRet h K)) (kRet h K) x0 h).mp H)

--@@ G_certificate_shape_value
/-! ### 57: (intrusion/certificate.shape).value -/
noncomputable def G_certificate_shape_value.body : Code := (Tryz.f57.body).getD .skip
def G_certificate_shape_value.ann : Ann := (.seq 0 [1, 2, 4] .leaf (.seq 0 [4] .leaf .leaf))
theorem G_certificate_shape_value.body_eq : Tryz.f57.body = some G_certificate_shape_value.body := by kernel_rfl
theorem G_certificate_shape_value.dist : noTwice (places G_certificate_shape_value.ann G_certificate_shape_value.body) = true := by kernel_rfl
noncomputable def G_certificate_shape_value.J (Q : AV → AHeap → Prop) : JT := funJ prog C Tryz.f57 G_certificate_shape_value.ann G_certificate_shape_value.body Q
theorem G_certificate_shape_value.goR {Q : AV → AHeap → Prop} {k : Nat} {p : List Nat} (hl : lookJ (places G_certificate_shape_value.ann G_certificate_shape_value.body) k = some (p, false)) {e : Env} {h : AHeap} (hk : atJ prog C 11 (G_certificate_shape_value.J Q) false p G_certificate_shape_value.ann G_certificate_shape_value.body e h (kFun prog Tryz.f57 Q)) : G_certificate_shape_value.J Q k e h := goJ_run (P := prog) (fn := Tryz.f57) (ann := G_certificate_shape_value.ann) (body := G_certificate_shape_value.body) (Q := Q) (k := k) (p := p) (e := e) (h := h) (acall_le X) G_certificate_shape_value.dist hl hk
theorem G_certificate_shape_value.goH {Q : AV → AHeap → Prop} {k : Nat} {p : List Nat} (hl : lookJ (places G_certificate_shape_value.ann G_certificate_shape_value.body) k = some (p, true)) {e : Env} {h : AHeap} (hk : atJ prog C 11 (G_certificate_shape_value.J Q) true p G_certificate_shape_value.ann G_certificate_shape_value.body e h (kFun prog Tryz.f57 Q)) : G_certificate_shape_value.J Q k e h := goJ_head (P := prog) (fn := Tryz.f57) (ann := G_certificate_shape_value.ann) (body := G_certificate_shape_value.body) (Q := Q) (k := k) (p := p) (e := e) (h := h) (acall_le X) G_certificate_shape_value.dist hl hk
def G_certificate_shape_value.t (J : JT) (Q : AV → AHeap → Prop) (x0 : AV) (x1 : List UInt8) (h : AHeap) : Prop :=
pBox (some 78) x0 h fun v0 h1 =>
pAlloc (some 65) [(AV.i .i64 0), (AV.i .i64 0), (AV.b false), (AV.s []), (AV.sl none 0 none)] h1 fun v2 h3 =>
pFieldAddr 0 v0 fun v5 =>
pLoad1 v5 h3 fun v6 =>
asI .i64 v6 fun n7 =>
pFieldAddr 1 v0 fun v8 =>
pLoad1 v8 h3 fun v9 =>
asI .i64 v9 fun n10 =>
pStore 5 v2 (AV.ag [(AV.i .i64 n7), (AV.i .i64 n10), (AV.b false), (AV.s x1), (AV.sl none 0 none)]) h3 fun h11 =>
pLoadN 5 v2 h11 fun v13 =>
Q v13 h11
theorem G_certificate_shape_value.t_eq (J : JT) (Q : AV → AHeap → Prop) (x0 : AV) (x1 : List UInt8) (h : AHeap) : G_certificate_shape_value.t J Q x0 x1 h = exJ prog C 11 J G_certificate_shape_value.ann G_certificate_shape_value.body (initEnv 0 [x0, (AV.s x1)]) h (kFun prog Tryz.f57 Q) := by kernel_rfl
theorem G_certificate_shape_value.call {K : AV → AHeap → Prop} {x0 : AV} {x1 : List UInt8} {h : AHeap} (H : G_certificate_shape_value.t (G_certificate_shape_value.J (kRet h K)) (kRet h K) x0 x1 h) : C G_certificate_shape_value.id [x0, (AV.s x1)] h K :=
  callJ (P := prog) (fn := Tryz.f57) (ann := G_certificate_shape_value.ann) (body := G_certificate_shape_value.body) Tryz.func57 G_certificate_shape_value.body_eq (by kernel_rfl) G_certificate_shape_value.dist (by kernel_rfl) ((G_certificate_shape_value.t_eq (G_certificate_shape_value.J (kRet h K)) (kRet h K) x0 x1 h).mp H)

--@@ G_certificate_Name
/-! ### 58: intrusion/certificate.Name -/
noncomputable def G_certificate_Name.body : Code := (Tryz.f58.body).getD .skip
def G_certificate_Name.ann : Ann := (.seq 0 [1] .leaf (.seq 0 [4, 5] .leaf (.seq 0 [4, 5, 6] .leaf (.seq 0 [5, 6] (.seq 0 [5, 6, 24, 25, 26] .leaf (.one (.loop 1 [5, 6, 24, 25, 26] (.seq 0 [5, 6, 24, 25, 26, 27] .leaf (.seq 0 [5, 6, 24, 25, 26] (.br .leaf .leaf) (.seq 0 [5, 6, 24, 25, 26] (.one (.seq 0 [5, 6, 8, 24, 25, 26] .leaf (.seq 0 [5, 6, 9, 10, 24, 25, 26] .leaf (.seq 0 [5, 6, 9, 24, 25, 26] (.seq 0 [5, 6, 9, 24, 25, 26, 37] .leaf (.br (.seq 0 [2, 3] .leaf .leaf) .leaf)) (.seq 0 [5, 6, 10, 11, 24, 25, 26] (.ord (.neu 0 (.neu 1 (.neu 2 (.neu 3 (.eff 4 (.neu 5 (.neu 6 (.neu 7 (.neu 8 (.neu 9 .done))))) .stop)))))) (.seq 0 [5, 6, 11, 24, 25, 26] (.seq 0 [5, 6, 11, 24, 25, 26, 47] .leaf (.br (.seq 0 [2, 3] .leaf .leaf) .leaf)) (.seq 0 [5, 6, 10, 11, 12, 24, 25, 26] .leaf (.seq 0 [5, 6, 10, 12, 13, 14, 24, 25, 26] .leaf (.seq 0 [5, 6, 10, 12, 13, 14, 15, 24, 25, 26] .leaf (.seq 0 [5, 6, 10, 13, 14, 15, 24, 25, 26] (.seq 0 [5, 6, 10, 12, 13, 14, 15, 24, 25, 26, 62, 63, 64] .leaf (.one (.loop 2 [5, 6, 10, 12, 13, 14, 15, 24, 25, 26, 62, 63, 64] (.seq 0 [5, 6, 10, 12, 13, 14, 15, 24, 25, 26, 62, 63, 64, 65] .leaf (.seq 0 [5, 6, 10, 12, 13, 14, 15, 24, 25, 26, 62, 63, 64] (.br .leaf .leaf) (.seq 3 [5, 6, 10, 12, 13, 14, 15, 24, 25, 26, 62, 63, 64] (.one (.seq 0 [5, 6, 10, 12, 13, 14, 15, 17, 24, 25, 26, 62, 63, 64] .leaf (.seq 0 [5, 6, 10, 12, 13, 14, 15, 17, 24, 25, 26, 62, 63, 64, 71] .leaf (.br .leaf .leaf)))) .leaf)))))) (.seq 0 [5, 6, 13, 15, 24, 25, 26] (.seq 4 [5, 6, 13, 15, 24, 25, 26, 84] .leaf (.br (.seq 0 [2, 3] .leaf .leaf) .leaf)) .leaf))))))))))) .leaf)))))) (.seq 0 [6] (.seq 0 [6, 97] .leaf (.br (.seq 0 [2, 3] .leaf .leaf) .leaf)) (.seq 0 [2, 3] .leaf .leaf))))))
theorem G_certificate_Name.body_eq : Tryz.f58.body = some G_certificate_Name.body := by kernel_rfl
theorem G_certificate_Name.dist : noTwice (places G_certificate_Name.ann G_certificate_Name.body) = true := by kernel_rfl
noncomputable def G_certificate_Name.J (Q : AV → AHeap → Prop) : JT := funJ prog C Tryz.f58 G_certificate_Name.ann G_certificate_Name.body Q
theorem G_certificate_Name.goR {Q : AV → AHeap → Prop} {k : Nat} {p : List Nat} (hl : lookJ (places G_certificate_Name.ann G_certificate_Name.body) k = some (p, false)) {e : Env} {h : AHeap} (hk : atJ prog C 100 (G_certificate_Name.J Q) false p G_certificate_Name.ann G_certificate_Name.body e h (kFun prog Tryz.f58 Q)) : G_certificate_Name.J Q k e h := goJ_run (P := prog) (fn := Tryz.f58) (ann := G_certificate_Name.ann) (body := G_certificate_Name.body) (Q := Q) (k := k) (p := p) (e := e) (h := h) (acall_le X) G_certificate_Name.dist hl hk
theorem G_certificate_Name.goH {Q : AV → AHeap → Prop} {k : Nat} {p : List Nat} (hl : lookJ (places G_certificate_Name.ann G_certificate_Name.body) k = some (p, true)) {e : Env} {h : AHeap} (hk : atJ prog C 100 (G_certificate_Name.J Q) true p G_certificate_Name.ann G_certificate_Name.body e h (kFun prog Tryz.f58 Q)) : G_certificate_Name.J Q k e h := goJ_head (P := prog) (fn := Tryz.f58) (ann := G_certificate_Name.ann) (body := G_certificate_Name.body) (Q := Q) (k := k) (p := p) (e := e) (h := h) (acall_le X) G_certificate_Name.dist hl hk
def G_certificate_Name.p2 (Q : AV → AHeap → Prop) (x5 : Bool) (x6 : AV) (x10 : Bool) (x12 : List UInt8) (x13 : List UInt8) (x14 : Bool) (x15 : List UInt8) (x24 : AV) (x25 : Int) (x26 : Int) (x62 : AV) (x63 : Int) (x64 : Int) (h : AHeap) : Prop := G_certificate_Name.J Q 3 [(5, (AV.b x5)), (6, x6), (10, (AV.b x10)), (12, (AV.s x12)), (13, (AV.s x13)), (14, (AV.b x14)), (15, (AV.s x15)), (24, x24), (25, (AV.i .i64 x25)), (26, (AV.i .i64 x26)), (62, x62), (63, (AV.i .i64 x63)), (64, (AV.i .i64 x64))] h
theorem G_certificate_Name.j2 (Q : AV → AHeap → Prop) (x5 : Bool) (x6 : AV) (x10 : Bool) (x12 : List UInt8) (x13 : List UInt8) (x14 : Bool) (x15 : List UInt8) (x24 : AV) (x25 : Int) (x26 : Int) (x62 : AV) (x63 : Int) (x64 : Int) (h : AHeap) : G_certificate_Name.J Q 3 [(5, (AV.b x5)), (6, x6), (10, (AV.b x10)), (12, (AV.s x12)), (13, (AV.s x13)), (14, (AV.b x14)), (15, (AV.s x15)), (24, x24), (25, (AV.i .i64 x25)), (26, (AV.i .i64 x26)), (62, x62), (63, (AV.i .i64 x63)), (64, (AV.i .i64 x64))] h = G_certificate_Name.p2 Q x5 x6 x10 x12 x13 x14 x15 x24 x25 x26 x62 x63 x64 h := rfl
def G_certificate_Name.p1 (Q : AV → AHeap → Prop) (x5 : Bool) (x6 : AV) (x10 : Bool) (x12 : List UInt8) (x13 : List UInt8) (x14 : Bool) (x15 : List UInt8) (x24 : AV) (x25 : Int) (x26 : Int) (x62 : AV) (x63 : Int) (x64 : Int) (h : AHeap) : Prop := G_certificate_Name.J Q 2 [(5, (AV.b x5)), (6, x6), (10, (AV.b x10)), (12, (AV.s x12)), (13, (AV.s x13)), (14, (AV.b x14)), (15, (AV.s x15)), (24, x24), (25, (AV.i .i64 x25)), (26, (AV.i .i64 x26)), (62, x62), (63, (AV.i .i64 x63)), (64, (AV.i .i64 x64))] h
theorem G_certificate_Name.j1 (Q : AV → AHeap → Prop) (x5 : Bool) (x6 : AV) (x10 : Bool) (x12 : List UInt8) (x13 : List UInt8) (x14 : Bool) (x15 : List UInt8) (x24 : AV) (x25 : Int) (x26 : Int) (x62 : AV) (x63 : Int) (x64 : Int) (h : AHeap) : G_certificate_Name.J Q 2 [(5, (AV.b x5)), (6, x6), (10, (AV.b x10)), (12, (AV.s x12)), (13, (AV.s x13)), (14, (AV.b x14)), (15, (AV.s x15)), (24, x24), (25, (AV.i .i64 x25)), (26, (AV.i .i64 x26)), (62, x62), (63, (AV.i .i64 x63)), (64, (AV.i .i64 x64))] h = G_certificate_Name.p1 Q x5 x6 x10 x12 x13 x14 x15 x24 x25 x26 x62 x63 x64 h := rfl
def G_certificate_Name.p3 (Q : AV → AHeap → Prop) (x5 : Bool) (x6 : AV) (x13 : List UInt8) (x15 : List UInt8) (x24 : AV) (x25 : Int) (x26 : Int) (x84 : Bool) (h : AHeap) : Prop := G_certificate_Name.J Q 4 [(5, (AV.b x5)), (6, x6), (13, (AV.s x13)), (15, (AV.s x15)), (24, x24), (25, (AV.i .i64 x25)), (26, (AV.i .i64 x26)), (84, (AV.b x84))] h
theorem G_certificate_Name.j3 (Q : AV → AHeap → Prop) (x5 : Bool) (x6 : AV) (x13 : List UInt8) (x15 : List UInt8) (x24 : AV) (x25 : Int) (x26 : Int) (x84 : Bool) (h : AHeap) : G_certificate_Name.J Q 4 [(5, (AV.b x5)), (6, x6), (13, (AV.s x13)), (15, (AV.s x15)), (24, x24), (25, (AV.i .i64 x25)), (26, (AV.i .i64 x26)), (84, (AV.b x84))] h = G_certificate_Name.p3 Q x5 x6 x13 x15 x24 x25 x26 x84 h := rfl
def G_certificate_Name.p0 (Q : AV → AHeap → Prop) (x5 : Bool) (x6 : AV) (x24 : AV) (x25 : Int) (x26 : Int) (h : AHeap) : Prop := G_certificate_Name.J Q 1 [(5, (AV.b x5)), (6, x6), (24, x24), (25, (AV.i .i64 x25)), (26, (AV.i .i64 x26))] h
theorem G_certificate_Name.j0 (Q : AV → AHeap → Prop) (x5 : Bool) (x6 : AV) (x24 : AV) (x25 : Int) (x26 : Int) (h : AHeap) : G_certificate_Name.J Q 1 [(5, (AV.b x5)), (6, x6), (24, x24), (25, (AV.i .i64 x25)), (26, (AV.i .i64 x26))] h = G_certificate_Name.p0 Q x5 x6 x24 x25 x26 h := rfl
def G_certificate_Name.t2 (J : JT) (Q : AV → AHeap → Prop) (x5 : Bool) (x6 : AV) (x10 : Bool) (x12 : List UInt8) (x13 : List UInt8) (x14 : Bool) (x15 : List UInt8) (x24 : AV) (x25 : Int) (x26 : Int) (x62 : AV) (x63 : Int) (x64 : Int) (h : AHeap) : Prop :=
withI (IntKind.wrap .i64 (x64 + 1)) fun n87 =>
J 2 [(5, (AV.b x5)), (6, x6), (10, (AV.b x10)), (12, (AV.s x12)), (13, (AV.s x13)), (14, (AV.b x14)), (15, (AV.s x15)), (24, x24), (25, (AV.i .i64 x25)), (26, (AV.i .i64 x26)), (62, x62), (63, (AV.i .i64 x63)), (64, (AV.i .i64 n87))] h
theorem G_certificate_Name.t2_eq (J : JT) (Q : AV → AHeap → Prop) (x5 : Bool) (x6 : AV) (x10 : Bool) (x12 : List UInt8) (x13 : List UInt8) (x14 : Bool) (x15 : List UInt8) (x24 : AV) (x25 : Int) (x26 : Int) (x62 : AV) (x63 : Int) (x64 : Int) (h : AHeap) : G_certificate_Name.t2 J Q x5 x6 x10 x12 x13 x14 x15 x24 x25 x26 x62 x63 x64 h = atJ prog C 100 J false [1, 1, 1, 0, 1, 0, 0, 1, 1, 0, 0, 1, 1, 1, 1, 1, 1, 1, 1, 0, 1, 0, 0, 1, 1, 1] G_certificate_Name.ann G_certificate_Name.body [(5, (AV.b x5)), (6, x6), (10, (AV.b x10)), (12, (AV.s x12)), (13, (AV.s x13)), (14, (AV.b x14)), (15, (AV.s x15)), (24, x24), (25, (AV.i .i64 x25)), (26, (AV.i .i64 x26)), (62, x62), (63, (AV.i .i64 x63)), (64, (AV.i .i64 x64))] h (kFun prog Tryz.f58 Q) := by kernel_rfl
theorem G_certificate_Name.i2 {Q : AV → AHeap → Prop} {x5 : Bool} {x6 : AV} {x10 : Bool} {x12 : List UInt8} {x13 : List UInt8} {x14 : Bool} {x15 : List UInt8} {x24 : AV} {x25 : Int} {x26 : Int} {x62 : AV} {x63 : Int} {x64 : Int} {h : AHeap} (H : G_certificate_Name.t2 (G_certificate_Name.J Q) Q x5 x6 x10 x12 x13 x14 x15 x24 x25 x26 x62 x63 x64 h) : G_certificate_Name.p2 Q x5 x6 x10 x12 x13 x14 x15 x24 x25 x26 x62 x63 x64 h := G_certificate_Name.goR (k := 3) (p := [1, 1, 1, 0, 1, 0, 0, 1, 1, 0, 0, 1, 1, 1, 1, 1, 1, 1, 1, 0, 1, 0, 0, 1, 1, 1]) (by kernel_rfl) ((G_certificate_Name.t2_eq (G_certificate_Name.J Q) Q x5 x6 x10 x12 x13 x14 x15 x24 x25 x26 x62 x63 x64 h).mp H)
def G_certificate_Name.t1 (J : JT) (Q : AV → AHeap → Prop) (x5 : Bool) (x6 : AV) (x10 : Bool) (x12 : List UInt8) (x13 : List UInt8) (x14 : Bool) (x15 : List UInt8) (x24 : AV) (x25 : Int) (x26 : Int) (x62 : AV) (x63 : Int) (x64 : Int) (h : AHeap) : Prop :=
(bif (decide ((x64 : Int) < x63)) then
(pIdxAddrSl 2 x62 (AV.i .i64 x64) h fun v72 =>
pLoadN 2 v72 h fun v73 =>
pAlloc (some 82) [(AV.s []), (AV.s [])] h fun v74 h75 =>
pStore 2 v74 v73 h75 fun h76 =>
pFieldAddr 1 v74 fun v78 =>
pLoad1 v78 h76 fun v79 =>
asS v79 fun l80 =>
(bif (decide ((l80 : List UInt8) = x12)) then
(pFieldAddr 0 v74 fun v82 =>
pLoad1 v82 h76 fun v83 =>
asS v83 fun l84 =>
J 3 [(5, (AV.b x5)), (6, x6), (10, (AV.b x10)), (12, (AV.s x12)), (13, (AV.s x13)), (14, (AV.b x14)), (15, (AV.s l84)), (24, x24), (25, (AV.i .i64 x25)), (26, (AV.i .i64 x26)), (62, x62), (63, (AV.i .i64 x63)), (64, (AV.i .i64 x64))] h76)
else
(J 3 [(5, (AV.b x5)), (6, x6), (10, (AV.b x10)), (12, (AV.s x12)), (13, (AV.s x13)), (14, (AV.b x14)), (15, (AV.s x15)), (24, x24), (25, (AV.i .i64 x25)), (26, (AV.i .i64 x26)), (62, x62), (63, (AV.i .i64 x63)), (64, (AV.i .i64 x64))] h76)))
else
((bif (!x10) then
(J 4 [(5, (AV.b x5)), (6, x6), (13, (AV.s x13)), (15, (AV.s x15)), (24, x24), (25, (AV.i .i64 x25)), (26, (AV.i .i64 x26)), (84, (AV.b true))] h)
else
((bif (!x14) then
(J 4 [(5, (AV.b x5)), (6, x6), (13, (AV.s x13)), (15, (AV.s x15)), (24, x24), (25, (AV.i .i64 x25)), (26, (AV.i .i64 x26)), (84, (AV.b true))] h)
else
(J 4 [(5, (AV.b x5)), (6, x6), (13, (AV.s x13)), (15, (AV.s x15)), (24, x24), (25, (AV.i .i64 x25)), (26, (AV.i .i64 x26)), (84, (AV.b (decide ((x15 : List UInt8) = []))))] h))))))
theorem G_certificate_Name.t1_eq (J : JT) (Q : AV → AHeap → Prop) (x5 : Bool) (x6 : AV) (x10 : Bool) (x12 : List UInt8) (x13 : List UInt8) (x14 : Bool) (x15 : List UInt8) (x24 : AV) (x25 : Int) (x26 : Int) (x62 : AV) (x63 : Int) (x64 : Int) (h : AHeap) : G_certificate_Name.t1 J Q x5 x6 x10 x12 x13 x14 x15 x24 x25 x26 x62 x63 x64 h = atJ prog C 100 J true [1, 1, 1, 0, 1, 0, 0, 1, 1, 0, 0, 1, 1, 1, 1, 1, 1, 1, 1, 0, 1, 0] G_certificate_Name.ann G_certificate_Name.body [(5, (AV.b x5)), (6, x6), (10, (AV.b x10)), (12, (AV.s x12)), (13, (AV.s x13)), (14, (AV.b x14)), (15, (AV.s x15)), (24, x24), (25, (AV.i .i64 x25)), (26, (AV.i .i64 x26)), (62, x62), (63, (AV.i .i64 x63)), (64, (AV.i .i64 x64))] h (kFun prog Tryz.f58 Q) := by kernel_rfl
theorem G_certificate_Name.i1 {Q : AV → AHeap → Prop} {x5 : Bool} {x6 : AV} {x10 : Bool} {x12 : List UInt8} {x13 : List UInt8} {x14 : Bool} {x15 : List UInt8} {x24 : AV} {x25 : Int} {x26 : Int} {x62 : AV} {x63 : Int} {x64 : Int} {h : AHeap} (H : G_certificate_Name.t1 (G_certificate_Name.J Q) Q x5 x6 x10 x12 x13 x14 x15 x24 x25 x26 x62 x63 x64 h) : G_certificate_Name.p1 Q x5 x6 x10 x12 x13 x14 x15 x24 x25 x26 x62 x63 x64 h := G_certificate_Name.goH (k := 2) (p := [1, 1, 1, 0, 1, 0, 0, 1, 1, 0, 0, 1, 1, 1, 1, 1, 1, 1, 1, 0, 1, 0]) (by kernel_rfl) ((G_certificate_Name.t1_eq (G_certificate_Name.J Q) Q x5 x6 x10 x12 x13 x14 x15 x24 x25 x26 x62 x63 x64 h).mp H)
def G_certificate_Name.t3 (J : JT) (Q : AV → AHeap → Prop) (x5 : Bool) (x6 : AV) (x13 : List UInt8) (x15 : List UInt8) (x24 : AV) (x25 : Int) (x26 : Int) (x84 : Bool) (h : AHeap) : Prop :=
(bif x84 then
(Q (AV.tu [(AV.s []), (AV.i .i64 2)]) h)
else
(pCat x15 [61] fun l94 =>
pBuildSl 1 6 [(AV.s []), (AV.s []), (AV.s []), (AV.s []), (AV.s []), (AV.s [])] [(0, 1, (AV.s [92])), (1, 1, (AV.s [92, 92])), (2, 1, (AV.s [44])), (3, 1, (AV.s [92, 44])), (4, 1, (AV.s [61])), (5, 1, (AV.s [92, 61]))] h fun v95 h96 =>
C G_strings_NewReplacer.id [v95] h96 fun v97 h98 =>
C G_strings_Replacer_Replace.id [v97, (AV.s x13)] h98 fun v99 h100 =>
asS v99 fun l101 =>
pCat l94 l101 fun l102 =>
pBuildSl 1 1 [(AV.s [])] [(0, 1, (AV.s l102))] h100 fun v103 h104 =>
pAppend none 1 16 x6 v103 h104 fun v105 h106 =>
withI (IntKind.wrap .i64 (x26 + 1)) fun n108 =>
J 1 [(5, (AV.b x5)), (6, v105), (24, x24), (25, (AV.i .i64 x25)), (26, (AV.i .i64 n108))] h106))
theorem G_certificate_Name.t3_eq (J : JT) (Q : AV → AHeap → Prop) (x5 : Bool) (x6 : AV) (x13 : List UInt8) (x15 : List UInt8) (x24 : AV) (x25 : Int) (x26 : Int) (x84 : Bool) (h : AHeap) : G_certificate_Name.t3 J Q x5 x6 x13 x15 x24 x25 x26 x84 h = atJ prog C 100 J false [1, 1, 1, 0, 1, 0, 0, 1, 1, 0, 0, 1, 1, 1, 1, 1, 1, 1, 1, 1, 0, 1] G_certificate_Name.ann G_certificate_Name.body [(5, (AV.b x5)), (6, x6), (13, (AV.s x13)), (15, (AV.s x15)), (24, x24), (25, (AV.i .i64 x25)), (26, (AV.i .i64 x26)), (84, (AV.b x84))] h (kFun prog Tryz.f58 Q) := by kernel_rfl
theorem G_certificate_Name.i3 {Q : AV → AHeap → Prop} {x5 : Bool} {x6 : AV} {x13 : List UInt8} {x15 : List UInt8} {x24 : AV} {x25 : Int} {x26 : Int} {x84 : Bool} {h : AHeap} (H : G_certificate_Name.t3 (G_certificate_Name.J Q) Q x5 x6 x13 x15 x24 x25 x26 x84 h) : G_certificate_Name.p3 Q x5 x6 x13 x15 x24 x25 x26 x84 h := G_certificate_Name.goR (k := 4) (p := [1, 1, 1, 0, 1, 0, 0, 1, 1, 0, 0, 1, 1, 1, 1, 1, 1, 1, 1, 1, 0, 1]) (by kernel_rfl) ((G_certificate_Name.t3_eq (G_certificate_Name.J Q) Q x5 x6 x13 x15 x24 x25 x26 x84 h).mp H)
def G_certificate_Name.t0 (J : JT) (Q : AV → AHeap → Prop) (x5 : Bool) (x6 : AV) (x24 : AV) (x25 : Int) (x26 : Int) (h : AHeap) : Prop :=
(bif (decide ((x26 : Int) < x25)) then
(pIdxAddrSl 5 x24 (AV.i .i64 x26) h fun v17 =>
pLoadN 5 v17 h fun v18 =>
pAlloc (some 65) [(AV.i .i64 0), (AV.i .i64 0), (AV.b false), (AV.s []), (AV.sl none 0 none)] h fun v19 h20 =>
pStore 5 v19 v18 h20 fun h21 =>
pLoadN 3 (gvar h21 3) h21 fun v23 =>
pLoadN 5 v19 h21 fun v24 =>
C G_certificate_shape_list.id [v23, v24, (AV.i .i64 1)] h21 fun v25 h26 =>
pExtract 0 v25 fun v27 =>
pExtract 1 v25 fun v28 =>
asB v28 fun c29 =>
(bif (!c29) then
(Q (AV.tu [(AV.s []), (AV.i .i64 2)]) h26)
else
(pLoadN 3 (gvar h26 1) h26 fun v34 =>
pIdxAddrSl 5 v27 (AV.i .i64 0) h26 fun v35 =>
pLoadN 5 v35 h26 fun v36 =>
C G_certificate_shape_list.id [v34, v36, (AV.i .i64 2)] h26 fun v37 h38 =>
pIdxAddrSl 5 v27 (AV.i .i64 0) h38 fun v39 =>
(v35 = v39 ∧
(pExtract 0 v37 fun v40 =>
pExtract 1 v37 fun v41 =>
asB v41 fun c42 =>
(bif (!c42) then
(Q (AV.tu [(AV.s []), (AV.i .i64 2)]) h38)
else
(pIdxAddrSl 5 v40 (AV.i .i64 0) h38 fun v47 =>
pLoadN 5 v47 h38 fun v48 =>
C G_der_Oid.id [v48] h38 fun v49 h50 =>
pExtract 0 v49 fun v51 =>
asS v51 fun l52 =>
pExtract 1 v49 fun v53 =>
asB v53 fun c54 =>
pIdxAddrSl 5 v40 (AV.i .i64 1) h50 fun v56 =>
pLoadN 5 v56 h50 fun v57 =>
C G_der_Text.id [v57] h50 fun v58 h59 =>
pExtract 0 v58 fun v60 =>
asS v60 fun l61 =>
pExtract 1 v58 fun v62 =>
asB v62 fun c63 =>
pLoad1 (gvar h59 2) h59 fun v66 =>
pLenSl v66 fun n67 =>
J 2 [(5, (AV.b x5)), (6, x6), (10, (AV.b c54)), (12, (AV.s l52)), (13, (AV.s l61)), (14, (AV.b c63)), (15, (AV.s [])), (24, x24), (25, (AV.i .i64 x25)), (26, (AV.i .i64 x26)), (62, v66), (63, (AV.i .i64 n67)), (64, (AV.i .i64 0))] h59)))))))
else
((bif (!x5) then
(Q (AV.tu [(AV.s []), (AV.i .i64 2)]) h)
else
(C G_strings_Join.id [x6, (AV.s [44])] h fun v113 h114 =>
asS v113 fun l115 =>
Q (AV.tu [(AV.s l115), (AV.i .i64 0)]) h114))))
theorem G_certificate_Name.t0_eq (J : JT) (Q : AV → AHeap → Prop) (x5 : Bool) (x6 : AV) (x24 : AV) (x25 : Int) (x26 : Int) (h : AHeap) : G_certificate_Name.t0 J Q x5 x6 x24 x25 x26 h = atJ prog C 100 J true [1, 1, 1, 0, 1, 0] G_certificate_Name.ann G_certificate_Name.body [(5, (AV.b x5)), (6, x6), (24, x24), (25, (AV.i .i64 x25)), (26, (AV.i .i64 x26))] h (kFun prog Tryz.f58 Q) := by kernel_rfl
theorem G_certificate_Name.i0 {Q : AV → AHeap → Prop} {x5 : Bool} {x6 : AV} {x24 : AV} {x25 : Int} {x26 : Int} {h : AHeap} (H : G_certificate_Name.t0 (G_certificate_Name.J Q) Q x5 x6 x24 x25 x26 h) : G_certificate_Name.p0 Q x5 x6 x24 x25 x26 h := G_certificate_Name.goH (k := 1) (p := [1, 1, 1, 0, 1, 0]) (by kernel_rfl) ((G_certificate_Name.t0_eq (G_certificate_Name.J Q) Q x5 x6 x24 x25 x26 h).mp H)
def G_certificate_Name.t (J : JT) (Q : AV → AHeap → Prop) (x0 : AV) (h : AHeap) : Prop :=
pBox (some 65) x0 h fun v0 h1 =>
pLoadN 3 (gvar h1 1) h1 fun v3 =>
pLoadN 5 v0 h1 fun v4 =>
C G_certificate_shape_list.id [v3, v4, (AV.i .i64 (-1))] h1 fun v5 h6 =>
pExtract 0 v5 fun v7 =>
pExtract 1 v5 fun v8 =>
asB v8 fun c9 =>
pLenSl v7 fun n12 =>
J 1 [(5, (AV.b c9)), (6, (AV.sl none 0 none)), (24, v7), (25, (AV.i .i64 n12)), (26, (AV.i .i64 0))] h6
theorem G_certificate_Name.t_eq (J : JT) (Q : AV → AHeap → Prop) (x0 : AV) (h : AHeap) : G_certificate_Name.t J Q x0 h = exJ prog C 100 J G_certificate_Name.ann G_certificate_Name.body (initEnv 0 [x0]) h (kFun prog Tryz.f58 Q) := by kernel_rfl
theorem G_certificate_Name.call {K : AV → AHeap → Prop} {x0 : AV} {h : AHeap} (H : G_certificate_Name.t (G_certificate_Name.J (kRet h K)) (kRet h K) x0 h) : C G_certificate_Name.id [x0] h K :=
  callJ (P := prog) (fn := Tryz.f58) (ann := G_certificate_Name.ann) (body := G_certificate_Name.body) Tryz.func58 G_certificate_Name.body_eq (by kernel_rfl) G_certificate_Name.dist (by kernel_rfl) ((G_certificate_Name.t_eq (G_certificate_Name.J (kRet h K)) (kRet h K) x0 h).mp H)

--@@ G_strings_Builder_WriteByte
/-! ### 59: (*strings.Builder).WriteByte -/
noncomputable def G_strings_Builder_WriteByte.body : Code := (Tryz.f59.body).getD .skip
def G_strings_Builder_WriteByte.ann : Ann := (.seq 0 [0, 1] .leaf (.seq 0 [0, 1] .leaf (.seq 0 [] .leaf (.seq 0 [4] .leaf .leaf))))
theorem G_strings_Builder_WriteByte.body_eq : Tryz.f59.body = some G_strings_Builder_WriteByte.body := by kernel_rfl
theorem G_strings_Builder_WriteByte.dist : noTwice (places G_strings_Builder_WriteByte.ann G_strings_Builder_WriteByte.body) = true := by kernel_rfl
noncomputable def G_strings_Builder_WriteByte.J (Q : AV → AHeap → Prop) : JT := funJ prog C Tryz.f59 G_strings_Builder_WriteByte.ann G_strings_Builder_WriteByte.body Q
theorem G_strings_Builder_WriteByte.goR {Q : AV → AHeap → Prop} {k : Nat} {p : List Nat} (hl : lookJ (places G_strings_Builder_WriteByte.ann G_strings_Builder_WriteByte.body) k = some (p, false)) {e : Env} {h : AHeap} (hk : atJ prog C 17 (G_strings_Builder_WriteByte.J Q) false p G_strings_Builder_WriteByte.ann G_strings_Builder_WriteByte.body e h (kFun prog Tryz.f59 Q)) : G_strings_Builder_WriteByte.J Q k e h := goJ_run (P := prog) (fn := Tryz.f59) (ann := G_strings_Builder_WriteByte.ann) (body := G_strings_Builder_WriteByte.body) (Q := Q) (k := k) (p := p) (e := e) (h := h) (acall_le X) G_strings_Builder_WriteByte.dist hl hk
theorem G_strings_Builder_WriteByte.goH {Q : AV → AHeap → Prop} {k : Nat} {p : List Nat} (hl : lookJ (places G_strings_Builder_WriteByte.ann G_strings_Builder_WriteByte.body) k = some (p, true)) {e : Env} {h : AHeap} (hk : atJ prog C 17 (G_strings_Builder_WriteByte.J Q) true p G_strings_Builder_WriteByte.ann G_strings_Builder_WriteByte.body e h (kFun prog Tryz.f59 Q)) : G_strings_Builder_WriteByte.J Q k e h := goJ_head (P := prog) (fn := Tryz.f59) (ann := G_strings_Builder_WriteByte.ann) (body := G_strings_Builder_WriteByte.body) (Q := Q) (k := k) (p := p) (e := e) (h := h) (acall_le X) G_strings_Builder_WriteByte.dist hl hk
def G_strings_Builder_WriteByte.t (J : JT) (Q : AV → AHeap → Prop) (x0 : AV) (x1 : Int) (h : AHeap) : Prop :=
C G_strings_Builder_copyCheck.id [x0] h fun v1 h2 =>
pNil x0 fun v4 =>
pFieldAddr 1 v4 fun v5 =>
pLoad1 v5 h2 fun v6 =>
pBuildSl 1 1 [(AV.i .u8 0)] [(0, 1, (AV.i .u8 x1))] h2 fun v7 h8 =>
pAppend (some 5) 1 1 v6 v7 h8 fun v9 h10 =>
pNil x0 fun v11 =>
pFieldAddr 1 v11 fun v12 =>
pStore 1 v12 v9 h10 fun h13 =>
Q AV.ni h13
theorem G_strings_Builder_WriteByte.t_eq (J : JT) (Q : AV → AHeap → Prop) (x0 : AV) (x1 : Int) (h : AHeap) : G_strings_Builder_WriteByte.t J Q x0 x1 h = exJ prog C 17 J G_strings_Builder_WriteByte.ann G_strings_Builder_WriteByte.body (initEnv 0 [x0, (AV.i .u8 x1)]) h (kFun prog Tryz.f59 Q) := by kernel_rfl
theorem G_strings_Builder_WriteByte.call {K : AV → AHeap → Prop} {x0 : AV} {x1 : Int} {h : AHeap} (H : G_strings_Builder_WriteByte.t (G_strings_Builder_WriteByte.J (kRet h K)) (kRet h K) x0 x1 h) : C G_strings_Builder_WriteByte.id [x0, (AV.i .u8 x1)] h K :=
  callJ (P := prog) (fn := Tryz.f59) (ann := G_strings_Builder_WriteByte.ann) (body := G_strings_Builder_WriteByte.body) Tryz.func59 G_strings_Builder_WriteByte.body_eq (by kernel_rfl) G_strings_Builder_WriteByte.dist (by kernel_rfl) ((G_strings_Builder_WriteByte.t_eq (G_strings_Builder_WriteByte.J (kRet h K)) (kRet h K) x0 x1 h).mp H)

--@@ G_strings_Builder_String
/-! ### 60: (*strings.Builder).String -/
noncomputable def G_strings_Builder_String.body : Code := (Tryz.f60.body).getD .skip
def G_strings_Builder_String.ann : Ann := (.seq 0 [0] .leaf (.seq 0 [2] (.ord (.neu 0 (.neu 1 (.neu 2 (.neu 3 (.neu 5 (.neu 6 (.neu 7 (.neu 8 (.neu 9 (.eff 4 (.eff 10 (.neu 11 .done) .stop) .stop))))))))))) .leaf))
theorem G_strings_Builder_String.body_eq : Tryz.f60.body = some G_strings_Builder_String.body := by kernel_rfl
theorem G_strings_Builder_String.dist : noTwice (places G_strings_Builder_String.ann G_strings_Builder_String.body) = true := by kernel_rfl
noncomputable def G_strings_Builder_String.J (Q : AV → AHeap → Prop) : JT := funJ prog C Tryz.f60 G_strings_Builder_String.ann G_strings_Builder_String.body Q
theorem G_strings_Builder_String.goR {Q : AV → AHeap → Prop} {k : Nat} {p : List Nat} (hl : lookJ (places G_strings_Builder_String.ann G_strings_Builder_String.body) k = some (p, false)) {e : Env} {h : AHeap} (hk : atJ prog C 14 (G_strings_Builder_String.J Q) false p G_strings_Builder_String.ann G_strings_Builder_String.body e h (kFun prog Tryz.f60 Q)) : G_strings_Builder_String.J Q k e h := goJ_run (P := prog) (fn := Tryz.f60) (ann := G_strings_Builder_String.ann) (body := G_strings_Builder_String.body) (Q := Q) (k := k) (p := p) (e := e) (h := h) (acall_le X) G_strings_Builder_String.dist hl hk
theorem G_strings_Builder_String.goH {Q : AV → AHeap → Prop} {k : Nat} {p : List Nat} (hl : lookJ (places G_strings_Builder_String.ann G_strings_Builder_String.body) k = some (p, true)) {e : Env} {h : AHeap} (hk : atJ prog C 14 (G_strings_Builder_String.J Q) true p G_strings_Builder_String.ann G_strings_Builder_String.body e h (kFun prog Tryz.f60 Q)) : G_strings_Builder_String.J Q k e h := goJ_head (P := prog) (fn := Tryz.f60) (ann := G_strings_Builder_String.ann) (body := G_strings_Builder_String.body) (Q := Q) (k := k) (p := p) (e := e) (h := h) (acall_le X) G_strings_Builder_String.dist hl hk
def G_strings_Builder_String.t (J : JT) (Q : AV → AHeap → Prop) (x0 : AV) (h : AHeap) : Prop :=
pNil x0 fun v1 =>
pFieldAddr 1 v1 fun v2 =>
pLoad1 v2 h fun v3 =>
pNil x0 fun v4 =>
pFieldAddr 1 v4 fun v5 =>
pLoad1 v5 h fun v6 =>
pLenSl v6 fun n7 =>
pSliceData v3 h fun v8 h9 =>
pLoad1 v5 h9 fun v10 =>
(v6 = v10 ∧
(pUString prog v8 (AV.i .i64 n7) h9 fun v11 h12 =>
asS v11 fun l13 =>
pLoad1 v5 h12 fun v14 =>
(v6 = v14 ∧
(pLoad1 v2 h12 fun v15 =>
(v3 = v15 ∧
(Q (AV.s l13) h12))))))
theorem G_strings_Builder_String.t_eq (J : JT) (Q : AV → AHeap → Prop) (x0 : AV) (h : AHeap) : G_strings_Builder_String.t J Q x0 h = exJ prog C 14 J G_strings_Builder_String.ann G_strings_Builder_String.body (initEnv 0 [x0]) h (kFun prog Tryz.f60 Q) := by kernel_rfl
theorem G_strings_Builder_String.call {K : AV → AHeap → Prop} {x0 : AV} {h : AHeap} (H : G_strings_Builder_String.t (G_strings_Builder_String.J (kRet h K)) (kRet h K) x0 h) : C G_strings_Builder_String.id [x0] h K :=
  callJ (P := prog) (fn := Tryz.f60) (ann := G_strings_Builder_String.ann) (body := G_strings_Builder_String.body) Tryz.func60 G_strings_Builder_String.body_eq (by kernel_rfl) G_strings_Builder_String.dist (by kernel_rfl) ((G_strings_Builder_String.t_eq (G_strings_Builder_String.J (kRet h K)) (kRet h K) x0 h).mp H)

--@@ G_ref34_identifier
/-! ### 61: intrusion/intrusionref34.identifier -/
noncomputable def G_ref34_identifier.body : Code := (Tryz.f61.body).getD .skip
def G_ref34_identifier.ann : Ann := (.seq 0 [0] .leaf (.seq 0 [] (.seq 0 [4] .leaf (.one (.seq 0 [4, 5] .leaf (.br (.seq 0 [2, 3] .leaf .leaf) (.seq 0 [4, 7] .leaf (.br (.seq 0 [2, 3] .leaf .leaf) (.seq 0 [4, 9] .leaf (.br (.seq 0 [2, 3] .leaf .leaf) (.seq 0 [11] .leaf (.br (.seq 0 [2, 3] .leaf .leaf) .leaf)))))))))) (.seq 0 [2, 3] .leaf .leaf)))
theorem G_ref34_identifier.body_eq : Tryz.f61.body = some G_ref34_identifier.body := by kernel_rfl
theorem G_ref34_identifier.dist : noTwice (places G_ref34_identifier.ann G_ref34_identifier.body) = true := by kernel_rfl
noncomputable def G_ref34_identifier.J (Q : AV → AHeap → Prop) : JT := funJ prog C Tryz.f61 G_ref34_identifier.ann G_ref34_identifier.body Q
theorem G_ref34_identifier.goR {Q : AV → AHeap → Prop} {k : Nat} {p : List Nat} (hl : lookJ (places G_ref34_identifier.ann G_ref34_identifier.body) k = some (p, false)) {e : Env} {h : AHeap} (hk : atJ prog C 13 (G_ref34_identifier.J Q) false p G_ref34_identifier.ann G_ref34_identifier.body e h (kFun prog Tryz.f61 Q)) : G_ref34_identifier.J Q k e h := goJ_run (P := prog) (fn := Tryz.f61) (ann := G_ref34_identifier.ann) (body := G_ref34_identifier.body) (Q := Q) (k := k) (p := p) (e := e) (h := h) (acall_le X) G_ref34_identifier.dist hl hk
theorem G_ref34_identifier.goH {Q : AV → AHeap → Prop} {k : Nat} {p : List Nat} (hl : lookJ (places G_ref34_identifier.ann G_ref34_identifier.body) k = some (p, true)) {e : Env} {h : AHeap} (hk : atJ prog C 13 (G_ref34_identifier.J Q) true p G_ref34_identifier.ann G_ref34_identifier.body e h (kFun prog Tryz.f61 Q)) : G_ref34_identifier.J Q k e h := goJ_head (P := prog) (fn := Tryz.f61) (ann := G_ref34_identifier.ann) (body := G_ref34_identifier.body) (Q := Q) (k := k) (p := p) (e := e) (h := h) (acall_le X) G_ref34_identifier.dist hl hk
def G_ref34_identifier.t (J : JT) (Q : AV → AHeap → Prop) (x0 : List UInt8) (h : AHeap) : Prop :=
(bif (decide ((x0 : List UInt8) = [67, 78])) then
(Q (AV.tu [(AV.s [50, 46, 53, 46, 52, 46, 51]), (AV.b true)]) h)
else
((bif (decide ((x0 : List UInt8) = [79])) then
(Q (AV.tu [(AV.s [50, 46, 53, 46, 52, 46, 49, 48]), (AV.b true)]) h)
else
((bif (decide ((x0 : List UInt8) = [79, 85])) then
(Q (AV.tu [(AV.s [50, 46, 53, 46, 52, 46, 49, 49]), (AV.b true)]) h)
else
((bif (decide ((x0 : List UInt8) = [67])) then
(Q (AV.tu [(AV.s [50, 46, 53, 46, 52, 46, 54]), (AV.b true)]) h)
else
(Q (AV.tu [(AV.s []), (AV.b false)]) h))))))))
theorem G_ref34_identifier.t_eq (J : JT) (Q : AV → AHeap → Prop) (x0 : List UInt8) (h : AHeap) : G_ref34_identifier.t J Q x0 h = exJ prog C 13 J G_ref34_identifier.ann G_ref34_identifier.body (initEnv 0 [(AV.s x0)]) h (kFun prog Tryz.f61 Q) := by kernel_rfl
theorem G_ref34_identifier.call {K : AV → AHeap → Prop} {x0 : List UInt8} {h : AHeap} (H : G_ref34_identifier.t (G_ref34_identifier.J (kRet h K)) (kRet h K) x0 h) : C G_ref34_identifier.id [(AV.s x0)] h K :=
  callJ (P := prog) (fn := Tryz.f61) (ann := G_ref34_identifier.ann) (body := G_ref34_identifier.body) Tryz.func61 G_ref34_identifier.body_eq (by kernel_rfl) G_ref34_identifier.dist (by kernel_rfl) ((G_ref34_identifier.t_eq (G_ref34_identifier.J (kRet h K)) (kRet h K) x0 h).mp H)

--@@ G_strings_Split
/-! ### 64: strings.Split -/
noncomputable def G_strings_Split.body : Code := (Tryz.f64.body).getD .skip
def G_strings_Split.ann : Ann := (.seq 0 [0, 1] .leaf (.seq 0 [4] .leaf .leaf))
theorem G_strings_Split.body_eq : Tryz.f64.body = some G_strings_Split.body := by kernel_rfl
theorem G_strings_Split.dist : noTwice (places G_strings_Split.ann G_strings_Split.body) = true := by kernel_rfl
noncomputable def G_strings_Split.J (Q : AV → AHeap → Prop) : JT := funJ prog C Tryz.f64 G_strings_Split.ann G_strings_Split.body Q
theorem G_strings_Split.goR {Q : AV → AHeap → Prop} {k : Nat} {p : List Nat} (hl : lookJ (places G_strings_Split.ann G_strings_Split.body) k = some (p, false)) {e : Env} {h : AHeap} (hk : atJ prog C 8 (G_strings_Split.J Q) false p G_strings_Split.ann G_strings_Split.body e h (kFun prog Tryz.f64 Q)) : G_strings_Split.J Q k e h := goJ_run (P := prog) (fn := Tryz.f64) (ann := G_strings_Split.ann) (body := G_strings_Split.body) (Q := Q) (k := k) (p := p) (e := e) (h := h) (acall_le X) G_strings_Split.dist hl hk
theorem G_strings_Split.goH {Q : AV → AHeap → Prop} {k : Nat} {p : List Nat} (hl : lookJ (places G_strings_Split.ann G_strings_Split.body) k = some (p, true)) {e : Env} {h : AHeap} (hk : atJ prog C 8 (G_strings_Split.J Q) true p G_strings_Split.ann G_strings_Split.body e h (kFun prog Tryz.f64 Q)) : G_strings_Split.J Q k e h := goJ_head (P := prog) (fn := Tryz.f64) (ann := G_strings_Split.ann) (body := G_strings_Split.body) (Q := Q) (k := k) (p := p) (e := e) (h := h) (acall_le X) G_strings_Split.dist hl hk
def G_strings_Split.t (J : JT) (Q : AV → AHeap → Prop) (x0 : List UInt8) (x1 : List UInt8) (h : AHeap) : Prop :=
C G_strings_genSplit.id [(AV.s x0), (AV.s x1), (AV.i .i64 0), (AV.i .i64 (-1))] h fun v1 h2 =>
Q v1 h2
theorem G_strings_Split.t_eq (J : JT) (Q : AV → AHeap → Prop) (x0 : List UInt8) (x1 : List UInt8) (h : AHeap) : G_strings_Split.t J Q x0 x1 h = exJ prog C 8 J G_strings_Split.ann G_strings_Split.body (initEnv 0 [(AV.s x0), (AV.s x1)]) h (kFun prog Tryz.f64 Q) := by kernel_rfl
theorem G_strings_Split.call {K : AV → AHeap → Prop} {x0 : List UInt8} {x1 : List UInt8} {h : AHeap} (H : G_strings_Split.t (G_strings_Split.J (kRet h K)) (kRet h K) x0 x1 h) : C G_strings_Split.id [(AV.s x0), (AV.s x1)] h K :=
  callJ (P := prog) (fn := Tryz.f64) (ann := G_strings_Split.ann) (body := G_strings_Split.body) Tryz.func64 G_strings_Split.body_eq (by kernel_rfl) G_strings_Split.dist (by kernel_rfl) ((G_strings_Split.t_eq (G_strings_Split.J (kRet h K)) (kRet h K) x0 x1 h).mp H)

--@@ G_der_number
/-! ### 65: intrusion/der.number -/
noncomputable def G_der_number.body : Code := (Tryz.f65.body).getD .skip
def G_der_number.ann : Ann := (.seq 0 [0] .leaf (.seq 0 [0] (.seq 1 [0, 22] .leaf (.br (.seq 0 [2, 3] .leaf .leaf) .leaf)) (.seq 0 [0, 4] .leaf (.seq 0 [4] (.seq 0 [0, 4, 24, 25] .leaf (.one (.loop 2 [0, 4, 24, 25] (.seq 0 [0, 4, 24, 25, 26] .leaf (.seq 0 [0, 4, 24, 25] (.br .leaf .leaf) (.seq 0 [0, 4, 24, 25] (.one (.seq 0 [0, 4, 5, 24, 25] .leaf (.seq 0 [0, 4, 5, 24, 25] (.seq 3 [0, 4, 5, 24, 25, 37] .leaf (.br (.seq 0 [2, 3] .leaf .leaf) .leaf)) .leaf))) .leaf)))))) (.seq 0 [2, 3] .leaf .leaf)))))
theorem G_der_number.body_eq : Tryz.f65.body = some G_der_number.body := by kernel_rfl
theorem G_der_number.dist : noTwice (places G_der_number.ann G_der_number.body) = true := by kernel_rfl
noncomputable def G_der_number.J (Q : AV → AHeap → Prop) : JT := funJ prog C Tryz.f65 G_der_number.ann G_der_number.body Q
theorem G_der_number.goR {Q : AV → AHeap → Prop} {k : Nat} {p : List Nat} (hl : lookJ (places G_der_number.ann G_der_number.body) k = some (p, false)) {e : Env} {h : AHeap} (hk : atJ prog C 50 (G_der_number.J Q) false p G_der_number.ann G_der_number.body e h (kFun prog Tryz.f65 Q)) : G_der_number.J Q k e h := goJ_run (P := prog) (fn := Tryz.f65) (ann := G_der_number.ann) (body := G_der_number.body) (Q := Q) (k := k) (p := p) (e := e) (h := h) (acall_le X) G_der_number.dist hl hk
theorem G_der_number.goH {Q : AV → AHeap → Prop} {k : Nat} {p : List Nat} (hl : lookJ (places G_der_number.ann G_der_number.body) k = some (p, true)) {e : Env} {h : AHeap} (hk : atJ prog C 50 (G_der_number.J Q) true p G_der_number.ann G_der_number.body e h (kFun prog Tryz.f65 Q)) : G_der_number.J Q k e h := goJ_head (P := prog) (fn := Tryz.f65) (ann := G_der_number.ann) (body := G_der_number.body) (Q := Q) (k := k) (p := p) (e := e) (h := h) (acall_le X) G_der_number.dist hl hk
def G_der_number.p0 (Q : AV → AHeap → Prop) (x0 : List UInt8) (x22 : Bool) (h : AHeap) : Prop := G_der_number.J Q 1 [(0, (AV.s x0)), (22, (AV.b x22))] h
theorem G_der_number.j0 (Q : AV → AHeap → Prop) (x0 : List UInt8) (x22 : Bool) (h : AHeap) : G_der_number.J Q 1 [(0, (AV.s x0)), (22, (AV.b x22))] h = G_der_number.p0 Q x0 x22 h := rfl
def G_der_number.p2 (Q : AV → AHeap → Prop) (x0 : List UInt8) (x4 : Int) (x5 : Int) (x24 : Int) (x25 : Int) (x37 : Bool) (h : AHeap) : Prop := G_der_number.J Q 3 [(0, (AV.s x0)), (4, (AV.i .i64 x4)), (5, (AV.i .i64 x5)), (24, (AV.i .i64 x24)), (25, (AV.i .i64 x25)), (37, (AV.b x37))] h
theorem G_der_number.j2 (Q : AV → AHeap → Prop) (x0 : List UInt8) (x4 : Int) (x5 : Int) (x24 : Int) (x25 : Int) (x37 : Bool) (h : AHeap) : G_der_number.J Q 3 [(0, (AV.s x0)), (4, (AV.i .i64 x4)), (5, (AV.i .i64 x5)), (24, (AV.i .i64 x24)), (25, (AV.i .i64 x25)), (37, (AV.b x37))] h = G_der_number.p2 Q x0 x4 x5 x24 x25 x37 h := rfl
def G_der_number.p1 (Q : AV → AHeap → Prop) (x0 : List UInt8) (x4 : Int) (x24 : Int) (x25 : Int) (h : AHeap) : Prop := G_der_number.J Q 2 [(0, (AV.s x0)), (4, (AV.i .i64 x4)), (24, (AV.i .i64 x24)), (25, (AV.i .i64 x25))] h
theorem G_der_number.j1 (Q : AV → AHeap → Prop) (x0 : List UInt8) (x4 : Int) (x24 : Int) (x25 : Int) (h : AHeap) : G_der_number.J Q 2 [(0, (AV.s x0)), (4, (AV.i .i64 x4)), (24, (AV.i .i64 x24)), (25, (AV.i .i64 x25))] h = G_der_number.p1 Q x0 x4 x24 x25 h := rfl
def G_der_number.t0 (J : JT) (Q : AV → AHeap → Prop) (x0 : List UInt8) (x22 : Bool) (h : AHeap) : Prop :=
(bif x22 then
(Q (AV.tu [(AV.i .i64 0), (AV.b false)]) h)
else
(J 2 [(0, (AV.s x0)), (4, (AV.i .i64 0)), (24, (AV.i .i64 (x0.length : Int))), (25, (AV.i .i64 0))] h))
theorem G_der_number.t0_eq (J : JT) (Q : AV → AHeap → Prop) (x0 : List UInt8) (x22 : Bool) (h : AHeap) : G_der_number.t0 J Q x0 x22 h = atJ prog C 50 J false [1, 0, 1] G_der_number.ann G_der_number.body [(0, (AV.s x0)), (22, (AV.b x22))] h (kFun prog Tryz.f65 Q) := by kernel_rfl
theorem G_der_number.i0 {Q : AV → AHeap → Prop} {x0 : List UInt8} {x22 : Bool} {h : AHeap} (H : G_der_number.t0 (G_der_number.J Q) Q x0 x22 h) : G_der_number.p0 Q x0 x22 h := G_der_number.goR (k := 1) (p := [1, 0, 1]) (by kernel_rfl) ((G_der_number.t0_eq (G_der_number.J Q) Q x0 x22 h).mp H)
def G_der_number.t2 (J : JT) (Q : AV → AHeap → Prop) (x0 : List UInt8) (x4 : Int) (x5 : Int) (x24 : Int) (x25 : Int) (x37 : Bool) (h : AHeap) : Prop :=
(bif x37 then
(Q (AV.tu [(AV.i .i64 0), (AV.b false)]) h)
else
(withI (IntKind.wrap .i64 (x4 * 10)) fun n20 =>
pIdxStr (AV.s x0) (AV.i .i64 x5) fun n21 =>
withI (IntKind.wrap .u8 (n21 - 48)) fun n22 =>
withI (IntKind.wrap .i64 (n20 + (IntKind.wrap .i64 n22))) fun n23 =>
withI (IntKind.wrap .i64 (x25 + 1)) fun n25 =>
J 2 [(0, (AV.s x0)), (4, (AV.i .i64 n23)), (24, (AV.i .i64 x24)), (25, (AV.i .i64 n25))] h))
theorem G_der_number.t2_eq (J : JT) (Q : AV → AHeap → Prop) (x0 : List UInt8) (x4 : Int) (x5 : Int) (x24 : Int) (x25 : Int) (x37 : Bool) (h : AHeap) : G_der_number.t2 J Q x0 x4 x5 x24 x25 x37 h = atJ prog C 50 J false [1, 1, 1, 0, 1, 0, 0, 1, 1, 0, 0, 1, 0, 1] G_der_number.ann G_der_number.body [(0, (AV.s x0)), (4, (AV.i .i64 x4)), (5, (AV.i .i64 x5)), (24, (AV.i .i64 x24)), (25, (AV.i .i64 x25)), (37, (AV.b x37))] h (kFun prog Tryz.f65 Q) := by kernel_rfl
theorem G_der_number.i2 {Q : AV → AHeap → Prop} {x0 : List UInt8} {x4 : Int} {x5 : Int} {x24 : Int} {x25 : Int} {x37 : Bool} {h : AHeap} (H : G_der_number.t2 (G_der_number.J Q) Q x0 x4 x5 x24 x25 x37 h) : G_der_number.p2 Q x0 x4 x5 x24 x25 x37 h := G_der_number.goR (k := 3) (p := [1, 1, 1, 0, 1, 0, 0, 1, 1, 0, 0, 1, 0, 1]) (by kernel_rfl) ((G_der_number.t2_eq (G_der_number.J Q) Q x0 x4 x5 x24 x25 x37 h).mp H)
def G_der_number.t1 (J : JT) (Q : AV → AHeap → Prop) (x0 : List UInt8) (x4 : Int) (x24 : Int) (x25 : Int) (h : AHeap) : Prop :=
(bif (decide ((x25 : Int) < x24)) then
(pIdxStr (AV.s x0) (AV.i .i64 x25) fun n14 =>
(bif (decide ((n14 : Int) < 48)) then
(J 3 [(0, (AV.s x0)), (4, (AV.i .i64 x4)), (5, (AV.i .i64 x25)), (24, (AV.i .i64 x24)), (25, (AV.i .i64 x25)), (37, (AV.b true))] h)
else
(pIdxStr (AV.s x0) (AV.i .i64 x25) fun n16 =>
J 3 [(0, (AV.s x0)), (4, (AV.i .i64 x4)), (5, (AV.i .i64 x25)), (24, (AV.i .i64 x24)), (25, (AV.i .i64 x25)), (37, (AV.b (decide ((57 : Int) < n16))))] h)))
else
(Q (AV.tu [(AV.i .i64 x4), (AV.b (decide ((x4 : Int) < 268435456)))]) h))
theorem G_der_number.t1_eq (J : JT) (Q : AV → AHeap → Prop) (x0 : List UInt8) (x4 : Int) (x24 : Int) (x25 : Int) (h : AHeap) : G_der_number.t1 J Q x0 x4 x24 x25 h = atJ prog C 50 J true [1, 1, 1, 0, 1, 0] G_der_number.ann G_der_number.body [(0, (AV.s x0)), (4, (AV.i .i64 x4)), (24, (AV.i .i64 x24)), (25, (AV.i .i64 x25))] h (kFun prog Tryz.f65 Q) := by kernel_rfl
theorem G_der_number.i1 {Q : AV → AHeap → Prop} {x0 : List UInt8} {x4 : Int} {x24 : Int} {x25 : Int} {h : AHeap} (H : G_der_number.t1 (G_der_number.J Q) Q x0 x4 x24 x25 h) : G_der_number.p1 Q x0 x4 x24 x25 h := G_der_number.goH (k := 2) (p := [1, 1, 1, 0, 1, 0]) (by kernel_rfl) ((G_der_number.t1_eq (G_der_number.J Q) Q x0 x4 x24 x25 h).mp H)
def G_der_number.t (J : JT) (Q : AV → AHeap → Prop) (x0 : List UInt8) (h : AHeap) : Prop :=
(bif (decide ((x0 : List UInt8) = [])) then
(J 1 [(0, (AV.s x0)), (22, (AV.b true))] h)
else
((bif (decide ((9 : Int) < (x0.length : Int))) then
(J 1 [(0, (AV.s x0)), (22, (AV.b true))] h)
else
(pIdxStr (AV.s x0) (AV.i .i64 0) fun n3 =>
(bif (decide ((n3 : Int) = 48)) then
(J 1 [(0, (AV.s x0)), (22, (AV.b (decide ((1 : Int) < (x0.length : Int)))))] h)
else
(J 1 [(0, (AV.s x0)), (22, (AV.b false))] h))))))
theorem G_der_number.t_eq (J : JT) (Q : AV → AHeap → Prop) (x0 : List UInt8) (h : AHeap) : G_der_number.t J Q x0 h = exJ prog C 50 J G_der_number.ann G_der_number.body (initEnv 0 [(AV.s x0)]) h (kFun prog Tryz.f65 Q) := by kernel_rfl
theorem G_der_number.call {K : AV → AHeap → Prop} {x0 : List UInt8} {h : AHeap} (H : G_der_number.t (G_der_number.J (kRet h K)) (kRet h K) x0 h) : C G_der_number.id [(AV.s x0)] h K :=
  callJ (P := prog) (fn := Tryz.f65) (ann := G_der_number.ann) (body := G_der_number.body) Tryz.func65 G_der_number.body_eq (by kernel_rfl) G_der_number.dist (by kernel_rfl) ((G_der_number.t_eq (G_der_number.J (kRet h K)) (kRet h K) x0 h).mp H)

--@@ G_certificate_shape_list
/-! ### 66: (intrusion/certificate.shape).list -/
noncomputable def G_certificate_shape_list.body : Code := (Tryz.f66.body).getD .skip
def G_certificate_shape_list.ann : Ann := (.seq 0 [2, 3, 4] .leaf (.seq 1 [6, 7] (.ord (.neu 0 (.neu 1 (.neu 2 (.neu 3 (.eff 4 (.neu 5 (.neu 6 (.neu 7 (.neu 8 (.neu 9 (.neu 10 (.neu 11 (.neu 12 (.neu 13 (.neu 14 (.neu 15 (.neu 16 (.neu 17 .done))))))))))))) .stop)))))) .leaf))
theorem G_certificate_shape_list.body_eq : Tryz.f66.body = some G_certificate_shape_list.body := by kernel_rfl
theorem G_certificate_shape_list.dist : noTwice (places G_certificate_shape_list.ann G_certificate_shape_list.body) = true := by kernel_rfl
noncomputable def G_certificate_shape_list.J (Q : AV → AHeap → Prop) : JT := funJ prog C Tryz.f66 G_certificate_shape_list.ann G_certificate_shape_list.body Q
theorem G_certificate_shape_list.goR {Q : AV → AHeap → Prop} {k : Nat} {p : List Nat} (hl : lookJ (places G_certificate_shape_list.ann G_certificate_shape_list.body) k = some (p, false)) {e : Env} {h : AHeap} (hk : atJ prog C 24 (G_certificate_shape_list.J Q) false p G_certificate_shape_list.ann G_certificate_shape_list.body e h (kFun prog Tryz.f66 Q)) : G_certificate_shape_list.J Q k e h := goJ_run (P := prog) (fn := Tryz.f66) (ann := G_certificate_shape_list.ann) (body := G_certificate_shape_list.body) (Q := Q) (k := k) (p := p) (e := e) (h := h) (acall_le X) G_certificate_shape_list.dist hl hk
theorem G_certificate_shape_list.goH {Q : AV → AHeap → Prop} {k : Nat} {p : List Nat} (hl : lookJ (places G_certificate_shape_list.ann G_certificate_shape_list.body) k = some (p, true)) {e : Env} {h : AHeap} (hk : atJ prog C 24 (G_certificate_shape_list.J Q) true p G_certificate_shape_list.ann G_certificate_shape_list.body e h (kFun prog Tryz.f66 Q)) : G_certificate_shape_list.J Q k e h := goJ_head (P := prog) (fn := Tryz.f66) (ann := G_certificate_shape_list.ann) (body := G_certificate_shape_list.body) (Q := Q) (k := k) (p := p) (e := e) (h := h) (acall_le X) G_certificate_shape_list.dist hl hk
def G_certificate_shape_list.p0 (Q : AV → AHeap → Prop) (x6 : AV) (x7 : Bool) (h : AHeap) : Prop := G_certificate_shape_list.J Q 1 [(6, x6), (7, (AV.b x7))] h
theorem G_certificate_shape_list.j0 (Q : AV → AHeap → Prop) (x6 : AV) (x7 : Bool) (h : AHeap) : G_certificate_shape_list.J Q 1 [(6, x6), (7, (AV.b x7))] h = G_certificate_shape_list.p0 Q x6 x7 h := rfl
def G_certificate_shape_list.t0 (J : JT) (Q : AV → AHeap → Prop) (x6 : AV) (x7 : Bool) (h : AHeap) : Prop :=
Q (AV.tu [x6, (AV.b x7)]) h
theorem G_certificate_shape_list.t0_eq (J : JT) (Q : AV → AHeap → Prop) (x6 : AV) (x7 : Bool) (h : AHeap) : G_certificate_shape_list.t0 J Q x6 x7 h = atJ prog C 24 J false [1, 1] G_certificate_shape_list.ann G_certificate_shape_list.body [(6, x6), (7, (AV.b x7))] h (kFun prog Tryz.f66 Q) := by kernel_rfl
theorem G_certificate_shape_list.i0 {Q : AV → AHeap → Prop} {x6 : AV} {x7 : Bool} {h : AHeap} (H : G_certificate_shape_list.t0 (G_certificate_shape_list.J Q) Q x6 x7 h) : G_certificate_shape_list.p0 Q x6 x7 h := G_certificate_shape_list.goR (k := 1) (p := [1, 1]) (by kernel_rfl) ((G_certificate_shape_list.t0_eq (G_certificate_shape_list.J Q) Q x6 x7 h).mp H)
def G_certificate_shape_list.t (J : JT) (Q : AV → AHeap → Prop) (x0 : AV) (x1 : AV) (x2 : Int) (h : AHeap) : Prop :=
pBox (some 78) x0 h fun v0 h1 =>
pBox (some 65) x1 h1 fun v2 h3 =>
pFieldAddr 4 v2 fun v5 =>
pLoad1 v5 h3 fun v6 =>
pLoadN 3 v0 h3 fun v7 =>
pLoadN 5 v2 h3 fun v8 =>
C G_certificate_shape_is.id [v7, v8] h3 fun v9 h10 =>
asB v9 fun c11 =>
pLoad1 v5 h10 fun v12 =>
(v6 = v12 ∧
((bif c11 then
((bif (decide ((x2 : Int) < 0)) then
(J 1 [(6, v6), (7, (AV.b true))] h10)
else
(pFieldAddr 4 v2 fun v14 =>
pLoad1 v14 h10 fun v15 =>
pLenSl v15 fun n16 =>
J 1 [(6, v6), (7, (AV.b (decide ((n16 : Int) = x2))))] h10)))
else
(J 1 [(6, v6), (7, (AV.b false))] h10))))
theorem G_certificate_shape_list.t_eq (J : JT) (Q : AV → AHeap → Prop) (x0 : AV) (x1 : AV) (x2 : Int) (h : AHeap) : G_certificate_shape_list.t J Q x0 x1 x2 h = exJ prog C 24 J G_certificate_shape_list.ann G_certificate_shape_list.body (initEnv 0 [x0, x1, (AV.i .i64 x2)]) h (kFun prog Tryz.f66 Q) := by kernel_rfl
theorem G_certificate_shape_list.call {K : AV → AHeap → Prop} {x0 : AV} {x1 : AV} {x2 : Int} {h : AHeap} (H : G_certificate_shape_list.t (G_certificate_shape_list.J (kRet h K)) (kRet h K) x0 x1 x2 h) : C G_certificate_shape_list.id [x0, x1, (AV.i .i64 x2)] h K :=
  callJ (P := prog) (fn := Tryz.f66) (ann := G_certificate_shape_list.ann) (body := G_certificate_shape_list.body) Tryz.func66 G_certificate_shape_list.body_eq (by kernel_rfl) G_certificate_shape_list.dist (by kernel_rfl) ((G_certificate_shape_list.t_eq (G_certificate_shape_list.J (kRet h K)) (kRet h K) x0 x1 x2 h).mp H)

--@@ G_der_Oid
/-! ### 67: intrusion/der.Oid -/
noncomputable def G_der_Oid.body : Code := (Tryz.f67.body).getD .skip
def G_der_Oid.ann : Ann := (.seq 0 [1] .leaf (.seq 0 [1] (.seq 1 [1, 20] .leaf (.br (.seq 0 [2, 3] .leaf .leaf) .leaf)) (.seq 0 [1, 4] .leaf (.seq 0 [1, 4, 5, 6] .leaf (.seq 0 [4, 6] (.seq 0 [1, 4, 5, 6, 23, 24] .leaf (.one (.loop 2 [1, 4, 5, 6, 23, 24] (.seq 0 [1, 4, 5, 6, 23, 24, 25] .leaf (.seq 0 [1, 4, 5, 6, 23, 24] (.br .leaf .leaf) (.seq 4 [1, 4, 5, 6, 23, 24] (.one (.seq 0 [1, 4, 5, 6, 7, 23, 24] .leaf (.seq 0 [1, 4, 5, 6, 8, 23, 24] .leaf (.seq 0 [1, 4, 5, 8, 23, 24] (.seq 3 [1, 4, 5, 8, 23, 24, 37] .leaf (.br (.seq 0 [2, 3] .leaf .leaf) .leaf)) (.seq 0 [1, 4, 5, 8, 23, 24] .leaf (.seq 0 [1, 4, 5, 6, 23, 24] .leaf (.seq 0 [1, 4, 5, 6, 23, 24] (.seq 0 [1, 4, 5, 6, 23, 24, 46] .leaf (.br (.seq 0 [2, 3] .leaf .leaf) .leaf)) (.seq 0 [1, 4, 5, 6, 23, 24, 48] .leaf (.br (.seq 0 [1, 4, 6, 23, 24] .leaf .leaf) .leaf))))))))) .leaf)))))) (.seq 0 [4] (.seq 0 [4, 54] .leaf (.br (.seq 0 [2, 3] .leaf .leaf) .leaf)) (.seq 0 [4, 9] .leaf (.seq 0 [4, 10] (.ord (.neu 0 (.neu 3 (.neu 4 (.neu 5 (.neu 6 (.neu 7 (.neu 8 (.eff 1 (.neu 2 (.eff 9 (.neu 10 (.neu 11 .done)) .stop)) .stop))))))))) (.seq 0 [10] (.seq 0 [10, 72, 73, 74] .leaf (.one (.loop 5 [10, 72, 73, 74] (.seq 0 [10, 72, 73, 74, 75] .leaf (.seq 0 [10, 72, 73, 74] (.br .leaf .leaf) (.seq 0 [10, 72, 73, 74] (.one (.seq 0 [10, 12, 72, 73, 74] .leaf .leaf)) .leaf)))))) (.seq 0 [2, 3] .leaf .leaf))))))))))
theorem G_der_Oid.body_eq : Tryz.f67.body = some G_der_Oid.body := by kernel_rfl
theorem G_der_Oid.dist : noTwice (places G_der_Oid.ann G_der_Oid.body) = true := by kernel_rfl
noncomputable def G_der_Oid.J (Q : AV → AHeap → Prop) : JT := funJ prog C Tryz.f67 G_der_Oid.ann G_der_Oid.body Q
theorem G_der_Oid.goR {Q : AV → AHeap → Prop} {k : Nat} {p : List Nat} (hl : lookJ (places G_der_Oid.ann G_der_Oid.body) k = some (p, false)) {e : Env} {h : AHeap} (hk : atJ prog C 85 (G_der_Oid.J Q) false p G_der_Oid.ann G_der_Oid.body e h (kFun prog Tryz.f67 Q)) : G_der_Oid.J Q k e h := goJ_run (P := prog) (fn := Tryz.f67) (ann := G_der_Oid.ann) (body := G_der_Oid.body) (Q := Q) (k := k) (p := p) (e := e) (h := h) (acall_le X) G_der_Oid.dist hl hk
theorem G_der_Oid.goH {Q : AV → AHeap → Prop} {k : Nat} {p : List Nat} (hl : lookJ (places G_der_Oid.ann G_der_Oid.body) k = some (p, true)) {e : Env} {h : AHeap} (hk : atJ prog C 85 (G_der_Oid.J Q) true p G_der_Oid.ann G_der_Oid.body e h (kFun prog Tryz.f67 Q)) : G_der_Oid.J Q k e h := goJ_head (P := prog) (fn := Tryz.f67) (ann := G_der_Oid.ann) (body := G_der_Oid.body) (Q := Q) (k := k) (p := p) (e := e) (h := h) (acall_le X) G_der_Oid.dist hl hk
def G_der_Oid.p0 (Q : AV → AHeap → Prop) (x1 : AV) (x20 : Bool) (h : AHeap) : Prop := G_der_Oid.J Q 1 [(1, x1), (20, (AV.b x20))] h
theorem G_der_Oid.j0 (Q : AV → AHeap → Prop) (x1 : AV) (x20 : Bool) (h : AHeap) : G_der_Oid.J Q 1 [(1, x1), (20, (AV.b x20))] h = G_der_Oid.p0 Q x1 x20 h := rfl
def G_der_Oid.p2 (Q : AV → AHeap → Prop) (x1 : AV) (x4 : AV) (x5 : Int) (x8 : Int) (x23 : Int) (x24 : Int) (x37 : Bool) (h : AHeap) : Prop := G_der_Oid.J Q 3 [(1, x1), (4, x4), (5, (AV.i .i64 x5)), (8, (AV.i .i64 x8)), (23, (AV.i .i64 x23)), (24, (AV.i .i64 x24)), (37, (AV.b x37))] h
theorem G_der_Oid.j2 (Q : AV → AHeap → Prop) (x1 : AV) (x4 : AV) (x5 : Int) (x8 : Int) (x23 : Int) (x24 : Int) (x37 : Bool) (h : AHeap) : G_der_Oid.J Q 3 [(1, x1), (4, x4), (5, (AV.i .i64 x5)), (8, (AV.i .i64 x8)), (23, (AV.i .i64 x23)), (24, (AV.i .i64 x24)), (37, (AV.b x37))] h = G_der_Oid.p2 Q x1 x4 x5 x8 x23 x24 x37 h := rfl
def G_der_Oid.p3 (Q : AV → AHeap → Prop) (x1 : AV) (x4 : AV) (x5 : Int) (x6 : Bool) (x23 : Int) (x24 : Int) (h : AHeap) : Prop := G_der_Oid.J Q 4 [(1, x1), (4, x4), (5, (AV.i .i64 x5)), (6, (AV.b x6)), (23, (AV.i .i64 x23)), (24, (AV.i .i64 x24))] h
theorem G_der_Oid.j3 (Q : AV → AHeap → Prop) (x1 : AV) (x4 : AV) (x5 : Int) (x6 : Bool) (x23 : Int) (x24 : Int) (h : AHeap) : G_der_Oid.J Q 4 [(1, x1), (4, x4), (5, (AV.i .i64 x5)), (6, (AV.b x6)), (23, (AV.i .i64 x23)), (24, (AV.i .i64 x24))] h = G_der_Oid.p3 Q x1 x4 x5 x6 x23 x24 h := rfl
def G_der_Oid.p1 (Q : AV → AHeap → Prop) (x1 : AV) (x4 : AV) (x5 : Int) (x6 : Bool) (x23 : Int) (x24 : Int) (h : AHeap) : Prop := G_der_Oid.J Q 2 [(1, x1), (4, x4), (5, (AV.i .i64 x5)), (6, (AV.b x6)), (23, (AV.i .i64 x23)), (24, (AV.i .i64 x24))] h
theorem G_der_Oid.j1 (Q : AV → AHeap → Prop) (x1 : AV) (x4 : AV) (x5 : Int) (x6 : Bool) (x23 : Int) (x24 : Int) (h : AHeap) : G_der_Oid.J Q 2 [(1, x1), (4, x4), (5, (AV.i .i64 x5)), (6, (AV.b x6)), (23, (AV.i .i64 x23)), (24, (AV.i .i64 x24))] h = G_der_Oid.p1 Q x1 x4 x5 x6 x23 x24 h := rfl
def G_der_Oid.p4 (Q : AV → AHeap → Prop) (x10 : List UInt8) (x72 : AV) (x73 : Int) (x74 : Int) (h : AHeap) : Prop := G_der_Oid.J Q 5 [(10, (AV.s x10)), (72, x72), (73, (AV.i .i64 x73)), (74, (AV.i .i64 x74))] h
theorem G_der_Oid.j4 (Q : AV → AHeap → Prop) (x10 : List UInt8) (x72 : AV) (x73 : Int) (x74 : Int) (h : AHeap) : G_der_Oid.J Q 5 [(10, (AV.s x10)), (72, x72), (73, (AV.i .i64 x73)), (74, (AV.i .i64 x74))] h = G_der_Oid.p4 Q x10 x72 x73 x74 h := rfl
def G_der_Oid.t0 (J : JT) (Q : AV → AHeap → Prop) (x1 : AV) (x20 : Bool) (h : AHeap) : Prop :=
(bif x20 then
(Q (AV.tu [(AV.s []), (AV.b false)]) h)
else
(pFieldAddr 3 x1 fun v16 =>
pLoad1 v16 h fun v17 =>
asS v17 fun l18 =>
J 2 [(1, x1), (4, (AV.sl none 0 none)), (5, (AV.i .i64 0)), (6, (AV.b false)), (23, (AV.i .i64 (l18.length : Int))), (24, (AV.i .i64 0))] h))
theorem G_der_Oid.t0_eq (J : JT) (Q : AV → AHeap → Prop) (x1 : AV) (x20 : Bool) (h : AHeap) : G_der_Oid.t0 J Q x1 x20 h = atJ prog C 85 J false [1, 0, 1] G_der_Oid.ann G_der_Oid.body [(1, x1), (20, (AV.b x20))] h (kFun prog Tryz.f67 Q) := by kernel_rfl
theorem G_der_Oid.i0 {Q : AV → AHeap → Prop} {x1 : AV} {x20 : Bool} {h : AHeap} (H : G_der_Oid.t0 (G_der_Oid.J Q) Q x1 x20 h) : G_der_Oid.p0 Q x1 x20 h := G_der_Oid.goR (k := 1) (p := [1, 0, 1]) (by kernel_rfl) ((G_der_Oid.t0_eq (G_der_Oid.J Q) Q x1 x20 h).mp H)
def G_der_Oid.t2 (J : JT) (Q : AV → AHeap → Prop) (x1 : AV) (x4 : AV) (x5 : Int) (x8 : Int) (x23 : Int) (x24 : Int) (x37 : Bool) (h : AHeap) : Prop :=
(bif x37 then
(Q (AV.tu [(AV.s []), (AV.b false)]) h)
else
(pShl .i64 x5 7 fun n33 =>
withI (bitsOp .and .i64 x8 127) fun n34 =>
withI (bitsOp .or .i64 n33 n34) fun n35 =>
(bif (decide ((268435456 : Int) ≤ n35)) then
(Q (AV.tu [(AV.s []), (AV.b false)]) h)
else
((bif (!(decide ((128 : Int) ≤ x8))) then
(pBuildSl 1 1 [(AV.i .i64 0)] [(0, 1, (AV.i .i64 n35))] h fun v42 h43 =>
pAppend none 1 8 x4 v42 h43 fun v44 h45 =>
J 4 [(1, x1), (4, v44), (5, (AV.i .i64 0)), (6, (AV.b (decide ((128 : Int) ≤ x8)))), (23, (AV.i .i64 x23)), (24, (AV.i .i64 x24))] h45)
else
(J 4 [(1, x1), (4, x4), (5, (AV.i .i64 n35)), (6, (AV.b (decide ((128 : Int) ≤ x8)))), (23, (AV.i .i64 x23)), (24, (AV.i .i64 x24))] h))))))
theorem G_der_Oid.t2_eq (J : JT) (Q : AV → AHeap → Prop) (x1 : AV) (x4 : AV) (x5 : Int) (x8 : Int) (x23 : Int) (x24 : Int) (x37 : Bool) (h : AHeap) : G_der_Oid.t2 J Q x1 x4 x5 x8 x23 x24 x37 h = atJ prog C 85 J false [1, 1, 1, 1, 0, 1, 0, 0, 1, 1, 0, 0, 1, 1, 0, 1] G_der_Oid.ann G_der_Oid.body [(1, x1), (4, x4), (5, (AV.i .i64 x5)), (8, (AV.i .i64 x8)), (23, (AV.i .i64 x23)), (24, (AV.i .i64 x24)), (37, (AV.b x37))] h (kFun prog Tryz.f67 Q) := by kernel_rfl
theorem G_der_Oid.i2 {Q : AV → AHeap → Prop} {x1 : AV} {x4 : AV} {x5 : Int} {x8 : Int} {x23 : Int} {x24 : Int} {x37 : Bool} {h : AHeap} (H : G_der_Oid.t2 (G_der_Oid.J Q) Q x1 x4 x5 x8 x23 x24 x37 h) : G_der_Oid.p2 Q x1 x4 x5 x8 x23 x24 x37 h := G_der_Oid.goR (k := 3) (p := [1, 1, 1, 1, 0, 1, 0, 0, 1, 1, 0, 0, 1, 1, 0, 1]) (by kernel_rfl) ((G_der_Oid.t2_eq (G_der_Oid.J Q) Q x1 x4 x5 x8 x23 x24 x37 h).mp H)
def G_der_Oid.t3 (J : JT) (Q : AV → AHeap → Prop) (x1 : AV) (x4 : AV) (x5 : Int) (x6 : Bool) (x23 : Int) (x24 : Int) (h : AHeap) : Prop :=
withI (IntKind.wrap .i64 (x24 + 1)) fun n49 =>
J 2 [(1, x1), (4, x4), (5, (AV.i .i64 x5)), (6, (AV.b x6)), (23, (AV.i .i64 x23)), (24, (AV.i .i64 n49))] h
theorem G_der_Oid.t3_eq (J : JT) (Q : AV → AHeap → Prop) (x1 : AV) (x4 : AV) (x5 : Int) (x6 : Bool) (x23 : Int) (x24 : Int) (h : AHeap) : G_der_Oid.t3 J Q x1 x4 x5 x6 x23 x24 h = atJ prog C 85 J false [1, 1, 1, 1, 0, 1, 0, 0, 1, 1, 1] G_der_Oid.ann G_der_Oid.body [(1, x1), (4, x4), (5, (AV.i .i64 x5)), (6, (AV.b x6)), (23, (AV.i .i64 x23)), (24, (AV.i .i64 x24))] h (kFun prog Tryz.f67 Q) := by kernel_rfl
theorem G_der_Oid.i3 {Q : AV → AHeap → Prop} {x1 : AV} {x4 : AV} {x5 : Int} {x6 : Bool} {x23 : Int} {x24 : Int} {h : AHeap} (H : G_der_Oid.t3 (G_der_Oid.J Q) Q x1 x4 x5 x6 x23 x24 h) : G_der_Oid.p3 Q x1 x4 x5 x6 x23 x24 h := G_der_Oid.goR (k := 4) (p := [1, 1, 1, 1, 0, 1, 0, 0, 1, 1, 1]) (by kernel_rfl) ((G_der_Oid.t3_eq (G_der_Oid.J Q) Q x1 x4 x5 x6 x23 x24 h).mp H)
def G_der_Oid.t1 (J : JT) (Q : AV → AHeap → Prop) (x1 : AV) (x4 : AV) (x5 : Int) (x6 : Bool) (x23 : Int) (x24 : Int) (h : AHeap) : Prop :=
(bif (decide ((x24 : Int) < x23)) then
(pFieldAddr 3 x1 fun v24 =>
pLoad1 v24 h fun v25 =>
asS v25 fun l26 =>
pIdxStr (AV.s l26) (AV.i .i64 x24) fun n27 =>
(bif (!x6) then
(J 3 [(1, x1), (4, x4), (5, (AV.i .i64 x5)), (8, (AV.i .i64 (IntKind.wrap .i64 n27))), (23, (AV.i .i64 x23)), (24, (AV.i .i64 x24)), (37, (AV.b (decide (((IntKind.wrap .i64 n27) : Int) = 128))))] h)
else
(J 3 [(1, x1), (4, x4), (5, (AV.i .i64 x5)), (8, (AV.i .i64 (IntKind.wrap .i64 n27))), (23, (AV.i .i64 x23)), (24, (AV.i .i64 x24)), (37, (AV.b false))] h)))
else
((bif x6 then
(Q (AV.tu [(AV.s []), (AV.b false)]) h)
else
(pIdxAddrSl 1 x4 (AV.i .i64 0) h fun v54 =>
pLoad1 v54 h fun v55 =>
asI .i64 v55 fun n56 =>
pQuo .i64 n56 40 fun n57 =>
pIdxAddrSl 1 x4 (AV.i .i64 0) h fun v59 =>
pLoad1 v59 h fun v60 =>
asI .i64 v60 fun n61 =>
withI (IntKind.wrap .i64 (40 * (mmI false 2 n57))) fun n62 =>
withI (IntKind.wrap .i64 (n61 - n62)) fun n63 =>
C G_strconv_Itoa.id [(AV.i .i64 (mmI false 2 n57))] h fun v64 h65 =>
asS v64 fun l66 =>
pLoad1 v59 h65 fun v67 =>
asI .i64 v67 fun n68 =>
((AV.i .i64 n61) = (AV.i .i64 n68) ∧
(pIdxAddrSl 1 x4 (AV.i .i64 0) h65 fun v69 =>
(v59 = v69 ∧
(pCat l66 [46] fun l70 =>
C G_strconv_Itoa.id [(AV.i .i64 n63)] h65 fun v71 h72 =>
asS v71 fun l73 =>
pLoad1 v59 h72 fun v74 =>
asI .i64 v74 fun n75 =>
((AV.i .i64 n61) = (AV.i .i64 n75) ∧
(pIdxAddrSl 1 x4 (AV.i .i64 0) h72 fun v76 =>
(v59 = v76 ∧
(pCat l70 l73 fun l77 =>
pSliceSl 1 x4 (some (AV.i .i64 1)) none none h72 fun v79 =>
pLenSl v79 fun n80 =>
J 5 [(10, (AV.s l77)), (72, v79), (73, (AV.i .i64 n80)), (74, (AV.i .i64 0))] h72))))))))))))
theorem G_der_Oid.t1_eq (J : JT) (Q : AV → AHeap → Prop) (x1 : AV) (x4 : AV) (x5 : Int) (x6 : Bool) (x23 : Int) (x24 : Int) (h : AHeap) : G_der_Oid.t1 J Q x1 x4 x5 x6 x23 x24 h = atJ prog C 85 J true [1, 1, 1, 1, 0, 1, 0] G_der_Oid.ann G_der_Oid.body [(1, x1), (4, x4), (5, (AV.i .i64 x5)), (6, (AV.b x6)), (23, (AV.i .i64 x23)), (24, (AV.i .i64 x24))] h (kFun prog Tryz.f67 Q) := by kernel_rfl
theorem G_der_Oid.i1 {Q : AV → AHeap → Prop} {x1 : AV} {x4 : AV} {x5 : Int} {x6 : Bool} {x23 : Int} {x24 : Int} {h : AHeap} (H : G_der_Oid.t1 (G_der_Oid.J Q) Q x1 x4 x5 x6 x23 x24 h) : G_der_Oid.p1 Q x1 x4 x5 x6 x23 x24 h := G_der_Oid.goH (k := 2) (p := [1, 1, 1, 1, 0, 1, 0]) (by kernel_rfl) ((G_der_Oid.t1_eq (G_der_Oid.J Q) Q x1 x4 x5 x6 x23 x24 h).mp H)
def G_der_Oid.t4 (J : JT) (Q : AV → AHeap → Prop) (x10 : List UInt8) (x72 : AV) (x73 : Int) (x74 : Int) (h : AHeap) : Prop :=
(bif (decide ((x74 : Int) < x73)) then
(pIdxAddrSl 1 x72 (AV.i .i64 x74) h fun v85 =>
pLoad1 v85 h fun v86 =>
asI .i64 v86 fun n87 =>
C G_strconv_Itoa.id [(AV.i .i64 n87)] h fun v89 h90 =>
asS v89 fun l91 =>
pCat [46] l91 fun l92 =>
pCat x10 l92 fun l93 =>
withI (IntKind.wrap .i64 (x74 + 1)) fun n95 =>
J 5 [(10, (AV.s l93)), (72, x72), (73, (AV.i .i64 x73)), (74, (AV.i .i64 n95))] h90)
else
(Q (AV.tu [(AV.s x10), (AV.b true)]) h))
theorem G_der_Oid.t4_eq (J : JT) (Q : AV → AHeap → Prop) (x10 : List UInt8) (x72 : AV) (x73 : Int) (x74 : Int) (h : AHeap) : G_der_Oid.t4 J Q x10 x72 x73 x74 h = atJ prog C 85 J true [1, 1, 1, 1, 1, 1, 1, 1, 0, 1, 0] G_der_Oid.ann G_der_Oid.body [(10, (AV.s x10)), (72, x72), (73, (AV.i .i64 x73)), (74, (AV.i .i64 x74))] h (kFun prog Tryz.f67 Q) := by kernel_rfl
theorem G_der_Oid.i4 {Q : AV → AHeap → Prop} {x10 : List UInt8} {x72 : AV} {x73 : Int} {x74 : Int} {h : AHeap} (H : G_der_Oid.t4 (G_der_Oid.J Q) Q x10 x72 x73 x74 h) : G_der_Oid.p4 Q x10 x72 x73 x74 h := G_der_Oid.goH (k := 5) (p := [1, 1, 1, 1, 1, 1, 1, 1, 0, 1, 0]) (by kernel_rfl) ((G_der_Oid.t4_eq (G_der_Oid.J Q) Q x10 x72 x73 x74 h).mp H)
def G_der_Oid.t (J : JT) (Q : AV → AHeap → Prop) (x0 : AV) (h : AHeap) : Prop :=
pBox (some 65) x0 h fun v0 h1 =>
pLoadN 5 v0 h1 fun v3 =>
C G_der_plain.id [v3, (AV.i .i64 6)] h1 fun v4 h5 =>
asB v4 fun c6 =>
(bif (!c6) then
(J 1 [(1, v0), (20, (AV.b true))] h5)
else
(pFieldAddr 3 v0 fun v8 =>
pLoad1 v8 h5 fun v9 =>
asS v9 fun l10 =>
J 1 [(1, v0), (20, (AV.b (decide ((l10 : List UInt8) = []))))] h5))
theorem G_der_Oid.t_eq (J : JT) (Q : AV → AHeap → Prop) (x0 : AV) (h : AHeap) : G_der_Oid.t J Q x0 h = exJ prog C 85 J G_der_Oid.ann G_der_Oid.body (initEnv 0 [x0]) h (kFun prog Tryz.f67 Q) := by kernel_rfl
theorem G_der_Oid.call {K : AV → AHeap → Prop} {x0 : AV} {h : AHeap} (H : G_der_Oid.t (G_der_Oid.J (kRet h K)) (kRet h K) x0 h) : C G_der_Oid.id [x0] h K :=
  callJ (P := prog) (fn := Tryz.f67) (ann := G_der_Oid.ann) (body := G_der_Oid.body) Tryz.func67 G_der_Oid.body_eq (by kernel_rfl) G_der_Oid.dist (by kernel_rfl) ((G_der_Oid.t_eq (G_der_Oid.J (kRet h K)) (kRet h K) x0 h).mp H)

--@@ G_der_Text
/-! ### 68: intrusion/der.Text -/
noncomputable def G_der_Text.body : Code := (Tryz.f68.body).getD .skip
def G_der_Text.ann : Ann := (.seq 0 [1] .leaf (.seq 0 [1] (.seq 1 [1, 16] .leaf (.br (.seq 0 [2, 3] .leaf .leaf) .leaf)) (.seq 0 [1] (.seq 0 [1, 21] .leaf (.br (.seq 0 [2, 3] .leaf .leaf) .leaf)) (.seq 0 [2, 3] .leaf .leaf))))
theorem G_der_Text.body_eq : Tryz.f68.body = some G_der_Text.body := by kernel_rfl
theorem G_der_Text.dist : noTwice (places G_der_Text.ann G_der_Text.body) = true := by kernel_rfl
noncomputable def G_der_Text.J (Q : AV → AHeap → Prop) : JT := funJ prog C Tryz.f68 G_der_Text.ann G_der_Text.body Q
theorem G_der_Text.goR {Q : AV → AHeap → Prop} {k : Nat} {p : List Nat} (hl : lookJ (places G_der_Text.ann G_der_Text.body) k = some (p, false)) {e : Env} {h : AHeap} (hk : atJ prog C 24 (G_der_Text.J Q) false p G_der_Text.ann G_der_Text.body e h (kFun prog Tryz.f68 Q)) : G_der_Text.J Q k e h := goJ_run (P := prog) (fn := Tryz.f68) (ann := G_der_Text.ann) (body := G_der_Text.body) (Q := Q) (k := k) (p := p) (e := e) (h := h) (acall_le X) G_der_Text.dist hl hk
theorem G_der_Text.goH {Q : AV → AHeap → Prop} {k : Nat} {p : List Nat} (hl : lookJ (places G_der_Text.ann G_der_Text.body) k = some (p, true)) {e : Env} {h : AHeap} (hk : atJ prog C 24 (G_der_Text.J Q) true p G_der_Text.ann G_der_Text.body e h (kFun prog Tryz.f68 Q)) : G_der_Text.J Q k e h := goJ_head (P := prog) (fn := Tryz.f68) (ann := G_der_Text.ann) (body := G_der_Text.body) (Q := Q) (k := k) (p := p) (e := e) (h := h) (acall_le X) G_der_Text.dist hl hk
def G_der_Text.p0 (Q : AV → AHeap → Prop) (x1 : AV) (x16 : Bool) (h : AHeap) : Prop := G_der_Text.J Q 1 [(1, x1), (16, (AV.b x16))] h
theorem G_der_Text.j0 (Q : AV → AHeap → Prop) (x1 : AV) (x16 : Bool) (h : AHeap) : G_der_Text.J Q 1 [(1, x1), (16, (AV.b x16))] h = G_der_Text.p0 Q x1 x16 h := rfl
def G_der_Text.t0 (J : JT) (Q : AV → AHeap → Prop) (x1 : AV) (x16 : Bool) (h : AHeap) : Prop :=
(bif x16 then
(Q (AV.tu [(AV.s []), (AV.b false)]) h)
else
(pFieldAddr 3 x1 fun v20 =>
pLoad1 v20 h fun v21 =>
asS v21 fun l22 =>
pStrBytes (AV.s l22) h fun v23 h24 =>
C G_der_all_byte_.id [v23, (AV.fn (.func G_der_Text_1.id) [] [])] h24 fun v25 h26 =>
asB v25 fun c27 =>
(bif (!c27) then
(Q (AV.tu [(AV.s []), (AV.b false)]) h26)
else
(pFieldAddr 3 x1 fun v31 =>
pLoad1 v31 h26 fun v32 =>
asS v32 fun l33 =>
Q (AV.tu [(AV.s l33), (AV.b true)]) h26))))
theorem G_der_Text.t0_eq (J : JT) (Q : AV → AHeap → Prop) (x1 : AV) (x16 : Bool) (h : AHeap) : G_der_Text.t0 J Q x1 x16 h = atJ prog C 24 J false [1, 0, 1] G_der_Text.ann G_der_Text.body [(1, x1), (16, (AV.b x16))] h (kFun prog Tryz.f68 Q) := by kernel_rfl
theorem G_der_Text.i0 {Q : AV → AHeap → Prop} {x1 : AV} {x16 : Bool} {h : AHeap} (H : G_der_Text.t0 (G_der_Text.J Q) Q x1 x16 h) : G_der_Text.p0 Q x1 x16 h := G_der_Text.goR (k := 1) (p := [1, 0, 1]) (by kernel_rfl) ((G_der_Text.t0_eq (G_der_Text.J Q) Q x1 x16 h).mp H)
def G_der_Text.t (J : JT) (Q : AV → AHeap → Prop) (x0 : AV) (h : AHeap) : Prop :=
pBox (some 65) x0 h fun v0 h1 =>
pLoadN 5 v0 h1 fun v3 =>
C G_der_plain.id [v3, (AV.i .i64 12)] h1 fun v4 h5 =>
asB v4 fun c6 =>
(bif (!c6) then
(pLoadN 5 v0 h5 fun v7 =>
C G_der_plain.id [v7, (AV.i .i64 19)] h5 fun v8 h9 =>
asB v8 fun c10 =>
(bif (!c10) then
(pLoadN 5 v0 h9 fun v11 =>
C G_der_plain.id [v11, (AV.i .i64 22)] h9 fun v12 h13 =>
asB v12 fun c14 =>
J 1 [(1, v0), (16, (AV.b (!c14)))] h13)
else
(J 1 [(1, v0), (16, (AV.b false))] h9)))
else
(J 1 [(1, v0), (16, (AV.b false))] h5))
theorem G_der_Text.t_eq (J : JT) (Q : AV → AHeap → Prop) (x0 : AV) (h : AHeap) : G_der_Text.t J Q x0 h = exJ prog C 24 J G_der_Text.ann G_der_Text.body (initEnv 0 [x0]) h (kFun prog Tryz.f68 Q) := by kernel_rfl
theorem G_der_Text.call {K : AV → AHeap → Prop} {x0 : AV} {h : AHeap} (H : G_der_Text.t (G_der_Text.J (kRet h K)) (kRet h K) x0 h) : C G_der_Text.id [x0] h K :=
  callJ (P := prog) (fn := Tryz.f68) (ann := G_der_Text.ann) (body := G_der_Text.body) Tryz.func68 G_der_Text.body_eq (by kernel_rfl) G_der_Text.dist (by kernel_rfl) ((G_der_Text.t_eq (G_der_Text.J (kRet h K)) (kRet h K) x0 h).mp H)

--@@ G_strings_NewReplacer
/-! ### 69: strings.NewReplacer -/
noncomputable def G_strings_NewReplacer.body : Code := (Tryz.f69.body).getD .skip
def G_strings_NewReplacer.ann : Ann := (.seq 0 [0] .leaf (.seq 0 [0] (.seq 0 [0, 6] .leaf (.br .leaf .leaf)) (.seq 0 [2] .leaf .leaf)))
theorem G_strings_NewReplacer.body_eq : Tryz.f69.body = some G_strings_NewReplacer.body := by kernel_rfl
theorem G_strings_NewReplacer.dist : noTwice (places G_strings_NewReplacer.ann G_strings_NewReplacer.body) = true := by kernel_rfl
noncomputable def G_strings_NewReplacer.J (Q : AV → AHeap → Prop) : JT := funJ prog C Tryz.f69 G_strings_NewReplacer.ann G_strings_NewReplacer.body Q
theorem G_strings_NewReplacer.goR {Q : AV → AHeap → Prop} {k : Nat} {p : List Nat} (hl : lookJ (places G_strings_NewReplacer.ann G_strings_NewReplacer.body) k = some (p, false)) {e : Env} {h : AHeap} (hk : atJ prog C 12 (G_strings_NewReplacer.J Q) false p G_strings_NewReplacer.ann G_strings_NewReplacer.body e h (kFun prog Tryz.f69 Q)) : G_strings_NewReplacer.J Q k e h := goJ_run (P := prog) (fn := Tryz.f69) (ann := G_strings_NewReplacer.ann) (body := G_strings_NewReplacer.body) (Q := Q) (k := k) (p := p) (e := e) (h := h) (acall_le X) G_strings_NewReplacer.dist hl hk
theorem G_strings_NewReplacer.goH {Q : AV → AHeap → Prop} {k : Nat} {p : List Nat} (hl : lookJ (places G_strings_NewReplacer.ann G_strings_NewReplacer.body) k = some (p, true)) {e : Env} {h : AHeap} (hk : atJ prog C 12 (G_strings_NewReplacer.J Q) true p G_strings_NewReplacer.ann G_strings_NewReplacer.body e h (kFun prog Tryz.f69 Q)) : G_strings_NewReplacer.J Q k e h := goJ_head (P := prog) (fn := Tryz.f69) (ann := G_strings_NewReplacer.ann) (body := G_strings_NewReplacer.body) (Q := Q) (k := k) (p := p) (e := e) (h := h) (acall_le X) G_strings_NewReplacer.dist hl hk
def G_strings_NewReplacer.t (J : JT) (Q : AV → AHeap → Prop) (x0 : AV) (h : AHeap) : Prop :=
pLenSl x0 fun n1 =>
pRem n1 2 fun n2 =>
(bif (decide ((n2 : Int) = 1)) then
(False)
else
(pAppend none 1 16 (AV.sl none 0 none) x0 h fun v5 h6 =>
pBuild [(AV.i .u32 0), (AV.i .i32 0), (AV.i .u32 0), AV.ni, (AV.sl none 0 none)] [(4, 1, v5)] fun v7 =>
pBox (some 125) v7 h6 fun v8 h9 =>
Q v8 h9))
theorem G_strings_NewReplacer.t_eq (J : JT) (Q : AV → AHeap → Prop) (x0 : AV) (h : AHeap) : G_strings_NewReplacer.t J Q x0 h = exJ prog C 12 J G_strings_NewReplacer.ann G_strings_NewReplacer.body (initEnv 0 [x0]) h (kFun prog Tryz.f69 Q) := by kernel_rfl
theorem G_strings_NewReplacer.call {K : AV → AHeap → Prop} {x0 : AV} {h : AHeap} (H : G_strings_NewReplacer.t (G_strings_NewReplacer.J (kRet h K)) (kRet h K) x0 h) : C G_strings_NewReplacer.id [x0] h K :=
  callJ (P := prog) (fn := Tryz.f69) (ann := G_strings_NewReplacer.ann) (body := G_strings_NewReplacer.body) Tryz.func69 G_strings_NewReplacer.body_eq (by kernel_rfl) G_strings_NewReplacer.dist (by kernel_rfl) ((G_strings_NewReplacer.t_eq (G_strings_NewReplacer.J (kRet h K)) (kRet h K) x0 h).mp H)

--@@ G_strings_Replacer_Replace
/-! ### 70: (*strings.Replacer).Replace -/
noncomputable def G_strings_Replacer_Replace.body : Code := (Tryz.f70.body).getD .skip
def G_strings_Replacer_Replace.ann : Ann := (.seq 0 [0, 1] .leaf (.seq 0 [0, 1] .leaf (.seq 0 [4] .leaf .leaf)))
theorem G_strings_Replacer_Replace.body_eq : Tryz.f70.body = some G_strings_Replacer_Replace.body := by kernel_rfl
theorem G_strings_Replacer_Replace.dist : noTwice (places G_strings_Replacer_Replace.ann G_strings_Replacer_Replace.body) = true := by kernel_rfl
noncomputable def G_strings_Replacer_Replace.J (Q : AV → AHeap → Prop) : JT := funJ prog C Tryz.f70 G_strings_Replacer_Replace.ann G_strings_Replacer_Replace.body Q
theorem G_strings_Replacer_Replace.goR {Q : AV → AHeap → Prop} {k : Nat} {p : List Nat} (hl : lookJ (places G_strings_Replacer_Replace.ann G_strings_Replacer_Replace.body) k = some (p, false)) {e : Env} {h : AHeap} (hk : atJ prog C 17 (G_strings_Replacer_Replace.J Q) false p G_strings_Replacer_Replace.ann G_strings_Replacer_Replace.body e h (kFun prog Tryz.f70 Q)) : G_strings_Replacer_Replace.J Q k e h := goJ_run (P := prog) (fn := Tryz.f70) (ann := G_strings_Replacer_Replace.ann) (body := G_strings_Replacer_Replace.body) (Q := Q) (k := k) (p := p) (e := e) (h := h) (acall_le X) G_strings_Replacer_Replace.dist hl hk
theorem G_strings_Replacer_Replace.goH {Q : AV → AHeap → Prop} {k : Nat} {p : List Nat} (hl : lookJ (places G_strings_Replacer_Replace.ann G_strings_Replacer_Replace.body) k = some (p, true)) {e : Env} {h : AHeap} (hk : atJ prog C 17 (G_strings_Replacer_Replace.J Q) true p G_strings_Replacer_Replace.ann G_strings_Replacer_Replace.body e h (kFun prog Tryz.f70 Q)) : G_strings_Replacer_Replace.J Q k e h := goJ_head (P := prog) (fn := Tryz.f70) (ann := G_strings_Replacer_Replace.ann) (body := G_strings_Replacer_Replace.body) (Q := Q) (k := k) (p := p) (e := e) (h := h) (acall_le X) G_strings_Replacer_Replace.dist hl hk
def G_strings_Replacer_Replace.t (J : JT) (Q : AV → AHeap → Prop) (x0 : AV) (x1 : List UInt8) (h : AHeap) : Prop :=
pNil x0 fun v1 =>
pFieldAddr 0 v1 fun v2 =>
C G_sync_Once_Do.id [v2, (AV.fn (.func G_strings_Replacer_buildOnce.id) [x0] [])] h fun v3 h4 =>
pNil x0 fun v6 =>
pFieldAddr 3 v6 fun v7 =>
pLoad1 v7 h4 fun v8 =>
pInvoke prog C v8 "Replace" [(AV.s x1)] h4 fun v9 h10 =>
asS v9 fun l11 =>
Q (AV.s l11) h10
theorem G_strings_Replacer_Replace.t_eq (J : JT) (Q : AV → AHeap → Prop) (x0 : AV) (x1 : List UInt8) (h : AHeap) : G_strings_Replacer_Replace.t J Q x0 x1 h = exJ prog C 17 J G_strings_Replacer_Replace.ann G_strings_Replacer_Replace.body (initEnv 0 [x0, (AV.s x1)]) h (kFun prog Tryz.f70 Q) := by kernel_rfl
theorem G_strings_Replacer_Replace.call {K : AV → AHeap → Prop} {x0 : AV} {x1 : List UInt8} {h : AHeap} (H : G_strings_Replacer_Replace.t (G_strings_Replacer_Replace.J (kRet h K)) (kRet h K) x0 x1 h) : C G_strings_Replacer_Replace.id [x0, (AV.s x1)] h K :=
  callJ (P := prog) (fn := Tryz.f70) (ann := G_strings_Replacer_Replace.ann) (body := G_strings_Replacer_Replace.body) Tryz.func70 G_strings_Replacer_Replace.body_eq (by kernel_rfl) G_strings_Replacer_Replace.dist (by kernel_rfl) ((G_strings_Replacer_Replace.t_eq (G_strings_Replacer_Replace.J (kRet h K)) (kRet h K) x0 x1 h).mp H)

--@@ G_strings_Builder_copyCheck
/-! ### 72: (*strings.Builder).copyCheck -/
noncomputable def G_strings_Builder_copyCheck.body : Code := (Tryz.f72.body).getD .skip
def G_strings_Builder_copyCheck.ann : Ann := (.seq 0 [0, 6] .leaf (.br .leaf (.seq 0 [19] .leaf (.br .leaf .leaf))))
theorem G_strings_Builder_copyCheck.body_eq : Tryz.f72.body = some G_strings_Builder_copyCheck.body := by kernel_rfl
theorem G_strings_Builder_copyCheck.dist : noTwice (places G_strings_Builder_copyCheck.ann G_strings_Builder_copyCheck.body) = true := by kernel_rfl
noncomputable def G_strings_Builder_copyCheck.J (Q : AV → AHeap → Prop) : JT := funJ prog C Tryz.f72 G_strings_Builder_copyCheck.ann G_strings_Builder_copyCheck.body Q
theorem G_strings_Builder_copyCheck.goR {Q : AV → AHeap → Prop} {k : Nat} {p : List Nat} (hl : lookJ (places G_strings_Builder_copyCheck.ann G_strings_Builder_copyCheck.body) k = some (p, false)) {e : Env} {h : AHeap} (hk : atJ prog C 20 (G_strings_Builder_copyCheck.J Q) false p G_strings_Builder_copyCheck.ann G_strings_Builder_copyCheck.body e h (kFun prog Tryz.f72 Q)) : G_strings_Builder_copyCheck.J Q k e h := goJ_run (P := prog) (fn := Tryz.f72) (ann := G_strings_Builder_copyCheck.ann) (body := G_strings_Builder_copyCheck.body) (Q := Q) (k := k) (p := p) (e := e) (h := h) (acall_le X) G_strings_Builder_copyCheck.dist hl hk
theorem G_strings_Builder_copyCheck.goH {Q : AV → AHeap → Prop} {k : Nat} {p : List Nat} (hl : lookJ (places G_strings_Builder_copyCheck.ann G_strings_Builder_copyCheck.body) k = some (p, true)) {e : Env} {h : AHeap} (hk : atJ prog C 20 (G_strings_Builder_copyCheck.J Q) true p G_strings_Builder_copyCheck.ann G_strings_Builder_copyCheck.body e h (kFun prog Tryz.f72 Q)) : G_strings_Builder_copyCheck.J Q k e h := goJ_head (P := prog) (fn := Tryz.f72) (ann := G_strings_Builder_copyCheck.ann) (body := G_strings_Builder_copyCheck.body) (Q := Q) (k := k) (p := p) (e := e) (h := h) (acall_le X) G_strings_Builder_copyCheck.dist hl hk
def G_strings_Builder_copyCheck.t (J : JT) (Q : AV → AHeap → Prop) (x0 : AV) (h : AHeap) : Prop :=
pNil x0 fun v0 =>
pFieldAddr 0 v0 fun v1 =>
pLoad1 v1 h fun v2 =>
pBin prog .eql 86 v2 (AV.p none) fun v3 =>
asB v3 fun c4 =>
(bif c4 then
(pUnsafe x0 h fun v6 =>
C G_i_abi_NoEscape.id [v6] h fun v7 h8 =>
pFromUnsafe prog 88 v7 h8 fun v9 =>
pNil x0 fun v10 =>
pFieldAddr 0 v10 fun v11 =>
pStore 1 v11 v9 h8 fun h12 =>
Q (AV.tu []) h12)
else
(pNil x0 fun v13 =>
pFieldAddr 0 v13 fun v14 =>
pLoad1 v14 h fun v15 =>
pBin prog .neq 86 v15 x0 fun v16 =>
asB v16 fun c17 =>
(bif c17 then
(False)
else
(Q (AV.tu []) h))))
theorem G_strings_Builder_copyCheck.t_eq (J : JT) (Q : AV → AHeap → Prop) (x0 : AV) (h : AHeap) : G_strings_Builder_copyCheck.t J Q x0 h = exJ prog C 20 J G_strings_Builder_copyCheck.ann G_strings_Builder_copyCheck.body (initEnv 0 [x0]) h (kFun prog Tryz.f72 Q) := by kernel_rfl
theorem G_strings_Builder_copyCheck.call {K : AV → AHeap → Prop} {x0 : AV} {h : AHeap} (H : G_strings_Builder_copyCheck.t (G_strings_Builder_copyCheck.J (kRet h K)) (kRet h K) x0 h) : C G_strings_Builder_copyCheck.id [x0] h K :=
  callJ (P := prog) (fn := Tryz.f72) (ann := G_strings_Builder_copyCheck.ann) (body := G_strings_Builder_copyCheck.body) Tryz.func72 G_strings_Builder_copyCheck.body_eq (by kernel_rfl) G_strings_Builder_copyCheck.dist (by kernel_rfl) ((G_strings_Builder_copyCheck.t_eq (G_strings_Builder_copyCheck.J (kRet h K)) (kRet h K) x0 h).mp H)

--@@ G_strings_genSplit
/-! ### 73: strings.genSplit -/
noncomputable def G_strings_genSplit.body : Code := (Tryz.f73.body).getD .skip
def G_strings_genSplit.ann : Ann := (.seq 0 [0, 1, 2, 3] .leaf (.seq 0 [0, 1, 2, 3] (.seq 0 [0, 1, 2, 3, 13] .leaf (.br (.seq 0 [8] .leaf .leaf) .leaf)) (.seq 0 [0, 1, 2, 3] (.seq 0 [0, 1, 2, 3, 15] .leaf (.br (.seq 0 [8] .leaf .leaf) .leaf)) (.seq 1 [0, 1, 2, 3] (.seq 0 [0, 1, 2, 3, 20] .leaf (.br .leaf .leaf)) (.seq 0 [0, 1, 2, 3] .leaf (.seq 0 [0, 1, 2, 3, 9] .leaf (.seq 0 [0, 1, 2, 3, 9] .leaf (.seq 0 [0, 1, 2, 3, 9, 10] .leaf (.seq 3 [0, 9, 10] (.one (.loop 2 [0, 1, 2, 3, 9, 10] (.seq 0 [0, 1, 2, 3, 9, 10] (.seq 0 [0, 1, 2, 3, 9, 10, 36] .leaf (.br .leaf .leaf)) (.one (.seq 0 [0, 1, 2, 3, 9, 10, 11] .leaf (.seq 0 [0, 1, 2, 3, 9, 10, 11] (.seq 0 [0, 1, 2, 3, 9, 10, 11, 41] .leaf (.br .leaf .leaf)) (.seq 0 [0, 1, 2, 3, 9, 10, 11] .leaf (.seq 0 [0, 1, 2, 3, 9, 10] .leaf .leaf)))))))) (.seq 0 [9, 10] .leaf (.seq 0 [8] .leaf .leaf)))))))))))
theorem G_strings_genSplit.body_eq : Tryz.f73.body = some G_strings_genSplit.body := by kernel_rfl
theorem G_strings_genSplit.dist : noTwice (places G_strings_genSplit.ann G_strings_genSplit.body) = true := by kernel_rfl
noncomputable def G_strings_genSplit.J (Q : AV → AHeap → Prop) : JT := funJ prog C Tryz.f73 G_strings_genSplit.ann G_strings_genSplit.body Q
theorem G_strings_genSplit.goR {Q : AV → AHeap → Prop} {k : Nat} {p : List Nat} (hl : lookJ (places G_strings_genSplit.ann G_strings_genSplit.body) k = some (p, false)) {e : Env} {h : AHeap} (hk : atJ prog C 66 (G_strings_genSplit.J Q) false p G_strings_genSplit.ann G_strings_genSplit.body e h (kFun prog Tryz.f73 Q)) : G_strings_genSplit.J Q k e h := goJ_run (P := prog) (fn := Tryz.f73) (ann := G_strings_genSplit.ann) (body := G_strings_genSplit.body) (Q := Q) (k := k) (p := p) (e := e) (h := h) (acall_le X) G_strings_genSplit.dist hl hk
theorem G_strings_genSplit.goH {Q : AV → AHeap → Prop} {k : Nat} {p : List Nat} (hl : lookJ (places G_strings_genSplit.ann G_strings_genSplit.body) k = some (p, true)) {e : Env} {h : AHeap} (hk : atJ prog C 66 (G_strings_genSplit.J Q) true p G_strings_genSplit.ann G_strings_genSplit.body e h (kFun prog Tryz.f73 Q)) : G_strings_genSplit.J Q k e h := goJ_head (P := prog) (fn := Tryz.f73) (ann := G_strings_genSplit.ann) (body := G_strings_genSplit.body) (Q := Q) (k := k) (p := p) (e := e) (h := h) (acall_le X) G_strings_genSplit.dist hl hk
def G_strings_genSplit.p1 (Q : AV → AHeap → Prop) (x0 : List UInt8) (x1 : List UInt8) (x2 : Int) (x3 : Int) (x9 : AV) (x10 : Int) (h : AHeap) : Prop := G_strings_genSplit.J Q 2 [(0, (AV.s x0)), (1, (AV.s x1)), (2, (AV.i .i64 x2)), (3, (AV.i .i64 x3)), (9, x9), (10, (AV.i .i64 x10))] h
theorem G_strings_genSplit.j1 (Q : AV → AHeap → Prop) (x0 : List UInt8) (x1 : List UInt8) (x2 : Int) (x3 : Int) (x9 : AV) (x10 : Int) (h : AHeap) : G_strings_genSplit.J Q 2 [(0, (AV.s x0)), (1, (AV.s x1)), (2, (AV.i .i64 x2)), (3, (AV.i .i64 x3)), (9, x9), (10, (AV.i .i64 x10))] h = G_strings_genSplit.p1 Q x0 x1 x2 x3 x9 x10 h := rfl
def G_strings_genSplit.p2 (Q : AV → AHeap → Prop) (x0 : List UInt8) (x9 : AV) (x10 : Int) (h : AHeap) : Prop := G_strings_genSplit.J Q 3 [(0, (AV.s x0)), (9, x9), (10, (AV.i .i64 x10))] h
theorem G_strings_genSplit.j2 (Q : AV → AHeap → Prop) (x0 : List UInt8) (x9 : AV) (x10 : Int) (h : AHeap) : G_strings_genSplit.J Q 3 [(0, (AV.s x0)), (9, x9), (10, (AV.i .i64 x10))] h = G_strings_genSplit.p2 Q x0 x9 x10 h := rfl
def G_strings_genSplit.p0 (Q : AV → AHeap → Prop) (x0 : List UInt8) (x1 : List UInt8) (x2 : Int) (x3 : Int) (h : AHeap) : Prop := G_strings_genSplit.J Q 1 [(0, (AV.s x0)), (1, (AV.s x1)), (2, (AV.i .i64 x2)), (3, (AV.i .i64 x3))] h
theorem G_strings_genSplit.j0 (Q : AV → AHeap → Prop) (x0 : List UInt8) (x1 : List UInt8) (x2 : Int) (x3 : Int) (h : AHeap) : G_strings_genSplit.J Q 1 [(0, (AV.s x0)), (1, (AV.s x1)), (2, (AV.i .i64 x2)), (3, (AV.i .i64 x3))] h = G_strings_genSplit.p0 Q x0 x1 x2 x3 h := rfl
def G_strings_genSplit.t1 (J : JT) (Q : AV → AHeap → Prop) (x0 : List UInt8) (x1 : List UInt8) (x2 : Int) (x3 : Int) (x9 : AV) (x10 : Int) (h : AHeap) : Prop :=
(bif (decide ((x10 : Int) < x3)) then
(C G_strings_Index.id [(AV.s x0), (AV.s x1)] h fun v27 h28 =>
asI .i64 v27 fun n29 =>
(bif (decide ((n29 : Int) < 0)) then
(J 3 [(0, (AV.s x0)), (9, x9), (10, (AV.i .i64 x10))] h28)
else
(withI (IntKind.wrap .i64 (n29 + x2)) fun n34 =>
pSliceStr (AV.s x0) none (some (AV.i .i64 n34)) fun l35 =>
pIdxAddrSl 1 x9 (AV.i .i64 x10) h28 fun v36 =>
pStore 1 v36 (AV.s l35) h28 fun h37 =>
withI (IntKind.wrap .i64 (n29 + (x1.length : Int))) fun n39 =>
pSliceStr (AV.s x0) (some (AV.i .i64 n39)) none fun l40 =>
withI (IntKind.wrap .i64 (x10 + 1)) fun n42 =>
J 2 [(0, (AV.s l40)), (1, (AV.s x1)), (2, (AV.i .i64 x2)), (3, (AV.i .i64 x3)), (9, x9), (10, (AV.i .i64 n42))] h37)))
else
(J 3 [(0, (AV.s x0)), (9, x9), (10, (AV.i .i64 x10))] h))
theorem G_strings_genSplit.t1_eq (J : JT) (Q : AV → AHeap → Prop) (x0 : List UInt8) (x1 : List UInt8) (x2 : Int) (x3 : Int) (x9 : AV) (x10 : Int) (h : AHeap) : G_strings_genSplit.t1 J Q x0 x1 x2 x3 x9 x10 h = atJ prog C 66 J true [1, 1, 1, 1, 1, 1, 1, 1, 0, 0] G_strings_genSplit.ann G_strings_genSplit.body [(0, (AV.s x0)), (1, (AV.s x1)), (2, (AV.i .i64 x2)), (3, (AV.i .i64 x3)), (9, x9), (10, (AV.i .i64 x10))] h (kFun prog Tryz.f73 Q) := by kernel_rfl
theorem G_strings_genSplit.i1 {Q : AV → AHeap → Prop} {x0 : List UInt8} {x1 : List UInt8} {x2 : Int} {x3 : Int} {x9 : AV} {x10 : Int} {h : AHeap} (H : G_strings_genSplit.t1 (G_strings_genSplit.J Q) Q x0 x1 x2 x3 x9 x10 h) : G_strings_genSplit.p1 Q x0 x1 x2 x3 x9 x10 h := G_strings_genSplit.goH (k := 2) (p := [1, 1, 1, 1, 1, 1, 1, 1, 0, 0]) (by kernel_rfl) ((G_strings_genSplit.t1_eq (G_strings_genSplit.J Q) Q x0 x1 x2 x3 x9 x10 h).mp H)
def G_strings_genSplit.t2 (J : JT) (Q : AV → AHeap → Prop) (x0 : List UInt8) (x9 : AV) (x10 : Int) (h : AHeap) : Prop :=
pIdxAddrSl 1 x9 (AV.i .i64 x10) h fun v44 =>
pStore 1 v44 (AV.s x0) h fun h45 =>
withI (IntKind.wrap .i64 (x10 + 1)) fun n47 =>
pSliceSl 1 x9 none (some (AV.i .i64 n47)) none h45 fun v48 =>
Q v48 h45
theorem G_strings_genSplit.t2_eq (J : JT) (Q : AV → AHeap → Prop) (x0 : List UInt8) (x9 : AV) (x10 : Int) (h : AHeap) : G_strings_genSplit.t2 J Q x0 x9 x10 h = atJ prog C 66 J false [1, 1, 1, 1, 1, 1, 1, 1, 1] G_strings_genSplit.ann G_strings_genSplit.body [(0, (AV.s x0)), (9, x9), (10, (AV.i .i64 x10))] h (kFun prog Tryz.f73 Q) := by kernel_rfl
theorem G_strings_genSplit.i2 {Q : AV → AHeap → Prop} {x0 : List UInt8} {x9 : AV} {x10 : Int} {h : AHeap} (H : G_strings_genSplit.t2 (G_strings_genSplit.J Q) Q x0 x9 x10 h) : G_strings_genSplit.p2 Q x0 x9 x10 h := G_strings_genSplit.goR (k := 3) (p := [1, 1, 1, 1, 1, 1, 1, 1, 1]) (by kernel_rfl) ((G_strings_genSplit.t2_eq (G_strings_genSplit.J Q) Q x0 x9 x10 h).mp H)
def G_strings_genSplit.t0 (J : JT) (Q : AV → AHeap → Prop) (x0 : List UInt8) (x1 : List UInt8) (x2 : Int) (x3 : Int) (h : AHeap) : Prop :=
withI (IntKind.wrap .i64 ((x0.length : Int) + 1)) fun n16 =>
pMake 1 16 [(AV.s [])] (AV.i .i64 (mmI false x3 n16)) (AV.i .i64 (mmI false x3 n16)) h fun v18 h19 =>
withI (IntKind.wrap .i64 ((mmI false x3 n16) - 1)) fun n21 =>
J 2 [(0, (AV.s x0)), (1, (AV.s x1)), (2, (AV.i .i64 x2)), (3, (AV.i .i64 n21)), (9, v18), (10, (AV.i .i64 0))] h19
theorem G_strings_genSplit.t0_eq (J : JT) (Q : AV → AHeap → Prop) (x0 : List UInt8) (x1 : List UInt8) (x2 : Int) (x3 : Int) (h : AHeap) : G_strings_genSplit.t0 J Q x0 x1 x2 x3 h = atJ prog C 66 J false [1, 1, 1, 1] G_strings_genSplit.ann G_strings_genSplit.body [(0, (AV.s x0)), (1, (AV.s x1)), (2, (AV.i .i64 x2)), (3, (AV.i .i64 x3))] h (kFun prog Tryz.f73 Q) := by kernel_rfl
theorem G_strings_genSplit.i0 {Q : AV → AHeap → Prop} {x0 : List UInt8} {x1 : List UInt8} {x2 : Int} {x3 : Int} {h : AHeap} (H : G_strings_genSplit.t0 (G_strings_genSplit.J Q) Q x0 x1 x2 x3 h) : G_strings_genSplit.p0 Q x0 x1 x2 x3 h := G_strings_genSplit.goR (k := 1) (p := [1, 1, 1, 1]) (by kernel_rfl) ((G_strings_genSplit.t0_eq (G_strings_genSplit.J Q) Q x0 x1 x2 x3 h).mp H)
def G_strings_genSplit.t (J : JT) (Q : AV → AHeap → Prop) (x0 : List UInt8) (x1 : List UInt8) (x2 : Int) (x3 : Int) (h : AHeap) : Prop :=
(bif (decide ((x3 : Int) = 0)) then
(Q (AV.sl none 0 none) h)
else
((bif (decide ((x1 : List UInt8) = [])) then
(C G_strings_explode.id [(AV.s x0), (AV.i .i64 x3)] h fun v5 h6 =>
Q v5 h6)
else
((bif (decide ((x3 : Int) < 0)) then
(C G_strings_Count.id [(AV.s x0), (AV.s x1)] h fun v10 h11 =>
asI .i64 v10 fun n12 =>
withI (IntKind.wrap .i64 (n12 + 1)) fun n13 =>
J 1 [(0, (AV.s x0)), (1, (AV.s x1)), (2, (AV.i .i64 x2)), (3, (AV.i .i64 n13))] h11)
else
(J 1 [(0, (AV.s x0)), (1, (AV.s x1)), (2, (AV.i .i64 x2)), (3, (AV.i .i64 x3))] h))))))
theorem G_strings_genSplit.t_eq (J : JT) (Q : AV → AHeap → Prop) (x0 : List UInt8) (x1 : List UInt8) (x2 : Int) (x3 : Int) (h : AHeap) : G_strings_genSplit.t J Q x0 x1 x2 x3 h = exJ prog C 66 J G_strings_genSplit.ann G_strings_genSplit.body (initEnv 0 [(AV.s x0), (AV.s x1), (AV.i .i64 x2), (AV.i .i64 x3)]) h (kFun prog Tryz.f73 Q) := by kernel_rfl
theorem G_strings_genSplit.call {K : AV → AHeap → Prop} {x0 : List UInt8} {x1 : List UInt8} {x2 : Int} {x3 : Int} {h : AHeap} (H : G_strings_genSplit.t (G_strings_genSplit.J (kRet h K)) (kRet h K) x0 x1 x2 x3 h) : C G_strings_genSplit.id [(AV.s x0), (AV.s x1), (AV.i .i64 x2), (AV.i .i64 x3)] h K :=
  callJ (P := prog) (fn := Tryz.f73) (ann := G_strings_genSplit.ann) (body := G_strings_genSplit.body) Tryz.func73 G_strings_genSplit.body_eq (by kernel_rfl) G_strings_genSplit.dist (by kernel_rfl) ((G_strings_genSplit.t_eq (G_strings_genSplit.J (kRet h K)) (kRet h K) x0 x1 x2 x3 h).mp H)

--@@ G_certificate_shape_is
/-! ### 74: (intrusion/certificate.shape).is -/
noncomputable def G_certificate_shape_is.body : Code := (Tryz.f74.body).getD .skip
def G_certificate_shape_is.ann : Ann := (.seq 0 [2, 3] .leaf (.seq 0 [4] .leaf .leaf))
theorem G_certificate_shape_is.body_eq : Tryz.f74.body = some G_certificate_shape_is.body := by kernel_rfl
theorem G_certificate_shape_is.dist : noTwice (places G_certificate_shape_is.ann G_certificate_shape_is.body) = true := by kernel_rfl
noncomputable def G_certificate_shape_is.J (Q : AV → AHeap → Prop) : JT := funJ prog C Tryz.f74 G_certificate_shape_is.ann G_certificate_shape_is.body Q
theorem G_certificate_shape_is.goR {Q : AV → AHeap → Prop} {k : Nat} {p : List Nat} (hl : lookJ (places G_certificate_shape_is.ann G_certificate_shape_is.body) k = some (p, false)) {e : Env} {h : AHeap} (hk : atJ prog C 14 (G_certificate_shape_is.J Q) false p G_certificate_shape_is.ann G_certificate_shape_is.body e h (kFun prog Tryz.f74 Q)) : G_certificate_shape_is.J Q k e h := goJ_run (P := prog) (fn := Tryz.f74) (ann := G_certificate_shape_is.ann) (body := G_certificate_shape_is.body) (Q := Q) (k := k) (p := p) (e := e) (h := h) (acall_le X) G_certificate_shape_is.dist hl hk
theorem G_certificate_shape_is.goH {Q : AV → AHeap → Prop} {k : Nat} {p : List Nat} (hl : lookJ (places G_certificate_shape_is.ann G_certificate_shape_is.body) k = some (p, true)) {e : Env} {h : AHeap} (hk : atJ prog C 14 (G_certificate_shape_is.J Q) true p G_certificate_shape_is.ann G_certificate_shape_is.body e h (kFun prog Tryz.f74 Q)) : G_certificate_shape_is.J Q k e h := goJ_head (P := prog) (fn := Tryz.f74) (ann := G_certificate_shape_is.ann) (body := G_certificate_shape_is.body) (Q := Q) (k := k) (p := p) (e := e) (h := h) (acall_le X) G_certificate_shape_is.dist hl hk
def G_certificate_shape_is.t (J : JT) (Q : AV → AHeap → Prop) (x0 : AV) (x1 : AV) (h : AHeap) : Prop :=
pBox (some 78) x0 h fun v0 h1 =>
pBox (some 65) x1 h1 fun v2 h3 =>
pFieldAddr 0 v2 fun v5 =>
pLoad1 v5 h3 fun v6 =>
asI .i64 v6 fun n7 =>
pFieldAddr 1 v2 fun v8 =>
pLoad1 v8 h3 fun v9 =>
asI .i64 v9 fun n10 =>
pFieldAddr 2 v2 fun v11 =>
pLoad1 v11 h3 fun v12 =>
asB v12 fun c13 =>
pLoadN 3 v0 h3 fun v14 =>
pBin prog .eql 78 (AV.ag [(AV.i .i64 n7), (AV.i .i64 n10), (AV.b c13)]) v14 fun v15 =>
asB v15 fun c16 =>
Q (AV.b c16) h3
theorem G_certificate_shape_is.t_eq (J : JT) (Q : AV → AHeap → Prop) (x0 : AV) (x1 : AV) (h : AHeap) : G_certificate_shape_is.t J Q x0 x1 h = exJ prog C 14 J G_certificate_shape_is.ann G_certificate_shape_is.body (initEnv 0 [x0, x1]) h (kFun prog Tryz.f74 Q) := by kernel_rfl
theorem G_certificate_shape_is.call {K : AV → AHeap → Prop} {x0 : AV} {x1 : AV} {h : AHeap} (H : G_certificate_shape_is.t (G_certificate_shape_is.J (kRet h K)) (kRet h K) x0 x1 h) : C G_certificate_shape_is.id [x0, x1] h K :=
  callJ (P := prog) (fn := Tryz.f74) (ann := G_certificate_shape_is.ann) (body := G_certificate_shape_is.body) Tryz.func74 G_certificate_shape_is.body_eq (by kernel_rfl) G_certificate_shape_is.dist (by kernel_rfl) ((G_certificate_shape_is.t_eq (G_certificate_shape_is.J (kRet h K)) (kRet h K) x0 x1 h).mp H)

--@@ G_der_plain
/-! ### 75: intrusion/der.plain -/
noncomputable def G_der_plain.body : Code := (Tryz.f75.body).getD .skip
def G_der_plain.ann : Ann := (.seq 0 [1, 2] .leaf (.seq 1 [4] .leaf .leaf))
theorem G_der_plain.body_eq : Tryz.f75.body = some G_der_plain.body := by kernel_rfl
theorem G_der_plain.dist : noTwice (places G_der_plain.ann G_der_plain.body) = true := by kernel_rfl
noncomputable def G_der_plain.J (Q : AV → AHeap → Prop) : JT := funJ prog C Tryz.f75 G_der_plain.ann G_der_plain.body Q
theorem G_der_plain.goR {Q : AV → AHeap → Prop} {k : Nat} {p : List Nat} (hl : lookJ (places G_der_plain.ann G_der_plain.body) k = some (p, false)) {e : Env} {h : AHeap} (hk : atJ prog C 25 (G_der_plain.J Q) false p G_der_plain.ann G_der_plain.body e h (kFun prog Tryz.f75 Q)) : G_der_plain.J Q k e h := goJ_run (P := prog) (fn := Tryz.f75) (ann := G_der_plain.ann) (body := G_der_plain.body) (Q := Q) (k := k) (p := p) (e := e) (h := h) (acall_le X) G_der_plain.dist hl hk
theorem G_der_plain.goH {Q : AV → AHeap → Prop} {k : Nat} {p : List Nat} (hl : lookJ (places G_der_plain.ann G_der_plain.body) k = some (p, true)) {e : Env} {h : AHeap} (hk : atJ prog C 25 (G_der_plain.J Q) true p G_der_plain.ann G_der_plain.body e h (kFun prog Tryz.f75 Q)) : G_der_plain.J Q k e h := goJ_head (P := prog) (fn := Tryz.f75) (ann := G_der_plain.ann) (body := G_der_plain.body) (Q := Q) (k := k) (p := p) (e := e) (h := h) (acall_le X) G_der_plain.dist hl hk
def G_der_plain.p0 (Q : AV → AHeap → Prop) (x4 : Bool) (h : AHeap) : Prop := G_der_plain.J Q 1 [(4, (AV.b x4))] h
theorem G_der_plain.j0 (Q : AV → AHeap → Prop) (x4 : Bool) (h : AHeap) : G_der_plain.J Q 1 [(4, (AV.b x4))] h = G_der_plain.p0 Q x4 h := rfl
def G_der_plain.t0 (J : JT) (Q : AV → AHeap → Prop) (x4 : Bool) (h : AHeap) : Prop :=
Q (AV.b x4) h
theorem G_der_plain.t0_eq (J : JT) (Q : AV → AHeap → Prop) (x4 : Bool) (h : AHeap) : G_der_plain.t0 J Q x4 h = atJ prog C 25 J false [1, 1] G_der_plain.ann G_der_plain.body [(4, (AV.b x4))] h (kFun prog Tryz.f75 Q) := by kernel_rfl
theorem G_der_plain.i0 {Q : AV → AHeap → Prop} {x4 : Bool} {h : AHeap} (H : G_der_plain.t0 (G_der_plain.J Q) Q x4 h) : G_der_plain.p0 Q x4 h := G_der_plain.goR (k := 1) (p := [1, 1]) (by kernel_rfl) ((G_der_plain.t0_eq (G_der_plain.J Q) Q x4 h).mp H)
def G_der_plain.t (J : JT) (Q : AV → AHeap → Prop) (x0 : AV) (x1 : Int) (h : AHeap) : Prop :=
pBox (some 65) x0 h fun v0 h1 =>
pFieldAddr 0 v0 fun v3 =>
pLoad1 v3 h1 fun v4 =>
asI .i64 v4 fun n5 =>
(bif (decide ((n5 : Int) = 0)) then
(pFieldAddr 1 v0 fun v6 =>
pLoad1 v6 h1 fun v7 =>
asI .i64 v7 fun n8 =>
(bif (decide ((n8 : Int) = x1)) then
(pFieldAddr 2 v0 fun v9 =>
pLoad1 v9 h1 fun v10 =>
asB v10 fun c11 =>
(bif (!c11) then
(pFieldAddr 4 v0 fun v12 =>
pLoad1 v12 h1 fun v13 =>
pLenSl v13 fun n14 =>
J 1 [(4, (AV.b (decide ((n14 : Int) = 0))))] h1)
else
(J 1 [(4, (AV.b false))] h1)))
else
(J 1 [(4, (AV.b false))] h1)))
else
(J 1 [(4, (AV.b false))] h1))
theorem G_der_plain.t_eq (J : JT) (Q : AV → AHeap → Prop) (x0 : AV) (x1 : Int) (h : AHeap) : G_der_plain.t J Q x0 x1 h = exJ prog C 25 J G_der_plain.ann G_der_plain.body (initEnv 0 [x0, (AV.i .i64 x1)]) h (kFun prog Tryz.f75 Q) := by kernel_rfl
theorem G_der_plain.call {K : AV → AHeap → Prop} {x0 : AV} {x1 : Int} {h : AHeap} (H : G_der_plain.t (G_der_plain.J (kRet h K)) (kRet h K) x0 x1 h) : C G_der_plain.id [x0, (AV.i .i64 x1)] h K :=
  callJ (P := prog) (fn := Tryz.f75) (ann := G_der_plain.ann) (body := G_der_plain.body) Tryz.func75 G_der_plain.body_eq (by kernel_rfl) G_der_plain.dist (by kernel_rfl) ((G_der_plain.t_eq (G_der_plain.J (kRet h K)) (kRet h K) x0 x1 h).mp H)

--@@ G_der_all_byte_
/-! ### 77: intrusion/der.all[byte] -/
noncomputable def G_der_all_byte_.body : Code := (Tryz.f77.body).getD .skip
def G_der_all_byte_.ann : Ann := (.seq 0 [0, 1] .leaf (.seq 0 [] (.seq 0 [1, 7, 8, 9] .leaf (.one (.loop 1 [1, 7, 8, 9] (.seq 0 [1, 7, 8, 9, 10] .leaf (.seq 0 [1, 7, 8, 9] (.br .leaf .leaf) (.seq 0 [1, 7, 8, 9] (.one (.seq 0 [1, 6, 7, 8, 9] .leaf (.seq 0 [1, 7, 8, 9, 16] .leaf (.br (.seq 0 [4] .leaf .leaf) .leaf)))) .leaf)))))) (.seq 0 [4] .leaf .leaf)))
theorem G_der_all_byte_.body_eq : Tryz.f77.body = some G_der_all_byte_.body := by kernel_rfl
theorem G_der_all_byte_.dist : noTwice (places G_der_all_byte_.ann G_der_all_byte_.body) = true := by kernel_rfl
noncomputable def G_der_all_byte_.J (Q : AV → AHeap → Prop) : JT := funJ prog C Tryz.f77 G_der_all_byte_.ann G_der_all_byte_.body Q
theorem G_der_all_byte_.goR {Q : AV → AHeap → Prop} {k : Nat} {p : List Nat} (hl : lookJ (places G_der_all_byte_.ann G_der_all_byte_.body) k = some (p, false)) {e : Env} {h : AHeap} (hk : atJ prog C 18 (G_der_all_byte_.J Q) false p G_der_all_byte_.ann G_der_all_byte_.body e h (kFun prog Tryz.f77 Q)) : G_der_all_byte_.J Q k e h := goJ_run (P := prog) (fn := Tryz.f77) (ann := G_der_all_byte_.ann) (body := G_der_all_byte_.body) (Q := Q) (k := k) (p := p) (e := e) (h := h) (acall_le X) G_der_all_byte_.dist hl hk
theorem G_der_all_byte_.goH {Q : AV → AHeap → Prop} {k : Nat} {p : List Nat} (hl : lookJ (places G_der_all_byte_.ann G_der_all_byte_.body) k = some (p, true)) {e : Env} {h : AHeap} (hk : atJ prog C 18 (G_der_all_byte_.J Q) true p G_der_all_byte_.ann G_der_all_byte_.body e h (kFun prog Tryz.f77 Q)) : G_der_all_byte_.J Q k e h := goJ_head (P := prog) (fn := Tryz.f77) (ann := G_der_all_byte_.ann) (body := G_der_all_byte_.body) (Q := Q) (k := k) (p := p) (e := e) (h := h) (acall_le X) G_der_all_byte_.dist hl hk
def G_der_all_byte_.p0 (Q : AV → AHeap → Prop) (x1 : AV) (x7 : AV) (x8 : Int) (x9 : Int) (h : AHeap) : Prop := G_der_all_byte_.J Q 1 [(1, x1), (7, x7), (8, (AV.i .i64 x8)), (9, (AV.i .i64 x9))] h
theorem G_der_all_byte_.j0 (Q : AV → AHeap → Prop) (x1 : AV) (x7 : AV) (x8 : Int) (x9 : Int) (h : AHeap) : G_der_all_byte_.J Q 1 [(1, x1), (7, x7), (8, (AV.i .i64 x8)), (9, (AV.i .i64 x9))] h = G_der_all_byte_.p0 Q x1 x7 x8 x9 h := rfl
def G_der_all_byte_.t0 (J : JT) (Q : AV → AHeap → Prop) (x1 : AV) (x7 : AV) (x8 : Int) (x9 : Int) (h : AHeap) : Prop :=
(bif (decide ((x9 : Int) < x8)) then
(pIdxAddrSl 1 x7 (AV.i .i64 x9) h fun v6 =>
pLoad1 v6 h fun v7 =>
asI .u8 v7 fun n8 =>
pCallV C x1 [(AV.i .u8 n8)] h fun v10 h11 =>
asB v10 fun c12 =>
(bif (!c12) then
(Q (AV.b false) h11)
else
(withI (IntKind.wrap .i64 (x9 + 1)) fun n16 =>
J 1 [(1, x1), (7, x7), (8, (AV.i .i64 x8)), (9, (AV.i .i64 n16))] h11)))
else
(Q (AV.b true) h))
theorem G_der_all_byte_.t0_eq (J : JT) (Q : AV → AHeap → Prop) (x1 : AV) (x7 : AV) (x8 : Int) (x9 : Int) (h : AHeap) : G_der_all_byte_.t0 J Q x1 x7 x8 x9 h = atJ prog C 18 J true [1, 0, 1, 0] G_der_all_byte_.ann G_der_all_byte_.body [(1, x1), (7, x7), (8, (AV.i .i64 x8)), (9, (AV.i .i64 x9))] h (kFun prog Tryz.f77 Q) := by kernel_rfl
theorem G_der_all_byte_.i0 {Q : AV → AHeap → Prop} {x1 : AV} {x7 : AV} {x8 : Int} {x9 : Int} {h : AHeap} (H : G_der_all_byte_.t0 (G_der_all_byte_.J Q) Q x1 x7 x8 x9 h) : G_der_all_byte_.p0 Q x1 x7 x8 x9 h := G_der_all_byte_.goH (k := 1) (p := [1, 0, 1, 0]) (by kernel_rfl) ((G_der_all_byte_.t0_eq (G_der_all_byte_.J Q) Q x1 x7 x8 x9 h).mp H)
def G_der_all_byte_.t (J : JT) (Q : AV → AHeap → Prop) (x0 : AV) (x1 : AV) (h : AHeap) : Prop :=
pLenSl x0 fun n1 =>
J 1 [(1, x1), (7, x0), (8, (AV.i .i64 n1)), (9, (AV.i .i64 0))] h
theorem G_der_all_byte_.t_eq (J : JT) (Q : AV → AHeap → Prop) (x0 : AV) (x1 : AV) (h : AHeap) : G_der_all_byte_.t J Q x0 x1 h = exJ prog C 18 J G_der_all_byte_.ann G_der_all_byte_.body (initEnv 0 [x0, x1]) h (kFun prog Tryz.f77 Q) := by kernel_rfl
theorem G_der_all_byte_.call {K : AV → AHeap → Prop} {x0 : AV} {x1 : AV} {h : AHeap} (H : G_der_all_byte_.t (G_der_all_byte_.J (kRet h K)) (kRet h K) x0 x1 h) : C G_der_all_byte_.id [x0, x1] h K :=
  callJ (P := prog) (fn := Tryz.f77) (ann := G_der_all_byte_.ann) (body := G_der_all_byte_.body) Tryz.func77 G_der_all_byte_.body_eq (by kernel_rfl) G_der_all_byte_.dist (by kernel_rfl) ((G_der_all_byte_.t_eq (G_der_all_byte_.J (kRet h K)) (kRet h K) x0 x1 h).mp H)

--@@ G_der_Text_1
/-! ### 78: intrusion/der.Text$1 -/
noncomputable def G_der_Text_1.body : Code := (Tryz.f78.body).getD .skip
def G_der_Text_1.ann : Ann := (.seq 0 [0] .leaf (.seq 1 [2] .leaf .leaf))
theorem G_der_Text_1.body_eq : Tryz.f78.body = some G_der_Text_1.body := by kernel_rfl
theorem G_der_Text_1.dist : noTwice (places G_der_Text_1.ann G_der_Text_1.body) = true := by kernel_rfl
noncomputable def G_der_Text_1.J (Q : AV → AHeap → Prop) : JT := funJ prog C Tryz.f78 G_der_Text_1.ann G_der_Text_1.body Q
theorem G_der_Text_1.goR {Q : AV → AHeap → Prop} {k : Nat} {p : List Nat} (hl : lookJ (places G_der_Text_1.ann G_der_Text_1.body) k = some (p, false)) {e : Env} {h : AHeap} (hk : atJ prog C 9 (G_der_Text_1.J Q) false p G_der_Text_1.ann G_der_Text_1.body e h (kFun prog Tryz.f78 Q)) : G_der_Text_1.J Q k e h := goJ_run (P := prog) (fn := Tryz.f78) (ann := G_der_Text_1.ann) (body := G_der_Text_1.body) (Q := Q) (k := k) (p := p) (e := e) (h := h) (acall_le X) G_der_Text_1.dist hl hk
theorem G_der_Text_1.goH {Q : AV → AHeap → Prop} {k : Nat} {p : List Nat} (hl : lookJ (places G_der_Text_1.ann G_der_Text_1.body) k = some (p, true)) {e : Env} {h : AHeap} (hk : atJ prog C 9 (G_der_Text_1.J Q) true p G_der_Text_1.ann G_der_Text_1.body e h (kFun prog Tryz.f78 Q)) : G_der_Text_1.J Q k e h := goJ_head (P := prog) (fn := Tryz.f78) (ann := G_der_Text_1.ann) (body := G_der_Text_1.body) (Q := Q) (k := k) (p := p) (e := e) (h := h) (acall_le X) G_der_Text_1.dist hl hk
def G_der_Text_1.p0 (Q : AV → AHeap → Prop) (x2 : Bool) (h : AHeap) : Prop := G_der_Text_1.J Q 1 [(2, (AV.b x2))] h
theorem G_der_Text_1.j0 (Q : AV → AHeap → Prop) (x2 : Bool) (h : AHeap) : G_der_Text_1.J Q 1 [(2, (AV.b x2))] h = G_der_Text_1.p0 Q x2 h := rfl
def G_der_Text_1.t0 (J : JT) (Q : AV → AHeap → Prop) (x2 : Bool) (h : AHeap) : Prop :=
Q (AV.b x2) h
theorem G_der_Text_1.t0_eq (J : JT) (Q : AV → AHeap → Prop) (x2 : Bool) (h : AHeap) : G_der_Text_1.t0 J Q x2 h = atJ prog C 9 J false [1, 1] G_der_Text_1.ann G_der_Text_1.body [(2, (AV.b x2))] h (kFun prog Tryz.f78 Q) := by kernel_rfl
theorem G_der_Text_1.i0 {Q : AV → AHeap → Prop} {x2 : Bool} {h : AHeap} (H : G_der_Text_1.t0 (G_der_Text_1.J Q) Q x2 h) : G_der_Text_1.p0 Q x2 h := G_der_Text_1.goR (k := 1) (p := [1, 1]) (by kernel_rfl) ((G_der_Text_1.t0_eq (G_der_Text_1.J Q) Q x2 h).mp H)
def G_der_Text_1.t (J : JT) (Q : AV → AHeap → Prop) (x0 : Int) (h : AHeap) : Prop :=
(bif (decide ((32 : Int) ≤ x0)) then
(J 1 [(2, (AV.b (decide ((x0 : Int) ≤ 126))))] h)
else
(J 1 [(2, (AV.b false))] h))
theorem G_der_Text_1.t_eq (J : JT) (Q : AV → AHeap → Prop) (x0 : Int) (h : AHeap) : G_der_Text_1.t J Q x0 h = exJ prog C 9 J G_der_Text_1.ann G_der_Text_1.body (initEnv 0 [(AV.i .u8 x0)]) h (kFun prog Tryz.f78 Q) := by kernel_rfl
theorem G_der_Text_1.call {K : AV → AHeap → Prop} {x0 : Int} {h : AHeap} (H : G_der_Text_1.t (G_der_Text_1.J (kRet h K)) (kRet h K) x0 h) : C G_der_Text_1.id [(AV.i .u8 x0)] h K :=
  callJ (P := prog) (fn := Tryz.f78) (ann := G_der_Text_1.ann) (body := G_der_Text_1.body) Tryz.func78 G_der_Text_1.body_eq (by kernel_rfl) G_der_Text_1.dist (by kernel_rfl) ((G_der_Text_1.t_eq (G_der_Text_1.J (kRet h K)) (kRet h K) x0 h).mp H)

--@@ G_sync_Once_Do
/-! ### 79: (*sync.Once).Do -/
noncomputable def G_sync_Once_Do.body : Code := (Tryz.f79.body).getD .skip
def G_sync_Once_Do.ann : Ann := (.seq 0 [0, 1, 8] .leaf (.br .leaf .leaf))
theorem G_sync_Once_Do.body_eq : Tryz.f79.body = some G_sync_Once_Do.body := by kernel_rfl
theorem G_sync_Once_Do.dist : noTwice (places G_sync_Once_Do.ann G_sync_Once_Do.body) = true := by kernel_rfl
noncomputable def G_sync_Once_Do.J (Q : AV → AHeap → Prop) : JT := funJ prog C Tryz.f79 G_sync_Once_Do.ann G_sync_Once_Do.body Q
theorem G_sync_Once_Do.goR {Q : AV → AHeap → Prop} {k : Nat} {p : List Nat} (hl : lookJ (places G_sync_Once_Do.ann G_sync_Once_Do.body) k = some (p, false)) {e : Env} {h : AHeap} (hk : atJ prog C 12 (G_sync_Once_Do.J Q) false p G_sync_Once_Do.ann G_sync_Once_Do.body e h (kFun prog Tryz.f79 Q)) : G_sync_Once_Do.J Q k e h := goJ_run (P := prog) (fn := Tryz.f79) (ann := G_sync_Once_Do.ann) (body := G_sync_Once_Do.body) (Q := Q) (k := k) (p := p) (e := e) (h := h) (acall_le X) G_sync_Once_Do.dist hl hk
theorem G_sync_Once_Do.goH {Q : AV → AHeap → Prop} {k : Nat} {p : List Nat} (hl : lookJ (places G_sync_Once_Do.ann G_sync_Once_Do.body) k = some (p, true)) {e : Env} {h : AHeap} (hk : atJ prog C 12 (G_sync_Once_Do.J Q) true p G_sync_Once_Do.ann G_sync_Once_Do.body e h (kFun prog Tryz.f79 Q)) : G_sync_Once_Do.J Q k e h := goJ_head (P := prog) (fn := Tryz.f79) (ann := G_sync_Once_Do.ann) (body := G_sync_Once_Do.body) (Q := Q) (k := k) (p := p) (e := e) (h := h) (acall_le X) G_sync_Once_Do.dist hl hk
def G_sync_Once_Do.t (J : JT) (Q : AV → AHeap → Prop) (x0 : AV) (x1 : AV) (h : AHeap) : Prop :=
pNil x0 fun v0 =>
pFieldAddr 0 v0 fun v1 =>
C G_sync_atomic_Bool_Load.id [v1] h fun v2 h3 =>
asB v2 fun c4 =>
(bif (!c4) then
(C G_sync_Once_doSlow.id [x0, x1] h3 fun v6 h7 =>
Q (AV.tu []) h7)
else
(Q (AV.tu []) h3))
theorem G_sync_Once_Do.t_eq (J : JT) (Q : AV → AHeap → Prop) (x0 : AV) (x1 : AV) (h : AHeap) : G_sync_Once_Do.t J Q x0 x1 h = exJ prog C 12 J G_sync_Once_Do.ann G_sync_Once_Do.body (initEnv 0 [x0, x1]) h (kFun prog Tryz.f79 Q) := by kernel_rfl
theorem G_sync_Once_Do.call {K : AV → AHeap → Prop} {x0 : AV} {x1 : AV} {h : AHeap} (H : G_sync_Once_Do.t (G_sync_Once_Do.J (kRet h K)) (kRet h K) x0 x1 h) : C G_sync_Once_Do.id [x0, x1] h K :=
  callJ (P := prog) (fn := Tryz.f79) (ann := G_sync_Once_Do.ann) (body := G_sync_Once_Do.body) Tryz.func79 G_sync_Once_Do.body_eq (by kernel_rfl) G_sync_Once_Do.dist (by kernel_rfl) ((G_sync_Once_Do.t_eq (G_sync_Once_Do.J (kRet h K)) (kRet h K) x0 x1 h).mp H)

--@@ G_strings_Replacer_buildOnce
/-! ### 80: (*strings.Replacer).buildOnce -/
noncomputable def G_strings_Replacer_buildOnce.body : Code := (Tryz.f80.body).getD .skip
def G_strings_Replacer_buildOnce.ann : Ann := (.seq 0 [0] .leaf .leaf)
theorem G_strings_Replacer_buildOnce.body_eq : Tryz.f80.body = some G_strings_Replacer_buildOnce.body := by kernel_rfl
theorem G_strings_Replacer_buildOnce.dist : noTwice (places G_strings_Replacer_buildOnce.ann G_strings_Replacer_buildOnce.body) = true := by kernel_rfl
noncomputable def G_strings_Replacer_buildOnce.J (Q : AV → AHeap → Prop) : JT := funJ prog C Tryz.f80 G_strings_Replacer_buildOnce.ann G_strings_Replacer_buildOnce.body Q
theorem G_strings_Replacer_buildOnce.goR {Q : AV → AHeap → Prop} {k : Nat} {p : List Nat} (hl : lookJ (places G_strings_Replacer_buildOnce.ann G_strings_Replacer_buildOnce.body) k = some (p, false)) {e : Env} {h : AHeap} (hk : atJ prog C 10 (G_strings_Replacer_buildOnce.J Q) false p G_strings_Replacer_buildOnce.ann G_strings_Replacer_buildOnce.body e h (kFun prog Tryz.f80 Q)) : G_strings_Replacer_buildOnce.J Q k e h := goJ_run (P := prog) (fn := Tryz.f80) (ann := G_strings_Replacer_buildOnce.ann) (body := G_strings_Replacer_buildOnce.body) (Q := Q) (k := k) (p := p) (e := e) (h := h) (acall_le X) G_strings_Replacer_buildOnce.dist hl hk
theorem G_strings_Replacer_buildOnce.goH {Q : AV → AHeap → Prop} {k : Nat} {p : List Nat} (hl : lookJ (places G_strings_Replacer_buildOnce.ann G_strings_Replacer_buildOnce.body) k = some (p, true)) {e : Env} {h : AHeap} (hk : atJ prog C 10 (G_strings_Replacer_buildOnce.J Q) true p G_strings_Replacer_buildOnce.ann G_strings_Replacer_buildOnce.body e h (kFun prog Tryz.f80 Q)) : G_strings_Replacer_buildOnce.J Q k e h := goJ_head (P := prog) (fn := Tryz.f80) (ann := G_strings_Replacer_buildOnce.ann) (body := G_strings_Replacer_buildOnce.body) (Q := Q) (k := k) (p := p) (e := e) (h := h) (acall_le X) G_strings_Replacer_buildOnce.dist hl hk
def G_strings_Replacer_buildOnce.t (J : JT) (Q : AV → AHeap → Prop) (x0 : AV) (h : AHeap) : Prop :=
C G_strings_Replacer_build.id [x0] h fun v0 h1 =>
pNil x0 fun v2 =>
pFieldAddr 3 v2 fun v3 =>
pStore 1 v3 v0 h1 fun h4 =>
pNil x0 fun v6 =>
pFieldAddr 4 v6 fun v7 =>
pStore 1 v7 (AV.sl none 0 none) h4 fun h8 =>
Q (AV.tu []) h8
theorem G_strings_Replacer_buildOnce.t_eq (J : JT) (Q : AV → AHeap → Prop) (x0 : AV) (h : AHeap) : G_strings_Replacer_buildOnce.t J Q x0 h = exJ prog C 10 J G_strings_Replacer_buildOnce.ann G_strings_Replacer_buildOnce.body (initEnv 0 [x0]) h (kFun prog Tryz.f80 Q) := by kernel_rfl
theorem G_strings_Replacer_buildOnce.call {K : AV → AHeap → Prop} {x0 : AV} {h : AHeap} (H : G_strings_Replacer_buildOnce.t (G_strings_Replacer_buildOnce.J (kRet h K)) (kRet h K) x0 h) : C G_strings_Replacer_buildOnce.id [x0] h K :=
  callJ (P := prog) (fn := Tryz.f80) (ann := G_strings_Replacer_buildOnce.ann) (body := G_strings_Replacer_buildOnce.body) Tryz.func80 G_strings_Replacer_buildOnce.body_eq (by kernel_rfl) G_strings_Replacer_buildOnce.dist (by kernel_rfl) ((G_strings_Replacer_buildOnce.t_eq (G_strings_Replacer_buildOnce.J (kRet h K)) (kRet h K) x0 h).mp H)

--@@ G_strings_Count
/-! ### 85: strings.Count -/
noncomputable def G_strings_Count.body : Code := (Tryz.f85.body).getD .skip
def G_strings_Count.ann : Ann := (.seq 0 [0, 1] .leaf (.seq 0 [0, 1] (.seq 0 [0, 1, 9] .leaf (.br (.seq 0 [4] .leaf .leaf) .leaf)) (.seq 0 [0, 1] (.seq 0 [0, 1, 15] .leaf (.br (.seq 0 [4] .leaf .leaf) .leaf)) (.seq 0 [0, 1, 5] .leaf (.one (.loop 1 [0, 1, 5] (.one (.seq 0 [0, 1, 5, 6] .leaf (.seq 0 [0, 1, 5, 6] (.seq 0 [0, 1, 5, 6, 24] .leaf (.br (.seq 0 [4] .leaf .leaf) .leaf)) (.seq 0 [0, 1, 5, 6] .leaf .leaf))))))))))
theorem G_strings_Count.body_eq : Tryz.f85.body = some G_strings_Count.body := by kernel_rfl
theorem G_strings_Count.dist : noTwice (places G_strings_Count.ann G_strings_Count.body) = true := by kernel_rfl
noncomputable def G_strings_Count.J (Q : AV → AHeap → Prop) : JT := funJ prog C Tryz.f85 G_strings_Count.ann G_strings_Count.body Q
theorem G_strings_Count.goR {Q : AV → AHeap → Prop} {k : Nat} {p : List Nat} (hl : lookJ (places G_strings_Count.ann G_strings_Count.body) k = some (p, false)) {e : Env} {h : AHeap} (hk : atJ prog C 34 (G_strings_Count.J Q) false p G_strings_Count.ann G_strings_Count.body e h (kFun prog Tryz.f85 Q)) : G_strings_Count.J Q k e h := goJ_run (P := prog) (fn := Tryz.f85) (ann := G_strings_Count.ann) (body := G_strings_Count.body) (Q := Q) (k := k) (p := p) (e := e) (h := h) (acall_le X) G_strings_Count.dist hl hk
theorem G_strings_Count.goH {Q : AV → AHeap → Prop} {k : Nat} {p : List Nat} (hl : lookJ (places G_strings_Count.ann G_strings_Count.body) k = some (p, true)) {e : Env} {h : AHeap} (hk : atJ prog C 34 (G_strings_Count.J Q) true p G_strings_Count.ann G_strings_Count.body e h (kFun prog Tryz.f85 Q)) : G_strings_Count.J Q k e h := goJ_head (P := prog) (fn := Tryz.f85) (ann := G_strings_Count.ann) (body := G_strings_Count.body) (Q := Q) (k := k) (p := p) (e := e) (h := h) (acall_le X) G_strings_Count.dist hl hk
def G_strings_Count.p0 (Q : AV → AHeap → Prop) (x0 : List UInt8) (x1 : List UInt8) (x5 : Int) (h : AHeap) : Prop := G_strings_Count.J Q 1 [(0, (AV.s x0)), (1, (AV.s x1)), (5, (AV.i .i64 x5))] h
theorem G_strings_Count.j0 (Q : AV → AHeap → Prop) (x0 : List UInt8) (x1 : List UInt8) (x5 : Int) (h : AHeap) : G_strings_Count.J Q 1 [(0, (AV.s x0)), (1, (AV.s x1)), (5, (AV.i .i64 x5))] h = G_strings_Count.p0 Q x0 x1 x5 h := rfl
def G_strings_Count.t0 (J : JT) (Q : AV → AHeap → Prop) (x0 : List UInt8) (x1 : List UInt8) (x5 : Int) (h : AHeap) : Prop :=
C G_strings_Index.id [(AV.s x0), (AV.s x1)] h fun v16 h17 =>
asI .i64 v16 fun n18 =>
(bif (decide ((n18 : Int) = (-1))) then
(Q (AV.i .i64 x5) h17)
else
(withI (IntKind.wrap .i64 (x5 + 1)) fun n23 =>
withI (IntKind.wrap .i64 (n18 + (x1.length : Int))) fun n25 =>
pSliceStr (AV.s x0) (some (AV.i .i64 n25)) none fun l26 =>
J 1 [(0, (AV.s l26)), (1, (AV.s x1)), (5, (AV.i .i64 n23))] h17))
theorem G_strings_Count.t0_eq (J : JT) (Q : AV → AHeap → Prop) (x0 : List UInt8) (x1 : List UInt8) (x5 : Int) (h : AHeap) : G_strings_Count.t0 J Q x0 x1 x5 h = atJ prog C 34 J true [1, 1, 1, 1, 0] G_strings_Count.ann G_strings_Count.body [(0, (AV.s x0)), (1, (AV.s x1)), (5, (AV.i .i64 x5))] h (kFun prog Tryz.f85 Q) := by kernel_rfl
theorem G_strings_Count.i0 {Q : AV → AHeap → Prop} {x0 : List UInt8} {x1 : List UInt8} {x5 : Int} {h : AHeap} (H : G_strings_Count.t0 (G_strings_Count.J Q) Q x0 x1 x5 h) : G_strings_Count.p0 Q x0 x1 x5 h := G_strings_Count.goH (k := 1) (p := [1, 1, 1, 1, 0]) (by kernel_rfl) ((G_strings_Count.t0_eq (G_strings_Count.J Q) Q x0 x1 x5 h).mp H)
def G_strings_Count.t (J : JT) (Q : AV → AHeap → Prop) (x0 : List UInt8) (x1 : List UInt8) (h : AHeap) : Prop :=
(bif (decide (((x1.length : Int) : Int) = 0)) then
(C G_unicode_utf8_RuneCountInString.id [(AV.s x0)] h fun v2 h3 =>
asI .i64 v2 fun n4 =>
withI (IntKind.wrap .i64 (n4 + 1)) fun n5 =>
Q (AV.i .i64 n5) h3)
else
((bif (decide (((x1.length : Int) : Int) = 1)) then
(pIdxStr (AV.s x1) (AV.i .i64 0) fun n9 =>
C G_i_bytealg_CountString.id [(AV.s x0), (AV.i .u8 n9)] h fun v10 h11 =>
asI .i64 v10 fun n12 =>
Q (AV.i .i64 n12) h11)
else
(J 1 [(0, (AV.s x0)), (1, (AV.s x1)), (5, (AV.i .i64 0))] h))))
theorem G_strings_Count.t_eq (J : JT) (Q : AV → AHeap → Prop) (x0 : List UInt8) (x1 : List UInt8) (h : AHeap) : G_strings_Count.t J Q x0 x1 h = exJ prog C 34 J G_strings_Count.ann G_strings_Count.body (initEnv 0 [(AV.s x0), (AV.s x1)]) h (kFun prog Tryz.f85 Q) := by kernel_rfl
theorem G_strings_Count.call {K : AV → AHeap → Prop} {x0 : List UInt8} {x1 : List UInt8} {h : AHeap} (H : G_strings_Count.t (G_strings_Count.J (kRet h K)) (kRet h K) x0 x1 h) : C G_strings_Count.id [(AV.s x0), (AV.s x1)] h K :=
  callJ (P := prog) (fn := Tryz.f85) (ann := G_strings_Count.ann) (body := G_strings_Count.body) Tryz.func85 G_strings_Count.body_eq (by kernel_rfl) G_strings_Count.dist (by kernel_rfl) ((G_strings_Count.t_eq (G_strings_Count.J (kRet h K)) (kRet h K) x0 x1 h).mp H)

--@@ G_sync_atomic_Bool_Load
/-! ### 87: (*sync/atomic.Bool).Load -/
noncomputable def G_sync_atomic_Bool_Load.body : Code := (Tryz.f87.body).getD .skip
def G_sync_atomic_Bool_Load.ann : Ann := (.seq 0 [0] .leaf (.seq 0 [2] .leaf .leaf))
theorem G_sync_atomic_Bool_Load.body_eq : Tryz.f87.body = some G_sync_atomic_Bool_Load.body := by kernel_rfl
theorem G_sync_atomic_Bool_Load.dist : noTwice (places G_sync_atomic_Bool_Load.ann G_sync_atomic_Bool_Load.body) = true := by kernel_rfl
noncomputable def G_sync_atomic_Bool_Load.J (Q : AV → AHeap → Prop) : JT := funJ prog C Tryz.f87 G_sync_atomic_Bool_Load.ann G_sync_atomic_Bool_Load.body Q
theorem G_sync_atomic_Bool_Load.goR {Q : AV → AHeap → Prop} {k : Nat} {p : List Nat} (hl : lookJ (places G_sync_atomic_Bool_Load.ann G_sync_atomic_Bool_Load.body) k = some (p, false)) {e : Env} {h : AHeap} (hk : atJ prog C 8 (G_sync_atomic_Bool_Load.J Q) false p G_sync_atomic_Bool_Load.ann G_sync_atomic_Bool_Load.body e h (kFun prog Tryz.f87 Q)) : G_sync_atomic_Bool_Load.J Q k e h := goJ_run (P := prog) (fn := Tryz.f87) (ann := G_sync_atomic_Bool_Load.ann) (body := G_sync_atomic_Bool_Load.body) (Q := Q) (k := k) (p := p) (e := e) (h := h) (acall_le X) G_sync_atomic_Bool_Load.dist hl hk
theorem G_sync_atomic_Bool_Load.goH {Q : AV → AHeap → Prop} {k : Nat} {p : List Nat} (hl : lookJ (places G_sync_atomic_Bool_Load.ann G_sync_atomic_Bool_Load.body) k = some (p, true)) {e : Env} {h : AHeap} (hk : atJ prog C 8 (G_sync_atomic_Bool_Load.J Q) true p G_sync_atomic_Bool_Load.ann G_sync_atomic_Bool_Load.body e h (kFun prog Tryz.f87 Q)) : G_sync_atomic_Bool_Load.J Q k e h := goJ_head (P := prog) (fn := Tryz.f87) (ann := G_sync_atomic_Bool_Load.ann) (body := G_sync_atomic_Bool_Load.body) (Q := Q) (k := k) (p := p) (e := e) (h := h) (acall_le X) G_sync_atomic_Bool_Load.dist hl hk
def G_sync_atomic_Bool_Load.t (J : JT) (Q : AV → AHeap → Prop) (x0 : AV) (h : AHeap) : Prop :=
pNil x0 fun v1 =>
pFieldAddr 0 v1 fun v2 =>
C G_sync_atomic_LoadUint32.id [v2] h fun v3 h4 =>
asI .u32 v3 fun n5 =>
Q (AV.b (!decide ((n5 : Int) = 0))) h4
theorem G_sync_atomic_Bool_Load.t_eq (J : JT) (Q : AV → AHeap → Prop) (x0 : AV) (h : AHeap) : G_sync_atomic_Bool_Load.t J Q x0 h = exJ prog C 8 J G_sync_atomic_Bool_Load.ann G_sync_atomic_Bool_Load.body (initEnv 0 [x0]) h (kFun prog Tryz.f87 Q) := by kernel_rfl
theorem G_sync_atomic_Bool_Load.call {K : AV → AHeap → Prop} {x0 : AV} {h : AHeap} (H : G_sync_atomic_Bool_Load.t (G_sync_atomic_Bool_Load.J (kRet h K)) (kRet h K) x0 h) : C G_sync_atomic_Bool_Load.id [x0] h K :=
  callJ (P := prog) (fn := Tryz.f87) (ann := G_sync_atomic_Bool_Load.ann) (body := G_sync_atomic_Bool_Load.body) Tryz.func87 G_sync_atomic_Bool_Load.body_eq (by kernel_rfl) G_sync_atomic_Bool_Load.dist (by kernel_rfl) ((G_sync_atomic_Bool_Load.t_eq (G_sync_atomic_Bool_Load.J (kRet h K)) (kRet h K) x0 h).mp H)

--@@ G_sync_Once_doSlow
/-! ### 88: (*sync.Once).doSlow -/
noncomputable def G_sync_Once_doSlow.body : Code := (Tryz.f88.body).getD .skip
def G_sync_Once_doSlow.ann : Ann := (.seq 0 [0, 1] .leaf (.seq 0 [0, 1] .leaf (.seq 0 [0, 1, 15] .leaf (.br (.seq 0 [1] .leaf .leaf) .leaf))))
theorem G_sync_Once_doSlow.body_eq : Tryz.f88.body = some G_sync_Once_doSlow.body := by kernel_rfl
def G_sync_Once_doSlow.tD (Q : AV → AHeap → Prop) (x0 : AV) (x1 : AV) (h : AHeap) : Prop :=
pNil x0 fun v0 =>
pFieldAddr 1 v0 fun v1 =>
C G_sync_Mutex_Lock.id [v1] h fun v2 h3 =>
pNil x0 fun v5 =>
pFieldAddr 1 v5 fun v6 =>
pNil x0 fun v8 =>
pFieldAddr 0 v8 fun v9 =>
C G_sync_atomic_Bool_Load.id [v9] h3 fun v10 h11 =>
asB v10 fun c12 =>
(bif (!c12) then
(pNil x0 fun v14 =>
pFieldAddr 0 v14 fun v15 =>
pCallV C x1 [] h11 fun v17 h18 =>
aF prog C G_sync_atomic_Bool_Store.id [v15, (AV.b true)] h18 fun _ h19 =>
aF prog C G_sync_Mutex_Unlock.id [v6] h19 fun _ h20 =>
Q (AV.tu []) h20)
else
(aF prog C G_sync_Mutex_Unlock.id [v6] h11 fun _ h21 =>
Q (AV.tu []) h21))
theorem G_sync_Once_doSlow.tD_eq (Q : AV → AHeap → Prop) (x0 : AV) (x1 : AV) (h : AHeap) : G_sync_Once_doSlow.tD Q x0 x1 h = dexec prog C 21 G_sync_Once_doSlow.ann G_sync_Once_doSlow.body (initEnv 0 [x0, x1]) h [] (kFunD prog C Tryz.f88 Q) := by kernel_rfl
theorem G_sync_Once_doSlow.callD {K : AV → AHeap → Prop} {x0 : AV} {x1 : AV} {h : AHeap} (H : G_sync_Once_doSlow.tD (kRet h K) x0 x1 h) : aFD prog C G_sync_Once_doSlow.id [x0, x1] h K :=
  ⟨Tryz.f88, G_sync_Once_doSlow.body, G_sync_Once_doSlow.ann, Tryz.func88, G_sync_Once_doSlow.body_eq, by kernel_rfl, Nat.le_of_ble_eq_true (by kernel_rfl), (G_sync_Once_doSlow.tD_eq (kRet h K) x0 x1 h).mp H⟩

--@@ G_strings_Replacer_build
/-! ### 89: (*strings.Replacer).build -/
noncomputable def G_strings_Replacer_build.body : Code := (Tryz.f89.body).getD .skip
def G_strings_Replacer_build.ann : Ann := (.seq 0 [0] .leaf (.seq 0 [3] .leaf (.seq 0 [3] (.seq 1 [3, 28] .leaf (.br (.seq 0 [2] (.ord (.neu 0 (.neu 1 (.neu 2 (.neu 3 (.neu 4 (.neu 5 (.eff 6 (.neu 7 (.neu 8 .done)) .stop)))))))) .leaf) .leaf)) (.seq 0 [3, 4] .leaf (.seq 0 [3, 4] (.seq 0 [3, 4, 5] .leaf (.one (.loop 2 [3, 4, 5] (.seq 0 [3, 4, 5] (.seq 0 [3, 4, 5, 40] .leaf (.br .leaf .leaf)) (.seq 3 [3, 4, 5] (.one (.seq 0 [3, 4, 5] (.seq 0 [3, 4, 5, 48] .leaf (.br (.seq 0 [2] .leaf .leaf) .leaf)) (.seq 0 [3, 4, 5, 58] .leaf (.br .leaf .leaf)))) .leaf))))) (.seq 0 [3] (.seq 0 [3, 59] .leaf (.br (.seq 0 [3, 6] .leaf (.seq 0 [3, 6] (.seq 0 [3, 6, 61] .leaf (.one (.loop 4 [3, 6, 61] (.seq 0 [3, 6, 61, 62] .leaf (.seq 0 [3, 6, 61] (.br .leaf .leaf) (.seq 0 [3, 6, 61] (.one (.seq 0 [3, 6, 7, 61] .leaf .leaf)) .leaf)))))) (.seq 0 [6] (.seq 0 [3, 6, 8] .leaf (.one (.loop 5 [3, 6, 8] (.seq 0 [3, 6, 8] (.seq 0 [3, 6, 8, 73] .leaf (.br .leaf .leaf)) (.seq 0 [3, 6, 8] (.one (.seq 0 [3, 6, 8, 9] .leaf (.seq 0 [3, 6, 8, 9, 10] .leaf .leaf))) .leaf))))) (.seq 0 [2] .leaf .leaf)))) .leaf)) (.seq 0 [3, 11] .leaf (.seq 0 [11] (.seq 0 [3, 11, 12] .leaf (.one (.loop 6 [3, 11, 12] (.seq 0 [3, 11, 12] (.seq 0 [3, 11, 12, 100] .leaf (.br .leaf .leaf)) (.seq 0 [3, 11, 12] (.one (.seq 0 [3, 11, 12, 13] .leaf (.seq 0 [3, 11, 12, 13, 14] .leaf (.seq 7 [3, 11, 12, 13, 14] (.seq 0 [3, 11, 12, 13, 14, 117] .leaf (.br .leaf .leaf)) .leaf)))) .leaf))))) (.seq 0 [2] .leaf .leaf)))))))))
theorem G_strings_Replacer_build.body_eq : Tryz.f89.body = some G_strings_Replacer_build.body := by kernel_rfl
theorem G_strings_Replacer_build.dist : noTwice (places G_strings_Replacer_build.ann G_strings_Replacer_build.body) = true := by kernel_rfl
noncomputable def G_strings_Replacer_build.J (Q : AV → AHeap → Prop) : JT := funJ prog C Tryz.f89 G_strings_Replacer_build.ann G_strings_Replacer_build.body Q
theorem G_strings_Replacer_build.goR {Q : AV → AHeap → Prop} {k : Nat} {p : List Nat} (hl : lookJ (places G_strings_Replacer_build.ann G_strings_Replacer_build.body) k = some (p, false)) {e : Env} {h : AHeap} (hk : atJ prog C 132 (G_strings_Replacer_build.J Q) false p G_strings_Replacer_build.ann G_strings_Replacer_build.body e h (kFun prog Tryz.f89 Q)) : G_strings_Replacer_build.J Q k e h := goJ_run (P := prog) (fn := Tryz.f89) (ann := G_strings_Replacer_build.ann) (body := G_strings_Replacer_build.body) (Q := Q) (k := k) (p := p) (e := e) (h := h) (acall_le X) G_strings_Replacer_build.dist hl hk
theorem G_strings_Replacer_build.goH {Q : AV → AHeap → Prop} {k : Nat} {p : List Nat} (hl : lookJ (places G_strings_Replacer_build.ann G_strings_Replacer_build.body) k = some (p, true)) {e : Env} {h : AHeap} (hk : atJ prog C 132 (G_strings_Replacer_build.J Q) true p G_strings_Replacer_build.ann G_strings_Replacer_build.body e h (kFun prog Tryz.f89 Q)) : G_strings_Replacer_build.J Q k e h := goJ_head (P := prog) (fn := Tryz.f89) (ann := G_strings_Replacer_build.ann) (body := G_strings_Replacer_build.body) (Q := Q) (k := k) (p := p) (e := e) (h := h) (acall_le X) G_strings_Replacer_build.dist hl hk
def G_strings_Replacer_build.p0 (Q : AV → AHeap → Prop) (x3 : AV) (x28 : Bool) (h : AHeap) : Prop := G_strings_Replacer_build.J Q 1 [(3, x3), (28, (AV.b x28))] h
theorem G_strings_Replacer_build.j0 (Q : AV → AHeap → Prop) (x3 : AV) (x28 : Bool) (h : AHeap) : G_strings_Replacer_build.J Q 1 [(3, x3), (28, (AV.b x28))] h = G_strings_Replacer_build.p0 Q x3 x28 h := rfl
def G_strings_Replacer_build.p2 (Q : AV → AHeap → Prop) (x3 : AV) (x4 : Bool) (x5 : Int) (h : AHeap) : Prop := G_strings_Replacer_build.J Q 3 [(3, x3), (4, (AV.b x4)), (5, (AV.i .i64 x5))] h
theorem G_strings_Replacer_build.j2 (Q : AV → AHeap → Prop) (x3 : AV) (x4 : Bool) (x5 : Int) (h : AHeap) : G_strings_Replacer_build.J Q 3 [(3, x3), (4, (AV.b x4)), (5, (AV.i .i64 x5))] h = G_strings_Replacer_build.p2 Q x3 x4 x5 h := rfl
def G_strings_Replacer_build.p1 (Q : AV → AHeap → Prop) (x3 : AV) (x4 : Bool) (x5 : Int) (h : AHeap) : Prop := G_strings_Replacer_build.J Q 2 [(3, x3), (4, (AV.b x4)), (5, (AV.i .i64 x5))] h
theorem G_strings_Replacer_build.j1 (Q : AV → AHeap → Prop) (x3 : AV) (x4 : Bool) (x5 : Int) (h : AHeap) : G_strings_Replacer_build.J Q 2 [(3, x3), (4, (AV.b x4)), (5, (AV.i .i64 x5))] h = G_strings_Replacer_build.p1 Q x3 x4 x5 h := rfl
def G_strings_Replacer_build.p3 (Q : AV → AHeap → Prop) (x3 : AV) (x6 : AV) (x61 : Int) (h : AHeap) : Prop := G_strings_Replacer_build.J Q 4 [(3, x3), (6, x6), (61, (AV.i .i64 x61))] h
theorem G_strings_Replacer_build.j3 (Q : AV → AHeap → Prop) (x3 : AV) (x6 : AV) (x61 : Int) (h : AHeap) : G_strings_Replacer_build.J Q 4 [(3, x3), (6, x6), (61, (AV.i .i64 x61))] h = G_strings_Replacer_build.p3 Q x3 x6 x61 h := rfl
def G_strings_Replacer_build.p4 (Q : AV → AHeap → Prop) (x3 : AV) (x6 : AV) (x8 : Int) (h : AHeap) : Prop := G_strings_Replacer_build.J Q 5 [(3, x3), (6, x6), (8, (AV.i .i64 x8))] h
theorem G_strings_Replacer_build.j4 (Q : AV → AHeap → Prop) (x3 : AV) (x6 : AV) (x8 : Int) (h : AHeap) : G_strings_Replacer_build.J Q 5 [(3, x3), (6, x6), (8, (AV.i .i64 x8))] h = G_strings_Replacer_build.p4 Q x3 x6 x8 h := rfl
def G_strings_Replacer_build.p6 (Q : AV → AHeap → Prop) (x3 : AV) (x11 : AV) (x12 : Int) (x13 : Int) (x14 : List UInt8) (h : AHeap) : Prop := G_strings_Replacer_build.J Q 7 [(3, x3), (11, x11), (12, (AV.i .i64 x12)), (13, (AV.i .u8 x13)), (14, (AV.s x14))] h
theorem G_strings_Replacer_build.j6 (Q : AV → AHeap → Prop) (x3 : AV) (x11 : AV) (x12 : Int) (x13 : Int) (x14 : List UInt8) (h : AHeap) : G_strings_Replacer_build.J Q 7 [(3, x3), (11, x11), (12, (AV.i .i64 x12)), (13, (AV.i .u8 x13)), (14, (AV.s x14))] h = G_strings_Replacer_build.p6 Q x3 x11 x12 x13 x14 h := rfl
def G_strings_Replacer_build.p5 (Q : AV → AHeap → Prop) (x3 : AV) (x11 : AV) (x12 : Int) (h : AHeap) : Prop := G_strings_Replacer_build.J Q 6 [(3, x3), (11, x11), (12, (AV.i .i64 x12))] h
theorem G_strings_Replacer_build.j5 (Q : AV → AHeap → Prop) (x3 : AV) (x11 : AV) (x12 : Int) (h : AHeap) : G_strings_Replacer_build.J Q 6 [(3, x3), (11, x11), (12, (AV.i .i64 x12))] h = G_strings_Replacer_build.p5 Q x3 x11 x12 h := rfl
def G_strings_Replacer_build.t0 (J : JT) (Q : AV → AHeap → Prop) (x3 : AV) (x28 : Bool) (h : AHeap) : Prop :=
(bif x28 then
(pIdxAddrSl 1 x3 (AV.i .i64 0) h fun v11 =>
pLoad1 v11 h fun v12 =>
asS v12 fun l13 =>
pIdxAddrSl 1 x3 (AV.i .i64 1) h fun v14 =>
pLoad1 v14 h fun v15 =>
asS v15 fun l16 =>
C G_strings_makeSingleStringReplacer.id [(AV.s l13), (AV.s l16)] h fun v17 h18 =>
pIdxAddrSl 1 x3 (AV.i .i64 1) h18 fun v19 =>
(v14 = v19 ∧
(pIdxAddrSl 1 x3 (AV.i .i64 0) h18 fun v20 =>
(v11 = v20 ∧
(Q (AV.ifc 143 v17) h18)))))
else
(J 2 [(3, x3), (4, (AV.b true)), (5, (AV.i .i64 0))] h))
theorem G_strings_Replacer_build.t0_eq (J : JT) (Q : AV → AHeap → Prop) (x3 : AV) (x28 : Bool) (h : AHeap) : G_strings_Replacer_build.t0 J Q x3 x28 h = atJ prog C 132 J false [1, 1, 0, 1] G_strings_Replacer_build.ann G_strings_Replacer_build.body [(3, x3), (28, (AV.b x28))] h (kFun prog Tryz.f89 Q) := by kernel_rfl
theorem G_strings_Replacer_build.i0 {Q : AV → AHeap → Prop} {x3 : AV} {x28 : Bool} {h : AHeap} (H : G_strings_Replacer_build.t0 (G_strings_Replacer_build.J Q) Q x3 x28 h) : G_strings_Replacer_build.p0 Q x3 x28 h := G_strings_Replacer_build.goR (k := 1) (p := [1, 1, 0, 1]) (by kernel_rfl) ((G_strings_Replacer_build.t0_eq (G_strings_Replacer_build.J Q) Q x3 x28 h).mp H)
def G_strings_Replacer_build.t2 (J : JT) (Q : AV → AHeap → Prop) (x3 : AV) (x4 : Bool) (x5 : Int) (h : AHeap) : Prop :=
withI (IntKind.wrap .i64 (x5 + 2)) fun n44 =>
J 2 [(3, x3), (4, (AV.b x4)), (5, (AV.i .i64 n44))] h
theorem G_strings_Replacer_build.t2_eq (J : JT) (Q : AV → AHeap → Prop) (x3 : AV) (x4 : Bool) (x5 : Int) (h : AHeap) : G_strings_Replacer_build.t2 J Q x3 x4 x5 h = atJ prog C 132 J false [1, 1, 1, 1, 0, 1, 0, 0, 1, 1] G_strings_Replacer_build.ann G_strings_Replacer_build.body [(3, x3), (4, (AV.b x4)), (5, (AV.i .i64 x5))] h (kFun prog Tryz.f89 Q) := by kernel_rfl
theorem G_strings_Replacer_build.i2 {Q : AV → AHeap → Prop} {x3 : AV} {x4 : Bool} {x5 : Int} {h : AHeap} (H : G_strings_Replacer_build.t2 (G_strings_Replacer_build.J Q) Q x3 x4 x5 h) : G_strings_Replacer_build.p2 Q x3 x4 x5 h := G_strings_Replacer_build.goR (k := 3) (p := [1, 1, 1, 1, 0, 1, 0, 0, 1, 1]) (by kernel_rfl) ((G_strings_Replacer_build.t2_eq (G_strings_Replacer_build.J Q) Q x3 x4 x5 h).mp H)
def G_strings_Replacer_build.t1 (J : JT) (Q : AV → AHeap → Prop) (x3 : AV) (x4 : Bool) (x5 : Int) (h : AHeap) : Prop :=
pLenSl x3 fun n25 =>
(bif (decide ((x5 : Int) < n25)) then
(pIdxAddrSl 1 x3 (AV.i .i64 x5) h fun v29 =>
pLoad1 v29 h fun v30 =>
asS v30 fun l31 =>
(bif (!decide (((l31.length : Int) : Int) = 1)) then
(C G_strings_makeGenericReplacer.id [x3] h fun v33 h34 =>
Q (AV.ifc 145 v33) h34)
else
(withI (IntKind.wrap .i64 (x5 + 1)) fun n37 =>
pIdxAddrSl 1 x3 (AV.i .i64 n37) h fun v38 =>
pLoad1 v38 h fun v39 =>
asS v39 fun l40 =>
(bif (!decide (((l40.length : Int) : Int) = 1)) then
(J 3 [(3, x3), (4, (AV.b false)), (5, (AV.i .i64 x5))] h)
else
(J 3 [(3, x3), (4, (AV.b x4)), (5, (AV.i .i64 x5))] h)))))
else
((bif x4 then
(pAlloc none [(AV.i .u8 0), (AV.i .u8 0), (AV.i .u8 0), (AV.i .u8 0), (AV.i .u8 0), (AV.i .u8 0), (AV.i .u8 0), (AV.i .u8 0), (AV.i .u8 0), (AV.i .u8 0), (AV.i .u8 0), (AV.i .u8 0), (AV.i .u8 0), (AV.i .u8 0), (AV.i .u8 0), (AV.i .u8 0), (AV.i .u8 0), (AV.i .u8 0), (AV.i .u8 0), (AV.i .u8 0), (AV.i .u8 0), (AV.i .u8 0), (AV.i .u8 0), (AV.i .u8 0), (AV.i .u8 0), (AV.i .u8 0), (AV.i .u8 0), (AV.i .u8 0), (AV.i .u8 0), (AV.i .u8 0), (AV.i .u8 0), (AV.i .u8 0), (AV.i .u8 0), (AV.i .u8 0), (AV.i .u8 0), (AV.i .u8 0), (AV.i .u8 0), (AV.i .u8 0), (AV.i .u8 0), (AV.i .u8 0), (AV.i .u8 0), (AV.i .u8 0), (AV.i .u8 0), (AV.i .u8 0), (AV.i .u8 0), (AV.i .u8 0), (AV.i .u8 0), (AV.i .u8 0), (AV.i .u8 0), (AV.i .u8 0), (AV.i .u8 0), (AV.i .u8 0), (AV.i .u8 0), (AV.i .u8 0), (AV.i .u8 0), (AV.i .u8 0), (AV.i .u8 0), (AV.i .u8 0), (AV.i .u8 0), (AV.i .u8 0), (AV.i .u8 0), (AV.i .u8 0), (AV.i .u8 0), (AV.i .u8 0), (AV.i .u8 0), (AV.i .u8 0), (AV.i .u8 0), (AV.i .u8 0), (AV.i .u8 0), (AV.i .u8 0), (AV.i .u8 0), (AV.i .u8 0), (AV.i .u8 0), (AV.i .u8 0), (AV.i .u8 0), (AV.i .u8 0), (AV.i .u8 0), (AV.i .u8 0), (AV.i .u8 0), (AV.i .u8 0), (AV.i .u8 0), (AV.i .u8 0), (AV.i .u8 0), (AV.i .u8 0), (AV.i .u8 0), (AV.i .u8 0), (AV.i .u8 0), (AV.i .u8 0), (AV.i .u8 0), (AV.i .u8 0), (AV.i .u8 0), (AV.i .u8 0), (AV.i .u8 0), (AV.i .u8 0), (AV.i .u8 0), (AV.i .u8 0), (AV.i .u8 0), (AV.i .u8 0), (AV.i .u8 0), (AV.i .u8 0), (AV.i .u8 0), (AV.i .u8 0), (AV.i .u8 0), (AV.i .u8 0), (AV.i .u8 0), (AV.i .u8 0), (AV.i .u8 0), (AV.i .u8 0), (AV.i .u8 0), (AV.i .u8 0), (AV.i .u8 0), (AV.i .u8 0), (AV.i .u8 0), (AV.i .u8 0), (AV.i .u8 0), (AV.i .u8 0), (AV.i .u8 0), (AV.i .u8 0), (AV.i .u8 0), (AV.i .u8 0), (AV.i .u8 0), (AV.i .u8 0), (AV.i .u8 0), (AV.i .u8 0), (AV.i .u8 0), (AV.i .u8 0), (AV.i .u8 0), (AV.i .u8 0), (AV.i .u8 0), (AV.i .u8 0), (AV.i .u8 0), (AV.i .u8 0), (AV.i .u8 0), (AV.i .u8 0), (AV.i .u8 0), (AV.i .u8 0), (AV.i .u8 0), (AV.i .u8 0), (AV.i .u8 0), (AV.i .u8 0), (AV.i .u8 0), (AV.i .u8 0), (AV.i .u8 0), (AV.i .u8 0), (AV.i .u8 0), (AV.i .u8 0), (AV.i .u8 0), (AV.i .u8 0), (AV.i .u8 0), (AV.i .u8 0), (AV.i .u8 0), (AV.i .u8 0), (AV.i .u8 0), (AV.i .u8 0), (AV.i .u8 0), (AV.i .u8 0), (AV.i .u8 0), (AV.i .u8 0), (AV.i .u8 0), (AV.i .u8 0), (AV.i .u8 0), (AV.i .u8 0), (AV.i .u8 0), (AV.i .u8 0), (AV.i .u8 0), (AV.i .u8 0), (AV.i .u8 0), (AV.i .u8 0), (AV.i .u8 0), (AV.i .u8 0), (AV.i .u8 0), (AV.i .u8 0), (AV.i .u8 0), (AV.i .u8 0), (AV.i .u8 0), (AV.i .u8 0), (AV.i .u8 0), (AV.i .u8 0), (AV.i .u8 0), (AV.i .u8 0), (AV.i .u8 0), (AV.i .u8 0), (AV.i .u8 0), (AV.i .u8 0), (AV.i .u8 0), (AV.i .u8 0), (AV.i .u8 0), (AV.i .u8 0), (AV.i .u8 0), (AV.i .u8 0), (AV.i .u8 0), (AV.i .u8 0), (AV.i .u8 0), (AV.i .u8 0), (AV.i .u8 0), (AV.i .u8 0), (AV.i .u8 0), (AV.i .u8 0), (AV.i .u8 0), (AV.i .u8 0), (AV.i .u8 0), (AV.i .u8 0), (AV.i .u8 0), (AV.i .u8 0), (AV.i .u8 0), (AV.i .u8 0), (AV.i .u8 0), (AV.i .u8 0), (AV.i .u8 0), (AV.i .u8 0), (AV.i .u8 0), (AV.i .u8 0), (AV.i .u8 0), (AV.i .u8 0), (AV.i .u8 0), (AV.i .u8 0), (AV.i .u8 0), (AV.i .u8 0), (AV.i .u8 0), (AV.i .u8 0), (AV.i .u8 0), (AV.i .u8 0), (AV.i .u8 0), (AV.i .u8 0), (AV.i .u8 0), (AV.i .u8 0), (AV.i .u8 0), (AV.i .u8 0), (AV.i .u8 0), (AV.i .u8 0), (AV.i .u8 0), (AV.i .u8 0), (AV.i .u8 0), (AV.i .u8 0), (AV.i .u8 0), (AV.i .u8 0), (AV.i .u8 0), (AV.i .u8 0), (AV.i .u8 0), (AV.i .u8 0), (AV.i .u8 0), (AV.i .u8 0), (AV.i .u8 0), (AV.i .u8 0), (AV.i .u8 0), (AV.i .u8 0), (AV.i .u8 0), (AV.i .u8 0), (AV.i .u8 0), (AV.i .u8 0), (AV.i .u8 0), (AV.i .u8 0), (AV.i .u8 0), (AV.i .u8 0), (AV.i .u8 0), (AV.i .u8 0)] h fun v47 h48 =>
pStore 256 v47 (AV.ag [(AV.i .u8 0), (AV.i .u8 0), (AV.i .u8 0), (AV.i .u8 0), (AV.i .u8 0), (AV.i .u8 0), (AV.i .u8 0), (AV.i .u8 0), (AV.i .u8 0), (AV.i .u8 0), (AV.i .u8 0), (AV.i .u8 0), (AV.i .u8 0), (AV.i .u8 0), (AV.i .u8 0), (AV.i .u8 0), (AV.i .u8 0), (AV.i .u8 0), (AV.i .u8 0), (AV.i .u8 0), (AV.i .u8 0), (AV.i .u8 0), (AV.i .u8 0), (AV.i .u8 0), (AV.i .u8 0), (AV.i .u8 0), (AV.i .u8 0), (AV.i .u8 0), (AV.i .u8 0), (AV.i .u8 0), (AV.i .u8 0), (AV.i .u8 0), (AV.i .u8 0), (AV.i .u8 0), (AV.i .u8 0), (AV.i .u8 0), (AV.i .u8 0), (AV.i .u8 0), (AV.i .u8 0), (AV.i .u8 0), (AV.i .u8 0), (AV.i .u8 0), (AV.i .u8 0), (AV.i .u8 0), (AV.i .u8 0), (AV.i .u8 0), (AV.i .u8 0), (AV.i .u8 0), (AV.i .u8 0), (AV.i .u8 0), (AV.i .u8 0), (AV.i .u8 0), (AV.i .u8 0), (AV.i .u8 0), (AV.i .u8 0), (AV.i .u8 0), (AV.i .u8 0), (AV.i .u8 0), (AV.i .u8 0), (AV.i .u8 0), (AV.i .u8 0), (AV.i .u8 0), (AV.i .u8 0), (AV.i .u8 0), (AV.i .u8 0), (AV.i .u8 0), (AV.i .u8 0), (AV.i .u8 0), (AV.i .u8 0), (AV.i .u8 0), (AV.i .u8 0), (AV.i .u8 0), (AV.i .u8 0), (AV.i .u8 0), (AV.i .u8 0), (AV.i .u8 0), (AV.i .u8 0), (AV.i .u8 0), (AV.i .u8 0), (AV.i .u8 0), (AV.i .u8 0), (AV.i .u8 0), (AV.i .u8 0), (AV.i .u8 0), (AV.i .u8 0), (AV.i .u8 0), (AV.i .u8 0), (AV.i .u8 0), (AV.i .u8 0), (AV.i .u8 0), (AV.i .u8 0), (AV.i .u8 0), (AV.i .u8 0), (AV.i .u8 0), (AV.i .u8 0), (AV.i .u8 0), (AV.i .u8 0), (AV.i .u8 0), (AV.i .u8 0), (AV.i .u8 0), (AV.i .u8 0), (AV.i .u8 0), (AV.i .u8 0), (AV.i .u8 0), (AV.i .u8 0), (AV.i .u8 0), (AV.i .u8 0), (AV.i .u8 0), (AV.i .u8 0), (AV.i .u8 0), (AV.i .u8 0), (AV.i .u8 0), (AV.i .u8 0), (AV.i .u8 0), (AV.i .u8 0), (AV.i .u8 0), (AV.i .u8 0), (AV.i .u8 0), (AV.i .u8 0), (AV.i .u8 0), (AV.i .u8 0), (AV.i .u8 0), (AV.i .u8 0), (AV.i .u8 0), (AV.i .u8 0), (AV.i .u8 0), (AV.i .u8 0), (AV.i .u8 0), (AV.i .u8 0), (AV.i .u8 0), (AV.i .u8 0), (AV.i .u8 0), (AV.i .u8 0), (AV.i .u8 0), (AV.i .u8 0), (AV.i .u8 0), (AV.i .u8 0), (AV.i .u8 0), (AV.i .u8 0), (AV.i .u8 0), (AV.i .u8 0), (AV.i .u8 0), (AV.i .u8 0), (AV.i .u8 0), (AV.i .u8 0), (AV.i .u8 0), (AV.i .u8 0), (AV.i .u8 0), (AV.i .u8 0), (AV.i .u8 0), (AV.i .u8 0), (AV.i .u8 0), (AV.i .u8 0), (AV.i .u8 0), (AV.i .u8 0), (AV.i .u8 0), (AV.i .u8 0), (AV.i .u8 0), (AV.i .u8 0), (AV.i .u8 0), (AV.i .u8 0), (AV.i .u8 0), (AV.i .u8 0), (AV.i .u8 0), (AV.i .u8 0), (AV.i .u8 0), (AV.i .u8 0), (AV.i .u8 0), (AV.i .u8 0), (AV.i .u8 0), (AV.i .u8 0), (AV.i .u8 0), (AV.i .u8 0), (AV.i .u8 0), (AV.i .u8 0), (AV.i .u8 0), (AV.i .u8 0), (AV.i .u8 0), (AV.i .u8 0), (AV.i .u8 0), (AV.i .u8 0), (AV.i .u8 0), (AV.i .u8 0), (AV.i .u8 0), (AV.i .u8 0), (AV.i .u8 0), (AV.i .u8 0), (AV.i .u8 0), (AV.i .u8 0), (AV.i .u8 0), (AV.i .u8 0), (AV.i .u8 0), (AV.i .u8 0), (AV.i .u8 0), (AV.i .u8 0), (AV.i .u8 0), (AV.i .u8 0), (AV.i .u8 0), (AV.i .u8 0), (AV.i .u8 0), (AV.i .u8 0), (AV.i .u8 0), (AV.i .u8 0), (AV.i .u8 0), (AV.i .u8 0), (AV.i .u8 0), (AV.i .u8 0), (AV.i .u8 0), (AV.i .u8 0), (AV.i .u8 0), (AV.i .u8 0), (AV.i .u8 0), (AV.i .u8 0), (AV.i .u8 0), (AV.i .u8 0), (AV.i .u8 0), (AV.i .u8 0), (AV.i .u8 0), (AV.i .u8 0), (AV.i .u8 0), (AV.i .u8 0), (AV.i .u8 0), (AV.i .u8 0), (AV.i .u8 0), (AV.i .u8 0), (AV.i .u8 0), (AV.i .u8 0), (AV.i .u8 0), (AV.i .u8 0), (AV.i .u8 0), (AV.i .u8 0), (AV.i .u8 0), (AV.i .u8 0), (AV.i .u8 0), (AV.i .u8 0), (AV.i .u8 0), (AV.i .u8 0), (AV.i .u8 0), (AV.i .u8 0), (AV.i .u8 0), (AV.i .u8 0), (AV.i .u8 0), (AV.i .u8 0), (AV.i .u8 0), (AV.i .u8 0), (AV.i .u8 0), (AV.i .u8 0), (AV.i .u8 0), (AV.i .u8 0), (AV.i .u8 0), (AV.i .u8 0), (AV.i .u8 0), (AV.i .u8 0), (AV.i .u8 0), (AV.i .u8 0), (AV.i .u8 0)]) h48 fun h49 =>
J 4 [(3, x3), (6, v47), (61, (AV.i .i64 0))] h49)
else
(pLenSl x3 fun n85 =>
pQuo .i64 n85 2 fun n86 =>
pMake 1 16 [(AV.s [])] (AV.i .i64 0) (AV.i .i64 n86) h fun v87 h88 =>
pBuild [(AV.sl none 0 none), (AV.sl none 0 none), (AV.sl none 0 none), (AV.sl none 0 none), (AV.sl none 0 none), (AV.sl none 0 none), (AV.sl none 0 none), (AV.sl none 0 none), (AV.sl none 0 none), (AV.sl none 0 none), (AV.sl none 0 none), (AV.sl none 0 none), (AV.sl none 0 none), (AV.sl none 0 none), (AV.sl none 0 none), (AV.sl none 0 none), (AV.sl none 0 none), (AV.sl none 0 none), (AV.sl none 0 none), (AV.sl none 0 none), (AV.sl none 0 none), (AV.sl none 0 none), (AV.sl none 0 none), (AV.sl none 0 none), (AV.sl none 0 none), (AV.sl none 0 none), (AV.sl none 0 none), (AV.sl none 0 none), (AV.sl none 0 none), (AV.sl none 0 none), (AV.sl none 0 none), (AV.sl none 0 none), (AV.sl none 0 none), (AV.sl none 0 none), (AV.sl none 0 none), (AV.sl none 0 none), (AV.sl none 0 none), (AV.sl none 0 none), (AV.sl none 0 none), (AV.sl none 0 none), (AV.sl none 0 none), (AV.sl none 0 none), (AV.sl none 0 none), (AV.sl none 0 none), (AV.sl none 0 none), (AV.sl none 0 none), (AV.sl none 0 none), (AV.sl none 0 none), (AV.sl none 0 none), (AV.sl none 0 none), (AV.sl none 0 none), (AV.sl none 0 none), (AV.sl none 0 none), (AV.sl none 0 none), (AV.sl none 0 none), (AV.sl none 0 none), (AV.sl none 0 none), (AV.sl none 0 none), (AV.sl none 0 none), (AV.sl none 0 none), (AV.sl none 0 none), (AV.sl none 0 none), (AV.sl none 0 none), (AV.sl none 0 none), (AV.sl none 0 none), (AV.sl none 0 none), (AV.sl none 0 none), (AV.sl none 0 none), (AV.sl none 0 none), (AV.sl none 0 none), (AV.sl none 0 none), (AV.sl none 0 none), (AV.sl none 0 none), (AV.sl none 0 none), (AV.sl none 0 none), (AV.sl none 0 none), (AV.sl none 0 none), (AV.sl none 0 none), (AV.sl none 0 none), (AV.sl none 0 none), (AV.sl none 0 none), (AV.sl none 0 none), (AV.sl none 0 none), (AV.sl none 0 none), (AV.sl none 0 none), (AV.sl none 0 none), (AV.sl none 0 none), (AV.sl none 0 none), (AV.sl none 0 none), (AV.sl none 0 none), (AV.sl none 0 none), (AV.sl none 0 none), (AV.sl none 0 none), (AV.sl none 0 none), (AV.sl none 0 none), (AV.sl none 0 none), (AV.sl none 0 none), (AV.sl none 0 none), (AV.sl none 0 none), (AV.sl none 0 none), (AV.sl none 0 none), (AV.sl none 0 none), (AV.sl none 0 none), (AV.sl none 0 none), (AV.sl none 0 none), (AV.sl none 0 none), (AV.sl none 0 none), (AV.sl none 0 none), (AV.sl none 0 none), (AV.sl none 0 none), (AV.sl none 0 none), (AV.sl none 0 none), (AV.sl none 0 none), (AV.sl none 0 none), (AV.sl none 0 none), (AV.sl none 0 none), (AV.sl none 0 none), (AV.sl none 0 none), (AV.sl none 0 none), (AV.sl none 0 none), (AV.sl none 0 none), (AV.sl none 0 none), (AV.sl none 0 none), (AV.sl none 0 none), (AV.sl none 0 none), (AV.sl none 0 none), (AV.sl none 0 none), (AV.sl none 0 none), (AV.sl none 0 none), (AV.sl none 0 none), (AV.sl none 0 none), (AV.sl none 0 none), (AV.sl none 0 none), (AV.sl none 0 none), (AV.sl none 0 none), (AV.sl none 0 none), (AV.sl none 0 none), (AV.sl none 0 none), (AV.sl none 0 none), (AV.sl none 0 none), (AV.sl none 0 none), (AV.sl none 0 none), (AV.sl none 0 none), (AV.sl none 0 none), (AV.sl none 0 none), (AV.sl none 0 none), (AV.sl none 0 none), (AV.sl none 0 none), (AV.sl none 0 none), (AV.sl none 0 none), (AV.sl none 0 none), (AV.sl none 0 none), (AV.sl none 0 none), (AV.sl none 0 none), (AV.sl none 0 none), (AV.sl none 0 none), (AV.sl none 0 none), (AV.sl none 0 none), (AV.sl none 0 none), (AV.sl none 0 none), (AV.sl none 0 none), (AV.sl none 0 none), (AV.sl none 0 none), (AV.sl none 0 none), (AV.sl none 0 none), (AV.sl none 0 none), (AV.sl none 0 none), (AV.sl none 0 none), (AV.sl none 0 none), (AV.sl none 0 none), (AV.sl none 0 none), (AV.sl none 0 none), (AV.sl none 0 none), (AV.sl none 0 none), (AV.sl none 0 none), (AV.sl none 0 none), (AV.sl none 0 none), (AV.sl none 0 none), (AV.sl none 0 none), (AV.sl none 0 none), (AV.sl none 0 none), (AV.sl none 0 none), (AV.sl none 0 none), (AV.sl none 0 none), (AV.sl none 0 none), (AV.sl none 0 none), (AV.sl none 0 none), (AV.sl none 0 none), (AV.sl none 0 none), (AV.sl none 0 none), (AV.sl none 0 none), (AV.sl none 0 none), (AV.sl none 0 none), (AV.sl none 0 none), (AV.sl none 0 none), (AV.sl none 0 none), (AV.sl none 0 none), (AV.sl none 0 none), (AV.sl none 0 none), (AV.sl none 0 none), (AV.sl none 0 none), (AV.sl none 0 none), (AV.sl none 0 none), (AV.sl none 0 none), (AV.sl none 0 none), (AV.sl none 0 none), (AV.sl none 0 none), (AV.sl none 0 none), (AV.sl none 0 none), (AV.sl none 0 none), (AV.sl none 0 none), (AV.sl none 0 none), (AV.sl none 0 none), (AV.sl none 0 none), (AV.sl none 0 none), (AV.sl none 0 none), (AV.sl none 0 none), (AV.sl none 0 none), (AV.sl none 0 none), (AV.sl none 0 none), (AV.sl none 0 none), (AV.sl none 0 none), (AV.sl none 0 none), (AV.sl none 0 none), (AV.sl none 0 none), (AV.sl none 0 none), (AV.sl none 0 none), (AV.sl none 0 none), (AV.sl none 0 none), (AV.sl none 0 none), (AV.sl none 0 none), (AV.sl none 0 none), (AV.sl none 0 none), (AV.sl none 0 none), (AV.sl none 0 none), (AV.sl none 0 none), (AV.sl none 0 none), (AV.sl none 0 none), (AV.sl none 0 none), (AV.sl none 0 none), (AV.sl none 0 none), (AV.sl none 0 none), (AV.sl none 0 none), (AV.sl none 0 none), (AV.sl none 0 none), (AV.sl none 0 none), (AV.sl none 0 none), (AV.sl none 0 none), (AV.sl none 0 none), (AV.sl none 0 none), (AV.sl none 0 none), (AV.sl none 0 none), (AV.sl none 0 none), (AV.sl none 0 none), (AV.sl none 0 none), (AV.sl none 0 none), (AV.sl none 0 none)] [(256, 1, v87)] fun v89 =>
pAlloc (some 152) [(AV.sl none 0 none), (AV.sl none 0 none), (AV.sl none 0 none), (AV.sl none 0 none), (AV.sl none 0 none), (AV.sl none 0 none), (AV.sl none 0 none), (AV.sl none 0 none), (AV.sl none 0 none), (AV.sl none 0 none), (AV.sl none 0 none), (AV.sl none 0 none), (AV.sl none 0 none), (AV.sl none 0 none), (AV.sl none 0 none), (AV.sl none 0 none), (AV.sl none 0 none), (AV.sl none 0 none), (AV.sl none 0 none), (AV.sl none 0 none), (AV.sl none 0 none), (AV.sl none 0 none), (AV.sl none 0 none), (AV.sl none 0 none), (AV.sl none 0 none), (AV.sl none 0 none), (AV.sl none 0 none), (AV.sl none 0 none), (AV.sl none 0 none), (AV.sl none 0 none), (AV.sl none 0 none), (AV.sl none 0 none), (AV.sl none 0 none), (AV.sl none 0 none), (AV.sl none 0 none), (AV.sl none 0 none), (AV.sl none 0 none), (AV.sl none 0 none), (AV.sl none 0 none), (AV.sl none 0 none), (AV.sl none 0 none), (AV.sl none 0 none), (AV.sl none 0 none), (AV.sl none 0 none), (AV.sl none 0 none), (AV.sl none 0 none), (AV.sl none 0 none), (AV.sl none 0 none), (AV.sl none 0 none), (AV.sl none 0 none), (AV.sl none 0 none), (AV.sl none 0 none), (AV.sl none 0 none), (AV.sl none 0 none), (AV.sl none 0 none), (AV.sl none 0 none), (AV.sl none 0 none), (AV.sl none 0 none), (AV.sl none 0 none), (AV.sl none 0 none), (AV.sl none 0 none), (AV.sl none 0 none), (AV.sl none 0 none), (AV.sl none 0 none), (AV.sl none 0 none), (AV.sl none 0 none), (AV.sl none 0 none), (AV.sl none 0 none), (AV.sl none 0 none), (AV.sl none 0 none), (AV.sl none 0 none), (AV.sl none 0 none), (AV.sl none 0 none), (AV.sl none 0 none), (AV.sl none 0 none), (AV.sl none 0 none), (AV.sl none 0 none), (AV.sl none 0 none), (AV.sl none 0 none), (AV.sl none 0 none), (AV.sl none 0 none), (AV.sl none 0 none), (AV.sl none 0 none), (AV.sl none 0 none), (AV.sl none 0 none), (AV.sl none 0 none), (AV.sl none 0 none), (AV.sl none 0 none), (AV.sl none 0 none), (AV.sl none 0 none), (AV.sl none 0 none), (AV.sl none 0 none), (AV.sl none 0 none), (AV.sl none 0 none), (AV.sl none 0 none), (AV.sl none 0 none), (AV.sl none 0 none), (AV.sl none 0 none), (AV.sl none 0 none), (AV.sl none 0 none), (AV.sl none 0 none), (AV.sl none 0 none), (AV.sl none 0 none), (AV.sl none 0 none), (AV.sl none 0 none), (AV.sl none 0 none), (AV.sl none 0 none), (AV.sl none 0 none), (AV.sl none 0 none), (AV.sl none 0 none), (AV.sl none 0 none), (AV.sl none 0 none), (AV.sl none 0 none), (AV.sl none 0 none), (AV.sl none 0 none), (AV.sl none 0 none), (AV.sl none 0 none), (AV.sl none 0 none), (AV.sl none 0 none), (AV.sl none 0 none), (AV.sl none 0 none), (AV.sl none 0 none), (AV.sl none 0 none), (AV.sl none 0 none), (AV.sl none 0 none), (AV.sl none 0 none), (AV.sl none 0 none), (AV.sl none 0 none), (AV.sl none 0 none), (AV.sl none 0 none), (AV.sl none 0 none), (AV.sl none 0 none), (AV.sl none 0 none), (AV.sl none 0 none), (AV.sl none 0 none), (AV.sl none 0 none), (AV.sl none 0 none), (AV.sl none 0 none), (AV.sl none 0 none), (AV.sl none 0 none), (AV.sl none 0 none), (AV.sl none 0 none), (AV.sl none 0 none), (AV.sl none 0 none), (AV.sl none 0 none), (AV.sl none 0 none), (AV.sl none 0 none), (AV.sl none 0 none), (AV.sl none 0 none), (AV.sl none 0 none), (AV.sl none 0 none), (AV.sl none 0 none), (AV.sl none 0 none), (AV.sl none 0 none), (AV.sl none 0 none), (AV.sl none 0 none), (AV.sl none 0 none), (AV.sl none 0 none), (AV.sl none 0 none), (AV.sl none 0 none), (AV.sl none 0 none), (AV.sl none 0 none), (AV.sl none 0 none), (AV.sl none 0 none), (AV.sl none 0 none), (AV.sl none 0 none), (AV.sl none 0 none), (AV.sl none 0 none), (AV.sl none 0 none), (AV.sl none 0 none), (AV.sl none 0 none), (AV.sl none 0 none), (AV.sl none 0 none), (AV.sl none 0 none), (AV.sl none 0 none), (AV.sl none 0 none), (AV.sl none 0 none), (AV.sl none 0 none), (AV.sl none 0 none), (AV.sl none 0 none), (AV.sl none 0 none), (AV.sl none 0 none), (AV.sl none 0 none), (AV.sl none 0 none), (AV.sl none 0 none), (AV.sl none 0 none), (AV.sl none 0 none), (AV.sl none 0 none), (AV.sl none 0 none), (AV.sl none 0 none), (AV.sl none 0 none), (AV.sl none 0 none), (AV.sl none 0 none), (AV.sl none 0 none), (AV.sl none 0 none), (AV.sl none 0 none), (AV.sl none 0 none), (AV.sl none 0 none), (AV.sl none 0 none), (AV.sl none 0 none), (AV.sl none 0 none), (AV.sl none 0 none), (AV.sl none 0 none), (AV.sl none 0 none), (AV.sl none 0 none), (AV.sl none 0 none), (AV.sl none 0 none), (AV.sl none 0 none), (AV.sl none 0 none), (AV.sl none 0 none), (AV.sl none 0 none), (AV.sl none 0 none), (AV.sl none 0 none), (AV.sl none 0 none), (AV.sl none 0 none), (AV.sl none 0 none), (AV.sl none 0 none), (AV.sl none 0 none), (AV.sl none 0 none), (AV.sl none 0 none), (AV.sl none 0 none), (AV.sl none 0 none), (AV.sl none 0 none), (AV.sl none 0 none), (AV.sl none 0 none), (AV.sl none 0 none), (AV.sl none 0 none), (AV.sl none 0 none), (AV.sl none 0 none), (AV.sl none 0 none), (AV.sl none 0 none), (AV.sl none 0 none), (AV.sl none 0 none), (AV.sl none 0 none), (AV.sl none 0 none), (AV.sl none 0 none), (AV.sl none 0 none), (AV.sl none 0 none), (AV.sl none 0 none), (AV.sl none 0 none), (AV.sl none 0 none), (AV.sl none 0 none), (AV.sl none 0 none), (AV.sl none 0 none), (AV.sl none 0 none), (AV.sl none 0 none), (AV.sl none 0 none), (AV.sl none 0 none), (AV.sl none 0 none), (AV.sl none 0 none), (AV.sl none 0 none), (AV.sl none 0 none), (AV.sl none 0 none), (AV.sl none 0 none), (AV.sl none 0 none), (AV.sl none 0 none), (AV.sl none 0 none)] h88 fun v90 h91 =>
pStore 257 v90 v89 h91 fun h92 =>
pLenSl x3 fun n94 =>
withI (IntKind.wrap .i64 (n94 - 2)) fun n95 =>
J 6 [(3, x3), (11, v90), (12, (AV.i .i64 n95))] h92))))
theorem G_strings_Replacer_build.t1_eq (J : JT) (Q : AV → AHeap → Prop) (x3 : AV) (x4 : Bool) (x5 : Int) (h : AHeap) : G_strings_Replacer_build.t1 J Q x3 x4 x5 h = atJ prog C 132 J true [1, 1, 1, 1, 0, 1, 0] G_strings_Replacer_build.ann G_strings_Replacer_build.body [(3, x3), (4, (AV.b x4)), (5, (AV.i .i64 x5))] h (kFun prog Tryz.f89 Q) := by kernel_rfl
theorem G_strings_Replacer_build.i1 {Q : AV → AHeap → Prop} {x3 : AV} {x4 : Bool} {x5 : Int} {h : AHeap} (H : G_strings_Replacer_build.t1 (G_strings_Replacer_build.J Q) Q x3 x4 x5 h) : G_strings_Replacer_build.p1 Q x3 x4 x5 h := G_strings_Replacer_build.goH (k := 2) (p := [1, 1, 1, 1, 0, 1, 0]) (by kernel_rfl) ((G_strings_Replacer_build.t1_eq (G_strings_Replacer_build.J Q) Q x3 x4 x5 h).mp H)
def G_strings_Replacer_build.t3 (J : JT) (Q : AV → AHeap → Prop) (x3 : AV) (x6 : AV) (x61 : Int) (h : AHeap) : Prop :=
(bif (decide ((x61 : Int) < 256)) then
(pIdxAddrArr 256 1 x6 (AV.i .i64 x61) fun v56 =>
pStore 1 v56 (AV.i .u8 (IntKind.wrap .u8 x61)) h fun h57 =>
withI (IntKind.wrap .i64 (x61 + 1)) fun n59 =>
J 4 [(3, x3), (6, x6), (61, (AV.i .i64 n59))] h57)
else
(pLenSl x3 fun n61 =>
withI (IntKind.wrap .i64 (n61 - 2)) fun n62 =>
J 5 [(3, x3), (6, x6), (8, (AV.i .i64 n62))] h))
theorem G_strings_Replacer_build.t3_eq (J : JT) (Q : AV → AHeap → Prop) (x3 : AV) (x6 : AV) (x61 : Int) (h : AHeap) : G_strings_Replacer_build.t3 J Q x3 x6 x61 h = atJ prog C 132 J true [1, 1, 1, 1, 1, 0, 1, 0, 1, 0, 1, 0] G_strings_Replacer_build.ann G_strings_Replacer_build.body [(3, x3), (6, x6), (61, (AV.i .i64 x61))] h (kFun prog Tryz.f89 Q) := by kernel_rfl
theorem G_strings_Replacer_build.i3 {Q : AV → AHeap → Prop} {x3 : AV} {x6 : AV} {x61 : Int} {h : AHeap} (H : G_strings_Replacer_build.t3 (G_strings_Replacer_build.J Q) Q x3 x6 x61 h) : G_strings_Replacer_build.p3 Q x3 x6 x61 h := G_strings_Replacer_build.goH (k := 4) (p := [1, 1, 1, 1, 1, 0, 1, 0, 1, 0, 1, 0]) (by kernel_rfl) ((G_strings_Replacer_build.t3_eq (G_strings_Replacer_build.J Q) Q x3 x6 x61 h).mp H)
def G_strings_Replacer_build.t4 (J : JT) (Q : AV → AHeap → Prop) (x3 : AV) (x6 : AV) (x8 : Int) (h : AHeap) : Prop :=
(bif (decide ((0 : Int) ≤ x8)) then
(pIdxAddrSl 1 x3 (AV.i .i64 x8) h fun v67 =>
pLoad1 v67 h fun v68 =>
asS v68 fun l69 =>
pIdxStr (AV.s l69) (AV.i .i64 0) fun n70 =>
withI (IntKind.wrap .i64 (x8 + 1)) fun n72 =>
pIdxAddrSl 1 x3 (AV.i .i64 n72) h fun v73 =>
pLoad1 v73 h fun v74 =>
asS v74 fun l75 =>
pIdxStr (AV.s l75) (AV.i .i64 0) fun n76 =>
pIdxAddrArr 256 1 x6 (AV.i .u8 n70) fun v78 =>
pStore 1 v78 (AV.i .u8 n76) h fun h79 =>
withI (IntKind.wrap .i64 (x8 - 2)) fun n81 =>
J 5 [(3, x3), (6, x6), (8, (AV.i .i64 n81))] h79)
else
(Q (AV.ifc 149 x6) h))
theorem G_strings_Replacer_build.t4_eq (J : JT) (Q : AV → AHeap → Prop) (x3 : AV) (x6 : AV) (x8 : Int) (h : AHeap) : G_strings_Replacer_build.t4 J Q x3 x6 x8 h = atJ prog C 132 J true [1, 1, 1, 1, 1, 0, 1, 0, 1, 1, 0, 1, 0] G_strings_Replacer_build.ann G_strings_Replacer_build.body [(3, x3), (6, x6), (8, (AV.i .i64 x8))] h (kFun prog Tryz.f89 Q) := by kernel_rfl
theorem G_strings_Replacer_build.i4 {Q : AV → AHeap → Prop} {x3 : AV} {x6 : AV} {x8 : Int} {h : AHeap} (H : G_strings_Replacer_build.t4 (G_strings_Replacer_build.J Q) Q x3 x6 x8 h) : G_strings_Replacer_build.p4 Q x3 x6 x8 h := G_strings_Replacer_build.goH (k := 5) (p := [1, 1, 1, 1, 1, 0, 1, 0, 1, 1, 0, 1, 0]) (by kernel_rfl) ((G_strings_Replacer_build.t4_eq (G_strings_Replacer_build.J Q) Q x3 x6 x8 h).mp H)
def G_strings_Replacer_build.t6 (J : JT) (Q : AV → AHeap → Prop) (x3 : AV) (x11 : AV) (x12 : Int) (x13 : Int) (x14 : List UInt8) (h : AHeap) : Prop :=
pStrBytes (AV.s x14) h fun v129 h130 =>
pFieldAddr 0 x11 fun v131 =>
pIdxAddrArr 256 1 v131 (AV.i .u8 x13) fun v132 =>
pStore 1 v132 v129 h130 fun h133 =>
withI (IntKind.wrap .i64 (x12 - 2)) fun n135 =>
J 6 [(3, x3), (11, x11), (12, (AV.i .i64 n135))] h133
theorem G_strings_Replacer_build.t6_eq (J : JT) (Q : AV → AHeap → Prop) (x3 : AV) (x11 : AV) (x12 : Int) (x13 : Int) (x14 : List UInt8) (h : AHeap) : G_strings_Replacer_build.t6 J Q x3 x11 x12 x13 x14 h = atJ prog C 132 J false [1, 1, 1, 1, 1, 1, 1, 0, 1, 0, 0, 1, 0, 0, 1, 1, 1] G_strings_Replacer_build.ann G_strings_Replacer_build.body [(3, x3), (11, x11), (12, (AV.i .i64 x12)), (13, (AV.i .u8 x13)), (14, (AV.s x14))] h (kFun prog Tryz.f89 Q) := by kernel_rfl
theorem G_strings_Replacer_build.i6 {Q : AV → AHeap → Prop} {x3 : AV} {x11 : AV} {x12 : Int} {x13 : Int} {x14 : List UInt8} {h : AHeap} (H : G_strings_Replacer_build.t6 (G_strings_Replacer_build.J Q) Q x3 x11 x12 x13 x14 h) : G_strings_Replacer_build.p6 Q x3 x11 x12 x13 x14 h := G_strings_Replacer_build.goR (k := 7) (p := [1, 1, 1, 1, 1, 1, 1, 0, 1, 0, 0, 1, 0, 0, 1, 1, 1]) (by kernel_rfl) ((G_strings_Replacer_build.t6_eq (G_strings_Replacer_build.J Q) Q x3 x11 x12 x13 x14 h).mp H)
def G_strings_Replacer_build.t5 (J : JT) (Q : AV → AHeap → Prop) (x3 : AV) (x11 : AV) (x12 : Int) (h : AHeap) : Prop :=
(bif (decide ((0 : Int) ≤ x12)) then
(pIdxAddrSl 1 x3 (AV.i .i64 x12) h fun v100 =>
pLoad1 v100 h fun v101 =>
asS v101 fun l102 =>
pIdxStr (AV.s l102) (AV.i .i64 0) fun n103 =>
withI (IntKind.wrap .i64 (x12 + 1)) fun n105 =>
pIdxAddrSl 1 x3 (AV.i .i64 n105) h fun v106 =>
pLoad1 v106 h fun v107 =>
asS v107 fun l108 =>
pFieldAddr 0 x11 fun v110 =>
pIdxAddrArr 256 1 v110 (AV.i .u8 n103) fun v111 =>
pLoad1 v111 h fun v112 =>
pBin prog .eql 57 v112 (AV.sl none 0 none) fun v113 =>
asB v113 fun c114 =>
(bif c114 then
(pFieldAddr 256 x11 fun v116 =>
pLoad1 v116 h fun v117 =>
pBuildSl 1 1 [(AV.i .u8 0)] [(0, 1, (AV.i .u8 n103))] h fun v118 h119 =>
pBytesStr v118 h119 fun l120 =>
pBuildSl 1 1 [(AV.s [])] [(0, 1, (AV.s l120))] h119 fun v121 h122 =>
pAppend none 1 16 v117 v121 h122 fun v123 h124 =>
pFieldAddr 256 x11 fun v125 =>
pStore 1 v125 v123 h124 fun h126 =>
J 7 [(3, x3), (11, x11), (12, (AV.i .i64 x12)), (13, (AV.i .u8 n103)), (14, (AV.s l108))] h126)
else
(J 7 [(3, x3), (11, x11), (12, (AV.i .i64 x12)), (13, (AV.i .u8 n103)), (14, (AV.s l108))] h)))
else
(Q (AV.ifc 153 x11) h))
theorem G_strings_Replacer_build.t5_eq (J : JT) (Q : AV → AHeap → Prop) (x3 : AV) (x11 : AV) (x12 : Int) (h : AHeap) : G_strings_Replacer_build.t5 J Q x3 x11 x12 h = atJ prog C 132 J true [1, 1, 1, 1, 1, 1, 1, 0, 1, 0] G_strings_Replacer_build.ann G_strings_Replacer_build.body [(3, x3), (11, x11), (12, (AV.i .i64 x12))] h (kFun prog Tryz.f89 Q) := by kernel_rfl
theorem G_strings_Replacer_build.i5 {Q : AV → AHeap → Prop} {x3 : AV} {x11 : AV} {x12 : Int} {h : AHeap} (H : G_strings_Replacer_build.t5 (G_strings_Replacer_build.J Q) Q x3 x11 x12 h) : G_strings_Replacer_build.p5 Q x3 x11 x12 h := G_strings_Replacer_build.goH (k := 6) (p := [1, 1, 1, 1, 1, 1, 1, 0, 1, 0]) (by kernel_rfl) ((G_strings_Replacer_build.t5_eq (G_strings_Replacer_build.J Q) Q x3 x11 x12 h).mp H)
def G_strings_Replacer_build.t (J : JT) (Q : AV → AHeap → Prop) (x0 : AV) (h : AHeap) : Prop :=
pNil x0 fun v1 =>
pFieldAddr 4 v1 fun v2 =>
pLoad1 v2 h fun v3 =>
pLenSl v3 fun n5 =>
(bif (decide ((n5 : Int) = 2)) then
(pIdxAddrSl 1 v3 (AV.i .i64 0) h fun v6 =>
pLoad1 v6 h fun v7 =>
asS v7 fun l8 =>
J 1 [(3, v3), (28, (AV.b (decide ((1 : Int) < (l8.length : Int)))))] h)
else
(J 1 [(3, v3), (28, (AV.b false))] h))
theorem G_strings_Replacer_build.t_eq (J : JT) (Q : AV → AHeap → Prop) (x0 : AV) (h : AHeap) : G_strings_Replacer_build.t J Q x0 h = exJ prog C 132 J G_strings_Replacer_build.ann G_strings_Replacer_build.body (initEnv 0 [x0]) h (kFun prog Tryz.f89 Q) := by kernel_rfl
theorem G_strings_Replacer_build.call {K : AV → AHeap → Prop} {x0 : AV} {h : AHeap} (H : G_strings_Replacer_build.t (G_strings_Replacer_build.J (kRet h K)) (kRet h K) x0 h) : C G_strings_Replacer_build.id [x0] h K :=
  callJ (P := prog) (fn := Tryz.f89) (ann := G_strings_Replacer_build.ann) (body := G_strings_Replacer_build.body) Tryz.func89 G_strings_Replacer_build.body_eq (by kernel_rfl) G_strings_Replacer_build.dist (by kernel_rfl) ((G_strings_Replacer_build.t_eq (G_strings_Replacer_build.J (kRet h K)) (kRet h K) x0 h).mp H)

--@@ G_sync_Mutex_Lock
/-! ### 96: (*sync.Mutex).Lock -/
noncomputable def G_sync_Mutex_Lock.body : Code := (Tryz.f96.body).getD .skip
def G_sync_Mutex_Lock.ann : Ann := .leaf
theorem G_sync_Mutex_Lock.body_eq : Tryz.f96.body = some G_sync_Mutex_Lock.body := by kernel_rfl
theorem G_sync_Mutex_Lock.dist : noTwice (places G_sync_Mutex_Lock.ann G_sync_Mutex_Lock.body) = true := by kernel_rfl
noncomputable def G_sync_Mutex_Lock.J (Q : AV → AHeap → Prop) : JT := funJ prog C Tryz.f96 G_sync_Mutex_Lock.ann G_sync_Mutex_Lock.body Q
theorem G_sync_Mutex_Lock.goR {Q : AV → AHeap → Prop} {k : Nat} {p : List Nat} (hl : lookJ (places G_sync_Mutex_Lock.ann G_sync_Mutex_Lock.body) k = some (p, false)) {e : Env} {h : AHeap} (hk : atJ prog C 6 (G_sync_Mutex_Lock.J Q) false p G_sync_Mutex_Lock.ann G_sync_Mutex_Lock.body e h (kFun prog Tryz.f96 Q)) : G_sync_Mutex_Lock.J Q k e h := goJ_run (P := prog) (fn := Tryz.f96) (ann := G_sync_Mutex_Lock.ann) (body := G_sync_Mutex_Lock.body) (Q := Q) (k := k) (p := p) (e := e) (h := h) (acall_le X) G_sync_Mutex_Lock.dist hl hk
theorem G_sync_Mutex_Lock.goH {Q : AV → AHeap → Prop} {k : Nat} {p : List Nat} (hl : lookJ (places G_sync_Mutex_Lock.ann G_sync_Mutex_Lock.body) k = some (p, true)) {e : Env} {h : AHeap} (hk : atJ prog C 6 (G_sync_Mutex_Lock.J Q) true p G_sync_Mutex_Lock.ann G_sync_Mutex_Lock.body e h (kFun prog Tryz.f96 Q)) : G_sync_Mutex_Lock.J Q k e h := goJ_head (P := prog) (fn := Tryz.f96) (ann := G_sync_Mutex_Lock.ann) (body := G_sync_Mutex_Lock.body) (Q := Q) (k := k) (p := p) (e := e) (h := h) (acall_le X) G_sync_Mutex_Lock.dist hl hk
def G_sync_Mutex_Lock.t (J : JT) (Q : AV → AHeap → Prop) (x0 : AV) (h : AHeap) : Prop :=
pNil x0 fun v0 =>
pFieldAddr 0 v0 fun v1 =>
C G_i_sync_Mutex_Lock.id [v1] h fun v2 h3 =>
Q (AV.tu []) h3
theorem G_sync_Mutex_Lock.t_eq (J : JT) (Q : AV → AHeap → Prop) (x0 : AV) (h : AHeap) : G_sync_Mutex_Lock.t J Q x0 h = exJ prog C 6 J G_sync_Mutex_Lock.ann G_sync_Mutex_Lock.body (initEnv 0 [x0]) h (kFun prog Tryz.f96 Q) := by kernel_rfl
theorem G_sync_Mutex_Lock.call {K : AV → AHeap → Prop} {x0 : AV} {h : AHeap} (H : G_sync_Mutex_Lock.t (G_sync_Mutex_Lock.J (kRet h K)) (kRet h K) x0 h) : C G_sync_Mutex_Lock.id [x0] h K :=
  callJ (P := prog) (fn := Tryz.f96) (ann := G_sync_Mutex_Lock.ann) (body := G_sync_Mutex_Lock.body) Tryz.func96 G_sync_Mutex_Lock.body_eq (by kernel_rfl) G_sync_Mutex_Lock.dist (by kernel_rfl) ((G_sync_Mutex_Lock.t_eq (G_sync_Mutex_Lock.J (kRet h K)) (kRet h K) x0 h).mp H)

--@@ G_sync_Mutex_Unlock
/-! ### 97: (*sync.Mutex).Unlock -/
noncomputable def G_sync_Mutex_Unlock.body : Code := (Tryz.f97.body).getD .skip
def G_sync_Mutex_Unlock.ann : Ann := .leaf
theorem G_sync_Mutex_Unlock.body_eq : Tryz.f97.body = some G_sync_Mutex_Unlock.body := by kernel_rfl
theorem G_sync_Mutex_Unlock.dist : noTwice (places G_sync_Mutex_Unlock.ann G_sync_Mutex_Unlock.body) = true := by kernel_rfl
noncomputable def G_sync_Mutex_Unlock.J (Q : AV → AHeap → Prop) : JT := funJ prog C Tryz.f97 G_sync_Mutex_Unlock.ann G_sync_Mutex_Unlock.body Q
theorem G_sync_Mutex_Unlock.goR {Q : AV → AHeap → Prop} {k : Nat} {p : List Nat} (hl : lookJ (places G_sync_Mutex_Unlock.ann G_sync_Mutex_Unlock.body) k = some (p, false)) {e : Env} {h : AHeap} (hk : atJ prog C 6 (G_sync_Mutex_Unlock.J Q) false p G_sync_Mutex_Unlock.ann G_sync_Mutex_Unlock.body e h (kFun prog Tryz.f97 Q)) : G_sync_Mutex_Unlock.J Q k e h := goJ_run (P := prog) (fn := Tryz.f97) (ann := G_sync_Mutex_Unlock.ann) (body := G_sync_Mutex_Unlock.body) (Q := Q) (k := k) (p := p) (e := e) (h := h) (acall_le X) G_sync_Mutex_Unlock.dist hl hk
theorem G_sync_Mutex_Unlock.goH {Q : AV → AHeap → Prop} {k : Nat} {p : List Nat} (hl : lookJ (places G_sync_Mutex_Unlock.ann G_sync_Mutex_Unlock.body) k = some (p, true)) {e : Env} {h : AHeap} (hk : atJ prog C 6 (G_sync_Mutex_Unlock.J Q) true p G_sync_Mutex_Unlock.ann G_sync_Mutex_Unlock.body e h (kFun prog Tryz.f97 Q)) : G_sync_Mutex_Unlock.J Q k e h := goJ_head (P := prog) (fn := Tryz.f97) (ann := G_sync_Mutex_Unlock.ann) (body := G_sync_Mutex_Unlock.body) (Q := Q) (k := k) (p := p) (e := e) (h := h) (acall_le X) G_sync_Mutex_Unlock.dist hl hk
def G_sync_Mutex_Unlock.t (J : JT) (Q : AV → AHeap → Prop) (x0 : AV) (h : AHeap) : Prop :=
pNil x0 fun v0 =>
pFieldAddr 0 v0 fun v1 =>
C G_i_sync_Mutex_Unlock.id [v1] h fun v2 h3 =>
Q (AV.tu []) h3
theorem G_sync_Mutex_Unlock.t_eq (J : JT) (Q : AV → AHeap → Prop) (x0 : AV) (h : AHeap) : G_sync_Mutex_Unlock.t J Q x0 h = exJ prog C 6 J G_sync_Mutex_Unlock.ann G_sync_Mutex_Unlock.body (initEnv 0 [x0]) h (kFun prog Tryz.f97 Q) := by kernel_rfl
theorem G_sync_Mutex_Unlock.call {K : AV → AHeap → Prop} {x0 : AV} {h : AHeap} (H : G_sync_Mutex_Unlock.t (G_sync_Mutex_Unlock.J (kRet h K)) (kRet h K) x0 h) : C G_sync_Mutex_Unlock.id [x0] h K :=
  callJ (P := prog) (fn := Tryz.f97) (ann := G_sync_Mutex_Unlock.ann) (body := G_sync_Mutex_Unlock.body) Tryz.func97 G_sync_Mutex_Unlock.body_eq (by kernel_rfl) G_sync_Mutex_Unlock.dist (by kernel_rfl) ((G_sync_Mutex_Unlock.t_eq (G_sync_Mutex_Unlock.J (kRet h K)) (kRet h K) x0 h).mp H)
theorem G_sync_Mutex_Unlock.callF {K : AV → AHeap → Prop} {x0 : AV} {h : AHeap} (H : G_sync_Mutex_Unlock.t (G_sync_Mutex_Unlock.J (kRet h K)) (kRet h K) x0 h) : aF prog C G_sync_Mutex_Unlock.id [x0] h K :=
  aF_J (P := prog) (fn := Tryz.f97) (ann := G_sync_Mutex_Unlock.ann) (body := G_sync_Mutex_Unlock.body) Tryz.func97 G_sync_Mutex_Unlock.body_eq (by kernel_rfl) G_sync_Mutex_Unlock.dist (by kernel_rfl) ((G_sync_Mutex_Unlock.t_eq (G_sync_Mutex_Unlock.J (kRet h K)) (kRet h K) x0 h).mp H)

--@@ G_sync_atomic_Bool_Store
/-! ### 98: (*sync/atomic.Bool).Store -/
noncomputable def G_sync_atomic_Bool_Store.body : Code := (Tryz.f98.body).getD .skip
def G_sync_atomic_Bool_Store.ann : Ann := (.ord (.neu 0 (.neu 1 (.neu 2 (.neu 3 (.eff 4 (.eff 5 .done .stop) .stop))))))
theorem G_sync_atomic_Bool_Store.body_eq : Tryz.f98.body = some G_sync_atomic_Bool_Store.body := by kernel_rfl
theorem G_sync_atomic_Bool_Store.dist : noTwice (places G_sync_atomic_Bool_Store.ann G_sync_atomic_Bool_Store.body) = true := by kernel_rfl
noncomputable def G_sync_atomic_Bool_Store.J (Q : AV → AHeap → Prop) : JT := funJ prog C Tryz.f98 G_sync_atomic_Bool_Store.ann G_sync_atomic_Bool_Store.body Q
theorem G_sync_atomic_Bool_Store.goR {Q : AV → AHeap → Prop} {k : Nat} {p : List Nat} (hl : lookJ (places G_sync_atomic_Bool_Store.ann G_sync_atomic_Bool_Store.body) k = some (p, false)) {e : Env} {h : AHeap} (hk : atJ prog C 10 (G_sync_atomic_Bool_Store.J Q) false p G_sync_atomic_Bool_Store.ann G_sync_atomic_Bool_Store.body e h (kFun prog Tryz.f98 Q)) : G_sync_atomic_Bool_Store.J Q k e h := goJ_run (P := prog) (fn := Tryz.f98) (ann := G_sync_atomic_Bool_Store.ann) (body := G_sync_atomic_Bool_Store.body) (Q := Q) (k := k) (p := p) (e := e) (h := h) (acall_le X) G_sync_atomic_Bool_Store.dist hl hk
theorem G_sync_atomic_Bool_Store.goH {Q : AV → AHeap → Prop} {k : Nat} {p : List Nat} (hl : lookJ (places G_sync_atomic_Bool_Store.ann G_sync_atomic_Bool_Store.body) k = some (p, true)) {e : Env} {h : AHeap} (hk : atJ prog C 10 (G_sync_atomic_Bool_Store.J Q) true p G_sync_atomic_Bool_Store.ann G_sync_atomic_Bool_Store.body e h (kFun prog Tryz.f98 Q)) : G_sync_atomic_Bool_Store.J Q k e h := goJ_head (P := prog) (fn := Tryz.f98) (ann := G_sync_atomic_Bool_Store.ann) (body := G_sync_atomic_Bool_Store.body) (Q := Q) (k := k) (p := p) (e := e) (h := h) (acall_le X) G_sync_atomic_Bool_Store.dist hl hk
def G_sync_atomic_Bool_Store.t (J : JT) (Q : AV → AHeap → Prop) (x0 : AV) (x1 : Bool) (h : AHeap) : Prop :=
pNil x0 fun v0 =>
pFieldAddr 0 v0 fun v1 =>
C G_sync_atomic_b32.id [(AV.b x1)] h fun v2 h3 =>
asI .u32 v2 fun n4 =>
C G_sync_atomic_StoreUint32.id [v1, (AV.i .u32 n4)] h3 fun v5 h6 =>
Q (AV.tu []) h6
theorem G_sync_atomic_Bool_Store.t_eq (J : JT) (Q : AV → AHeap → Prop) (x0 : AV) (x1 : Bool) (h : AHeap) : G_sync_atomic_Bool_Store.t J Q x0 x1 h = exJ prog C 10 J G_sync_atomic_Bool_Store.ann G_sync_atomic_Bool_Store.body (initEnv 0 [x0, (AV.b x1)]) h (kFun prog Tryz.f98 Q) := by kernel_rfl
theorem G_sync_atomic_Bool_Store.call {K : AV → AHeap → Prop} {x0 : AV} {x1 : Bool} {h : AHeap} (H : G_sync_atomic_Bool_Store.t (G_sync_atomic_Bool_Store.J (kRet h K)) (kRet h K) x0 x1 h) : C G_sync_atomic_Bool_Store.id [x0, (AV.b x1)] h K :=
  callJ (P := prog) (fn := Tryz.f98) (ann := G_sync_atomic_Bool_Store.ann) (body := G_sync_atomic_Bool_Store.body) Tryz.func98 G_sync_atomic_Bool_Store.body_eq (by kernel_rfl) G_sync_atomic_Bool_Store.dist (by kernel_rfl) ((G_sync_atomic_Bool_Store.t_eq (G_sync_atomic_Bool_Store.J (kRet h K)) (kRet h K) x0 x1 h).mp H)
theorem G_sync_atomic_Bool_Store.callF {K : AV → AHeap → Prop} {x0 : AV} {x1 : Bool} {h : AHeap} (H : G_sync_atomic_Bool_Store.t (G_sync_atomic_Bool_Store.J (kRet h K)) (kRet h K) x0 x1 h) : aF prog C G_sync_atomic_Bool_Store.id [x0, (AV.b x1)] h K :=
  aF_J (P := prog) (fn := Tryz.f98) (ann := G_sync_atomic_Bool_Store.ann) (body := G_sync_atomic_Bool_Store.body) Tryz.func98 G_sync_atomic_Bool_Store.body_eq (by kernel_rfl) G_sync_atomic_Bool_Store.dist (by kernel_rfl) ((G_sync_atomic_Bool_Store.t_eq (G_sync_atomic_Bool_Store.J (kRet h K)) (kRet h K) x0 x1 h).mp H)

--@@ G_i_sync_Mutex_Lock
/-! ### 107: (*internal/sync.Mutex).Lock -/
noncomputable def G_i_sync_Mutex_Lock.body : Code := (Tryz.f107.body).getD .skip
def G_i_sync_Mutex_Lock.ann : Ann := (.seq 0 [0] .leaf (.seq 0 [0] (.seq 0 [0, 6] .leaf (.br (.seq 0 [] (.br (.seq 0 [0] .leaf .leaf) .leaf) .leaf) .leaf)) .leaf))
theorem G_i_sync_Mutex_Lock.body_eq : Tryz.f107.body = some G_i_sync_Mutex_Lock.body := by kernel_rfl
theorem G_i_sync_Mutex_Lock.dist : noTwice (places G_i_sync_Mutex_Lock.ann G_i_sync_Mutex_Lock.body) = true := by kernel_rfl
noncomputable def G_i_sync_Mutex_Lock.J (Q : AV → AHeap → Prop) : JT := funJ prog C Tryz.f107 G_i_sync_Mutex_Lock.ann G_i_sync_Mutex_Lock.body Q
theorem G_i_sync_Mutex_Lock.goR {Q : AV → AHeap → Prop} {k : Nat} {p : List Nat} (hl : lookJ (places G_i_sync_Mutex_Lock.ann G_i_sync_Mutex_Lock.body) k = some (p, false)) {e : Env} {h : AHeap} (hk : atJ prog C 13 (G_i_sync_Mutex_Lock.J Q) false p G_i_sync_Mutex_Lock.ann G_i_sync_Mutex_Lock.body e h (kFun prog Tryz.f107 Q)) : G_i_sync_Mutex_Lock.J Q k e h := goJ_run (P := prog) (fn := Tryz.f107) (ann := G_i_sync_Mutex_Lock.ann) (body := G_i_sync_Mutex_Lock.body) (Q := Q) (k := k) (p := p) (e := e) (h := h) (acall_le X) G_i_sync_Mutex_Lock.dist hl hk
theorem G_i_sync_Mutex_Lock.goH {Q : AV → AHeap → Prop} {k : Nat} {p : List Nat} (hl : lookJ (places G_i_sync_Mutex_Lock.ann G_i_sync_Mutex_Lock.body) k = some (p, true)) {e : Env} {h : AHeap} (hk : atJ prog C 13 (G_i_sync_Mutex_Lock.J Q) true p G_i_sync_Mutex_Lock.ann G_i_sync_Mutex_Lock.body e h (kFun prog Tryz.f107 Q)) : G_i_sync_Mutex_Lock.J Q k e h := goJ_head (P := prog) (fn := Tryz.f107) (ann := G_i_sync_Mutex_Lock.ann) (body := G_i_sync_Mutex_Lock.body) (Q := Q) (k := k) (p := p) (e := e) (h := h) (acall_le X) G_i_sync_Mutex_Lock.dist hl hk
def G_i_sync_Mutex_Lock.t (J : JT) (Q : AV → AHeap → Prop) (x0 : AV) (h : AHeap) : Prop :=
C G_i_race_Disable.id [] h fun v0 h1 =>
pNil x0 fun v3 =>
pFieldAddr 0 v3 fun v4 =>
C G_sync_atomic_CompareAndSwapInt32.id [v4, (AV.i .i32 0), (AV.i .i32 1)] h1 fun v5 h6 =>
asB v5 fun c7 =>
(bif c7 then
(C G_i_race_Enable.id [] h6 fun v9 h10 =>
pUnsafe x0 h10 fun v12 =>
C G_i_race_Acquire.id [v12] h10 fun v13 h14 =>
Q (AV.tu []) h14)
else
(C G_i_sync_Mutex_lockSlow.id [x0] h6 fun v17 h18 =>
Q (AV.tu []) h18))
theorem G_i_sync_Mutex_Lock.t_eq (J : JT) (Q : AV → AHeap → Prop) (x0 : AV) (h : AHeap) : G_i_sync_Mutex_Lock.t J Q x0 h = exJ prog C 13 J G_i_sync_Mutex_Lock.ann G_i_sync_Mutex_Lock.body (initEnv 0 [x0]) h (kFun prog Tryz.f107 Q) := by kernel_rfl
theorem G_i_sync_Mutex_Lock.call {K : AV → AHeap → Prop} {x0 : AV} {h : AHeap} (H : G_i_sync_Mutex_Lock.t (G_i_sync_Mutex_Lock.J (kRet h K)) (kRet h K) x0 h) : C G_i_sync_Mutex_Lock.id [x0] h K :=
  callJ (P := prog) (fn := Tryz.f107) (ann := G_i_sync_Mutex_Lock.ann) (body := G_i_sync_Mutex_Lock.body) Tryz.func107 G_i_sync_Mutex_Lock.body_eq (by kernel_rfl) G_i_sync_Mutex_Lock.dist (by kernel_rfl) ((G_i_sync_Mutex_Lock.t_eq (G_i_sync_Mutex_Lock.J (kRet h K)) (kRet h K) x0 h).mp H)

--@@ G_i_sync_Mutex_Unlock
/-! ### 108: (*internal/sync.Mutex).Unlock -/
noncomputable def G_i_sync_Mutex_Unlock.body : Code := (Tryz.f108.body).getD .skip
def G_i_sync_Mutex_Unlock.ann : Ann := (.seq 0 [0] (.br (.seq 0 [0] .leaf (.seq 0 [0] .leaf .leaf)) .leaf) (.seq 0 [0, 2] .leaf (.seq 1 [] (.seq 0 [0, 2, 16] .leaf (.br .leaf .leaf)) .leaf)))
theorem G_i_sync_Mutex_Unlock.body_eq : Tryz.f108.body = some G_i_sync_Mutex_Unlock.body := by kernel_rfl
theorem G_i_sync_Mutex_Unlock.dist : noTwice (places G_i_sync_Mutex_Unlock.ann G_i_sync_Mutex_Unlock.body) = true := by kernel_rfl
noncomputable def G_i_sync_Mutex_Unlock.J (Q : AV → AHeap → Prop) : JT := funJ prog C Tryz.f108 G_i_sync_Mutex_Unlock.ann G_i_sync_Mutex_Unlock.body Q
theorem G_i_sync_Mutex_Unlock.goR {Q : AV → AHeap → Prop} {k : Nat} {p : List Nat} (hl : lookJ (places G_i_sync_Mutex_Unlock.ann G_i_sync_Mutex_Unlock.body) k = some (p, false)) {e : Env} {h : AHeap} (hk : atJ prog C 21 (G_i_sync_Mutex_Unlock.J Q) false p G_i_sync_Mutex_Unlock.ann G_i_sync_Mutex_Unlock.body e h (kFun prog Tryz.f108 Q)) : G_i_sync_Mutex_Unlock.J Q k e h := goJ_run (P := prog) (fn := Tryz.f108) (ann := G_i_sync_Mutex_Unlock.ann) (body := G_i_sync_Mutex_Unlock.body) (Q := Q) (k := k) (p := p) (e := e) (h := h) (acall_le X) G_i_sync_Mutex_Unlock.dist hl hk
theorem G_i_sync_Mutex_Unlock.goH {Q : AV → AHeap → Prop} {k : Nat} {p : List Nat} (hl : lookJ (places G_i_sync_Mutex_Unlock.ann G_i_sync_Mutex_Unlock.body) k = some (p, true)) {e : Env} {h : AHeap} (hk : atJ prog C 21 (G_i_sync_Mutex_Unlock.J Q) true p G_i_sync_Mutex_Unlock.ann G_i_sync_Mutex_Unlock.body e h (kFun prog Tryz.f108 Q)) : G_i_sync_Mutex_Unlock.J Q k e h := goJ_head (P := prog) (fn := Tryz.f108) (ann := G_i_sync_Mutex_Unlock.ann) (body := G_i_sync_Mutex_Unlock.body) (Q := Q) (k := k) (p := p) (e := e) (h := h) (acall_le X) G_i_sync_Mutex_Unlock.dist hl hk
def G_i_sync_Mutex_Unlock.p0 (Q : AV → AHeap → Prop) (h : AHeap) : Prop := G_i_sync_Mutex_Unlock.J Q 1 [] h
theorem G_i_sync_Mutex_Unlock.j0 (Q : AV → AHeap → Prop) (h : AHeap) : G_i_sync_Mutex_Unlock.J Q 1 [] h = G_i_sync_Mutex_Unlock.p0 Q h := rfl
def G_i_sync_Mutex_Unlock.t0 (J : JT) (Q : AV → AHeap → Prop) (h : AHeap) : Prop :=
C G_i_race_Enable.id [] h fun v23 h24 =>
Q (AV.tu []) h24
theorem G_i_sync_Mutex_Unlock.t0_eq (J : JT) (Q : AV → AHeap → Prop) (h : AHeap) : G_i_sync_Mutex_Unlock.t0 J Q h = atJ prog C 21 J false [1, 1, 1] G_i_sync_Mutex_Unlock.ann G_i_sync_Mutex_Unlock.body [] h (kFun prog Tryz.f108 Q) := by kernel_rfl
theorem G_i_sync_Mutex_Unlock.i0 {Q : AV → AHeap → Prop} {h : AHeap} (H : G_i_sync_Mutex_Unlock.t0 (G_i_sync_Mutex_Unlock.J Q) Q h) : G_i_sync_Mutex_Unlock.p0 Q h := G_i_sync_Mutex_Unlock.goR (k := 1) (p := [1, 1, 1]) (by kernel_rfl) ((G_i_sync_Mutex_Unlock.t0_eq (G_i_sync_Mutex_Unlock.J Q) Q h).mp H)
def G_i_sync_Mutex_Unlock.t (J : JT) (Q : AV → AHeap → Prop) (x0 : AV) (h : AHeap) : Prop :=
pNil x0 fun v0 =>
pFieldAddr 0 v0 fun v1 =>
pLoad1 v1 h fun v2 =>
asI .i32 v2 fun n3 =>
pUnsafe x0 h fun v5 =>
C G_i_race_ReleaseMerge.id [v5] h fun v6 h7 =>
C G_i_race_Disable.id [] h7 fun v9 h10 =>
pNil x0 fun v12 =>
pFieldAddr 0 v12 fun v13 =>
C G_sync_atomic_AddInt32.id [v13, (AV.i .i32 (-1))] h10 fun v14 h15 =>
asI .i32 v14 fun n16 =>
(bif (!decide ((n16 : Int) = 0)) then
(C G_i_sync_Mutex_unlockSlow.id [x0, (AV.i .i32 n16)] h15 fun v19 h20 =>
J 1 [] h20)
else
(J 1 [] h15))
theorem G_i_sync_Mutex_Unlock.t_eq (J : JT) (Q : AV → AHeap → Prop) (x0 : AV) (h : AHeap) : G_i_sync_Mutex_Unlock.t J Q x0 h = exJ prog C 21 J G_i_sync_Mutex_Unlock.ann G_i_sync_Mutex_Unlock.body (initEnv 0 [x0]) h (kFun prog Tryz.f108 Q) := by kernel_rfl
theorem G_i_sync_Mutex_Unlock.call {K : AV → AHeap → Prop} {x0 : AV} {h : AHeap} (H : G_i_sync_Mutex_Unlock.t (G_i_sync_Mutex_Unlock.J (kRet h K)) (kRet h K) x0 h) : C G_i_sync_Mutex_Unlock.id [x0] h K :=
  callJ (P := prog) (fn := Tryz.f108) (ann := G_i_sync_Mutex_Unlock.ann) (body := G_i_sync_Mutex_Unlock.body) Tryz.func108 G_i_sync_Mutex_Unlock.body_eq (by kernel_rfl) G_i_sync_Mutex_Unlock.dist (by kernel_rfl) ((G_i_sync_Mutex_Unlock.t_eq (G_i_sync_Mutex_Unlock.J (kRet h K)) (kRet h K) x0 h).mp H)

--@@ G_sync_atomic_b32
/-! ### 110: sync/atomic.b32 -/
noncomputable def G_sync_atomic_b32.body : Code := (Tryz.f110.body).getD .skip
def G_sync_atomic_b32.ann : Ann := (.seq 0 [0] .leaf (.seq 0 [] (.seq 0 [3] .leaf (.br (.seq 0 [2] .leaf .leaf) .leaf)) (.seq 0 [2] .leaf .leaf)))
theorem G_sync_atomic_b32.body_eq : Tryz.f110.body = some G_sync_atomic_b32.body := by kernel_rfl
theorem G_sync_atomic_b32.dist : noTwice (places G_sync_atomic_b32.ann G_sync_atomic_b32.body) = true := by kernel_rfl
noncomputable def G_sync_atomic_b32.J (Q : AV → AHeap → Prop) : JT := funJ prog C Tryz.f110 G_sync_atomic_b32.ann G_sync_atomic_b32.body Q
theorem G_sync_atomic_b32.goR {Q : AV → AHeap → Prop} {k : Nat} {p : List Nat} (hl : lookJ (places G_sync_atomic_b32.ann G_sync_atomic_b32.body) k = some (p, false)) {e : Env} {h : AHeap} (hk : atJ prog C 4 (G_sync_atomic_b32.J Q) false p G_sync_atomic_b32.ann G_sync_atomic_b32.body e h (kFun prog Tryz.f110 Q)) : G_sync_atomic_b32.J Q k e h := goJ_run (P := prog) (fn := Tryz.f110) (ann := G_sync_atomic_b32.ann) (body := G_sync_atomic_b32.body) (Q := Q) (k := k) (p := p) (e := e) (h := h) (acall_le X) G_sync_atomic_b32.dist hl hk
theorem G_sync_atomic_b32.goH {Q : AV → AHeap → Prop} {k : Nat} {p : List Nat} (hl : lookJ (places G_sync_atomic_b32.ann G_sync_atomic_b32.body) k = some (p, true)) {e : Env} {h : AHeap} (hk : atJ prog C 4 (G_sync_atomic_b32.J Q) true p G_sync_atomic_b32.ann G_sync_atomic_b32.body e h (kFun prog Tryz.f110 Q)) : G_sync_atomic_b32.J Q k e h := goJ_head (P := prog) (fn := Tryz.f110) (ann := G_sync_atomic_b32.ann) (body := G_sync_atomic_b32.body) (Q := Q) (k := k) (p := p) (e := e) (h := h) (acall_le X) G_sync_atomic_b32.dist hl hk
def G_sync_atomic_b32.t (J : JT) (Q : AV → AHeap → Prop) (x0 : Bool) (h : AHeap) : Prop :=
(bif x0 then
(Q (AV.i .u32 1) h)
else
(Q (AV.i .u32 0) h))
theorem G_sync_atomic_b32.t_eq (J : JT) (Q : AV → AHeap → Prop) (x0 : Bool) (h : AHeap) : G_sync_atomic_b32.t J Q x0 h = exJ prog C 4 J G_sync_atomic_b32.ann G_sync_atomic_b32.body (initEnv 0 [(AV.b x0)]) h (kFun prog Tryz.f110 Q) := by kernel_rfl
theorem G_sync_atomic_b32.call {K : AV → AHeap → Prop} {x0 : Bool} {h : AHeap} (H : G_sync_atomic_b32.t (G_sync_atomic_b32.J (kRet h K)) (kRet h K) x0 h) : C G_sync_atomic_b32.id [(AV.b x0)] h K :=
  callJ (P := prog) (fn := Tryz.f110) (ann := G_sync_atomic_b32.ann) (body := G_sync_atomic_b32.body) Tryz.func110 G_sync_atomic_b32.body_eq (by kernel_rfl) G_sync_atomic_b32.dist (by kernel_rfl) ((G_sync_atomic_b32.t_eq (G_sync_atomic_b32.J (kRet h K)) (kRet h K) x0 h).mp H)

--@@ G_strings_byteStringReplacer_Replace
/-! ### 163: (*strings.byteStringReplacer).Replace -/
noncomputable def G_strings_byteStringReplacer_Replace.body : Code := (Tryz.f163.body).getD .skip
def G_strings_byteStringReplacer_Replace.ann : Ann := (.seq 0 [0, 1] .leaf (.seq 0 [0, 1, 5] .leaf (.seq 0 [0, 1, 5, 6] .leaf (.seq 5 [0, 1, 5, 6] (.seq 0 [0, 1, 5, 6, 26] .leaf (.br (.seq 0 [0, 1, 5, 6, 30, 31, 32] .leaf (.one (.loop 1 [0, 1, 5, 6, 30, 31, 32] (.seq 0 [0, 1, 5, 6, 30, 31, 32, 33] .leaf (.seq 0 [0, 1, 5, 6, 30, 31, 32] (.br .leaf .leaf) (.seq 2 [0, 1, 5, 6, 30, 31, 32] (.one (.seq 0 [0, 1, 5, 6, 8, 30, 31, 32] .leaf (.seq 0 [0, 1, 5, 6, 8, 9, 30, 31, 32] .leaf (.seq 0 [0, 1, 5, 6, 8, 9, 30, 31, 32, 40] .leaf (.br (.seq 0 [0, 1, 5, 30, 31, 32] (.ord (.neu 0 (.neu 1 (.neu 2 (.neu 3 (.neu 4 (.neu 5 (.neu 6 (.neu 7 (.neu 8 (.neu 9 (.neu 10 (.neu 11 (.neu 12 (.eff 13 .done .stop))))))))))))))) .leaf) .leaf))))) .leaf)))))) (.seq 0 [0, 1, 5, 6, 10] .leaf (.one (.loop 3 [0, 1, 5, 6, 10] (.seq 0 [0, 1, 5, 6, 10] (.seq 0 [0, 1, 5, 6, 10, 58] .leaf (.br .leaf .leaf)) (.seq 4 [0, 1, 5, 6, 10] (.one (.seq 0 [0, 1, 5, 6, 10, 11] .leaf (.seq 0 [0, 1, 5, 6, 10, 11, 70] .leaf (.br (.seq 0 [0, 1, 5, 10] .leaf .leaf) .leaf)))) .leaf))))))) (.seq 0 [0, 1, 5] (.seq 0 [0, 1, 5, 82] .leaf (.br (.seq 0 [4] .leaf .leaf) .leaf)) (.seq 0 [0, 1, 12] .leaf (.seq 0 [0, 1, 12, 13] .leaf (.seq 0 [12] (.seq 0 [0, 1, 12, 13, 14] .leaf (.one (.loop 6 [0, 1, 12, 13, 14] (.seq 0 [0, 1, 12, 13, 14] (.seq 0 [0, 1, 12, 13, 14, 89] .leaf (.br .leaf .leaf)) (.seq 7 [0, 1, 12, 13, 14] (.one (.seq 0 [0, 1, 12, 13, 14, 15] .leaf (.seq 0 [0, 1, 12, 13, 14, 15, 101] .leaf (.br (.ord (.neu 0 (.neu 1 (.neu 2 (.neu 3 (.neu 4 (.neu 5 (.neu 6 (.neu 7 (.neu 8 (.neu 9 (.eff 10 (.neu 11 (.eff 12 .done .stop)) .stop)))))))))))) (.seq 0 [0, 1, 12, 13, 14] .leaf .leaf))))) .leaf))))) (.seq 0 [4] .leaf .leaf)))))))))
theorem G_strings_byteStringReplacer_Replace.body_eq : Tryz.f163.body = some G_strings_byteStringReplacer_Replace.body := by kernel_rfl
theorem G_strings_byteStringReplacer_Replace.dist : noTwice (places G_strings_byteStringReplacer_Replace.ann G_strings_byteStringReplacer_Replace.body) = true := by kernel_rfl
noncomputable def G_strings_byteStringReplacer_Replace.J (Q : AV → AHeap → Prop) : JT := funJ prog C Tryz.f163 G_strings_byteStringReplacer_Replace.ann G_strings_byteStringReplacer_Replace.body Q
theorem G_strings_byteStringReplacer_Replace.goR {Q : AV → AHeap → Prop} {k : Nat} {p : List Nat} (hl : lookJ (places G_strings_byteStringReplacer_Replace.ann G_strings_byteStringReplacer_Replace.body) k = some (p, false)) {e : Env} {h : AHeap} (hk : atJ prog C 122 (G_strings_byteStringReplacer_Replace.J Q) false p G_strings_byteStringReplacer_Replace.ann G_strings_byteStringReplacer_Replace.body e h (kFun prog Tryz.f163 Q)) : G_strings_byteStringReplacer_Replace.J Q k e h := goJ_run (P := prog) (fn := Tryz.f163) (ann := G_strings_byteStringReplacer_Replace.ann) (body := G_strings_byteStringReplacer_Replace.body) (Q := Q) (k := k) (p := p) (e := e) (h := h) (acall_le X) G_strings_byteStringReplacer_Replace.dist hl hk
theorem G_strings_byteStringReplacer_Replace.goH {Q : AV → AHeap → Prop} {k : Nat} {p : List Nat} (hl : lookJ (places G_strings_byteStringReplacer_Replace.ann G_strings_byteStringReplacer_Replace.body) k = some (p, true)) {e : Env} {h : AHeap} (hk : atJ prog C 122 (G_strings_byteStringReplacer_Replace.J Q) true p G_strings_byteStringReplacer_Replace.ann G_strings_byteStringReplacer_Replace.body e h (kFun prog Tryz.f163 Q)) : G_strings_byteStringReplacer_Replace.J Q k e h := goJ_head (P := prog) (fn := Tryz.f163) (ann := G_strings_byteStringReplacer_Replace.ann) (body := G_strings_byteStringReplacer_Replace.body) (Q := Q) (k := k) (p := p) (e := e) (h := h) (acall_le X) G_strings_byteStringReplacer_Replace.dist hl hk
def G_strings_byteStringReplacer_Replace.p1 (Q : AV → AHeap → Prop) (x0 : AV) (x1 : List UInt8) (x5 : Int) (x6 : Bool) (x30 : AV) (x31 : Int) (x32 : Int) (h : AHeap) : Prop := G_strings_byteStringReplacer_Replace.J Q 2 [(0, x0), (1, (AV.s x1)), (5, (AV.i .i64 x5)), (6, (AV.b x6)), (30, x30), (31, (AV.i .i64 x31)), (32, (AV.i .i64 x32))] h
theorem G_strings_byteStringReplacer_Replace.j1 (Q : AV → AHeap → Prop) (x0 : AV) (x1 : List UInt8) (x5 : Int) (x6 : Bool) (x30 : AV) (x31 : Int) (x32 : Int) (h : AHeap) : G_strings_byteStringReplacer_Replace.J Q 2 [(0, x0), (1, (AV.s x1)), (5, (AV.i .i64 x5)), (6, (AV.b x6)), (30, x30), (31, (AV.i .i64 x31)), (32, (AV.i .i64 x32))] h = G_strings_byteStringReplacer_Replace.p1 Q x0 x1 x5 x6 x30 x31 x32 h := rfl
def G_strings_byteStringReplacer_Replace.p0 (Q : AV → AHeap → Prop) (x0 : AV) (x1 : List UInt8) (x5 : Int) (x6 : Bool) (x30 : AV) (x31 : Int) (x32 : Int) (h : AHeap) : Prop := G_strings_byteStringReplacer_Replace.J Q 1 [(0, x0), (1, (AV.s x1)), (5, (AV.i .i64 x5)), (6, (AV.b x6)), (30, x30), (31, (AV.i .i64 x31)), (32, (AV.i .i64 x32))] h
theorem G_strings_byteStringReplacer_Replace.j0 (Q : AV → AHeap → Prop) (x0 : AV) (x1 : List UInt8) (x5 : Int) (x6 : Bool) (x30 : AV) (x31 : Int) (x32 : Int) (h : AHeap) : G_strings_byteStringReplacer_Replace.J Q 1 [(0, x0), (1, (AV.s x1)), (5, (AV.i .i64 x5)), (6, (AV.b x6)), (30, x30), (31, (AV.i .i64 x31)), (32, (AV.i .i64 x32))] h = G_strings_byteStringReplacer_Replace.p0 Q x0 x1 x5 x6 x30 x31 x32 h := rfl
def G_strings_byteStringReplacer_Replace.p3 (Q : AV → AHeap → Prop) (x0 : AV) (x1 : List UInt8) (x5 : Int) (x6 : Bool) (x10 : Int) (h : AHeap) : Prop := G_strings_byteStringReplacer_Replace.J Q 4 [(0, x0), (1, (AV.s x1)), (5, (AV.i .i64 x5)), (6, (AV.b x6)), (10, (AV.i .i64 x10))] h
theorem G_strings_byteStringReplacer_Replace.j3 (Q : AV → AHeap → Prop) (x0 : AV) (x1 : List UInt8) (x5 : Int) (x6 : Bool) (x10 : Int) (h : AHeap) : G_strings_byteStringReplacer_Replace.J Q 4 [(0, x0), (1, (AV.s x1)), (5, (AV.i .i64 x5)), (6, (AV.b x6)), (10, (AV.i .i64 x10))] h = G_strings_byteStringReplacer_Replace.p3 Q x0 x1 x5 x6 x10 h := rfl
def G_strings_byteStringReplacer_Replace.p2 (Q : AV → AHeap → Prop) (x0 : AV) (x1 : List UInt8) (x5 : Int) (x6 : Bool) (x10 : Int) (h : AHeap) : Prop := G_strings_byteStringReplacer_Replace.J Q 3 [(0, x0), (1, (AV.s x1)), (5, (AV.i .i64 x5)), (6, (AV.b x6)), (10, (AV.i .i64 x10))] h
theorem G_strings_byteStringReplacer_Replace.j2 (Q : AV → AHeap → Prop) (x0 : AV) (x1 : List UInt8) (x5 : Int) (x6 : Bool) (x10 : Int) (h : AHeap) : G_strings_byteStringReplacer_Replace.J Q 3 [(0, x0), (1, (AV.s x1)), (5, (AV.i .i64 x5)), (6, (AV.b x6)), (10, (AV.i .i64 x10))] h = G_strings_byteStringReplacer_Replace.p2 Q x0 x1 x5 x6 x10 h := rfl
def G_strings_byteStringReplacer_Replace.p6 (Q : AV → AHeap → Prop) (x0 : AV) (x1 : List UInt8) (x12 : AV) (x13 : Int) (x14 : Int) (h : AHeap) : Prop := G_strings_byteStringReplacer_Replace.J Q 7 [(0, x0), (1, (AV.s x1)), (12, x12), (13, (AV.i .i64 x13)), (14, (AV.i .i64 x14))] h
theorem G_strings_byteStringReplacer_Replace.j6 (Q : AV → AHeap → Prop) (x0 : AV) (x1 : List UInt8) (x12 : AV) (x13 : Int) (x14 : Int) (h : AHeap) : G_strings_byteStringReplacer_Replace.J Q 7 [(0, x0), (1, (AV.s x1)), (12, x12), (13, (AV.i .i64 x13)), (14, (AV.i .i64 x14))] h = G_strings_byteStringReplacer_Replace.p6 Q x0 x1 x12 x13 x14 h := rfl
def G_strings_byteStringReplacer_Replace.p5 (Q : AV → AHeap → Prop) (x0 : AV) (x1 : List UInt8) (x12 : AV) (x13 : Int) (x14 : Int) (h : AHeap) : Prop := G_strings_byteStringReplacer_Replace.J Q 6 [(0, x0), (1, (AV.s x1)), (12, x12), (13, (AV.i .i64 x13)), (14, (AV.i .i64 x14))] h
theorem G_strings_byteStringReplacer_Replace.j5 (Q : AV → AHeap → Prop) (x0 : AV) (x1 : List UInt8) (x12 : AV) (x13 : Int) (x14 : Int) (h : AHeap) : G_strings_byteStringReplacer_Replace.J Q 6 [(0, x0), (1, (AV.s x1)), (12, x12), (13, (AV.i .i64 x13)), (14, (AV.i .i64 x14))] h = G_strings_byteStringReplacer_Replace.p5 Q x0 x1 x12 x13 x14 h := rfl
def G_strings_byteStringReplacer_Replace.p4 (Q : AV → AHeap → Prop) (x0 : AV) (x1 : List UInt8) (x5 : Int) (x6 : Bool) (h : AHeap) : Prop := G_strings_byteStringReplacer_Replace.J Q 5 [(0, x0), (1, (AV.s x1)), (5, (AV.i .i64 x5)), (6, (AV.b x6))] h
theorem G_strings_byteStringReplacer_Replace.j4 (Q : AV → AHeap → Prop) (x0 : AV) (x1 : List UInt8) (x5 : Int) (x6 : Bool) (h : AHeap) : G_strings_byteStringReplacer_Replace.J Q 5 [(0, x0), (1, (AV.s x1)), (5, (AV.i .i64 x5)), (6, (AV.b x6))] h = G_strings_byteStringReplacer_Replace.p4 Q x0 x1 x5 x6 h := rfl
def G_strings_byteStringReplacer_Replace.t1 (J : JT) (Q : AV → AHeap → Prop) (x0 : AV) (x1 : List UInt8) (x5 : Int) (x6 : Bool) (x30 : AV) (x31 : Int) (x32 : Int) (h : AHeap) : Prop :=
withI (IntKind.wrap .i64 (x32 + 1)) fun n38 =>
J 1 [(0, x0), (1, (AV.s x1)), (5, (AV.i .i64 x5)), (6, (AV.b x6)), (30, x30), (31, (AV.i .i64 x31)), (32, (AV.i .i64 n38))] h
theorem G_strings_byteStringReplacer_Replace.t1_eq (J : JT) (Q : AV → AHeap → Prop) (x0 : AV) (x1 : List UInt8) (x5 : Int) (x6 : Bool) (x30 : AV) (x31 : Int) (x32 : Int) (h : AHeap) : G_strings_byteStringReplacer_Replace.t1 J Q x0 x1 x5 x6 x30 x31 x32 h = atJ prog C 122 J false [1, 1, 1, 0, 1, 0, 1, 0, 0, 1, 1, 1] G_strings_byteStringReplacer_Replace.ann G_strings_byteStringReplacer_Replace.body [(0, x0), (1, (AV.s x1)), (5, (AV.i .i64 x5)), (6, (AV.b x6)), (30, x30), (31, (AV.i .i64 x31)), (32, (AV.i .i64 x32))] h (kFun prog Tryz.f163 Q) := by kernel_rfl
theorem G_strings_byteStringReplacer_Replace.i1 {Q : AV → AHeap → Prop} {x0 : AV} {x1 : List UInt8} {x5 : Int} {x6 : Bool} {x30 : AV} {x31 : Int} {x32 : Int} {h : AHeap} (H : G_strings_byteStringReplacer_Replace.t1 (G_strings_byteStringReplacer_Replace.J Q) Q x0 x1 x5 x6 x30 x31 x32 h) : G_strings_byteStringReplacer_Replace.p1 Q x0 x1 x5 x6 x30 x31 x32 h := G_strings_byteStringReplacer_Replace.goR (k := 2) (p := [1, 1, 1, 0, 1, 0, 1, 0, 0, 1, 1, 1]) (by kernel_rfl) ((G_strings_byteStringReplacer_Replace.t1_eq (G_strings_byteStringReplacer_Replace.J Q) Q x0 x1 x5 x6 x30 x31 x32 h).mp H)
def G_strings_byteStringReplacer_Replace.t0 (J : JT) (Q : AV → AHeap → Prop) (x0 : AV) (x1 : List UInt8) (x5 : Int) (x6 : Bool) (x30 : AV) (x31 : Int) (x32 : Int) (h : AHeap) : Prop :=
(bif (decide ((x32 : Int) < x31)) then
(pIdxAddrSl 1 x30 (AV.i .i64 x32) h fun v17 =>
pLoad1 v17 h fun v18 =>
asS v18 fun l19 =>
C G_strings_Count.id [(AV.s x1), (AV.s l19)] h fun v21 h22 =>
asI .i64 v21 fun n23 =>
(bif (!decide ((n23 : Int) = 0)) then
(pIdxStr (AV.s l19) (AV.i .i64 0) fun n26 =>
pNil x0 fun v27 =>
pFieldAddr 0 v27 fun v28 =>
pIdxAddrArr 256 1 v28 (AV.i .u8 n26) fun v29 =>
pLoad1 v29 h22 fun v30 =>
pLenSl v30 fun n31 =>
withI (IntKind.wrap .i64 (n31 - 1)) fun n32 =>
withI (IntKind.wrap .i64 (n23 * n32)) fun n33 =>
withI (IntKind.wrap .i64 (x5 + n33)) fun n34 =>
J 2 [(0, x0), (1, (AV.s x1)), (5, (AV.i .i64 n34)), (6, (AV.b true)), (30, x30), (31, (AV.i .i64 x31)), (32, (AV.i .i64 x32))] h22)
else
(J 2 [(0, x0), (1, (AV.s x1)), (5, (AV.i .i64 x5)), (6, (AV.b x6)), (30, x30), (31, (AV.i .i64 x31)), (32, (AV.i .i64 x32))] h22)))
else
(J 5 [(0, x0), (1, (AV.s x1)), (5, (AV.i .i64 x5)), (6, (AV.b x6))] h))
theorem G_strings_byteStringReplacer_Replace.t0_eq (J : JT) (Q : AV → AHeap → Prop) (x0 : AV) (x1 : List UInt8) (x5 : Int) (x6 : Bool) (x30 : AV) (x31 : Int) (x32 : Int) (h : AHeap) : G_strings_byteStringReplacer_Replace.t0 J Q x0 x1 x5 x6 x30 x31 x32 h = atJ prog C 122 J true [1, 1, 1, 0, 1, 0, 1, 0] G_strings_byteStringReplacer_Replace.ann G_strings_byteStringReplacer_Replace.body [(0, x0), (1, (AV.s x1)), (5, (AV.i .i64 x5)), (6, (AV.b x6)), (30, x30), (31, (AV.i .i64 x31)), (32, (AV.i .i64 x32))] h (kFun prog Tryz.f163 Q) := by kernel_rfl
theorem G_strings_byteStringReplacer_Replace.i0 {Q : AV → AHeap → Prop} {x0 : AV} {x1 : List UInt8} {x5 : Int} {x6 : Bool} {x30 : AV} {x31 : Int} {x32 : Int} {h : AHeap} (H : G_strings_byteStringReplacer_Replace.t0 (G_strings_byteStringReplacer_Replace.J Q) Q x0 x1 x5 x6 x30 x31 x32 h) : G_strings_byteStringReplacer_Replace.p0 Q x0 x1 x5 x6 x30 x31 x32 h := G_strings_byteStringReplacer_Replace.goH (k := 1) (p := [1, 1, 1, 0, 1, 0, 1, 0]) (by kernel_rfl) ((G_strings_byteStringReplacer_Replace.t0_eq (G_strings_byteStringReplacer_Replace.J Q) Q x0 x1 x5 x6 x30 x31 x32 h).mp H)
def G_strings_byteStringReplacer_Replace.t3 (J : JT) (Q : AV → AHeap → Prop) (x0 : AV) (x1 : List UInt8) (x5 : Int) (x6 : Bool) (x10 : Int) (h : AHeap) : Prop :=
withI (IntKind.wrap .i64 (x10 + 1)) fun n63 =>
J 3 [(0, x0), (1, (AV.s x1)), (5, (AV.i .i64 x5)), (6, (AV.b x6)), (10, (AV.i .i64 n63))] h
theorem G_strings_byteStringReplacer_Replace.t3_eq (J : JT) (Q : AV → AHeap → Prop) (x0 : AV) (x1 : List UInt8) (x5 : Int) (x6 : Bool) (x10 : Int) (h : AHeap) : G_strings_byteStringReplacer_Replace.t3 J Q x0 x1 x5 x6 x10 h = atJ prog C 122 J false [1, 1, 1, 0, 1, 1, 1, 0, 0, 1, 1] G_strings_byteStringReplacer_Replace.ann G_strings_byteStringReplacer_Replace.body [(0, x0), (1, (AV.s x1)), (5, (AV.i .i64 x5)), (6, (AV.b x6)), (10, (AV.i .i64 x10))] h (kFun prog Tryz.f163 Q) := by kernel_rfl
theorem G_strings_byteStringReplacer_Replace.i3 {Q : AV → AHeap → Prop} {x0 : AV} {x1 : List UInt8} {x5 : Int} {x6 : Bool} {x10 : Int} {h : AHeap} (H : G_strings_byteStringReplacer_Replace.t3 (G_strings_byteStringReplacer_Replace.J Q) Q x0 x1 x5 x6 x10 h) : G_strings_byteStringReplacer_Replace.p3 Q x0 x1 x5 x6 x10 h := G_strings_byteStringReplacer_Replace.goR (k := 4) (p := [1, 1, 1, 0, 1, 1, 1, 0, 0, 1, 1]) (by kernel_rfl) ((G_strings_byteStringReplacer_Replace.t3_eq (G_strings_byteStringReplacer_Replace.J Q) Q x0 x1 x5 x6 x10 h).mp H)
def G_strings_byteStringReplacer_Replace.t2 (J : JT) (Q : AV → AHeap → Prop) (x0 : AV) (x1 : List UInt8) (x5 : Int) (x6 : Bool) (x10 : Int) (h : AHeap) : Prop :=
(bif (decide ((x10 : Int) < (x1.length : Int))) then
(pIdxStr (AV.s x1) (AV.i .i64 x10) fun n44 =>
pNil x0 fun v46 =>
pFieldAddr 0 v46 fun v47 =>
pIdxAddrArr 256 1 v47 (AV.i .u8 n44) fun v48 =>
pLoad1 v48 h fun v49 =>
pBin prog .neq 57 v49 (AV.sl none 0 none) fun v50 =>
asB v50 fun c51 =>
(bif c51 then
(pNil x0 fun v53 =>
pFieldAddr 0 v53 fun v54 =>
pIdxAddrArr 256 1 v54 (AV.i .u8 n44) fun v55 =>
pLoad1 v55 h fun v56 =>
pLenSl v56 fun n57 =>
withI (IntKind.wrap .i64 (n57 - 1)) fun n58 =>
withI (IntKind.wrap .i64 (x5 + n58)) fun n59 =>
J 4 [(0, x0), (1, (AV.s x1)), (5, (AV.i .i64 n59)), (6, (AV.b true)), (10, (AV.i .i64 x10))] h)
else
(J 4 [(0, x0), (1, (AV.s x1)), (5, (AV.i .i64 x5)), (6, (AV.b x6)), (10, (AV.i .i64 x10))] h)))
else
(J 5 [(0, x0), (1, (AV.s x1)), (5, (AV.i .i64 x5)), (6, (AV.b x6))] h))
theorem G_strings_byteStringReplacer_Replace.t2_eq (J : JT) (Q : AV → AHeap → Prop) (x0 : AV) (x1 : List UInt8) (x5 : Int) (x6 : Bool) (x10 : Int) (h : AHeap) : G_strings_byteStringReplacer_Replace.t2 J Q x0 x1 x5 x6 x10 h = atJ prog C 122 J true [1, 1, 1, 0, 1, 1, 1, 0] G_strings_byteStringReplacer_Replace.ann G_strings_byteStringReplacer_Replace.body [(0, x0), (1, (AV.s x1)), (5, (AV.i .i64 x5)), (6, (AV.b x6)), (10, (AV.i .i64 x10))] h (kFun prog Tryz.f163 Q) := by kernel_rfl
theorem G_strings_byteStringReplacer_Replace.i2 {Q : AV → AHeap → Prop} {x0 : AV} {x1 : List UInt8} {x5 : Int} {x6 : Bool} {x10 : Int} {h : AHeap} (H : G_strings_byteStringReplacer_Replace.t2 (G_strings_byteStringReplacer_Replace.J Q) Q x0 x1 x5 x6 x10 h) : G_strings_byteStringReplacer_Replace.p2 Q x0 x1 x5 x6 x10 h := G_strings_byteStringReplacer_Replace.goH (k := 3) (p := [1, 1, 1, 0, 1, 1, 1, 0]) (by kernel_rfl) ((G_strings_byteStringReplacer_Replace.t2_eq (G_strings_byteStringReplacer_Replace.J Q) Q x0 x1 x5 x6 x10 h).mp H)
def G_strings_byteStringReplacer_Replace.t6 (J : JT) (Q : AV → AHeap → Prop) (x0 : AV) (x1 : List UInt8) (x12 : AV) (x13 : Int) (x14 : Int) (h : AHeap) : Prop :=
withI (IntKind.wrap .i64 (x14 + 1)) fun n100 =>
J 6 [(0, x0), (1, (AV.s x1)), (12, x12), (13, (AV.i .i64 x13)), (14, (AV.i .i64 n100))] h
theorem G_strings_byteStringReplacer_Replace.t6_eq (J : JT) (Q : AV → AHeap → Prop) (x0 : AV) (x1 : List UInt8) (x12 : AV) (x13 : Int) (x14 : Int) (h : AHeap) : G_strings_byteStringReplacer_Replace.t6 J Q x0 x1 x12 x13 x14 h = atJ prog C 122 J false [1, 1, 1, 1, 1, 1, 1, 0, 1, 0, 0, 1, 1] G_strings_byteStringReplacer_Replace.ann G_strings_byteStringReplacer_Replace.body [(0, x0), (1, (AV.s x1)), (12, x12), (13, (AV.i .i64 x13)), (14, (AV.i .i64 x14))] h (kFun prog Tryz.f163 Q) := by kernel_rfl
theorem G_strings_byteStringReplacer_Replace.i6 {Q : AV → AHeap → Prop} {x0 : AV} {x1 : List UInt8} {x12 : AV} {x13 : Int} {x14 : Int} {h : AHeap} (H : G_strings_byteStringReplacer_Replace.t6 (G_strings_byteStringReplacer_Replace.J Q) Q x0 x1 x12 x13 x14 h) : G_strings_byteStringReplacer_Replace.p6 Q x0 x1 x12 x13 x14 h := G_strings_byteStringReplacer_Replace.goR (k := 7) (p := [1, 1, 1, 1, 1, 1, 1, 0, 1, 0, 0, 1, 1]) (by kernel_rfl) ((G_strings_byteStringReplacer_Replace.t6_eq (G_strings_byteStringReplacer_Replace.J Q) Q x0 x1 x12 x13 x14 h).mp H)
def G_strings_byteStringReplacer_Replace.t5 (J : JT) (Q : AV → AHeap → Prop) (x0 : AV) (x1 : List UInt8) (x12 : AV) (x13 : Int) (x14 : Int) (h : AHeap) : Prop :=
(bif (decide ((x14 : Int) < (x1.length : Int))) then
(pIdxStr (AV.s x1) (AV.i .i64 x14) fun n76 =>
pNil x0 fun v78 =>
pFieldAddr 0 v78 fun v79 =>
pIdxAddrArr 256 1 v79 (AV.i .u8 n76) fun v80 =>
pLoad1 v80 h fun v81 =>
pBin prog .neq 57 v81 (AV.sl none 0 none) fun v82 =>
asB v82 fun c83 =>
(bif c83 then
(pSliceSl 1 x12 (some (AV.i .i64 x13)) none none h fun v85 =>
pNil x0 fun v86 =>
pFieldAddr 0 v86 fun v87 =>
pIdxAddrArr 256 1 v87 (AV.i .u8 n76) fun v88 =>
pLoad1 v88 h fun v89 =>
pCopy 1 v85 v89 h fun v90 h91 =>
asI .i64 v90 fun n92 =>
withI (IntKind.wrap .i64 (x13 + n92)) fun n93 =>
J 7 [(0, x0), (1, (AV.s x1)), (12, x12), (13, (AV.i .i64 n93)), (14, (AV.i .i64 x14))] h91)
else
(pIdxAddrSl 1 x12 (AV.i .i64 x13) h fun v95 =>
pStore 1 v95 (AV.i .u8 n76) h fun h96 =>
withI (IntKind.wrap .i64 (x13 + 1)) fun n98 =>
J 7 [(0, x0), (1, (AV.s x1)), (12, x12), (13, (AV.i .i64 n98)), (14, (AV.i .i64 x14))] h96)))
else
(pBytesStr x12 h fun l102 =>
Q (AV.s l102) h))
theorem G_strings_byteStringReplacer_Replace.t5_eq (J : JT) (Q : AV → AHeap → Prop) (x0 : AV) (x1 : List UInt8) (x12 : AV) (x13 : Int) (x14 : Int) (h : AHeap) : G_strings_byteStringReplacer_Replace.t5 J Q x0 x1 x12 x13 x14 h = atJ prog C 122 J true [1, 1, 1, 1, 1, 1, 1, 0, 1, 0] G_strings_byteStringReplacer_Replace.ann G_strings_byteStringReplacer_Replace.body [(0, x0), (1, (AV.s x1)), (12, x12), (13, (AV.i .i64 x13)), (14, (AV.i .i64 x14))] h (kFun prog Tryz.f163 Q) := by kernel_rfl
theorem G_strings_byteStringReplacer_Replace.i5 {Q : AV → AHeap → Prop} {x0 : AV} {x1 : List UInt8} {x12 : AV} {x13 : Int} {x14 : Int} {h : AHeap} (H : G_strings_byteStringReplacer_Replace.t5 (G_strings_byteStringReplacer_Replace.J Q) Q x0 x1 x12 x13 x14 h) : G_strings_byteStringReplacer_Replace.p5 Q x0 x1 x12 x13 x14 h := G_strings_byteStringReplacer_Replace.goH (k := 6) (p := [1, 1, 1, 1, 1, 1, 1, 0, 1, 0]) (by kernel_rfl) ((G_strings_byteStringReplacer_Replace.t5_eq (G_strings_byteStringReplacer_Replace.J Q) Q x0 x1 x12 x13 x14 h).mp H)
def G_strings_byteStringReplacer_Replace.t4 (J : JT) (Q : AV → AHeap → Prop) (x0 : AV) (x1 : List UInt8) (x5 : Int) (x6 : Bool) (h : AHeap) : Prop :=
(bif (!x6) then
(Q (AV.s x1) h)
else
(pMake 1 1 [(AV.i .u8 0)] (AV.i .i64 x5) (AV.i .i64 x5) h fun v68 h69 =>
J 6 [(0, x0), (1, (AV.s x1)), (12, v68), (13, (AV.i .i64 0)), (14, (AV.i .i64 0))] h69))
theorem G_strings_byteStringReplacer_Replace.t4_eq (J : JT) (Q : AV → AHeap → Prop) (x0 : AV) (x1 : List UInt8) (x5 : Int) (x6 : Bool) (h : AHeap) : G_strings_byteStringReplacer_Replace.t4 J Q x0 x1 x5 x6 h = atJ prog C 122 J false [1, 1, 1, 1] G_strings_byteStringReplacer_Replace.ann G_strings_byteStringReplacer_Replace.body [(0, x0), (1, (AV.s x1)), (5, (AV.i .i64 x5)), (6, (AV.b x6))] h (kFun prog Tryz.f163 Q) := by kernel_rfl
theorem G_strings_byteStringReplacer_Replace.i4 {Q : AV → AHeap → Prop} {x0 : AV} {x1 : List UInt8} {x5 : Int} {x6 : Bool} {h : AHeap} (H : G_strings_byteStringReplacer_Replace.t4 (G_strings_byteStringReplacer_Replace.J Q) Q x0 x1 x5 x6 h) : G_strings_byteStringReplacer_Replace.p4 Q x0 x1 x5 x6 h := G_strings_byteStringReplacer_Replace.goR (k := 5) (p := [1, 1, 1, 1]) (by kernel_rfl) ((G_strings_byteStringReplacer_Replace.t4_eq (G_strings_byteStringReplacer_Replace.J Q) Q x0 x1 x5 x6 h).mp H)
def G_strings_byteStringReplacer_Replace.t (J : JT) (Q : AV → AHeap → Prop) (x0 : AV) (x1 : List UInt8) (h : AHeap) : Prop :=
pNil x0 fun v3 =>
pFieldAddr 256 v3 fun v4 =>
pLoad1 v4 h fun v5 =>
pLenSl v5 fun n6 =>
withI (IntKind.wrap .i64 (n6 * 8)) fun n7 =>
(bif (decide ((n7 : Int) ≤ (x1.length : Int))) then
(pNil x0 fun v9 =>
pFieldAddr 256 v9 fun v10 =>
pLoad1 v10 h fun v11 =>
pLenSl v11 fun n12 =>
J 1 [(0, x0), (1, (AV.s x1)), (5, (AV.i .i64 (x1.length : Int))), (6, (AV.b false)), (30, v11), (31, (AV.i .i64 n12)), (32, (AV.i .i64 0))] h)
else
(J 3 [(0, x0), (1, (AV.s x1)), (5, (AV.i .i64 (x1.length : Int))), (6, (AV.b false)), (10, (AV.i .i64 0))] h))
theorem G_strings_byteStringReplacer_Replace.t_eq (J : JT) (Q : AV → AHeap → Prop) (x0 : AV) (x1 : List UInt8) (h : AHeap) : G_strings_byteStringReplacer_Replace.t J Q x0 x1 h = exJ prog C 122 J G_strings_byteStringReplacer_Replace.ann G_strings_byteStringReplacer_Replace.body (initEnv 0 [x0, (AV.s x1)]) h (kFun prog Tryz.f163 Q) := by kernel_rfl
theorem G_strings_byteStringReplacer_Replace.call {K : AV → AHeap → Prop} {x0 : AV} {x1 : List UInt8} {h : AHeap} (H : G_strings_byteStringReplacer_Replace.t (G_strings_byteStringReplacer_Replace.J (kRet h K)) (kRet h K) x0 x1 h) : C G_strings_byteStringReplacer_Replace.id [x0, (AV.s x1)] h K :=
  callJ (P := prog) (fn := Tryz.f163) (ann := G_strings_byteStringReplacer_Replace.ann) (body := G_strings_byteStringReplacer_Replace.body) Tryz.func163 G_strings_byteStringReplacer_Replace.body_eq (by kernel_rfl) G_strings_byteStringReplacer_Replace.dist (by kernel_rfl) ((G_strings_byteStringReplacer_Replace.t_eq (G_strings_byteStringReplacer_Replace.J (kRet h K)) (kRet h K) x0 x1 h).mp H)


end Go.Proofs.YtomghnmoomodiaaGreatDoor

/- All bodies. -/

/- Proofs over the texts: buffers of bytes, results without addresses. -/
set_option linter.unusedVariables false
set_option linter.unusedSimpArgs false
namespace Go.GAM
variable {ty : Option TypeId}

/-- What was there is there. -/
def Ext (h0 h : AHeap) : Prop := h0.length ≤ h.length ∧ ∀ id, id < h0.length → h[id]? = h0[id]?

theorem Ext.refl (h : AHeap) : Ext h h := ⟨Nat.le_refl _, fun _ _ => rfl⟩
theorem Ext.trans {h1 h2 h3 : AHeap} (a : Ext h1 h2) (b : Ext h2 h3) : Ext h1 h3 := ⟨Nat.le_trans a.1 b.1, fun id hi => (b.2 id (Nat.lt_of_lt_of_le hi a.1)).trans (a.2 id hi)⟩
theorem Ext.app (h s : AHeap) : Ext h (h ++ s) := ⟨by simp, fun id hi => by rw [List.getElem?_append_left hi]⟩
theorem Ext.take {h0 h : AHeap} (a : Ext h0 h) : h.take h0.length = h0 := by
  apply List.ext_getElem?
  intro i
  rw [List.getElem?_take]
  by_cases hi : i < h0.length
  · rw [if_pos hi, a.2 i hi]
  · rw [if_neg hi, List.getElem?_eq_none (Nat.le_of_not_lt hi)]
theorem Ext.set {h0 h : AHeap} (a : Ext h0 h) {id : Nat} (hi : h0.length ≤ id) (b : ABlk) : Ext h0 (h.set id b) :=
  ⟨by simpa using a.1, fun j hj => by rw [List.getElem?_set_ne (by omega)]; exact a.2 j hj⟩

def clean1 : AV → Bool
  | .b _ | .i _ _ | .s _ | .p none | .sl none _ _ | .nf | .ni => true
  | _ => false
/-- No address in it. -/
def clean : AV → Bool
  | .ag cs | .tu cs => cs.all clean1
  | v => clean1 v

theorem clean1_ren {n : Nat} {v : AV} (h : clean1 v = true) : ren1 n [] v = v ∧ ok1 n [] v = true := by
  unfold clean1 at h
  split at h <;> first | exact ⟨rfl, rfl⟩ | cases h

theorem clean_ren {n : Nat} {v : AV} (h : clean v = true) : ren n [] v = v ∧ okR n [] v = true := by
  have hl : ∀ cs : List AV, cs.all clean1 = true → cs.map (ren1 n []) = cs ∧ cs.all (ok1 n []) = true := by
    intro cs
    induction cs with
    | nil => exact fun _ => ⟨rfl, rfl⟩
    | cons c cs ih =>
      intro hc
      simp only [List.all_cons, Bool.and_eq_true] at hc
      obtain ⟨h1, h2⟩ := ih hc.2
      obtain ⟨h3, h4⟩ := clean1_ren (n := n) hc.1
      simp [h1, h2, h3, h4]
  unfold clean at h
  split at h
  · rename_i cs; obtain ⟨h1, h2⟩ := hl cs h; exact ⟨by simp [ren, h1], by simpa [okR] using h2⟩
  · rename_i cs; obtain ⟨h1, h2⟩ := hl cs h; exact ⟨by simp [ren, h1], by simpa [okR] using h2⟩
  · rename_i h1 h2
    obtain ⟨h3, h4⟩ := clean1_ren (n := n) h
    constructor
    · unfold ren; split
      · exact absurd rfl (h1 _)
      · exact absurd rfl (h2 _)
      · exact h3
    · unfold okR; split
      · exact absurd rfl (h1 _)
      · exact absurd rfl (h2 _)
      · exact h4

theorem kRet_pure {h0 h : AHeap} {K : AV → AHeap → Prop} {r : AV} (hp : clean r = true) (hE : Ext h0 h) (hk : K r h0) : kRet h0 K r h := by
  obtain ⟨h1, h2⟩ := clean_ren (n := h0.length) hp
  refine .inr ⟨[], List.nodup_nil, h2, by simp, fun id hi => .inl (hE.2 id hi), hE.1, ?_⟩
  rw [h1, hE.take]
  simpa using hk

/-- A slice of bytes that may be appended to. -/
def Buf (n : Nat) (h : AHeap) (v : AV) (l : List UInt8) : Prop :=
  (l = [] ∧ v = .sl none 0 none) ∨ ∃ id b, n ≤ id ∧ h[id]? = some b ∧ v = .sl (some ⟨id, l.length, 0⟩) l.length none ∧ b.cells = l.map byteAV ∧ b.sz = 1 ∧ b.floor ≤ l.length ∧ b.ro = false ∧ b.gl = false

theorem byteAV_cellOK (l : List UInt8) : (l.map byteAV).all AV.cellOK = true := by
  rw [List.all_eq_true]; intro x hx; simp only [List.mem_map] at hx; obtain ⟨c, _, rfl⟩ := hx; rfl
theorem byteAV_isByte (l : List UInt8) : (l.map byteAV).all isByte = true := by
  rw [List.all_eq_true]; intro x hx; simp only [List.mem_map] at hx; obtain ⟨c, _, rfl⟩ := hx; rfl
theorem toByte_byteAV (c : UInt8) : toByte (byteAV c) = c := by simp [toByte, byteAV]
theorem toBytes_map (l : List UInt8) : (l.map byteAV).map toByte = l := by
  rw [List.map_map]
  have : toByte ∘ byteAV = id := by funext c; exact toByte_byteAV c
  rw [this, List.map_id]

theorem Buf.lt {n : Nat} {h : AHeap} {v : AV} {l : List UInt8} (B : Buf n h v l) : v = .sl none 0 none ∨ ∃ a len, v = .sl (some a) len none ∧ n ≤ a.id ∧ a.id < h.length := by
  rcases B with ⟨_, h2⟩ | ⟨id, b, h1, h2, h3, _⟩
  · exact .inl h2
  · exact .inr ⟨_, _, h3, h1, by rcases Nat.lt_or_ge id h.length with h | h; exact h; rw [List.getElem?_eq_none h] at h2; cases h2⟩

theorem Buf.str {n : Nat} {h : AHeap} {v : AV} {l : List UInt8} (B : Buf n h v l) {K : List UInt8 → Prop} (hk : K l) : pBytesStr v h K := by
  unfold pBytesStr slCells
  rcases B with ⟨rfl, rfl⟩ | ⟨id, b, h1, h2, rfl, h4, h5, h6, h7, h8⟩
  · exact ⟨rfl, hk⟩
  · refine .inr ⟨b, h2, ⟨h6, by simp [h4], by simp⟩, ?_, ?_⟩
    · simp only [h4, List.drop_zero, Nat.mul_one]; rw [List.take_of_length_le (by simp)]; exact byteAV_isByte l
    · simp only [h4, List.drop_zero, Nat.mul_one]; rw [List.take_of_length_le (by simp), toBytes_map]; exact hk

theorem Buf.append {n : Nat} {h : AHeap} {v x : AV} {l t : List UInt8} (B : Buf n h v l) (hn : n ≤ h.length) {K : AV → AHeap → Prop}
    (hx : ∀ K : List AV → Nat → Prop, K (t.map byteAV) t.length → newsOf 1 x h K) (hlen : l.length + t.length ≤ 140737488355328)
    (hk : ∀ v' h', h.length ≤ h'.length → (∀ id, id < n → h'[id]? = h[id]?) → Buf n h' v' (l ++ t) → K v' h') : pAppend ty 1 1 v x h K := by
  refine ⟨Nat.one_pos, hx _ ?_⟩
  rcases B with ⟨rfl, rfl⟩ | ⟨id, b, h1, h2, rfl, h4, h5, h6, h7, h8⟩
  · refine ⟨by simpa using hlen, by have := hlen; simp at this; omega, ?_⟩
    split
    · rename_i h0
      have : t = [] := List.eq_nil_of_length_eq_zero h0
      subst this
      exact hk _ _ (Nat.le_refl _) (fun _ _ => rfl) (.inl ⟨rfl, rfl⟩)
    · refine hk _ _ (by simp) (fun id hi => by rw [List.getElem?_append_left (by omega)]) (.inr ⟨h.length, newBlk (t.map byteAV) 1 false ty, hn, by simp, by simp, rfl, rfl, by simp [newBlk], rfl, rfl⟩)
  · have hid : id < h.length := by rcases Nat.lt_or_ge id h.length with h' | h'; exact h'; rw [List.getElem?_eq_none h'] at h2; cases h2
    refine ⟨by omega, by omega, b, h2, h5, ⟨h6, by simp [h4], by simp⟩, ?_⟩
    have hcells : (List.take (l.length * 1) (List.drop 0 b.cells)) = l.map byteAV := by
      rw [h4, List.drop_zero, Nat.mul_one, List.take_of_length_le (by simp)]
    by_cases ht : t.length = 0
    · have : t = [] := List.eq_nil_of_length_eq_zero ht
      subst this
      refine .inl ⟨ht, hk _ _ (Nat.le_refl _) (fun _ _ => rfl) ?_⟩
      rw [List.append_nil]
      exact .inr ⟨id, b, h1, h2, rfl, h4, h5, h6, h7, h8⟩
    · have htp : 0 < t.length := Nat.pos_of_ne_zero ht
      cases hex : b.ex with
      | true =>
        refine .inr (.inl ⟨htp, .inr ⟨rfl, by simp [h4], rfl, by simp [h4]; omega⟩, ?_⟩)
        rw [hcells]
        refine hk _ _ (by simp) (fun id hi => by rw [List.getElem?_append_left (by omega)]) (.inr ⟨h.length, newBlk (l.map byteAV ++ t.map byteAV) 1 false ty, hn, by simp, by simp, by simp [newBlk], rfl, by simp [newBlk], rfl, rfl⟩)
      | false =>
        refine .inr (.inr (.inr (.inl ⟨htp, h7, by simp [h4], rfl, by simp [h4], rfl, rfl, h8, byteAV_cellOK t, ?_⟩)))
        refine hk _ _ (by simp) (fun j hj => by rw [List.getElem?_set_ne (by simp only; omega)]) (.inr ⟨id, { b with cells := b.cells ++ t.map byteAV, ty := sameTy b.ty ty }, h1, by simp [hid, hex], by simp [h4], by simp [h4], h5, by simp; omega, h7, h8⟩)

theorem byteAV_wrap {n : Int} (h0 : 0 ≤ n) (h1 : n < 256) : AV.i .u8 n = byteAV (UInt8.ofNat n.toNat) := by
  unfold byteAV
  congr 1
  rw [UInt8.toNat_ofNat']
  omega

/-- append(b, c) -/
theorem Buf.push {n : Nat} {h : AHeap} {v : AV} {l : List UInt8} (B : Buf n h v l) (hn : n ≤ h.length) {c : Int} {K : AV → AHeap → Prop} (h0 : 0 ≤ c) (h1 : c < 256) (hlen : l.length < 140737488355328)
    (hk : ∀ v' h', n ≤ h'.length → (∀ id, id < n → h'[id]? = h[id]?) → Buf n h' v' (l ++ [UInt8.ofNat c.toNat]) → K v' h') :
    pBuildSl 1 1 [.i .u8 0] [(0, 1, .i .u8 c)] h fun x h' => pAppend ty 1 1 v x h' K := by
  have hb := byteAV_wrap h0 h1
  refine ⟨rfl, ?_⟩
  show pAppend ty 1 1 v (.sl (some ⟨h.length, 1, 0⟩) 1 none) (h ++ [newBlk [AV.i .u8 c] 1 true]) K
  have B' : Buf n (h ++ [newBlk [AV.i .u8 c] 1 true]) v l := by
    rcases B with h | ⟨id, b, h1, h2, h3⟩
    · exact .inl h
    · refine .inr ⟨id, b, h1, ?_, h3⟩
      rw [List.getElem?_append_left]
      · exact h2
      · rcases Nat.lt_or_ge id h.length with h' | h'; exact h'; rw [List.getElem?_eq_none h'] at h2; cases h2
  refine B'.append (t := [UInt8.ofNat c.toNat]) (by simp; omega) (fun K' hK => ?_) (by simp; omega) fun v' h' g1 g2 g3 => hk v' h' (by simp at g1; omega) (fun id hi => by rw [g2 id hi, List.getElem?_append_left (by omega)]) g3
  refine .inr ⟨newBlk [AV.i .u8 c] 1 true, by simp, ⟨by simp [newBlk], by simp [newBlk], by simp⟩, ?_⟩
  simpa [newBlk, hb] using hK

theorem wrap_i64 {n : Int} (h0 : -9223372036854775808 ≤ n) (h1 : n < 9223372036854775808) : IntKind.wrap .i64 n = n := by
  have e1 : (2 : Int) ^ 64 = 18446744073709551616 := by decide
  have e2 : (2 : Int) ^ (64 - 1) = 9223372036854775808 := by decide
  simp only [IntKind.wrap, IntKind.bits, IntKind.signed, Bool.true_and, decide_eq_true_eq, e1, e2]
  split <;> omega
theorem wrap_u8 {n : Int} (h0 : 0 ≤ n) (h1 : n < 256) : IntKind.wrap .u8 n = n := by
  simp only [IntKind.wrap, IntKind.bits, IntKind.signed, Bool.false_and, Bool.false_eq_true, if_false]
  omega

theorem getD_some {α : Type} {l : List α} {i : Nat} {c d : α} (hc : l[i]? = some c) : l.getD i d = c := by
  rw [List.getD_eq_getElem?_getD, hc]; rfl

theorem idxStr {l : List UInt8} {k : IntKind} {i : Nat} {c : UInt8} {K : Int → Prop} (hc : l[i]? = some c) (hk : K (c.toNat : Int)) : pIdxStr (.s l) (.i k (i : Int)) K := by
  obtain ⟨hlt, _⟩ := List.getElem?_eq_some_iff.1 hc
  refine ⟨by omega, by simpa using hlt, ?_⟩
  rw [Int.toNat_natCast, getD_some hc]
  exact hk

theorem bif_t {c : Bool} {A B : Prop} (hc : c = true) (h : A) : (bif c then A else B) := by rw [hc]; exact h
theorem bif_f {c : Bool} {A B : Prop} (hc : c = false) (h : B) : (bif c then A else B) := by rw [hc]; exact h
theorem bif_both {c : Bool} {A B : Prop} (h1 : c = true → A) (h2 : c = false → B) : (bif c then A else B) := by
  cases c
  · exact h2 rfl
  · exact h1 rfl

theorem withI_is {e n : Int} {K : Int → Prop} (h : e = n) (hk : K n) : withI e K := by subst h; exact hk
theorem withB_is {e n : Bool} {K : Bool → Prop} (h : e = n) (hk : K n) : withB e K := by subst h; exact hk
end Go.GAM

/- Functions without a body: what bytealg's answer. -/
set_option linter.unusedVariables false
set_option linter.unusedSimpArgs false
namespace Go.GAM

section
variable {P : Program}

end
end Go.GAM

/- Steps for proofs over the texts: records, arrays, slices that are read. -/
set_option linter.unusedVariables false
set_option linter.unusedSimpArgs false
namespace Go.GAM
variable {ty : Option TypeId}

/-- All blocks but those of M are as they were. -/
def Upd (M : Nat → Prop) (h h' : AHeap) : Prop := h.length ≤ h'.length ∧ ∀ i, i < h.length → ¬ M i → h'[i]? = h[i]?

theorem Upd.refl (M : Nat → Prop) (h : AHeap) : Upd M h h := ⟨Nat.le_refl _, fun _ _ _ => rfl⟩
theorem Upd.trans {M M' : Nat → Prop} {h h1 h2 : AHeap} (a : Upd M h h1) (b : Upd M' h1 h2) (hM : ∀ i, i < h.length → M' i → M i) : Upd M h h2 :=
  ⟨Nat.le_trans a.1 b.1, fun i hi hn => (b.2 i (Nat.lt_of_lt_of_le hi a.1) fun hm => hn (hM i hi hm)).trans (a.2 i hi hn)⟩
theorem Upd.mono {M M' : Nat → Prop} {h h1 : AHeap} (a : Upd M h h1) (hM : ∀ i, i < h.length → M i → M' i) : Upd M' h h1 :=
  ⟨a.1, fun i hi hn => a.2 i hi fun hm => hn (hM i hi hm)⟩
theorem Upd.app (h s : AHeap) : Upd (fun _ => False) h (h ++ s) := ⟨by simp, fun i hi _ => by rw [List.getElem?_append_left hi]⟩
theorem Upd.set (h : AHeap) (id : Nat) (b : ABlk) : Upd (· = id) h (h.set id b) := ⟨by simp, fun i hi hn => by rw [List.getElem?_set_ne (fun e => hn e.symm)]⟩

theorem lt_of_some {α : Type} {l : List α} {i : Nat} {a : α} (h : l[i]? = some a) : i < l.length := (List.getElem?_eq_some_iff.1 h).1

/-! ### records -/

def RecAt (h : AHeap) (id : Nat) (cs : List AV) : Prop := ∃ b : ABlk, h[id]? = some b ∧ b.cells = cs ∧ b.floor ≤ cs.length ∧ b.ro = false

theorem RecAt.lt {h : AHeap} {id : Nat} {cs : List AV} (R : RecAt h id cs) : id < h.length := by obtain ⟨b, h1, _⟩ := R; exact lt_of_some h1
theorem RecAt.upd {M : Nat → Prop} {h h' : AHeap} {id : Nat} {cs : List AV} (R : RecAt h id cs) (U : Upd M h h') (hM : ¬ M id) : RecAt h' id cs := by
  have hl := R.lt
  obtain ⟨b, h1, h2⟩ := R
  exact ⟨b, (U.2 id hl hM).trans h1, h2⟩

theorem st_nil {a : AA} {K : AV → Prop} (hk : K (.p (some a))) : pNil (.p (some a)) K := hk
theorem st_fld {id ver off o : Nat} {K : AV → Prop} (hk : K (.p (some ⟨id, ver, off + o⟩))) : pFieldAddr o (.p (some ⟨id, ver, off⟩)) K := hk
theorem st_quo {k : IntKind} {a b n : Int} {K : Int → Prop} (hb : b ≠ 0) (hn : k.wrap (a.tdiv b) = n) (hk : K n) : pQuo k a b K := by subst hn; exact ⟨hb, hk⟩
theorem st_rem {a b n : Int} {K : Int → Prop} (hb : b ≠ 0) (hn : a.tmod b = n) (hk : K n) : pRem a b K := by subst hn; exact ⟨hb, hk⟩
theorem st_load {h : AHeap} {id n o : Nat} {cs : List AV} {v : AV} {K : AV → Prop} (R : RecAt h id cs) (hn : n = cs.length) (hc : cs[o]? = some v) (hk : K v) : pLoad1 (.p (some ⟨id, n, o⟩)) h K := by
  obtain ⟨b, h1, rfl, h3, h4⟩ := R
  subst hn
  have := lt_of_some hc
  refine ⟨b, h1, ⟨h3, Nat.le_refl _, this⟩, ?_⟩
  show K (b.cells.getD o .u)
  rw [getD_some hc]; exact hk
theorem st_store {h : AHeap} {id n o : Nat} {cs : List AV} {v : AV} {K : AHeap → Prop} (R : RecAt h id cs) (hn : n = cs.length) (ho : o < cs.length) (hv : v.parts = [v] := by rfl) (hs : v.sizeOK = true := by rfl) (hc : v.cellOK = true := by rfl)
    (hk : ∀ h', h'.length = h.length → Upd (· = id) h h' → RecAt h' id (cs.set o v) → K h') : pStore 1 (.p (some ⟨id, n, o⟩)) v h K := by
  have hl := R.lt
  obtain ⟨b, h1, rfl, h3, h4⟩ := R
  subst hn
  refine ⟨b, h1, h4, h3, rfl, (by show o + 1 ≤ b.cells.length; omega), hs, by rw [hv]; rfl, by rw [hv]; simp [hc], ?_⟩
  refine hk _ (by simp) (Upd.set _ _ _) ⟨_, List.getElem?_set_self hl, ?_, ?_, h4⟩
  · rw [hv]; rfl
  · simp
theorem st_alloc {cells : List AV} {h : AHeap} {K : AV → AHeap → Prop} (hk : ∀ h', h'.length = h.length + 1 → Upd (fun _ => False) h h' → RecAt h' h.length cells → K (.p (some ⟨h.length, cells.length, 0⟩)) h') : pAlloc ty cells h K :=
  hk _ (by simp) (Upd.app _ _) ⟨newBlk cells 1 true ty, by simp, rfl, Nat.le_refl _, rfl⟩
theorem st_box {x : AV} {h : AHeap} {K : AV → AHeap → Prop} (hs : x.sizeOK = true := by rfl) (hk : ∀ h', h'.length = h.length + 1 → Upd (fun _ => False) h h' → RecAt h' h.length x.parts → K (.p (some ⟨h.length, x.parts.length, 0⟩)) h') : pBox ty x h K :=
  ⟨hs, hk _ (by simp) (Upd.app _ _) ⟨newBlk x.parts 1 true ty, by simp, rfl, Nat.le_refl _, rfl⟩⟩

theorem st_asI64 {n : Int} {K : Int → Prop} (hk : K n) : asI .i64 (.i .i64 n) K := hk
theorem st_asI {k : IntKind} {n : Int} {K : Int → Prop} (hk : K n) : asI k (.i k n) K := by cases k <;> exact hk
theorem st_asB {n : Bool} {K : Bool → Prop} (hk : K n) : asB (.b n) K := hk
theorem st_asS {n : List UInt8} {K : List UInt8 → Prop} (hk : K n) : asS (.s n) K := hk
theorem st_len {a : Option AA} {n : Nat} {c : Option Nat} {K : Int → Prop} (hk : K n) : pLenSl (.sl a n c) K := hk

theorem wr_all : ∀ (ws pre cs : List AV), ws.length = cs.length → wr (pre ++ cs) pre.length ws = pre ++ ws
  | [], pre, cs, h => by
    have : cs = [] := List.eq_nil_of_length_eq_zero (by simpa using h.symm)
    subst this; simp [wr]
  | w :: ws, pre, [], h => by simp at h
  | w :: ws, pre, c :: cs, h => by
    simp only [wr]
    have e : (pre ++ c :: cs).set pre.length w = (pre ++ [w]) ++ cs := by simp
    rw [e]
    have := wr_all ws (pre ++ [w]) cs (by simpa using h)
    simpa using this
theorem st_loadN {h : AHeap} {id n : Nat} {cs : List AV} {K : AV → Prop} (R : RecAt h id cs) (hn : n = cs.length) (hk : K (.ag cs)) : pLoadN n (.p (some ⟨id, n, 0⟩)) h K := by
  obtain ⟨b, h1, rfl, h3, h4⟩ := R
  subst hn
  refine ⟨b, h1, ⟨h3, Nat.le_refl _, by simp⟩, ?_⟩
  simpa using hk
theorem st_storeN {h : AHeap} {id n : Nat} {cs ws : List AV} {K : AHeap → Prop} (R : RecAt h id cs) (hn : n = cs.length) (hw : ws.length = n) (hc : ws.all AV.cellOK = true)
    (hk : ∀ h', h'.length = h.length → Upd (· = id) h h' → RecAt h' id ws → K h') : pStore n (.p (some ⟨id, n, 0⟩)) (.ag ws) h K := by
  have hl := R.lt
  obtain ⟨b, h1, rfl, h3, h4⟩ := R
  subst hn
  refine ⟨b, h1, h4, h3, rfl, (by show 0 + b.cells.length ≤ b.cells.length; omega), rfl, hw, hc, ?_⟩
  refine hk _ (by simp) (Upd.set _ _ _) ⟨_, List.getElem?_set_self hl, ?_, ?_, h4⟩
  · exact wr_all ws [] b.cells hw
  · rw [hw]; exact Nat.le_refl _

/-! ### slices -/

def SlAt (v : AV) (id : Nat) : Prop := match v with
  | .sl (some a) _ _ => a.id = id
  | _ => False

/-- A slice that may be read: its cells, its length. -/
def Rd (sz : Nat) (h : AHeap) (v : AV) (cs : List AV) (len : Nat) : Prop :=
  (v = .sl none 0 none ∧ len = 0 ∧ cs = []) ∨ ∃ id ver off cap b, v = .sl (some ⟨id, ver, off⟩) len cap ∧ h[id]? = some b ∧ b.sz = sz ∧ b.floor ≤ ver ∧ ver ≤ b.cells.length ∧ off + len * sz ≤ ver ∧ (b.cells.drop off).take (len * sz) = cs

theorem Rd.upd {sz : Nat} {M : Nat → Prop} {h h' : AHeap} {v : AV} {cs : List AV} {len : Nat} (R : Rd sz h v cs len) (U : Upd M h h') (hM : ∀ id, SlAt v id → ¬ M id) : Rd sz h' v cs len := by
  rcases R with h1 | ⟨id, ver, off, cap, b, rfl, h2, h3⟩
  · exact .inl h1
  · exact .inr ⟨id, ver, off, cap, b, rfl, (U.2 id (lt_of_some h2) (hM id rfl)).trans h2, h3⟩
theorem Rd.lt {sz : Nat} {h : AHeap} {v : AV} {cs : List AV} {len : Nat} (R : Rd sz h v cs len) {id : Nat} (hs : SlAt v id) : id < h.length := by
  rcases R with ⟨rfl, _⟩ | ⟨id', ver, off, cap, b, rfl, h2, h3⟩
  · exact hs.elim
  · cases hs; exact lt_of_some h2
theorem Rd.length {sz : Nat} {h : AHeap} {v : AV} {cs : List AV} {len : Nat} (R : Rd sz h v cs len) : cs.length = len * sz := by
  rcases R with ⟨_, rfl, rfl⟩ | ⟨id, ver, off, cap, b, rfl, h2, h3, h4, h5, h6, rfl⟩
  · simp
  · simp; omega
theorem Rd.sl {sz : Nat} {h : AHeap} {v : AV} {cs : List AV} {len : Nat} (R : Rd sz h v cs len) {K : List AV → Prop} (hk : K cs) : slCells sz v h K := by
  rcases R with ⟨rfl, rfl, rfl⟩ | ⟨id, ver, off, cap, b, rfl, h2, h3, h4, h5, h6, rfl⟩
  · exact hk
  · exact .inr ⟨b, h2, ⟨h4, h5, h6⟩, hk⟩
theorem Rd.len {sz : Nat} {h : AHeap} {v : AV} {cs : List AV} {len : Nat} (R : Rd sz h v cs len) {K : Int → Prop} (hk : K len) : pLenSl v K := by
  rcases R with ⟨rfl, rfl, rfl⟩ | ⟨id, ver, off, cap, b, rfl, h2⟩ <;> exact hk
theorem Rd.news {sz : Nat} {h : AHeap} {v : AV} {cs : List AV} {len : Nat} (R : Rd sz h v cs len) {K : List AV → Nat → Prop} (hk : K cs len) : newsOf sz v h K := by
  rcases R with ⟨rfl, rfl, rfl⟩ | ⟨id, ver, off, cap, b, rfl, h2, h3, h4, h5, h6, rfl⟩
  · exact hk
  · exact .inr ⟨b, h2, ⟨h4, h5, h6⟩, hk⟩

/-- The address of an element. -/
theorem Rd.idx {sz : Nat} {h : AHeap} {v : AV} {cs : List AV} {len : Nat} (R : Rd sz h v cs len) {k : IntKind} {i : Int} (h0 : 0 ≤ i) (h1 : i < len) {K : AV → Prop}
    (hk : ∀ id ver off, (∃ b : ABlk, h[id]? = some b ∧ b.floor ≤ ver ∧ ver ≤ b.cells.length ∧ off + sz ≤ ver ∧ (b.cells.drop off).take sz = (cs.drop (i.toNat * sz)).take sz) → K (.p (some ⟨id, ver, off⟩))) : pIdxAddrSl sz v (.i k i) h K := by
  rcases R with ⟨rfl, rfl, rfl⟩ | ⟨id, ver, off, cap, b, rfl, h2, h3, h4, h5, h6, rfl⟩
  · omega
  · refine ⟨h0, h1, ⟨b, h2, h4, by omega⟩, hk _ _ _ ⟨b, h2, h4, h5, ?_, ?_⟩⟩
    · have : (i.toNat + 1) * sz ≤ len * sz := Nat.mul_le_mul_right _ (by omega)
      rw [Nat.add_mul] at this; simp only; omega
    · have : (i.toNat + 1) * sz ≤ len * sz := Nat.mul_le_mul_right _ (by omega)
      rw [Nat.add_mul] at this
      rw [List.drop_take, List.drop_drop, List.take_take, Nat.min_eq_left (by omega)]

/-- The same, its place known. -/
structure RdAt (sz : Nat) (h : AHeap) (id ver off : Nat) (b : ABlk) (cs : List AV) (len : Nat) : Prop where
  blk : h[id]? = some b
  siz : b.sz = sz
  flo : b.floor ≤ ver
  vle : ver ≤ b.cells.length
  end_ : off + len * sz ≤ ver
  cel : (b.cells.drop off).take (len * sz) = cs

theorem RdAt.rd {sz : Nat} {h : AHeap} {id ver off : Nat} {b : ABlk} {cs : List AV} {len : Nat} (R : RdAt sz h id ver off b cs len) (cap : Option Nat) : Rd sz h (.sl (some ⟨id, ver, off⟩) len cap) cs len :=
  .inr ⟨id, ver, off, cap, b, rfl, R.1, R.2, R.3, R.4, R.5, R.6⟩
theorem RdAt.upd {sz : Nat} {M : Nat → Prop} {h h' : AHeap} {id ver off : Nat} {b : ABlk} {cs : List AV} {len : Nat} (R : RdAt sz h id ver off b cs len) (U : Upd M h h') (hM : ¬ M id) : RdAt sz h' id ver off b cs len :=
  ⟨(U.2 id (lt_of_some R.1) hM).trans R.1, R.2, R.3, R.4, R.5, R.6⟩
theorem RdAt.lt {sz : Nat} {h : AHeap} {id ver off : Nat} {b : ABlk} {cs : List AV} {len : Nat} (R : RdAt sz h id ver off b cs len) : id < h.length := lt_of_some R.1
theorem st_idx {sz : Nat} {h : AHeap} {id ver off : Nat} {b : ABlk} {cs : List AV} {len : Nat} {cap : Option Nat} {k : IntKind} {i : Nat} {K : AV → Prop} (R : RdAt sz h id ver off b cs len) (hi : i < len) (hk : K (.p (some ⟨id, ver, off + i * sz⟩))) :
    pIdxAddrSl sz (.sl (some ⟨id, ver, off⟩) len cap) (.i k (i : Int)) h K :=
  ⟨by omega, by omega, ⟨b, R.1, R.3, Nat.le_trans R.3 R.4⟩, by simpa using hk⟩
theorem st_elem {sz : Nat} {h : AHeap} {id ver off : Nat} {b : ABlk} {cs : List AV} {len i o : Nat} {c : AV} {K : AV → Prop} (R : RdAt sz h id ver off b cs len) (hi : i < len) (ho : o < sz) (hc : cs[i * sz + o]? = some c) (hk : K c) : pLoad1 (.p (some ⟨id, ver, off + i * sz + o⟩)) h K := by
  have h1 : (i + 1) * sz ≤ len * sz := Nat.mul_le_mul_right _ hi
  rw [Nat.add_mul] at h1
  have h2 := R.end_
  refine ⟨b, R.1, ⟨R.3, R.4, by simp only; omega⟩, ?_⟩
  have h3 := R.cel
  rw [← h3, List.getElem?_take_of_lt (by omega), List.getElem?_drop] at hc
  show K (b.cells.getD (off + i * sz + o) .u)
  rw [getD_some (show b.cells[off + i * sz + o]? = some c by rw [← hc]; congr 1; omega)]
  exact hk

theorem Rd.fld {sz : Nat} {h : AHeap} {v : AV} {cs : List AV} {len : Nat} (R : Rd sz h v cs len) {k : IntKind} {i o : Nat} {c : AV} (hi : i < len) (ho : o < sz) (hc : cs[i * sz + o]? = some c) {K : AV → Prop} (hk : K c) :
    pIdxAddrSl sz v (.i k (i : Int)) h fun a => pFieldAddr o a fun p => pLoad1 p h K := by
  rcases R with ⟨rfl, rfl, rfl⟩ | ⟨id, ver, off, cap, b, rfl, h2, h3, h4, h5, h6, h7⟩
  · omega
  · have A : RdAt sz h id ver off b cs len := ⟨h2, h3, h4, h5, h6, h7⟩
    exact st_idx A hi (st_fld (st_elem A hi ho hc hk))

/-- An array of one's own that may be appended to. -/
def Arr (sz : Nat) (h : AHeap) (v : AV) (cs : List AV) (len : Nat) : Prop :=
  (v = .sl none 0 none ∧ len = 0 ∧ cs = []) ∨ ∃ id b, v = .sl (some ⟨id, cs.length, 0⟩) len none ∧ h[id]? = some b ∧ b.cells = cs ∧ cs.length = len * sz ∧ b.sz = sz ∧ b.floor ≤ cs.length ∧ b.ro = false ∧ b.gl = false

theorem Arr.nil (sz : Nat) (h : AHeap) : Arr sz h (.sl none 0 none) [] 0 := .inl ⟨rfl, rfl, rfl⟩
theorem Arr.rd {sz : Nat} {h : AHeap} {v : AV} {cs : List AV} {len : Nat} (A : Arr sz h v cs len) : Rd sz h v cs len := by
  rcases A with h1 | ⟨id, b, rfl, h2, rfl, h4, h5, h6, h7⟩
  · exact .inl h1
  · refine .inr ⟨id, _, 0, none, b, rfl, h2, h5, h6, Nat.le_refl _, by omega, ?_⟩
    rw [List.drop_zero, ← h4, List.take_length]
theorem Arr.upd {sz : Nat} {M : Nat → Prop} {h h' : AHeap} {v : AV} {cs : List AV} {len : Nat} (A : Arr sz h v cs len) (U : Upd M h h') (hM : ∀ id, SlAt v id → ¬ M id) : Arr sz h' v cs len := by
  rcases A with h1 | ⟨id, b, rfl, h2, h3⟩
  · exact .inl h1
  · exact .inr ⟨id, b, rfl, (U.2 id (lt_of_some h2) (hM id rfl)).trans h2, h3⟩

theorem Arr.append {sz bytes : Nat} {h : AHeap} {v x : AV} {cs ns : List AV} {len k : Nat} (A : Arr sz h v cs len) (hz : 0 < sz) {K : AV → AHeap → Prop}
    (hx : ∀ K : List AV → Nat → Prop, K ns k → newsOf sz x h K) (hns : ns.length = k * sz) (hok : ns.all AV.cellOK = true) (hlen : (len + k) * bytes ≤ 140737488355328) (hl2 : len + k ≤ 9223372036854775807)
    (hk : ∀ v' h', Upd (SlAt v) h h' → Arr sz h' v' (cs ++ ns) (len + k) → (∀ id, SlAt v' id → SlAt v id ∨ h.length ≤ id) → K v' h') : pAppend ty sz bytes v x h K := by
  refine ⟨hz, hx _ ?_⟩
  rcases A with ⟨rfl, rfl, rfl⟩ | ⟨id, b, rfl, h2, rfl, h4, h5, h6, h7, h8⟩
  · refine ⟨by simpa using hlen, by omega, ?_⟩
    split
    · rename_i h0
      subst h0
      have : ns = [] := List.eq_nil_of_length_eq_zero (by simpa using hns)
      subst this
      exact hk _ _ (Upd.refl _ _) (.inl ⟨rfl, rfl, rfl⟩) fun id hi => .inl hi
    · refine hk _ _ ((Upd.app _ _).mono fun _ _ h => h.elim) (.inr ⟨h.length, newBlk ns sz false ty, by simp, by simp, rfl, by simpa using hns, rfl, Nat.le_refl _, rfl, rfl⟩) fun id hi => .inr (by cases hi; exact Nat.le_refl _)
  · have hid := lt_of_some h2
    refine ⟨hlen, by omega, b, h2, h5, ⟨h6, Nat.le_refl _, by simp only; omega⟩, ?_⟩
    have hcells : (b.cells.drop 0).take (len * sz) = b.cells := by rw [List.drop_zero, ← h4, List.take_length]
    by_cases ht : k = 0
    · subst ht
      have : ns = [] := List.eq_nil_of_length_eq_zero (by simpa using hns)
      subst this
      refine .inl ⟨rfl, hk _ _ (Upd.refl _ _) ?_ fun id hi => .inl hi⟩
      rw [List.append_nil]
      exact .inr ⟨id, b, rfl, h2, rfl, h4, h5, h6, h7, h8⟩
    · have htp : 0 < k := Nat.pos_of_ne_zero ht
      have hmul : (len + k) * sz = len * sz + k * sz := Nat.add_mul _ _ _
      cases hex : b.ex with
      | true =>
        have hkz : 0 < k * sz := Nat.mul_pos htp hz
        refine .inr (.inl ⟨htp, .inr ⟨rfl, rfl, rfl, by simp only; omega⟩, ?_⟩)
        rw [hcells]
        refine hk _ _ ((Upd.app _ _).mono fun _ _ h => h.elim) (.inr ⟨h.length, newBlk (b.cells ++ ns) sz false ty, rfl, by simp, rfl, by simp [newBlk, hns, h4, hmul], rfl, by simp [newBlk], rfl, rfl⟩) fun id hi => .inr (by cases hi; exact Nat.le_refl _)
      | false =>
        refine .inr (.inr (.inr (.inl ⟨htp, h7, rfl, rfl, h4.symm, rfl, rfl, h8, hok, ?_⟩)))
        refine hk _ _ ((Upd.set _ _ _).mono fun i _ h => h.symm) (.inr ⟨id, { b with cells := b.cells ++ ns, ty := sameTy b.ty ty }, rfl, by simp [hid, hex], rfl, by simp [hns, h4, hmul], h5, by simp; omega, h7, h8⟩) fun id hi => .inl hi

theorem st_build {sz len : Nat} {zeros cs : List AV} {parts : List (Nat × Nat × AV)} {h : AHeap} {K : AV → AHeap → Prop} (hf : fillA zeros parts = some cs) (hl : cs.length = len * sz)
    (hk : ∀ v h', h'.length = h.length + 1 → Upd (fun _ => False) h h' → Rd sz h' v cs len → (∀ id, SlAt v id → h.length ≤ id) → K v h') : pBuildSl sz len zeros parts h K := by
  unfold pBuildSl
  rw [hf]
  refine ⟨hl, hk _ _ (by simp) (Upd.app _ _) (.inr ⟨h.length, cs.length, 0, none, newBlk cs sz true, rfl, by simp, rfl, Nat.le_refl _, Nat.le_refl _, by omega, ?_⟩) fun id hi => by cases hi; exact Nat.le_refl _⟩
  simp [newBlk, ← hl]

/-- append(v, x): one element. -/
theorem Arr.push {sz bytes : Nat} {h : AHeap} {v x : AV} {cs zeros : List AV} {len : Nat} (A : Arr sz h v cs len) (hz : 0 < sz) {K : AV → AHeap → Prop} (hf : fillA zeros [(0, sz, x)] = some x.parts) (hxl : x.parts.length = sz) (hok : x.parts.all AV.cellOK = true)
    (hlen : (len + 1) * bytes ≤ 140737488355328) (hl2 : len + 1 ≤ 9223372036854775807)
    (hk : ∀ v' h', Upd (SlAt v) h h' → Arr sz h' v' (cs ++ x.parts) (len + 1) → (∀ id, SlAt v' id → SlAt v id ∨ h.length ≤ id) → K v' h') :
    pBuildSl sz 1 zeros [(0, sz, x)] h fun y h' => pAppend ty sz bytes v y h' K := by
  refine st_build hf (by omega) fun y h1 hl1 U1 R1 F1 => ?_
  refine (A.upd U1 fun _ _ h => h).append hz (ns := x.parts) (k := 1) (fun K hK => R1.news hK) (by omega) hok hlen hl2 fun v' h' U2 A2 F2 => hk v' h' ((U1.mono fun _ _ h => h.elim).trans U2 fun _ _ h => h) A2 fun id hi => ?_
  rcases F2 id hi with h | h
  · exact .inl h
  · exact .inr (by omega)

/-! ### slices of bytes -/

def Byt (h : AHeap) (v : AV) (l : List UInt8) : Prop := Rd 1 h v (l.map byteAV) l.length

theorem Byt.str {h : AHeap} {v : AV} {l : List UInt8} (B : Byt h v l) {K : List UInt8 → Prop} (hk : K l) : pBytesStr v h K := by
  refine Rd.sl B ⟨byteAV_isByte l, ?_⟩
  rw [toBytes_map]; exact hk


theorem Byt.drop {h : AHeap} {v : AV} {l : List UInt8} (B : Byt h v l) {n : Nat} (hn : n ≤ l.length) {K : AV → Prop}
    (hk : ∀ v', Byt h v' (l.drop n) → (∀ i, SlAt v' i → SlAt v i) → K v') : pSliceSl 1 v (some (.i .i64 n)) none none h K := by
  rcases B with ⟨rfl, h1, h2⟩ | ⟨id, ver, off, cap, b, rfl, h2, h3, h4, h5, h6, h7⟩
  · have hl : l = [] := by simpa using h1
    subst hl
    have hn0 : n = 0 := by simpa using hn
    subst hn0
    exact ⟨by simp, rfl, rfl, rfl, fun h => by simp at h, hk _ (.inl ⟨rfl, rfl, rfl⟩) (fun _ h => h)⟩
  · refine ⟨Nat.one_pos, fun h => by simp at h, by omega, by simp; omega, b, h2, by omega, h4, .inl h3, .inl (Nat.le_refl _), ?_⟩
    refine hk _ ?_ (fun _ h => h)
    refine .inr ⟨id, ver, off + n, cap.map (· - n), b, by simp, h2, h3, h4, h5, by simp; omega, ?_⟩
    rw [List.length_drop, Nat.mul_one, List.map_drop, ← h7, Nat.mul_one, List.drop_take, List.drop_drop]

/-- append(w[:len(w):len(w)], s..): nothing that is there is written. -/
theorem Byt.grow {h : AHeap} {v : AV} {l s : List UInt8} (B : Byt h v l) (hv : v = .sl none 0 none ∨ ∃ a, v = .sl (some a) l.length (some l.length)) (hlen : l.length + s.length ≤ 140737488355328) {K : AV → AHeap → Prop}
    (hk : ∀ v' h', Upd (fun _ => False) h h' → Byt h' v' (l ++ s) → (∀ i, SlAt v' i → SlAt v i ∨ h.length ≤ i) → h'.length ≤ h.length + 1 → K v' h') : pAppend ty 1 1 v (.s s) h K := by
  refine ⟨Nat.one_pos, rfl, ?_⟩
  rcases B with ⟨rfl, h1, h2⟩ | ⟨id, ver, off, cap, b, rfl, h2, h3, h4, h5, h6, h7⟩
  · have hl : l = [] := by simpa using h1
    subst hl
    refine ⟨by simpa using hlen, by simp at hlen; omega, ?_⟩
    by_cases hs : s.length = 0
    · rw [if_pos hs]
      have : s = [] := List.eq_nil_of_length_eq_zero hs
      subst this
      exact hk _ _ (Upd.refl _ _) (.inl ⟨rfl, rfl, rfl⟩) (fun _ h => .inl h) (by omega)
    · rw [if_neg hs]
      exact hk _ _ (Upd.app _ _) (.inr ⟨h.length, (s.map byteAV).length, 0, none, newBlk (s.map byteAV) 1 false ty, by simp, by simp, rfl, Nat.le_refl _, Nat.le_refl _, by simp, by simp [newBlk, List.take_of_length_le]⟩) (fun i h => .inr (by cases h; exact Nat.le_refl _)) (by simp)
  · obtain ⟨a, ha⟩ := hv.resolve_left (by simp)
    cases ha
    refine ⟨by omega, by omega, b, h2, h3, ⟨h4, h5, by simpa using h6⟩, ?_⟩
    by_cases hs : s.length = 0
    · have : s = [] := List.eq_nil_of_length_eq_zero hs
      subst this
      refine .inl ⟨rfl, hk _ _ (Upd.refl _ _) ?_ (fun _ h => .inl h) (by omega)⟩
      rw [List.append_nil]
      exact .inr ⟨id, ver, off, _, b, rfl, h2, h3, h4, h5, h6, h7⟩
    · refine .inr (.inl ⟨by omega, .inl ⟨_, rfl, by omega⟩, ?_⟩)
      have h7' : (b.cells.drop off).take (l.length * 1) = l.map byteAV := h7
      simp only [h7']
      exact hk _ _ (Upd.app _ _) (.inr ⟨h.length, l.length + s.length, 0, none, newBlk (l.map byteAV ++ s.map byteAV) 1 false ty, by simp, by simp, rfl, by simp [newBlk], by simp [newBlk], by simp, by simp [newBlk, List.take_of_length_le]⟩) (fun i h => .inr (by cases h; exact Nat.le_refl _)) (by simp)


theorem Rd.elem {sz : Nat} {h : AHeap} {v : AV} {cs : List AV} {len : Nat} (R : Rd sz h v cs len) {k : IntKind} {i : Int} (h0 : 0 ≤ i) (h1 : i < len) {K : AV → Prop} (hk : K (.ag ((cs.drop (i.toNat * sz)).take sz))) :
    pIdxAddrSl sz v (.i k i) h fun a => pLoadN sz a h K :=
  R.idx h0 h1 fun id ver off ⟨b, g1, g2, g3, g4, g5⟩ => ⟨b, g1, ⟨g2, g3, g4⟩, by rw [g5]; exact hk⟩

theorem st_subs {l : List UInt8} {lo : Nat} {K : List UInt8 → Prop} (h : lo ≤ l.length) (hk : K (l.drop lo)) : pSliceStr (.s l) (some (.i .i64 lo)) none K := by
  refine ⟨by omega, by simpa using h, Nat.le_refl _, ?_⟩
  simpa using hk
theorem st_subs2 {l : List UInt8} {lo hi : Nat} {K : List UInt8 → Prop} (h : lo ≤ hi) (h2 : hi ≤ l.length) (hk : K ((l.take hi).drop lo)) : pSliceStr (.s l) (some (.i .i64 lo)) (some (.i .i64 hi)) K := by
  refine ⟨by omega, by omega, by simpa using h, by simpa using h2, ?_⟩
  simpa using hk
theorem st_subs1 {l : List UInt8} {hi : Nat} {K : List UInt8 → Prop} (h2 : hi ≤ l.length) (hk : K (l.take hi)) : pSliceStr (.s l) none (some (.i .i64 hi)) K := by
  refine ⟨by omega, by simp, by simpa using h2, ?_⟩
  simpa using hk

end Go.GAM

