/- The law's text in the abstract machine: printed by Gen.lean, checked by Lean's kernel. -/
import Derived.Test.YtbphaelhhfkdiaaDoorTx0
set_option linter.unusedVariables false
set_option linter.unusedSectionVars false
set_option maxRecDepth 100000
namespace Go.Proofs.YtbphaelhhfkdiaaDoor
open Go.GAM
variable [XR]
--@@ G_law26_TransformSettles
/-! ### 4: intrusion/intrusionlaw26.TransformSettles -/
noncomputable def G_law26_TransformSettles.body : Code := (Tryd.f4.body).getD .skip
def G_law26_TransformSettles.ann : Ann := (.seq 0 [0] .leaf (.seq 0 [0] (.seq 0 [0, 7] .leaf (.br (.seq 0 [2] .leaf .leaf) .leaf)) (.seq 0 [0, 3, 4, 5] .leaf (.seq 1 [2] .leaf .leaf))))
theorem G_law26_TransformSettles.body_eq : Tryd.f4.body = some G_law26_TransformSettles.body := by kernel_rfl
theorem G_law26_TransformSettles.dist : noTwice (places G_law26_TransformSettles.ann G_law26_TransformSettles.body) = true := by kernel_rfl
noncomputable def G_law26_TransformSettles.J (Q : AV → AHeap → Prop) : JT := funJ prog C Tryd.f4 G_law26_TransformSettles.ann G_law26_TransformSettles.body Q
theorem G_law26_TransformSettles.goR {Q : AV → AHeap → Prop} {k : Nat} {p : List Nat} (hl : lookJ (places G_law26_TransformSettles.ann G_law26_TransformSettles.body) k = some (p, false)) {e : Env} {h : AHeap} (hk : atJ prog C 41 (G_law26_TransformSettles.J Q) false p G_law26_TransformSettles.ann G_law26_TransformSettles.body e h (kFun prog Tryd.f4 Q)) : G_law26_TransformSettles.J Q k e h := goJ_run (P := prog) (fn := Tryd.f4) (ann := G_law26_TransformSettles.ann) (body := G_law26_TransformSettles.body) (Q := Q) (k := k) (p := p) (e := e) (h := h) (acall_le X) G_law26_TransformSettles.dist hl hk
theorem G_law26_TransformSettles.goH {Q : AV → AHeap → Prop} {k : Nat} {p : List Nat} (hl : lookJ (places G_law26_TransformSettles.ann G_law26_TransformSettles.body) k = some (p, true)) {e : Env} {h : AHeap} (hk : atJ prog C 41 (G_law26_TransformSettles.J Q) true p G_law26_TransformSettles.ann G_law26_TransformSettles.body e h (kFun prog Tryd.f4 Q)) : G_law26_TransformSettles.J Q k e h := goJ_head (P := prog) (fn := Tryd.f4) (ann := G_law26_TransformSettles.ann) (body := G_law26_TransformSettles.body) (Q := Q) (k := k) (p := p) (e := e) (h := h) (acall_le X) G_law26_TransformSettles.dist hl hk
def G_law26_TransformSettles.p0 (Q : AV → AHeap → Prop) (x2 : Bool) (h : AHeap) : Prop := G_law26_TransformSettles.J Q 1 [(2, (AV.b x2))] h
theorem G_law26_TransformSettles.j0 (Q : AV → AHeap → Prop) (x2 : Bool) (h : AHeap) : G_law26_TransformSettles.J Q 1 [(2, (AV.b x2))] h = G_law26_TransformSettles.p0 Q x2 h := rfl
def G_law26_TransformSettles.t0 (J : JT) (Q : AV → AHeap → Prop) (x2 : Bool) (h : AHeap) : Prop :=
Q (AV.b x2) h
theorem G_law26_TransformSettles.t0_eq (J : JT) (Q : AV → AHeap → Prop) (x2 : Bool) (h : AHeap) : G_law26_TransformSettles.t0 J Q x2 h = atJ prog C 41 J false [1, 1, 1, 1] G_law26_TransformSettles.ann G_law26_TransformSettles.body [(2, (AV.b x2))] h (kFun prog Tryd.f4 Q) := by kernel_rfl
theorem G_law26_TransformSettles.i0 {Q : AV → AHeap → Prop} {x2 : Bool} {h : AHeap} (H : G_law26_TransformSettles.t0 (G_law26_TransformSettles.J Q) Q x2 h) : G_law26_TransformSettles.p0 Q x2 h := G_law26_TransformSettles.goR (k := 1) (p := [1, 1, 1, 1]) (by kernel_rfl) ((G_law26_TransformSettles.t0_eq (G_law26_TransformSettles.J Q) Q x2 h).mp H)
def G_law26_TransformSettles.t (J : JT) (Q : AV → AHeap → Prop) (x0 : List UInt8) (h : AHeap) : Prop :=
C G_law26_long.id [(AV.s x0)] h fun v1 h2 =>
asB v1 fun c3 =>
(bif c3 then
(C G_law26_awake.id [] h2 fun v5 h6 =>
asB v5 fun c7 =>
Q (AV.b c7) h6)
else
(C G_transform_Apply.id [(AV.i .i64 1), (AV.s x0)] h2 fun v10 h11 =>
asS v10 fun l12 =>
C G_transform_Apply.id [(AV.i .i64 2), (AV.s x0)] h11 fun v13 h14 =>
asS v13 fun l15 =>
C G_transform_Apply.id [(AV.i .i64 5), (AV.s x0)] h14 fun v16 h17 =>
asS v16 fun l18 =>
C G_transform_Apply.id [(AV.i .i64 1), (AV.s l12)] h17 fun v20 h21 =>
asS v20 fun l22 =>
(bif (decide ((l22 : List UInt8) = l12)) then
(C G_transform_Apply.id [(AV.i .i64 2), (AV.s l15)] h21 fun v23 h24 =>
asS v23 fun l25 =>
(bif (decide ((l25 : List UInt8) = l15)) then
(C G_transform_Apply.id [(AV.i .i64 5), (AV.s l18)] h24 fun v26 h27 =>
asS v26 fun l28 =>
(bif (decide ((l28 : List UInt8) = l18)) then
((bif (decide (((l12.length : Int) : Int) = (x0.length : Int))) then
(C G_law26_awake.id [] h27 fun v29 h30 =>
asB v29 fun c31 =>
J 1 [(2, (AV.b c31))] h30)
else
(J 1 [(2, (AV.b false))] h27)))
else
(J 1 [(2, (AV.b false))] h27)))
else
(J 1 [(2, (AV.b false))] h24)))
else
(J 1 [(2, (AV.b false))] h21))))
theorem G_law26_TransformSettles.t_eq (J : JT) (Q : AV → AHeap → Prop) (x0 : List UInt8) (h : AHeap) : G_law26_TransformSettles.t J Q x0 h = exJ prog C 41 J G_law26_TransformSettles.ann G_law26_TransformSettles.body (initEnv 0 [(AV.s x0)]) h (kFun prog Tryd.f4 Q) := by kernel_rfl
theorem G_law26_TransformSettles.call {K : AV → AHeap → Prop} {x0 : List UInt8} {h : AHeap} (H : G_law26_TransformSettles.t (G_law26_TransformSettles.J (kRet h K)) (kRet h K) x0 h) : C G_law26_TransformSettles.id [(AV.s x0)] h K :=
  callJ (P := prog) (fn := Tryd.f4) (ann := G_law26_TransformSettles.ann) (body := G_law26_TransformSettles.body) Tryd.func4 G_law26_TransformSettles.body_eq (by kernel_rfl) G_law26_TransformSettles.dist (by kernel_rfl) ((G_law26_TransformSettles.t_eq (G_law26_TransformSettles.J (kRet h K)) (kRet h K) x0 h).mp H)


end Go.Proofs.YtbphaelhhfkdiaaDoor
