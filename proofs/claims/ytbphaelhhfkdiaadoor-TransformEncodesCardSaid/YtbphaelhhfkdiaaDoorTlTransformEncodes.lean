/- The law's text in the abstract machine: printed by Gen.lean, checked by Lean's kernel. -/
import Derived.Test.YtbphaelhhfkdiaaDoorTx0
set_option linter.unusedVariables false
set_option linter.unusedSectionVars false
set_option maxRecDepth 100000
namespace Go.Proofs.YtbphaelhhfkdiaaDoor
open Go.GAM
variable [XR]
--@@ G_law26_TransformEncodes
/-! ### 8: intrusion/intrusionlaw26.TransformEncodes -/
noncomputable def G_law26_TransformEncodes.body : Code := (Tryd.f8.body).getD .skip
def G_law26_TransformEncodes.ann : Ann := (.seq 0 [0] .leaf (.seq 0 [0] (.seq 0 [0, 4] .leaf (.br (.seq 0 [2] .leaf .leaf) .leaf)) (.seq 1 [2] .leaf .leaf)))
theorem G_law26_TransformEncodes.body_eq : Tryd.f8.body = some G_law26_TransformEncodes.body := by kernel_rfl
theorem G_law26_TransformEncodes.dist : noTwice (places G_law26_TransformEncodes.ann G_law26_TransformEncodes.body) = true := by kernel_rfl
noncomputable def G_law26_TransformEncodes.J (Q : AV → AHeap → Prop) : JT := funJ prog C Tryd.f8 G_law26_TransformEncodes.ann G_law26_TransformEncodes.body Q
theorem G_law26_TransformEncodes.goR {Q : AV → AHeap → Prop} {k : Nat} {p : List Nat} (hl : lookJ (places G_law26_TransformEncodes.ann G_law26_TransformEncodes.body) k = some (p, false)) {e : Env} {h : AHeap} (hk : atJ prog C 28 (G_law26_TransformEncodes.J Q) false p G_law26_TransformEncodes.ann G_law26_TransformEncodes.body e h (kFun prog Tryd.f8 Q)) : G_law26_TransformEncodes.J Q k e h := goJ_run (P := prog) (fn := Tryd.f8) (ann := G_law26_TransformEncodes.ann) (body := G_law26_TransformEncodes.body) (Q := Q) (k := k) (p := p) (e := e) (h := h) (acall_le X) G_law26_TransformEncodes.dist hl hk
theorem G_law26_TransformEncodes.goH {Q : AV → AHeap → Prop} {k : Nat} {p : List Nat} (hl : lookJ (places G_law26_TransformEncodes.ann G_law26_TransformEncodes.body) k = some (p, true)) {e : Env} {h : AHeap} (hk : atJ prog C 28 (G_law26_TransformEncodes.J Q) true p G_law26_TransformEncodes.ann G_law26_TransformEncodes.body e h (kFun prog Tryd.f8 Q)) : G_law26_TransformEncodes.J Q k e h := goJ_head (P := prog) (fn := Tryd.f8) (ann := G_law26_TransformEncodes.ann) (body := G_law26_TransformEncodes.body) (Q := Q) (k := k) (p := p) (e := e) (h := h) (acall_le X) G_law26_TransformEncodes.dist hl hk
def G_law26_TransformEncodes.p0 (Q : AV → AHeap → Prop) (x2 : Bool) (h : AHeap) : Prop := G_law26_TransformEncodes.J Q 1 [(2, (AV.b x2))] h
theorem G_law26_TransformEncodes.j0 (Q : AV → AHeap → Prop) (x2 : Bool) (h : AHeap) : G_law26_TransformEncodes.J Q 1 [(2, (AV.b x2))] h = G_law26_TransformEncodes.p0 Q x2 h := rfl
def G_law26_TransformEncodes.t0 (J : JT) (Q : AV → AHeap → Prop) (x2 : Bool) (h : AHeap) : Prop :=
Q (AV.b x2) h
theorem G_law26_TransformEncodes.t0_eq (J : JT) (Q : AV → AHeap → Prop) (x2 : Bool) (h : AHeap) : G_law26_TransformEncodes.t0 J Q x2 h = atJ prog C 28 J false [1, 1, 1] G_law26_TransformEncodes.ann G_law26_TransformEncodes.body [(2, (AV.b x2))] h (kFun prog Tryd.f8 Q) := by kernel_rfl
theorem G_law26_TransformEncodes.i0 {Q : AV → AHeap → Prop} {x2 : Bool} {h : AHeap} (H : G_law26_TransformEncodes.t0 (G_law26_TransformEncodes.J Q) Q x2 h) : G_law26_TransformEncodes.p0 Q x2 h := G_law26_TransformEncodes.goR (k := 1) (p := [1, 1, 1]) (by kernel_rfl) ((G_law26_TransformEncodes.t0_eq (G_law26_TransformEncodes.J Q) Q x2 h).mp H)
def G_law26_TransformEncodes.t (J : JT) (Q : AV → AHeap → Prop) (x0 : List UInt8) (h : AHeap) : Prop :=
C G_law26_long.id [(AV.s x0)] h fun v1 h2 =>
asB v1 fun c3 =>
(bif c3 then
(C G_law26_awake.id [] h2 fun v5 h6 =>
asB v5 fun c7 =>
Q (AV.b c7) h6)
else
(C G_transform_EncodePercent.id [(AV.s x0)] h2 fun v10 h11 =>
asS v10 fun l12 =>
C G_ref26_EncodePercent.id [(AV.s x0)] h11 fun v13 h14 =>
asS v13 fun l15 =>
(bif (decide ((l12 : List UInt8) = l15)) then
(C G_transform_EncodeBase64.id [(AV.s x0)] h14 fun v16 h17 =>
asS v16 fun l18 =>
C G_ref26_EncodeBase64.id [(AV.s x0)] h17 fun v19 h20 =>
asS v19 fun l21 =>
(bif (decide ((l18 : List UInt8) = l21)) then
(C G_transform_EncodeHex.id [(AV.s x0)] h20 fun v22 h23 =>
asS v22 fun l24 =>
C G_ref26_EncodeHex.id [(AV.s x0)] h23 fun v25 h26 =>
asS v25 fun l27 =>
(bif (decide ((l24 : List UInt8) = l27)) then
(C G_law26_awake.id [] h26 fun v28 h29 =>
asB v28 fun c30 =>
J 1 [(2, (AV.b c30))] h29)
else
(J 1 [(2, (AV.b false))] h26)))
else
(J 1 [(2, (AV.b false))] h20)))
else
(J 1 [(2, (AV.b false))] h14))))
theorem G_law26_TransformEncodes.t_eq (J : JT) (Q : AV → AHeap → Prop) (x0 : List UInt8) (h : AHeap) : G_law26_TransformEncodes.t J Q x0 h = exJ prog C 28 J G_law26_TransformEncodes.ann G_law26_TransformEncodes.body (initEnv 0 [(AV.s x0)]) h (kFun prog Tryd.f8 Q) := by kernel_rfl
theorem G_law26_TransformEncodes.call {K : AV → AHeap → Prop} {x0 : List UInt8} {h : AHeap} (H : G_law26_TransformEncodes.t (G_law26_TransformEncodes.J (kRet h K)) (kRet h K) x0 h) : C G_law26_TransformEncodes.id [(AV.s x0)] h K :=
  callJ (P := prog) (fn := Tryd.f8) (ann := G_law26_TransformEncodes.ann) (body := G_law26_TransformEncodes.body) Tryd.func8 G_law26_TransformEncodes.body_eq (by kernel_rfl) G_law26_TransformEncodes.dist (by kernel_rfl) ((G_law26_TransformEncodes.t_eq (G_law26_TransformEncodes.J (kRet h K)) (kRet h K) x0 h).mp H)


end Go.Proofs.YtbphaelhhfkdiaaDoor
