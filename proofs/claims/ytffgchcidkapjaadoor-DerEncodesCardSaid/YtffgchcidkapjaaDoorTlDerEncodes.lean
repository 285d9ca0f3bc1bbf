/- The law's text in the abstract machine: printed by Gen.lean, checked by Lean's kernel. -/
import Derived.Test.YtffgchcidkapjaaDoorTx1
set_option linter.unusedVariables false
set_option linter.unusedSectionVars false
set_option maxRecDepth 100000
namespace Go.Proofs.YtffgchcidkapjaaDoor
open Go.GAM
variable [XR]
--@@ G_law33_DerEncodes
/-! ### 4: intrusion/intrusionlaw33.DerEncodes -/
noncomputable def G_law33_DerEncodes.body : Code := (Tryd.f4.body).getD .skip
def G_law33_DerEncodes.ann : Ann := (.seq 0 [1] .leaf (.seq 0 [1] (.seq 0 [1, 9] .leaf (.br (.seq 0 [2] .leaf .leaf) .leaf)) (.seq 0 [1, 3, 4] .leaf (.seq 0 [3, 4, 5, 6] .leaf (.seq 1 [2] .leaf .leaf)))))
theorem G_law33_DerEncodes.body_eq : Tryd.f4.body = some G_law33_DerEncodes.body := by kernel_rfl
theorem G_law33_DerEncodes.dist : noTwice (places G_law33_DerEncodes.ann G_law33_DerEncodes.body) = true := by kernel_rfl
noncomputable def G_law33_DerEncodes.J (Q : AV → AHeap → Prop) : JT := funJ prog C Tryd.f4 G_law33_DerEncodes.ann G_law33_DerEncodes.body Q
theorem G_law33_DerEncodes.goR {Q : AV → AHeap → Prop} {k : Nat} {p : List Nat} (hl : lookJ (places G_law33_DerEncodes.ann G_law33_DerEncodes.body) k = some (p, false)) {e : Env} {h : AHeap} (hk : atJ prog C 32 (G_law33_DerEncodes.J Q) false p G_law33_DerEncodes.ann G_law33_DerEncodes.body e h (kFun prog Tryd.f4 Q)) : G_law33_DerEncodes.J Q k e h := goJ_run (P := prog) (fn := Tryd.f4) (ann := G_law33_DerEncodes.ann) (body := G_law33_DerEncodes.body) (Q := Q) (k := k) (p := p) (e := e) (h := h) (acall_le X) G_law33_DerEncodes.dist hl hk
theorem G_law33_DerEncodes.goH {Q : AV → AHeap → Prop} {k : Nat} {p : List Nat} (hl : lookJ (places G_law33_DerEncodes.ann G_law33_DerEncodes.body) k = some (p, true)) {e : Env} {h : AHeap} (hk : atJ prog C 32 (G_law33_DerEncodes.J Q) true p G_law33_DerEncodes.ann G_law33_DerEncodes.body e h (kFun prog Tryd.f4 Q)) : G_law33_DerEncodes.J Q k e h := goJ_head (P := prog) (fn := Tryd.f4) (ann := G_law33_DerEncodes.ann) (body := G_law33_DerEncodes.body) (Q := Q) (k := k) (p := p) (e := e) (h := h) (acall_le X) G_law33_DerEncodes.dist hl hk
def G_law33_DerEncodes.p0 (Q : AV → AHeap → Prop) (x2 : Bool) (h : AHeap) : Prop := G_law33_DerEncodes.J Q 1 [(2, (AV.b x2))] h
theorem G_law33_DerEncodes.j0 (Q : AV → AHeap → Prop) (x2 : Bool) (h : AHeap) : G_law33_DerEncodes.J Q 1 [(2, (AV.b x2))] h = G_law33_DerEncodes.p0 Q x2 h := rfl
def G_law33_DerEncodes.t0 (J : JT) (Q : AV → AHeap → Prop) (x2 : Bool) (h : AHeap) : Prop :=
Q (AV.b x2) h
theorem G_law33_DerEncodes.t0_eq (J : JT) (Q : AV → AHeap → Prop) (x2 : Bool) (h : AHeap) : G_law33_DerEncodes.t0 J Q x2 h = atJ prog C 32 J false [1, 1, 1, 1, 1] G_law33_DerEncodes.ann G_law33_DerEncodes.body [(2, (AV.b x2))] h (kFun prog Tryd.f4 Q) := by kernel_rfl
theorem G_law33_DerEncodes.i0 {Q : AV → AHeap → Prop} {x2 : Bool} {h : AHeap} (H : G_law33_DerEncodes.t0 (G_law33_DerEncodes.J Q) Q x2 h) : G_law33_DerEncodes.p0 Q x2 h := G_law33_DerEncodes.goR (k := 1) (p := [1, 1, 1, 1, 1]) (by kernel_rfl) ((G_law33_DerEncodes.t0_eq (G_law33_DerEncodes.J Q) Q x2 h).mp H)
def G_law33_DerEncodes.t (J : JT) (Q : AV → AHeap → Prop) (x0 : AV) (h : AHeap) : Prop :=
pBox x0 h fun v0 h1 =>
pLoadN 5 v0 h1 fun v3 =>
C G_ref33_Few.id [v3] h1 fun v4 h5 =>
asB v4 fun c6 =>
(bif (!c6) then
(C G_law33_lives.id [] h5 fun v8 h9 =>
asB v8 fun c10 =>
Q (AV.b c10) h9)
else
(pLoadN 5 v0 h5 fun v13 =>
C G_der_Encode.id [v13] h5 fun v14 h15 =>
pExtract 0 v14 fun v16 =>
asS v16 fun l17 =>
pExtract 1 v14 fun v18 =>
asI .i64 v18 fun n19 =>
pLoadN 5 v0 h15 fun v21 =>
C G_ref33_Encode.id [v21] h15 fun v22 h23 =>
pExtract 0 v22 fun v24 =>
asS v24 fun l25 =>
pExtract 1 v22 fun v26 =>
asI .i64 v26 fun n27 =>
(bif (decide ((l17 : List UInt8) = l25)) then
((bif (decide ((n19 : Int) = n27)) then
(C G_law33_lives.id [] h23 fun v29 h30 =>
asB v29 fun c31 =>
J 1 [(2, (AV.b c31))] h30)
else
(J 1 [(2, (AV.b false))] h23)))
else
(J 1 [(2, (AV.b false))] h23))))
theorem G_law33_DerEncodes.t_eq (J : JT) (Q : AV → AHeap → Prop) (x0 : AV) (h : AHeap) : G_law33_DerEncodes.t J Q x0 h = exJ prog C 32 J G_law33_DerEncodes.ann G_law33_DerEncodes.body (initEnv 0 [x0]) h (kFun prog Tryd.f4 Q) := by kernel_rfl
theorem G_law33_DerEncodes.call {K : AV → AHeap → Prop} {x0 : AV} {h : AHeap} (H : G_law33_DerEncodes.t (G_law33_DerEncodes.J (kRet h K)) (kRet h K) x0 h) : C G_law33_DerEncodes.id [x0] h K :=
  callJ (P := prog) (fn := Tryd.f4) (ann := G_law33_DerEncodes.ann) (body := G_law33_DerEncodes.body) Tryd.func4 G_law33_DerEncodes.body_eq (by kernel_rfl) G_law33_DerEncodes.dist (by kernel_rfl) ((G_law33_DerEncodes.t_eq (G_law33_DerEncodes.J (kRet h K)) (kRet h K) x0 h).mp H)


end Go.Proofs.YtffgchcidkapjaaDoor
