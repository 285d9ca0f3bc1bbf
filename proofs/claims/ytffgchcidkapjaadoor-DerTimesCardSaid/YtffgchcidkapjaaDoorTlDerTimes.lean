/- The law's text in the abstract machine: printed by Gen.lean, checked by Lean's kernel. -/
import Derived.Test.YtffgchcidkapjaaDoorTx1
set_option linter.unusedVariables false
set_option linter.unusedSectionVars false
set_option maxRecDepth 100000
namespace Go.Proofs.YtffgchcidkapjaaDoor
open Go.GAM
variable [XR]
--@@ G_law33_DerTimes
/-! ### 6: intrusion/intrusionlaw33.DerTimes -/
noncomputable def G_law33_DerTimes.body : Code := (Tryd.f6.body).getD .skip
def G_law33_DerTimes.ann : Ann := (.seq 0 [1, 2] .leaf (.seq 0 [1, 2] (.seq 0 [1, 2, 15] .leaf (.br (.seq 0 [4] .leaf .leaf) .leaf)) (.seq 0 [1, 2, 5, 6] .leaf (.seq 0 [1, 2, 5, 6, 7, 8] .leaf (.seq 0 [1, 2, 5, 6, 7, 8, 9, 10] .leaf (.seq 0 [1, 5, 6, 7, 8, 9, 10, 11, 12] .leaf (.seq 1 [4] .leaf .leaf)))))))
theorem G_law33_DerTimes.body_eq : Tryd.f6.body = some G_law33_DerTimes.body := by kernel_rfl
theorem G_law33_DerTimes.dist : noTwice (places G_law33_DerTimes.ann G_law33_DerTimes.body) = true := by kernel_rfl
noncomputable def G_law33_DerTimes.J (Q : AV → AHeap → Prop) : JT := funJ prog C Tryd.f6 G_law33_DerTimes.ann G_law33_DerTimes.body Q
theorem G_law33_DerTimes.goR {Q : AV → AHeap → Prop} {k : Nat} {p : List Nat} (hl : lookJ (places G_law33_DerTimes.ann G_law33_DerTimes.body) k = some (p, false)) {e : Env} {h : AHeap} (hk : atJ prog C 65 (G_law33_DerTimes.J Q) false p G_law33_DerTimes.ann G_law33_DerTimes.body e h (kFun prog Tryd.f6 Q)) : G_law33_DerTimes.J Q k e h := goJ_run (P := prog) (fn := Tryd.f6) (ann := G_law33_DerTimes.ann) (body := G_law33_DerTimes.body) (Q := Q) (k := k) (p := p) (e := e) (h := h) (acall_le X) G_law33_DerTimes.dist hl hk
theorem G_law33_DerTimes.goH {Q : AV → AHeap → Prop} {k : Nat} {p : List Nat} (hl : lookJ (places G_law33_DerTimes.ann G_law33_DerTimes.body) k = some (p, true)) {e : Env} {h : AHeap} (hk : atJ prog C 65 (G_law33_DerTimes.J Q) true p G_law33_DerTimes.ann G_law33_DerTimes.body e h (kFun prog Tryd.f6 Q)) : G_law33_DerTimes.J Q k e h := goJ_head (P := prog) (fn := Tryd.f6) (ann := G_law33_DerTimes.ann) (body := G_law33_DerTimes.body) (Q := Q) (k := k) (p := p) (e := e) (h := h) (acall_le X) G_law33_DerTimes.dist hl hk
def G_law33_DerTimes.p0 (Q : AV → AHeap → Prop) (x4 : Bool) (h : AHeap) : Prop := G_law33_DerTimes.J Q 1 [(4, (AV.b x4))] h
theorem G_law33_DerTimes.j0 (Q : AV → AHeap → Prop) (x4 : Bool) (h : AHeap) : G_law33_DerTimes.J Q 1 [(4, (AV.b x4))] h = G_law33_DerTimes.p0 Q x4 h := rfl
def G_law33_DerTimes.t0 (J : JT) (Q : AV → AHeap → Prop) (x4 : Bool) (h : AHeap) : Prop :=
Q (AV.b x4) h
theorem G_law33_DerTimes.t0_eq (J : JT) (Q : AV → AHeap → Prop) (x4 : Bool) (h : AHeap) : G_law33_DerTimes.t0 J Q x4 h = atJ prog C 65 J false [1, 1, 1, 1, 1, 1, 1] G_law33_DerTimes.ann G_law33_DerTimes.body [(4, (AV.b x4))] h (kFun prog Tryd.f6 Q) := by kernel_rfl
theorem G_law33_DerTimes.i0 {Q : AV → AHeap → Prop} {x4 : Bool} {h : AHeap} (H : G_law33_DerTimes.t0 (G_law33_DerTimes.J Q) Q x4 h) : G_law33_DerTimes.p0 Q x4 h := G_law33_DerTimes.goR (k := 1) (p := [1, 1, 1, 1, 1, 1, 1]) (by kernel_rfl) ((G_law33_DerTimes.t0_eq (G_law33_DerTimes.J Q) Q x4 h).mp H)
def G_law33_DerTimes.t (J : JT) (Q : AV → AHeap → Prop) (x0 : AV) (x1 : Int) (h : AHeap) : Prop :=
pBox x0 h fun v0 h1 =>
pLoadN 5 v0 h1 fun v3 =>
C G_ref33_Few.id [v3] h1 fun v4 h5 =>
asB v4 fun c6 =>
(bif (!c6) then
(C G_law33_lives.id [] h5 fun v8 h9 =>
asB v8 fun c10 =>
Q (AV.b c10) h9)
else
(pLoadN 5 v0 h5 fun v13 =>
C G_der_Time.id [v13] h5 fun v14 h15 =>
pExtract 0 v14 fun v16 =>
asI .i64 v16 fun n17 =>
pExtract 1 v14 fun v18 =>
asB v18 fun c19 =>
pLoadN 5 v0 h15 fun v21 =>
C G_ref33_Time.id [v21] h15 fun v22 h23 =>
pExtract 0 v22 fun v24 =>
asI .i64 v24 fun n25 =>
pExtract 1 v22 fun v26 =>
asB v26 fun c27 =>
pLoadN 5 v0 h23 fun v29 =>
C G_der_Text.id [v29] h23 fun v30 h31 =>
pExtract 0 v30 fun v32 =>
asS v32 fun l33 =>
pExtract 1 v30 fun v34 =>
asB v34 fun c35 =>
pLoadN 5 v0 h31 fun v37 =>
C G_ref33_Text.id [v37] h31 fun v38 h39 =>
pExtract 0 v38 fun v40 =>
asS v40 fun l41 =>
pExtract 1 v38 fun v42 =>
asB v42 fun c43 =>
(bif (decide ((n17 : Int) = n25)) then
((bif (c19 == c27) then
((bif (decide ((l33 : List UInt8) = l41)) then
((bif (c35 == c43) then
(C G_der_TimeOf.id [(AV.i .i64 x1)] h39 fun v45 h46 =>
C G_ref33_TimeOf.id [(AV.i .i64 x1)] h46 fun v47 h48 =>
C G_ref33_Same.id [v45, v47] h48 fun v49 h50 =>
asB v49 fun c51 =>
(bif c51 then
(C G_law33_lives.id [] h50 fun v52 h53 =>
asB v52 fun c54 =>
J 1 [(4, (AV.b c54))] h53)
else
(J 1 [(4, (AV.b false))] h50)))
else
(J 1 [(4, (AV.b false))] h39)))
else
(J 1 [(4, (AV.b false))] h39)))
else
(J 1 [(4, (AV.b false))] h39)))
else
(J 1 [(4, (AV.b false))] h39))))
theorem G_law33_DerTimes.t_eq (J : JT) (Q : AV → AHeap → Prop) (x0 : AV) (x1 : Int) (h : AHeap) : G_law33_DerTimes.t J Q x0 x1 h = exJ prog C 65 J G_law33_DerTimes.ann G_law33_DerTimes.body (initEnv 0 [x0, (AV.i .i64 x1)]) h (kFun prog Tryd.f6 Q) := by kernel_rfl
theorem G_law33_DerTimes.call {K : AV → AHeap → Prop} {x0 : AV} {x1 : Int} {h : AHeap} (H : G_law33_DerTimes.t (G_law33_DerTimes.J (kRet h K)) (kRet h K) x0 x1 h) : C G_law33_DerTimes.id [x0, (AV.i .i64 x1)] h K :=
  callJ (P := prog) (fn := Tryd.f6) (ann := G_law33_DerTimes.ann) (body := G_law33_DerTimes.body) Tryd.func6 G_law33_DerTimes.body_eq (by kernel_rfl) G_law33_DerTimes.dist (by kernel_rfl) ((G_law33_DerTimes.t_eq (G_law33_DerTimes.J (kRet h K)) (kRet h K) x0 x1 h).mp H)


end Go.Proofs.YtffgchcidkapjaaDoor
