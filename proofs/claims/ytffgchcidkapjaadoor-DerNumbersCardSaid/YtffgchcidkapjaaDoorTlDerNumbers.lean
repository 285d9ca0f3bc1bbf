/- The law's text in the abstract machine: printed by Gen.lean, checked by Lean's kernel. -/
import Derived.Test.YtffgchcidkapjaaDoorTx1
set_option linter.unusedVariables false
set_option linter.unusedSectionVars false
set_option maxRecDepth 100000
namespace Go.Proofs.YtffgchcidkapjaaDoor
open Go.GAM
variable [XR]
--@@ G_law33_DerNumbers
/-! ### 5: intrusion/intrusionlaw33.DerNumbers -/
noncomputable def G_law33_DerNumbers.body : Code := (Tryd.f5.body).getD .skip
def G_law33_DerNumbers.ann : Ann := (.seq 0 [1, 2] .leaf (.seq 0 [1, 2] (.seq 0 [1, 2, 11] .leaf (.br (.seq 0 [4] .leaf .leaf) .leaf)) (.seq 0 [1, 2, 5, 6] .leaf (.seq 0 [1, 5, 6, 7, 8] .leaf (.seq 1 [4] .leaf .leaf)))))
theorem G_law33_DerNumbers.body_eq : Tryd.f5.body = some G_law33_DerNumbers.body := by kernel_rfl
theorem G_law33_DerNumbers.dist : noTwice (places G_law33_DerNumbers.ann G_law33_DerNumbers.body) = true := by kernel_rfl
noncomputable def G_law33_DerNumbers.J (Q : AV → AHeap → Prop) : JT := funJ prog C Tryd.f5 G_law33_DerNumbers.ann G_law33_DerNumbers.body Q
theorem G_law33_DerNumbers.goR {Q : AV → AHeap → Prop} {k : Nat} {p : List Nat} (hl : lookJ (places G_law33_DerNumbers.ann G_law33_DerNumbers.body) k = some (p, false)) {e : Env} {h : AHeap} (hk : atJ prog C 41 (G_law33_DerNumbers.J Q) false p G_law33_DerNumbers.ann G_law33_DerNumbers.body e h (kFun prog Tryd.f5 Q)) : G_law33_DerNumbers.J Q k e h := goJ_run (P := prog) (fn := Tryd.f5) (ann := G_law33_DerNumbers.ann) (body := G_law33_DerNumbers.body) (Q := Q) (k := k) (p := p) (e := e) (h := h) (acall_le X) G_law33_DerNumbers.dist hl hk
theorem G_law33_DerNumbers.goH {Q : AV → AHeap → Prop} {k : Nat} {p : List Nat} (hl : lookJ (places G_law33_DerNumbers.ann G_law33_DerNumbers.body) k = some (p, true)) {e : Env} {h : AHeap} (hk : atJ prog C 41 (G_law33_DerNumbers.J Q) true p G_law33_DerNumbers.ann G_law33_DerNumbers.body e h (kFun prog Tryd.f5 Q)) : G_law33_DerNumbers.J Q k e h := goJ_head (P := prog) (fn := Tryd.f5) (ann := G_law33_DerNumbers.ann) (body := G_law33_DerNumbers.body) (Q := Q) (k := k) (p := p) (e := e) (h := h) (acall_le X) G_law33_DerNumbers.dist hl hk
def G_law33_DerNumbers.p0 (Q : AV → AHeap → Prop) (x4 : Bool) (h : AHeap) : Prop := G_law33_DerNumbers.J Q 1 [(4, (AV.b x4))] h
theorem G_law33_DerNumbers.j0 (Q : AV → AHeap → Prop) (x4 : Bool) (h : AHeap) : G_law33_DerNumbers.J Q 1 [(4, (AV.b x4))] h = G_law33_DerNumbers.p0 Q x4 h := rfl
def G_law33_DerNumbers.t0 (J : JT) (Q : AV → AHeap → Prop) (x4 : Bool) (h : AHeap) : Prop :=
Q (AV.b x4) h
theorem G_law33_DerNumbers.t0_eq (J : JT) (Q : AV → AHeap → Prop) (x4 : Bool) (h : AHeap) : G_law33_DerNumbers.t0 J Q x4 h = atJ prog C 41 J false [1, 1, 1, 1, 1] G_law33_DerNumbers.ann G_law33_DerNumbers.body [(4, (AV.b x4))] h (kFun prog Tryd.f5 Q) := by kernel_rfl
theorem G_law33_DerNumbers.i0 {Q : AV → AHeap → Prop} {x4 : Bool} {h : AHeap} (H : G_law33_DerNumbers.t0 (G_law33_DerNumbers.J Q) Q x4 h) : G_law33_DerNumbers.p0 Q x4 h := G_law33_DerNumbers.goR (k := 1) (p := [1, 1, 1, 1, 1]) (by kernel_rfl) ((G_law33_DerNumbers.t0_eq (G_law33_DerNumbers.J Q) Q x4 h).mp H)
def G_law33_DerNumbers.t (J : JT) (Q : AV → AHeap → Prop) (x0 : AV) (x1 : Int) (h : AHeap) : Prop :=
pBox x0 h fun v0 h1 =>
pLoadN 5 v0 h1 fun v3 =>
C G_ref33_Few.id [v3] h1 fun v4 h5 =>
asB v4 fun c6 =>
(bif (!c6) then
(C G_law33_lives.id [] h5 fun v8 h9 =>
asB v8 fun c10 =>
Q (AV.b c10) h9)
else
(pLoadN 5 v0 h5 fun v13 =>
C G_der_Int.id [v13] h5 fun v14 h15 =>
pExtract 0 v14 fun v16 =>
asI .i64 v16 fun n17 =>
pExtract 1 v14 fun v18 =>
asB v18 fun c19 =>
pLoadN 5 v0 h15 fun v21 =>
C G_ref33_Int.id [v21] h15 fun v22 h23 =>
pExtract 0 v22 fun v24 =>
asI .i64 v24 fun n25 =>
pExtract 1 v22 fun v26 =>
asB v26 fun c27 =>
(bif (decide ((n17 : Int) = n25)) then
((bif (c19 == c27) then
(C G_der_IntOf.id [(AV.i .i64 x1)] h23 fun v29 h30 =>
C G_ref33_IntOf.id [(AV.i .i64 x1)] h30 fun v31 h32 =>
C G_ref33_Same.id [v29, v31] h32 fun v33 h34 =>
asB v33 fun c35 =>
(bif c35 then
(C G_law33_lives.id [] h34 fun v36 h37 =>
asB v36 fun c38 =>
J 1 [(4, (AV.b c38))] h37)
else
(J 1 [(4, (AV.b false))] h34)))
else
(J 1 [(4, (AV.b false))] h23)))
else
(J 1 [(4, (AV.b false))] h23))))
theorem G_law33_DerNumbers.t_eq (J : JT) (Q : AV → AHeap → Prop) (x0 : AV) (x1 : Int) (h : AHeap) : G_law33_DerNumbers.t J Q x0 x1 h = exJ prog C 41 J G_law33_DerNumbers.ann G_law33_DerNumbers.body (initEnv 0 [x0, (AV.i .i64 x1)]) h (kFun prog Tryd.f5 Q) := by kernel_rfl
theorem G_law33_DerNumbers.call {K : AV → AHeap → Prop} {x0 : AV} {x1 : Int} {h : AHeap} (H : G_law33_DerNumbers.t (G_law33_DerNumbers.J (kRet h K)) (kRet h K) x0 x1 h) : C G_law33_DerNumbers.id [x0, (AV.i .i64 x1)] h K :=
  callJ (P := prog) (fn := Tryd.f5) (ann := G_law33_DerNumbers.ann) (body := G_law33_DerNumbers.body) Tryd.func5 G_law33_DerNumbers.body_eq (by kernel_rfl) G_law33_DerNumbers.dist (by kernel_rfl) ((G_law33_DerNumbers.t_eq (G_law33_DerNumbers.J (kRet h K)) (kRet h K) x0 x1 h).mp H)


end Go.Proofs.YtffgchcidkapjaaDoor
