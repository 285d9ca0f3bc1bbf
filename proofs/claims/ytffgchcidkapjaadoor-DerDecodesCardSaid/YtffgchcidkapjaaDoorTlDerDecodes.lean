/- The law's text in the abstract machine: printed by Gen.lean, checked by Lean's kernel. -/
import Derived.Test.YtffgchcidkapjaaDoorTx1
set_option linter.unusedVariables false
set_option linter.unusedSectionVars false
set_option maxRecDepth 100000
namespace Go.Proofs.YtffgchcidkapjaaDoor
open Go.GAM
variable [XR]
--@@ G_law33_DerDecodes
/-! ### 3: intrusion/intrusionlaw33.DerDecodes -/
noncomputable def G_law33_DerDecodes.body : Code := (Tryd.f3.body).getD .skip
def G_law33_DerDecodes.ann : Ann := (.seq 0 [0] .leaf (.seq 0 [0] (.seq 0 [0, 9] .leaf (.br (.seq 0 [2] .leaf .leaf) .leaf)) (.seq 0 [0, 3, 4] .leaf (.seq 0 [3, 4, 5, 6] .leaf (.seq 1 [2] .leaf .leaf)))))
theorem G_law33_DerDecodes.body_eq : Tryd.f3.body = some G_law33_DerDecodes.body := by kernel_rfl
theorem G_law33_DerDecodes.dist : noTwice (places G_law33_DerDecodes.ann G_law33_DerDecodes.body) = true := by kernel_rfl
noncomputable def G_law33_DerDecodes.J (Q : AV → AHeap → Prop) : JT := funJ prog C Tryd.f3 G_law33_DerDecodes.ann G_law33_DerDecodes.body Q
theorem G_law33_DerDecodes.goR {Q : AV → AHeap → Prop} {k : Nat} {p : List Nat} (hl : lookJ (places G_law33_DerDecodes.ann G_law33_DerDecodes.body) k = some (p, false)) {e : Env} {h : AHeap} (hk : atJ prog C 32 (G_law33_DerDecodes.J Q) false p G_law33_DerDecodes.ann G_law33_DerDecodes.body e h (kFun prog Tryd.f3 Q)) : G_law33_DerDecodes.J Q k e h := goJ_run (P := prog) (fn := Tryd.f3) (ann := G_law33_DerDecodes.ann) (body := G_law33_DerDecodes.body) (Q := Q) (k := k) (p := p) (e := e) (h := h) (acall_le X) G_law33_DerDecodes.dist hl hk
theorem G_law33_DerDecodes.goH {Q : AV → AHeap → Prop} {k : Nat} {p : List Nat} (hl : lookJ (places G_law33_DerDecodes.ann G_law33_DerDecodes.body) k = some (p, true)) {e : Env} {h : AHeap} (hk : atJ prog C 32 (G_law33_DerDecodes.J Q) true p G_law33_DerDecodes.ann G_law33_DerDecodes.body e h (kFun prog Tryd.f3 Q)) : G_law33_DerDecodes.J Q k e h := goJ_head (P := prog) (fn := Tryd.f3) (ann := G_law33_DerDecodes.ann) (body := G_law33_DerDecodes.body) (Q := Q) (k := k) (p := p) (e := e) (h := h) (acall_le X) G_law33_DerDecodes.dist hl hk
def G_law33_DerDecodes.p0 (Q : AV → AHeap → Prop) (x2 : Bool) (h : AHeap) : Prop := G_law33_DerDecodes.J Q 1 [(2, (AV.b x2))] h
theorem G_law33_DerDecodes.j0 (Q : AV → AHeap → Prop) (x2 : Bool) (h : AHeap) : G_law33_DerDecodes.J Q 1 [(2, (AV.b x2))] h = G_law33_DerDecodes.p0 Q x2 h := rfl
def G_law33_DerDecodes.t0 (J : JT) (Q : AV → AHeap → Prop) (x2 : Bool) (h : AHeap) : Prop :=
Q (AV.b x2) h
theorem G_law33_DerDecodes.t0_eq (J : JT) (Q : AV → AHeap → Prop) (x2 : Bool) (h : AHeap) : G_law33_DerDecodes.t0 J Q x2 h = atJ prog C 32 J false [1, 1, 1, 1, 1] G_law33_DerDecodes.ann G_law33_DerDecodes.body [(2, (AV.b x2))] h (kFun prog Tryd.f3 Q) := by kernel_rfl
theorem G_law33_DerDecodes.i0 {Q : AV → AHeap → Prop} {x2 : Bool} {h : AHeap} (H : G_law33_DerDecodes.t0 (G_law33_DerDecodes.J Q) Q x2 h) : G_law33_DerDecodes.p0 Q x2 h := G_law33_DerDecodes.goR (k := 1) (p := [1, 1, 1, 1, 1]) (by kernel_rfl) ((G_law33_DerDecodes.t0_eq (G_law33_DerDecodes.J Q) Q x2 h).mp H)
def G_law33_DerDecodes.t (J : JT) (Q : AV → AHeap → Prop) (x0 : List UInt8) (h : AHeap) : Prop :=
(bif (decide ((3000 : Int) < (x0.length : Int))) then
(C G_law33_lives.id [] h fun v2 h3 =>
asB v2 fun c4 =>
Q (AV.b c4) h3)
else
(C G_der_Decode.id [(AV.s x0)] h fun v7 h8 =>
pExtract 0 v7 fun v9 =>
pExtract 1 v7 fun v10 =>
asI .i64 v10 fun n11 =>
pAlloc [(AV.i .i64 0), (AV.i .i64 0), (AV.b false), (AV.s []), (AV.sl none 0 none)] h8 fun v12 h13 =>
pStore 5 v12 v9 h13 fun h14 =>
C G_ref33_Decode.id [(AV.s x0)] h14 fun v16 h17 =>
pExtract 0 v16 fun v18 =>
pExtract 1 v16 fun v19 =>
asI .i64 v19 fun n20 =>
pAlloc [(AV.i .i64 0), (AV.i .i64 0), (AV.b false), (AV.s []), (AV.sl none 0 none)] h17 fun v21 h22 =>
pStore 5 v21 v18 h22 fun h23 =>
pLoadN 5 v12 h23 fun v25 =>
pLoadN 5 v21 h23 fun v26 =>
C G_ref33_Same.id [v25, v26] h23 fun v27 h28 =>
asB v27 fun c29 =>
(bif c29 then
((bif (decide ((n11 : Int) = n20)) then
(C G_law33_lives.id [] h28 fun v30 h31 =>
asB v30 fun c32 =>
J 1 [(2, (AV.b c32))] h31)
else
(J 1 [(2, (AV.b false))] h28)))
else
(J 1 [(2, (AV.b false))] h28))))
theorem G_law33_DerDecodes.t_eq (J : JT) (Q : AV → AHeap → Prop) (x0 : List UInt8) (h : AHeap) : G_law33_DerDecodes.t J Q x0 h = exJ prog C 32 J G_law33_DerDecodes.ann G_law33_DerDecodes.body (initEnv 0 [(AV.s x0)]) h (kFun prog Tryd.f3 Q) := by kernel_rfl
theorem G_law33_DerDecodes.call {K : AV → AHeap → Prop} {x0 : List UInt8} {h : AHeap} (H : G_law33_DerDecodes.t (G_law33_DerDecodes.J (kRet h K)) (kRet h K) x0 h) : C G_law33_DerDecodes.id [(AV.s x0)] h K :=
  callJ (P := prog) (fn := Tryd.f3) (ann := G_law33_DerDecodes.ann) (body := G_law33_DerDecodes.body) Tryd.func3 G_law33_DerDecodes.body_eq (by kernel_rfl) G_law33_DerDecodes.dist (by kernel_rfl) ((G_law33_DerDecodes.t_eq (G_law33_DerDecodes.J (kRet h K)) (kRet h K) x0 h).mp H)


end Go.Proofs.YtffgchcidkapjaaDoor
