/- The law's text in the abstract machine: printed by Gen.lean, checked by Lean's kernel. -/
import Derived.Test.YtbphaelhhfkdiaaDoorTx0
set_option linter.unusedVariables false
set_option linter.unusedSectionVars false
set_option maxRecDepth 100000
namespace Go.Proofs.YtbphaelhhfkdiaaDoor
open Go.GAM
variable [XR]
--@@ G_law26_TransformChains
/-! ### 7: intrusion/intrusionlaw26.TransformChains -/
noncomputable def G_law26_TransformChains.body : Code := (Tryd.f7.body).getD .skip
def G_law26_TransformChains.ann : Ann := (.seq 0 [0, 1, 2] .leaf (.seq 0 [0, 1, 2] (.seq 1 [0, 1, 2, 15] .leaf (.br (.seq 0 [6] .leaf .leaf) .leaf)) (.seq 0 [0, 1, 2] (.seq 0 [0, 1, 2, 23] .leaf (.br (.seq 0 [6] .leaf .leaf) .leaf)) (.seq 0 [0, 1, 7] .leaf (.seq 0 [0, 1, 7, 8] .leaf (.seq 2 [6] (.ord (.neu 0 (.neu 1 (.neu 2 (.neu 3 (.neu 4 (.neu 5 (.neu 6 (.neu 7 (.neu 10 (.neu 11 (.eff 8 (.eff 9 (.eff 12 (.neu 13 (.neu 14 (.eff 15 (.neu 16 (.neu 17 .done)) .stop))) .stop) .stop) .stop)))))))))))) .leaf))))))
theorem G_law26_TransformChains.body_eq : Tryd.f7.body = some G_law26_TransformChains.body := by kernel_rfl
theorem G_law26_TransformChains.dist : noTwice (places G_law26_TransformChains.ann G_law26_TransformChains.body) = true := by kernel_rfl
noncomputable def G_law26_TransformChains.J (Q : AV → AHeap → Prop) : JT := funJ prog C Tryd.f7 G_law26_TransformChains.ann G_law26_TransformChains.body Q
theorem G_law26_TransformChains.goR {Q : AV → AHeap → Prop} {k : Nat} {p : List Nat} (hl : lookJ (places G_law26_TransformChains.ann G_law26_TransformChains.body) k = some (p, false)) {e : Env} {h : AHeap} (hk : atJ prog C 50 (G_law26_TransformChains.J Q) false p G_law26_TransformChains.ann G_law26_TransformChains.body e h (kFun prog Tryd.f7 Q)) : G_law26_TransformChains.J Q k e h := goJ_run (P := prog) (fn := Tryd.f7) (ann := G_law26_TransformChains.ann) (body := G_law26_TransformChains.body) (Q := Q) (k := k) (p := p) (e := e) (h := h) (acall_le X) G_law26_TransformChains.dist hl hk
theorem G_law26_TransformChains.goH {Q : AV → AHeap → Prop} {k : Nat} {p : List Nat} (hl : lookJ (places G_law26_TransformChains.ann G_law26_TransformChains.body) k = some (p, true)) {e : Env} {h : AHeap} (hk : atJ prog C 50 (G_law26_TransformChains.J Q) true p G_law26_TransformChains.ann G_law26_TransformChains.body e h (kFun prog Tryd.f7 Q)) : G_law26_TransformChains.J Q k e h := goJ_head (P := prog) (fn := Tryd.f7) (ann := G_law26_TransformChains.ann) (body := G_law26_TransformChains.body) (Q := Q) (k := k) (p := p) (e := e) (h := h) (acall_le X) G_law26_TransformChains.dist hl hk
def G_law26_TransformChains.p0 (Q : AV → AHeap → Prop) (x0 : AV) (x1 : List UInt8) (x2 : Int) (x15 : Bool) (h : AHeap) : Prop := G_law26_TransformChains.J Q 1 [(0, x0), (1, (AV.s x1)), (2, (AV.i .u8 x2)), (15, (AV.b x15))] h
theorem G_law26_TransformChains.j0 (Q : AV → AHeap → Prop) (x0 : AV) (x1 : List UInt8) (x2 : Int) (x15 : Bool) (h : AHeap) : G_law26_TransformChains.J Q 1 [(0, x0), (1, (AV.s x1)), (2, (AV.i .u8 x2)), (15, (AV.b x15))] h = G_law26_TransformChains.p0 Q x0 x1 x2 x15 h := rfl
def G_law26_TransformChains.p1 (Q : AV → AHeap → Prop) (x6 : Bool) (h : AHeap) : Prop := G_law26_TransformChains.J Q 2 [(6, (AV.b x6))] h
theorem G_law26_TransformChains.j1 (Q : AV → AHeap → Prop) (x6 : Bool) (h : AHeap) : G_law26_TransformChains.J Q 2 [(6, (AV.b x6))] h = G_law26_TransformChains.p1 Q x6 h := rfl
def G_law26_TransformChains.t0 (J : JT) (Q : AV → AHeap → Prop) (x0 : AV) (x1 : List UInt8) (x2 : Int) (x15 : Bool) (h : AHeap) : Prop :=
(bif x15 then
(C G_law26_awake.id [] h fun v7 h8 =>
asB v7 fun c9 =>
Q (AV.b c9) h8)
else
(C G_transform_All.id [x0, (AV.s x1)] h fun v12 h13 =>
asS v12 fun l14 =>
C G_ref26_All.id [x0, (AV.s x1)] h13 fun v15 h16 =>
asS v15 fun l17 =>
(bif (!(decide ((l14 : List UInt8) = l17))) then
(Q (AV.b false) h16)
else
(pRem (IntKind.wrap .i64 x2) 5 fun n21 =>
pLenSl x0 fun n22 =>
pLenSl x0 fun n24 =>
pSliceSl 1 x0 (some (AV.i .i64 (mmI false n21 n22))) (some (AV.i .i64 (mmI false n24 4))) none h16 fun v26 =>
pSliceSl 1 x0 none (some (AV.i .i64 (mmI false n21 n22))) none h16 fun v27 =>
C G_transform_All.id [v27, (AV.s x1)] h16 fun v28 h29 =>
asS v28 fun l30 =>
pSliceSl 1 x0 (some (AV.i .i64 (mmI false n21 n22))) (some (AV.i .i64 (mmI false n24 4))) none h29 fun v31 =>
(v26 = v31 ∧
(C G_transform_All.id [v26, (AV.s l30)] h29 fun v32 h33 =>
asS v32 fun l34 =>
pSliceSl 1 x0 none (some (AV.i .i64 (mmI false n21 n22))) none h33 fun v35 =>
(v27 = v35 ∧
(C G_transform_All.id [x0, (AV.s x1)] h33 fun v36 h37 =>
asS v36 fun l38 =>
pSliceSl 1 x0 none (some (AV.i .i64 (mmI false n21 n22))) none h37 fun v39 =>
(v27 = v39 ∧
(pSliceSl 1 x0 (some (AV.i .i64 (mmI false n21 n22))) (some (AV.i .i64 (mmI false n24 4))) none h37 fun v40 =>
(v26 = v40 ∧
((bif (decide ((l34 : List UInt8) = l38)) then
(C G_law26_awake.id [] h37 fun v41 h42 =>
asB v41 fun c43 =>
pSliceSl 1 x0 none (some (AV.i .i64 (mmI false n21 n22))) none h42 fun v44 =>
(v27 = v44 ∧
(pSliceSl 1 x0 (some (AV.i .i64 (mmI false n21 n22))) (some (AV.i .i64 (mmI false n24 4))) none h42 fun v45 =>
(v26 = v45 ∧
(J 2 [(6, (AV.b c43))] h42)))))
else
(J 2 [(6, (AV.b false))] h37))))))))))))))
theorem G_law26_TransformChains.t0_eq (J : JT) (Q : AV → AHeap → Prop) (x0 : AV) (x1 : List UInt8) (x2 : Int) (x15 : Bool) (h : AHeap) : G_law26_TransformChains.t0 J Q x0 x1 x2 x15 h = atJ prog C 50 J false [1, 0, 1] G_law26_TransformChains.ann G_law26_TransformChains.body [(0, x0), (1, (AV.s x1)), (2, (AV.i .u8 x2)), (15, (AV.b x15))] h (kFun prog Tryd.f7 Q) := by kernel_rfl
theorem G_law26_TransformChains.i0 {Q : AV → AHeap → Prop} {x0 : AV} {x1 : List UInt8} {x2 : Int} {x15 : Bool} {h : AHeap} (H : G_law26_TransformChains.t0 (G_law26_TransformChains.J Q) Q x0 x1 x2 x15 h) : G_law26_TransformChains.p0 Q x0 x1 x2 x15 h := G_law26_TransformChains.goR (k := 1) (p := [1, 0, 1]) (by kernel_rfl) ((G_law26_TransformChains.t0_eq (G_law26_TransformChains.J Q) Q x0 x1 x2 x15 h).mp H)
def G_law26_TransformChains.t1 (J : JT) (Q : AV → AHeap → Prop) (x6 : Bool) (h : AHeap) : Prop :=
Q (AV.b x6) h
theorem G_law26_TransformChains.t1_eq (J : JT) (Q : AV → AHeap → Prop) (x6 : Bool) (h : AHeap) : G_law26_TransformChains.t1 J Q x6 h = atJ prog C 50 J false [1, 1, 1, 1, 1, 1] G_law26_TransformChains.ann G_law26_TransformChains.body [(6, (AV.b x6))] h (kFun prog Tryd.f7 Q) := by kernel_rfl
theorem G_law26_TransformChains.i1 {Q : AV → AHeap → Prop} {x6 : Bool} {h : AHeap} (H : G_law26_TransformChains.t1 (G_law26_TransformChains.J Q) Q x6 h) : G_law26_TransformChains.p1 Q x6 h := G_law26_TransformChains.goR (k := 2) (p := [1, 1, 1, 1, 1, 1]) (by kernel_rfl) ((G_law26_TransformChains.t1_eq (G_law26_TransformChains.J Q) Q x6 h).mp H)
def G_law26_TransformChains.t (J : JT) (Q : AV → AHeap → Prop) (x0 : AV) (x1 : List UInt8) (x2 : Int) (h : AHeap) : Prop :=
C G_law26_long.id [(AV.s x1)] h fun v1 h2 =>
asB v1 fun c3 =>
(bif c3 then
(J 1 [(0, x0), (1, (AV.s x1)), (2, (AV.i .u8 x2)), (15, (AV.b true))] h2)
else
(pLenSl x0 fun n5 =>
J 1 [(0, x0), (1, (AV.s x1)), (2, (AV.i .u8 x2)), (15, (AV.b (decide ((60 : Int) < n5))))] h2))
theorem G_law26_TransformChains.t_eq (J : JT) (Q : AV → AHeap → Prop) (x0 : AV) (x1 : List UInt8) (x2 : Int) (h : AHeap) : G_law26_TransformChains.t J Q x0 x1 x2 h = exJ prog C 50 J G_law26_TransformChains.ann G_law26_TransformChains.body (initEnv 0 [x0, (AV.s x1), (AV.i .u8 x2)]) h (kFun prog Tryd.f7 Q) := by kernel_rfl
theorem G_law26_TransformChains.call {K : AV → AHeap → Prop} {x0 : AV} {x1 : List UInt8} {x2 : Int} {h : AHeap} (H : G_law26_TransformChains.t (G_law26_TransformChains.J (kRet h K)) (kRet h K) x0 x1 x2 h) : C G_law26_TransformChains.id [x0, (AV.s x1), (AV.i .u8 x2)] h K :=
  callJ (P := prog) (fn := Tryd.f7) (ann := G_law26_TransformChains.ann) (body := G_law26_TransformChains.body) Tryd.func7 G_law26_TransformChains.body_eq (by kernel_rfl) G_law26_TransformChains.dist (by kernel_rfl) ((G_law26_TransformChains.t_eq (G_law26_TransformChains.J (kRet h K)) (kRet h K) x0 x1 x2 h).mp H)


end Go.Proofs.YtbphaelhhfkdiaaDoor
