/- The law's text in the abstract machine: printed by Gen.lean, checked by Lean's kernel. -/
import Derived.Test.YtbphaelhhfkdiaaDoorTx0
set_option linter.unusedVariables false
set_option linter.unusedSectionVars false
set_option maxRecDepth 100000
namespace Go.Proofs.YtbphaelhhfkdiaaDoor
open Go.GAM
variable [XR]
--@@ G_law26_TransformInverts
/-! ### 9: intrusion/intrusionlaw26.TransformInverts -/
noncomputable def G_law26_TransformInverts.body : Code := (Tryd.f9.body).getD .skip
def G_law26_TransformInverts.ann : Ann := (.seq 0 [0] .leaf (.seq 0 [0] (.seq 0 [0, 10] .leaf (.br (.seq 0 [2] .leaf .leaf) .leaf)) (.seq 0 [0, 3, 4, 5] .leaf (.seq 0 [0, 4, 5] (.seq 1 [0, 4, 5, 33] .leaf (.br (.seq 0 [2] .leaf .leaf) .leaf)) (.seq 0 [0, 4, 5, 6] .leaf (.seq 0 [0, 4, 5, 6] (.seq 0 [0, 4, 5, 6, 7] .leaf (.one (.loop 2 [0, 4, 5, 6, 7] (.seq 0 [0, 4, 5, 6, 7] (.seq 0 [0, 4, 5, 6, 7, 37] .leaf (.br .leaf .leaf)) (.seq 0 [0, 4, 5, 6, 7] (.one .leaf) .leaf))))) (.seq 3 [2] .leaf .leaf)))))))
theorem G_law26_TransformInverts.body_eq : Tryd.f9.body = some G_law26_TransformInverts.body := by kernel_rfl
theorem G_law26_TransformInverts.dist : noTwice (places G_law26_TransformInverts.ann G_law26_TransformInverts.body) = true := by kernel_rfl
noncomputable def G_law26_TransformInverts.J (Q : AV → AHeap → Prop) : JT := funJ prog C Tryd.f9 G_law26_TransformInverts.ann G_law26_TransformInverts.body Q
theorem G_law26_TransformInverts.goR {Q : AV → AHeap → Prop} {k : Nat} {p : List Nat} (hl : lookJ (places G_law26_TransformInverts.ann G_law26_TransformInverts.body) k = some (p, false)) {e : Env} {h : AHeap} (hk : atJ prog C 69 (G_law26_TransformInverts.J Q) false p G_law26_TransformInverts.ann G_law26_TransformInverts.body e h (kFun prog Tryd.f9 Q)) : G_law26_TransformInverts.J Q k e h := goJ_run (P := prog) (fn := Tryd.f9) (ann := G_law26_TransformInverts.ann) (body := G_law26_TransformInverts.body) (Q := Q) (k := k) (p := p) (e := e) (h := h) (acall_le X) G_law26_TransformInverts.dist hl hk
theorem G_law26_TransformInverts.goH {Q : AV → AHeap → Prop} {k : Nat} {p : List Nat} (hl : lookJ (places G_law26_TransformInverts.ann G_law26_TransformInverts.body) k = some (p, true)) {e : Env} {h : AHeap} (hk : atJ prog C 69 (G_law26_TransformInverts.J Q) true p G_law26_TransformInverts.ann G_law26_TransformInverts.body e h (kFun prog Tryd.f9 Q)) : G_law26_TransformInverts.J Q k e h := goJ_head (P := prog) (fn := Tryd.f9) (ann := G_law26_TransformInverts.ann) (body := G_law26_TransformInverts.body) (Q := Q) (k := k) (p := p) (e := e) (h := h) (acall_le X) G_law26_TransformInverts.dist hl hk
def G_law26_TransformInverts.p0 (Q : AV → AHeap → Prop) (x0 : List UInt8) (x4 : List UInt8) (x5 : List UInt8) (x33 : Bool) (h : AHeap) : Prop := G_law26_TransformInverts.J Q 1 [(0, (AV.s x0)), (4, (AV.s x4)), (5, (AV.s x5)), (33, (AV.b x33))] h
theorem G_law26_TransformInverts.j0 (Q : AV → AHeap → Prop) (x0 : List UInt8) (x4 : List UInt8) (x5 : List UInt8) (x33 : Bool) (h : AHeap) : G_law26_TransformInverts.J Q 1 [(0, (AV.s x0)), (4, (AV.s x4)), (5, (AV.s x5)), (33, (AV.b x33))] h = G_law26_TransformInverts.p0 Q x0 x4 x5 x33 h := rfl
def G_law26_TransformInverts.p1 (Q : AV → AHeap → Prop) (x0 : List UInt8) (x4 : List UInt8) (x5 : List UInt8) (x6 : List UInt8) (x7 : Int) (h : AHeap) : Prop := G_law26_TransformInverts.J Q 2 [(0, (AV.s x0)), (4, (AV.s x4)), (5, (AV.s x5)), (6, (AV.s x6)), (7, (AV.i .i64 x7))] h
theorem G_law26_TransformInverts.j1 (Q : AV → AHeap → Prop) (x0 : List UInt8) (x4 : List UInt8) (x5 : List UInt8) (x6 : List UInt8) (x7 : Int) (h : AHeap) : G_law26_TransformInverts.J Q 2 [(0, (AV.s x0)), (4, (AV.s x4)), (5, (AV.s x5)), (6, (AV.s x6)), (7, (AV.i .i64 x7))] h = G_law26_TransformInverts.p1 Q x0 x4 x5 x6 x7 h := rfl
def G_law26_TransformInverts.p2 (Q : AV → AHeap → Prop) (x2 : Bool) (h : AHeap) : Prop := G_law26_TransformInverts.J Q 3 [(2, (AV.b x2))] h
theorem G_law26_TransformInverts.j2 (Q : AV → AHeap → Prop) (x2 : Bool) (h : AHeap) : G_law26_TransformInverts.J Q 3 [(2, (AV.b x2))] h = G_law26_TransformInverts.p2 Q x2 h := rfl
def G_law26_TransformInverts.t0 (J : JT) (Q : AV → AHeap → Prop) (x0 : List UInt8) (x4 : List UInt8) (x5 : List UInt8) (x33 : Bool) (h : AHeap) : Prop :=
(bif x33 then
(Q (AV.b false) h)
else
(J 2 [(0, (AV.s x0)), (4, (AV.s x4)), (5, (AV.s x5)), (6, (AV.s [])), (7, (AV.i .i64 0))] h))
theorem G_law26_TransformInverts.t0_eq (J : JT) (Q : AV → AHeap → Prop) (x0 : List UInt8) (x4 : List UInt8) (x5 : List UInt8) (x33 : Bool) (h : AHeap) : G_law26_TransformInverts.t0 J Q x0 x4 x5 x33 h = atJ prog C 69 J false [1, 1, 1, 0, 1] G_law26_TransformInverts.ann G_law26_TransformInverts.body [(0, (AV.s x0)), (4, (AV.s x4)), (5, (AV.s x5)), (33, (AV.b x33))] h (kFun prog Tryd.f9 Q) := by kernel_rfl
theorem G_law26_TransformInverts.i0 {Q : AV → AHeap → Prop} {x0 : List UInt8} {x4 : List UInt8} {x5 : List UInt8} {x33 : Bool} {h : AHeap} (H : G_law26_TransformInverts.t0 (G_law26_TransformInverts.J Q) Q x0 x4 x5 x33 h) : G_law26_TransformInverts.p0 Q x0 x4 x5 x33 h := G_law26_TransformInverts.goR (k := 1) (p := [1, 1, 1, 0, 1]) (by kernel_rfl) ((G_law26_TransformInverts.t0_eq (G_law26_TransformInverts.J Q) Q x0 x4 x5 x33 h).mp H)
def G_law26_TransformInverts.t1 (J : JT) (Q : AV → AHeap → Prop) (x0 : List UInt8) (x4 : List UInt8) (x5 : List UInt8) (x6 : List UInt8) (x7 : Int) (h : AHeap) : Prop :=
(bif (decide ((x7 : Int) < (x4.length : Int))) then
(withI (IntKind.wrap .i64 (x7 + 1)) fun n36 =>
pSliceStr (AV.s x4) (some (AV.i .i64 x7)) (some (AV.i .i64 n36)) fun l37 =>
pCat x6 l37 fun l38 =>
pCat l38 [13, 10] fun l39 =>
withI (IntKind.wrap .i64 (x7 + 1)) fun n41 =>
J 2 [(0, (AV.s x0)), (4, (AV.s x4)), (5, (AV.s x5)), (6, (AV.s l39)), (7, (AV.i .i64 n41))] h)
else
(C G_transform_Apply.id [(AV.i .i64 4), (AV.s x6)] h fun v43 h44 =>
asS v43 fun l45 =>
(bif (decide ((l45 : List UInt8) = x0)) then
(pRem (x4.length : Int) 4 fun n46 =>
(bif (decide ((n46 : Int) = 0)) then
(withI (IntKind.wrap .i64 (2 * (x0.length : Int))) fun n47 =>
(bif (decide (((x5.length : Int) : Int) = n47)) then
(C G_law26_awake.id [] h44 fun v48 h49 =>
asB v48 fun c50 =>
J 3 [(2, (AV.b c50))] h49)
else
(J 3 [(2, (AV.b false))] h44)))
else
(J 3 [(2, (AV.b false))] h44)))
else
(J 3 [(2, (AV.b false))] h44))))
theorem G_law26_TransformInverts.t1_eq (J : JT) (Q : AV → AHeap → Prop) (x0 : List UInt8) (x4 : List UInt8) (x5 : List UInt8) (x6 : List UInt8) (x7 : Int) (h : AHeap) : G_law26_TransformInverts.t1 J Q x0 x4 x5 x6 x7 h = atJ prog C 69 J true [1, 1, 1, 1, 1, 0, 1, 0] G_law26_TransformInverts.ann G_law26_TransformInverts.body [(0, (AV.s x0)), (4, (AV.s x4)), (5, (AV.s x5)), (6, (AV.s x6)), (7, (AV.i .i64 x7))] h (kFun prog Tryd.f9 Q) := by kernel_rfl
theorem G_law26_TransformInverts.i1 {Q : AV → AHeap → Prop} {x0 : List UInt8} {x4 : List UInt8} {x5 : List UInt8} {x6 : List UInt8} {x7 : Int} {h : AHeap} (H : G_law26_TransformInverts.t1 (G_law26_TransformInverts.J Q) Q x0 x4 x5 x6 x7 h) : G_law26_TransformInverts.p1 Q x0 x4 x5 x6 x7 h := G_law26_TransformInverts.goH (k := 2) (p := [1, 1, 1, 1, 1, 0, 1, 0]) (by kernel_rfl) ((G_law26_TransformInverts.t1_eq (G_law26_TransformInverts.J Q) Q x0 x4 x5 x6 x7 h).mp H)
def G_law26_TransformInverts.t2 (J : JT) (Q : AV → AHeap → Prop) (x2 : Bool) (h : AHeap) : Prop :=
Q (AV.b x2) h
theorem G_law26_TransformInverts.t2_eq (J : JT) (Q : AV → AHeap → Prop) (x2 : Bool) (h : AHeap) : G_law26_TransformInverts.t2 J Q x2 h = atJ prog C 69 J false [1, 1, 1, 1, 1, 1, 1] G_law26_TransformInverts.ann G_law26_TransformInverts.body [(2, (AV.b x2))] h (kFun prog Tryd.f9 Q) := by kernel_rfl
theorem G_law26_TransformInverts.i2 {Q : AV → AHeap → Prop} {x2 : Bool} {h : AHeap} (H : G_law26_TransformInverts.t2 (G_law26_TransformInverts.J Q) Q x2 h) : G_law26_TransformInverts.p2 Q x2 h := G_law26_TransformInverts.goR (k := 3) (p := [1, 1, 1, 1, 1, 1, 1]) (by kernel_rfl) ((G_law26_TransformInverts.t2_eq (G_law26_TransformInverts.J Q) Q x2 h).mp H)
def G_law26_TransformInverts.t (J : JT) (Q : AV → AHeap → Prop) (x0 : List UInt8) (h : AHeap) : Prop :=
(bif (decide ((1000 : Int) < (x0.length : Int))) then
(C G_law26_awake.id [] h fun v2 h3 =>
asB v2 fun c4 =>
Q (AV.b c4) h3)
else
(C G_transform_EncodePercent.id [(AV.s x0)] h fun v7 h8 =>
asS v7 fun l9 =>
C G_transform_EncodeBase64.id [(AV.s x0)] h8 fun v10 h11 =>
asS v10 fun l12 =>
C G_transform_EncodeHex.id [(AV.s x0)] h11 fun v13 h14 =>
asS v13 fun l15 =>
C G_transform_Apply.id [(AV.i .i64 3), (AV.s l9)] h14 fun v17 h18 =>
asS v17 fun l19 =>
(bif (!(decide ((l19 : List UInt8) = x0))) then
(J 1 [(0, (AV.s x0)), (4, (AV.s l12)), (5, (AV.s l15)), (33, (AV.b true))] h18)
else
(C G_transform_Apply.id [(AV.i .i64 4), (AV.s l12)] h18 fun v21 h22 =>
asS v21 fun l23 =>
(bif (!(decide ((l23 : List UInt8) = x0))) then
(J 1 [(0, (AV.s x0)), (4, (AV.s l12)), (5, (AV.s l15)), (33, (AV.b true))] h22)
else
(C G_transform_Apply.id [(AV.i .i64 6), (AV.s l15)] h22 fun v25 h26 =>
asS v25 fun l27 =>
J 1 [(0, (AV.s x0)), (4, (AV.s l12)), (5, (AV.s l15)), (33, (AV.b (!(decide ((l27 : List UInt8) = x0)))))] h26))))))
theorem G_law26_TransformInverts.t_eq (J : JT) (Q : AV → AHeap → Prop) (x0 : List UInt8) (h : AHeap) : G_law26_TransformInverts.t J Q x0 h = exJ prog C 69 J G_law26_TransformInverts.ann G_law26_TransformInverts.body (initEnv 0 [(AV.s x0)]) h (kFun prog Tryd.f9 Q) := by kernel_rfl
theorem G_law26_TransformInverts.call {K : AV → AHeap → Prop} {x0 : List UInt8} {h : AHeap} (H : G_law26_TransformInverts.t (G_law26_TransformInverts.J (kRet h K)) (kRet h K) x0 h) : C G_law26_TransformInverts.id [(AV.s x0)] h K :=
  callJ (P := prog) (fn := Tryd.f9) (ann := G_law26_TransformInverts.ann) (body := G_law26_TransformInverts.body) Tryd.func9 G_law26_TransformInverts.body_eq (by kernel_rfl) G_law26_TransformInverts.dist (by kernel_rfl) ((G_law26_TransformInverts.t_eq (G_law26_TransformInverts.J (kRet h K)) (kRet h K) x0 h).mp H)


end Go.Proofs.YtbphaelhhfkdiaaDoor
