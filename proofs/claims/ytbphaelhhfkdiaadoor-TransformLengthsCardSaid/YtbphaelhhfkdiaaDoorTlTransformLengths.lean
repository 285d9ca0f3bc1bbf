/- The law's text in the abstract machine: printed by Gen.lean, checked by Lean's kernel. -/
import Derived.Test.YtbphaelhhfkdiaaDoorTx0
set_option linter.unusedVariables false
set_option linter.unusedSectionVars false
set_option maxRecDepth 100000
namespace Go.Proofs.YtbphaelhhfkdiaaDoor
open Go.GAM
variable [XR]
--@@ G_law26_TransformLengths
/-! ### 5: intrusion/intrusionlaw26.TransformLengths -/
noncomputable def G_law26_TransformLengths.body : Code := (Tryd.f5.body).getD .skip
def G_law26_TransformLengths.ann : Ann := (.seq 0 [0, 1] .leaf (.seq 0 [0, 1] (.seq 0 [0, 1, 7] .leaf (.br (.seq 0 [4] .leaf .leaf) .leaf)) (.seq 0 [0, 1, 5] .leaf (.seq 0 [0, 1, 5] (.seq 1 [0, 1, 5, 17] .leaf (.br (.seq 2 [4] .leaf .leaf) .leaf)) (.seq 0 [1, 5] (.seq 0 [1, 5, 25] .leaf (.br (.seq 3 [4] .leaf .leaf) .leaf)) (.seq 4 [4] .leaf .leaf))))))
theorem G_law26_TransformLengths.body_eq : Tryd.f5.body = some G_law26_TransformLengths.body := by kernel_rfl
theorem G_law26_TransformLengths.dist : noTwice (places G_law26_TransformLengths.ann G_law26_TransformLengths.body) = true := by kernel_rfl
noncomputable def G_law26_TransformLengths.J (Q : AV → AHeap → Prop) : JT := funJ prog C Tryd.f5 G_law26_TransformLengths.ann G_law26_TransformLengths.body Q
theorem G_law26_TransformLengths.goR {Q : AV → AHeap → Prop} {k : Nat} {p : List Nat} (hl : lookJ (places G_law26_TransformLengths.ann G_law26_TransformLengths.body) k = some (p, false)) {e : Env} {h : AHeap} (hk : atJ prog C 61 (G_law26_TransformLengths.J Q) false p G_law26_TransformLengths.ann G_law26_TransformLengths.body e h (kFun prog Tryd.f5 Q)) : G_law26_TransformLengths.J Q k e h := goJ_run (P := prog) (fn := Tryd.f5) (ann := G_law26_TransformLengths.ann) (body := G_law26_TransformLengths.body) (Q := Q) (k := k) (p := p) (e := e) (h := h) (acall_le X) G_law26_TransformLengths.dist hl hk
theorem G_law26_TransformLengths.goH {Q : AV → AHeap → Prop} {k : Nat} {p : List Nat} (hl : lookJ (places G_law26_TransformLengths.ann G_law26_TransformLengths.body) k = some (p, true)) {e : Env} {h : AHeap} (hk : atJ prog C 61 (G_law26_TransformLengths.J Q) true p G_law26_TransformLengths.ann G_law26_TransformLengths.body e h (kFun prog Tryd.f5 Q)) : G_law26_TransformLengths.J Q k e h := goJ_head (P := prog) (fn := Tryd.f5) (ann := G_law26_TransformLengths.ann) (body := G_law26_TransformLengths.body) (Q := Q) (k := k) (p := p) (e := e) (h := h) (acall_le X) G_law26_TransformLengths.dist hl hk
def G_law26_TransformLengths.p1 (Q : AV → AHeap → Prop) (x4 : Bool) (h : AHeap) : Prop := G_law26_TransformLengths.J Q 2 [(4, (AV.b x4))] h
theorem G_law26_TransformLengths.j1 (Q : AV → AHeap → Prop) (x4 : Bool) (h : AHeap) : G_law26_TransformLengths.J Q 2 [(4, (AV.b x4))] h = G_law26_TransformLengths.p1 Q x4 h := rfl
def G_law26_TransformLengths.p0 (Q : AV → AHeap → Prop) (x0 : Int) (x1 : List UInt8) (x5 : List UInt8) (x17 : Bool) (h : AHeap) : Prop := G_law26_TransformLengths.J Q 1 [(0, (AV.i .i64 x0)), (1, (AV.s x1)), (5, (AV.s x5)), (17, (AV.b x17))] h
theorem G_law26_TransformLengths.j0 (Q : AV → AHeap → Prop) (x0 : Int) (x1 : List UInt8) (x5 : List UInt8) (x17 : Bool) (h : AHeap) : G_law26_TransformLengths.J Q 1 [(0, (AV.i .i64 x0)), (1, (AV.s x1)), (5, (AV.s x5)), (17, (AV.b x17))] h = G_law26_TransformLengths.p0 Q x0 x1 x5 x17 h := rfl
def G_law26_TransformLengths.p2 (Q : AV → AHeap → Prop) (x4 : Bool) (h : AHeap) : Prop := G_law26_TransformLengths.J Q 3 [(4, (AV.b x4))] h
theorem G_law26_TransformLengths.j2 (Q : AV → AHeap → Prop) (x4 : Bool) (h : AHeap) : G_law26_TransformLengths.J Q 3 [(4, (AV.b x4))] h = G_law26_TransformLengths.p2 Q x4 h := rfl
def G_law26_TransformLengths.p3 (Q : AV → AHeap → Prop) (x4 : Bool) (h : AHeap) : Prop := G_law26_TransformLengths.J Q 4 [(4, (AV.b x4))] h
theorem G_law26_TransformLengths.j3 (Q : AV → AHeap → Prop) (x4 : Bool) (h : AHeap) : G_law26_TransformLengths.J Q 4 [(4, (AV.b x4))] h = G_law26_TransformLengths.p3 Q x4 h := rfl
def G_law26_TransformLengths.t1 (J : JT) (Q : AV → AHeap → Prop) (x4 : Bool) (h : AHeap) : Prop :=
Q (AV.b x4) h
theorem G_law26_TransformLengths.t1_eq (J : JT) (Q : AV → AHeap → Prop) (x4 : Bool) (h : AHeap) : G_law26_TransformLengths.t1 J Q x4 h = atJ prog C 61 J false [1, 1, 1, 0, 1, 0, 1] G_law26_TransformLengths.ann G_law26_TransformLengths.body [(4, (AV.b x4))] h (kFun prog Tryd.f5 Q) := by kernel_rfl
theorem G_law26_TransformLengths.i1 {Q : AV → AHeap → Prop} {x4 : Bool} {h : AHeap} (H : G_law26_TransformLengths.t1 (G_law26_TransformLengths.J Q) Q x4 h) : G_law26_TransformLengths.p1 Q x4 h := G_law26_TransformLengths.goR (k := 2) (p := [1, 1, 1, 0, 1, 0, 1]) (by kernel_rfl) ((G_law26_TransformLengths.t1_eq (G_law26_TransformLengths.J Q) Q x4 h).mp H)
def G_law26_TransformLengths.t0 (J : JT) (Q : AV → AHeap → Prop) (x0 : Int) (x1 : List UInt8) (x5 : List UInt8) (x17 : Bool) (h : AHeap) : Prop :=
(bif x17 then
((bif (decide ((x5 : List UInt8) = x1)) then
(C G_law26_awake.id [] h fun v16 h17 =>
asB v16 fun c18 =>
J 2 [(4, (AV.b c18))] h17)
else
(J 2 [(4, (AV.b false))] h)))
else
((bif (decide ((x0 : Int) = 5)) then
((bif (decide (((x5.length : Int) : Int) ≤ (x1.length : Int))) then
((bif (!(decide ((x5 : List UInt8) = []))) then
(C G_law26_awake.id [] h fun v23 h24 =>
asB v23 fun c25 =>
J 3 [(4, (AV.b c25))] h24)
else
(J 3 [(4, (AV.b false))] h)))
else
((bif (decide ((x1 : List UInt8) = [])) then
(pCat [47] x1 fun l28 =>
(bif (decide ((x5 : List UInt8) = l28)) then
((bif (!(decide ((x5 : List UInt8) = []))) then
(C G_law26_awake.id [] h fun v29 h30 =>
asB v29 fun c31 =>
J 3 [(4, (AV.b c31))] h30)
else
(J 3 [(4, (AV.b false))] h)))
else
(J 3 [(4, (AV.b false))] h)))
else
(pIdxStr (AV.s x1) (AV.i .i64 0) fun n35 =>
(bif (decide ((n35 : Int) = 63)) then
(pCat [47] x1 fun l36 =>
(bif (decide ((x5 : List UInt8) = l36)) then
((bif (!(decide ((x5 : List UInt8) = []))) then
(C G_law26_awake.id [] h fun v37 h38 =>
asB v37 fun c39 =>
J 3 [(4, (AV.b c39))] h38)
else
(J 3 [(4, (AV.b false))] h)))
else
(J 3 [(4, (AV.b false))] h)))
else
(J 3 [(4, (AV.b false))] h)))))))
else
((bif (decide (((x5.length : Int) : Int) ≤ (x1.length : Int))) then
(C G_law26_awake.id [] h fun v45 h46 =>
asB v45 fun c47 =>
J 4 [(4, (AV.b c47))] h46)
else
(J 4 [(4, (AV.b false))] h))))))
theorem G_law26_TransformLengths.t0_eq (J : JT) (Q : AV → AHeap → Prop) (x0 : Int) (x1 : List UInt8) (x5 : List UInt8) (x17 : Bool) (h : AHeap) : G_law26_TransformLengths.t0 J Q x0 x1 x5 x17 h = atJ prog C 61 J false [1, 1, 1, 0, 1] G_law26_TransformLengths.ann G_law26_TransformLengths.body [(0, (AV.i .i64 x0)), (1, (AV.s x1)), (5, (AV.s x5)), (17, (AV.b x17))] h (kFun prog Tryd.f5 Q) := by kernel_rfl
theorem G_law26_TransformLengths.i0 {Q : AV → AHeap → Prop} {x0 : Int} {x1 : List UInt8} {x5 : List UInt8} {x17 : Bool} {h : AHeap} (H : G_law26_TransformLengths.t0 (G_law26_TransformLengths.J Q) Q x0 x1 x5 x17 h) : G_law26_TransformLengths.p0 Q x0 x1 x5 x17 h := G_law26_TransformLengths.goR (k := 1) (p := [1, 1, 1, 0, 1]) (by kernel_rfl) ((G_law26_TransformLengths.t0_eq (G_law26_TransformLengths.J Q) Q x0 x1 x5 x17 h).mp H)
def G_law26_TransformLengths.t2 (J : JT) (Q : AV → AHeap → Prop) (x4 : Bool) (h : AHeap) : Prop :=
Q (AV.b x4) h
theorem G_law26_TransformLengths.t2_eq (J : JT) (Q : AV → AHeap → Prop) (x4 : Bool) (h : AHeap) : G_law26_TransformLengths.t2 J Q x4 h = atJ prog C 61 J false [1, 1, 1, 1, 0, 1, 0, 1] G_law26_TransformLengths.ann G_law26_TransformLengths.body [(4, (AV.b x4))] h (kFun prog Tryd.f5 Q) := by kernel_rfl
theorem G_law26_TransformLengths.i2 {Q : AV → AHeap → Prop} {x4 : Bool} {h : AHeap} (H : G_law26_TransformLengths.t2 (G_law26_TransformLengths.J Q) Q x4 h) : G_law26_TransformLengths.p2 Q x4 h := G_law26_TransformLengths.goR (k := 3) (p := [1, 1, 1, 1, 0, 1, 0, 1]) (by kernel_rfl) ((G_law26_TransformLengths.t2_eq (G_law26_TransformLengths.J Q) Q x4 h).mp H)
def G_law26_TransformLengths.t3 (J : JT) (Q : AV → AHeap → Prop) (x4 : Bool) (h : AHeap) : Prop :=
Q (AV.b x4) h
theorem G_law26_TransformLengths.t3_eq (J : JT) (Q : AV → AHeap → Prop) (x4 : Bool) (h : AHeap) : G_law26_TransformLengths.t3 J Q x4 h = atJ prog C 61 J false [1, 1, 1, 1, 1, 1] G_law26_TransformLengths.ann G_law26_TransformLengths.body [(4, (AV.b x4))] h (kFun prog Tryd.f5 Q) := by kernel_rfl
theorem G_law26_TransformLengths.i3 {Q : AV → AHeap → Prop} {x4 : Bool} {h : AHeap} (H : G_law26_TransformLengths.t3 (G_law26_TransformLengths.J Q) Q x4 h) : G_law26_TransformLengths.p3 Q x4 h := G_law26_TransformLengths.goR (k := 4) (p := [1, 1, 1, 1, 1, 1]) (by kernel_rfl) ((G_law26_TransformLengths.t3_eq (G_law26_TransformLengths.J Q) Q x4 h).mp H)
def G_law26_TransformLengths.t (J : JT) (Q : AV → AHeap → Prop) (x0 : Int) (x1 : List UInt8) (h : AHeap) : Prop :=
C G_law26_long.id [(AV.s x1)] h fun v1 h2 =>
asB v1 fun c3 =>
(bif c3 then
(C G_law26_awake.id [] h2 fun v5 h6 =>
asB v5 fun c7 =>
Q (AV.b c7) h6)
else
(C G_transform_Apply.id [(AV.i .i64 x0), (AV.s x1)] h2 fun v10 h11 =>
asS v10 fun l12 =>
(bif (decide ((x0 : Int) < 1)) then
(J 1 [(0, (AV.i .i64 x0)), (1, (AV.s x1)), (5, (AV.s l12)), (17, (AV.b true))] h11)
else
(J 1 [(0, (AV.i .i64 x0)), (1, (AV.s x1)), (5, (AV.s l12)), (17, (AV.b (decide ((6 : Int) < x0))))] h11))))
theorem G_law26_TransformLengths.t_eq (J : JT) (Q : AV → AHeap → Prop) (x0 : Int) (x1 : List UInt8) (h : AHeap) : G_law26_TransformLengths.t J Q x0 x1 h = exJ prog C 61 J G_law26_TransformLengths.ann G_law26_TransformLengths.body (initEnv 0 [(AV.i .i64 x0), (AV.s x1)]) h (kFun prog Tryd.f5 Q) := by kernel_rfl
theorem G_law26_TransformLengths.call {K : AV → AHeap → Prop} {x0 : Int} {x1 : List UInt8} {h : AHeap} (H : G_law26_TransformLengths.t (G_law26_TransformLengths.J (kRet h K)) (kRet h K) x0 x1 h) : C G_law26_TransformLengths.id [(AV.i .i64 x0), (AV.s x1)] h K :=
  callJ (P := prog) (fn := Tryd.f5) (ann := G_law26_TransformLengths.ann) (body := G_law26_TransformLengths.body) Tryd.func5 G_law26_TransformLengths.body_eq (by kernel_rfl) G_law26_TransformLengths.dist (by kernel_rfl) ((G_law26_TransformLengths.t_eq (G_law26_TransformLengths.J (kRet h K)) (kRet h K) x0 x1 h).mp H)


end Go.Proofs.YtbphaelhhfkdiaaDoor
