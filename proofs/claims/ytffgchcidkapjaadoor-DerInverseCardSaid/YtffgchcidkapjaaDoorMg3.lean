/- Lemmas (several texts in one). -/
import Derived.Below
import Derived.ChangeArms
import Derived.ChangeSlices
import Derived.DataElems
import Derived.LaidMore
import Derived.Test.YtffgchcidkapjaaDoorMg2
/- Bodies' texts in the abstract machine: printed by Gen.lean, checked by Lean's kernel. -/
set_option linter.unusedVariables false
set_option linter.unusedSectionVars false
set_option maxRecDepth 100000
namespace Go.Proofs.YtffgchcidkapjaaDoor
open Go.GAM
variable [XR]
--@@ G_ref33_bytes
/-! ### 38: intrusion/intrusionref33.bytes -/
noncomputable def G_ref33_bytes.body : Code := (Tryd.f38.body).getD .skip
def G_ref33_bytes.ann : Ann := (.seq 0 [1] .leaf (.seq 0 [1, 3] .leaf (.seq 0 [1, 3, 4] .leaf (.seq 2 [3, 4] (.seq 0 [1, 3, 4, 15] .leaf (.br (.seq 0 [1, 3, 4] .leaf (.seq 0 [1, 3, 4, 5] .leaf (.one (.loop 1 [1, 3, 4, 5] (.seq 0 [1, 3, 4, 5] (.seq 0 [1, 3, 4, 5, 22] .leaf (.br .leaf .leaf)) (.seq 0 [1, 3, 4, 5] (.one .leaf) .leaf)))))) .leaf)) (.seq 3 [2] (.ord (.neu 0 (.neu 1 (.neu 4 (.neu 5 (.neu 8 (.eff 2 (.neu 3 (.eff 6 (.neu 7 (.neu 9 (.neu 10 .done))) .stop)) (.eff 6 (.eff 2 (.neu 3 (.neu 7 (.neu 9 (.neu 10 .done)))) .stop) .stop)))))))) .leaf)))))
theorem G_ref33_bytes.body_eq : Tryd.f38.body = some G_ref33_bytes.body := by kernel_rfl
theorem G_ref33_bytes.dist : noTwice (places G_ref33_bytes.ann G_ref33_bytes.body) = true := by kernel_rfl
noncomputable def G_ref33_bytes.J (Q : AV → AHeap → Prop) : JT := funJ prog C Tryd.f38 G_ref33_bytes.ann G_ref33_bytes.body Q
theorem G_ref33_bytes.goR {Q : AV → AHeap → Prop} {k : Nat} {p : List Nat} (hl : lookJ (places G_ref33_bytes.ann G_ref33_bytes.body) k = some (p, false)) {e : Env} {h : AHeap} (hk : atJ prog C 43 (G_ref33_bytes.J Q) false p G_ref33_bytes.ann G_ref33_bytes.body e h (kFun prog Tryd.f38 Q)) : G_ref33_bytes.J Q k e h := goJ_run (P := prog) (fn := Tryd.f38) (ann := G_ref33_bytes.ann) (body := G_ref33_bytes.body) (Q := Q) (k := k) (p := p) (e := e) (h := h) (acall_le X) G_ref33_bytes.dist hl hk
theorem G_ref33_bytes.goH {Q : AV → AHeap → Prop} {k : Nat} {p : List Nat} (hl : lookJ (places G_ref33_bytes.ann G_ref33_bytes.body) k = some (p, true)) {e : Env} {h : AHeap} (hk : atJ prog C 43 (G_ref33_bytes.J Q) true p G_ref33_bytes.ann G_ref33_bytes.body e h (kFun prog Tryd.f38 Q)) : G_ref33_bytes.J Q k e h := goJ_head (P := prog) (fn := Tryd.f38) (ann := G_ref33_bytes.ann) (body := G_ref33_bytes.body) (Q := Q) (k := k) (p := p) (e := e) (h := h) (acall_le X) G_ref33_bytes.dist hl hk
def G_ref33_bytes.p0 (Q : AV → AHeap → Prop) (x1 : AV) (x3 : Int) (x4 : List UInt8) (x5 : Int) (h : AHeap) : Prop := G_ref33_bytes.J Q 1 [(1, x1), (3, (AV.i .i64 x3)), (4, (AV.s x4)), (5, (AV.i .i64 x5))] h
theorem G_ref33_bytes.j0 (Q : AV → AHeap → Prop) (x1 : AV) (x3 : Int) (x4 : List UInt8) (x5 : Int) (h : AHeap) : G_ref33_bytes.J Q 1 [(1, x1), (3, (AV.i .i64 x3)), (4, (AV.s x4)), (5, (AV.i .i64 x5))] h = G_ref33_bytes.p0 Q x1 x3 x4 x5 h := rfl
def G_ref33_bytes.p2 (Q : AV → AHeap → Prop) (x2 : List UInt8) (h : AHeap) : Prop := G_ref33_bytes.J Q 3 [(2, (AV.s x2))] h
theorem G_ref33_bytes.j2 (Q : AV → AHeap → Prop) (x2 : List UInt8) (h : AHeap) : G_ref33_bytes.J Q 3 [(2, (AV.s x2))] h = G_ref33_bytes.p2 Q x2 h := rfl
def G_ref33_bytes.p1 (Q : AV → AHeap → Prop) (x3 : Int) (x4 : List UInt8) (h : AHeap) : Prop := G_ref33_bytes.J Q 2 [(3, (AV.i .i64 x3)), (4, (AV.s x4))] h
theorem G_ref33_bytes.j1 (Q : AV → AHeap → Prop) (x3 : Int) (x4 : List UInt8) (h : AHeap) : G_ref33_bytes.J Q 2 [(3, (AV.i .i64 x3)), (4, (AV.s x4))] h = G_ref33_bytes.p1 Q x3 x4 h := rfl
def G_ref33_bytes.t0 (J : JT) (Q : AV → AHeap → Prop) (x1 : AV) (x3 : Int) (x4 : List UInt8) (x5 : Int) (h : AHeap) : Prop :=
pFieldAddr 4 x1 fun v23 =>
pLoad1 v23 h fun v24 =>
pLenSl v24 fun n25 =>
(bif (decide ((x5 : Int) < n25)) then
(pFieldAddr 4 x1 fun v29 =>
pLoad1 v29 h fun v30 =>
pIdxAddrSl 5 v30 (AV.i .i64 x5) h fun v31 =>
pLoadN 5 v31 h fun v32 =>
C G_ref33_bytes.id [v32] h fun v33 h34 =>
asS v33 fun l35 =>
pCat x4 l35 fun l36 =>
withI (IntKind.wrap .i64 (x5 + 1)) fun n38 =>
J 1 [(1, x1), (3, (AV.i .i64 x3)), (4, (AV.s l36)), (5, (AV.i .i64 n38))] h34)
else
(J 2 [(3, (AV.i .i64 x3)), (4, (AV.s x4))] h))
theorem G_ref33_bytes.t0_eq (J : JT) (Q : AV → AHeap → Prop) (x1 : AV) (x3 : Int) (x4 : List UInt8) (x5 : Int) (h : AHeap) : G_ref33_bytes.t0 J Q x1 x3 x4 x5 h = atJ prog C 43 J true [1, 1, 1, 0, 1, 0, 1, 1, 0] G_ref33_bytes.ann G_ref33_bytes.body [(1, x1), (3, (AV.i .i64 x3)), (4, (AV.s x4)), (5, (AV.i .i64 x5))] h (kFun prog Tryd.f38 Q) := by kernel_rfl
theorem G_ref33_bytes.i0 {Q : AV → AHeap → Prop} {x1 : AV} {x3 : Int} {x4 : List UInt8} {x5 : Int} {h : AHeap} (H : G_ref33_bytes.t0 (G_ref33_bytes.J Q) Q x1 x3 x4 x5 h) : G_ref33_bytes.p0 Q x1 x3 x4 x5 h := G_ref33_bytes.goH (k := 1) (p := [1, 1, 1, 0, 1, 0, 1, 1, 0]) (by kernel_rfl) ((G_ref33_bytes.t0_eq (G_ref33_bytes.J Q) Q x1 x3 x4 x5 h).mp H)
def G_ref33_bytes.t2 (J : JT) (Q : AV → AHeap → Prop) (x2 : List UInt8) (h : AHeap) : Prop :=
Q (AV.s x2) h
theorem G_ref33_bytes.t2_eq (J : JT) (Q : AV → AHeap → Prop) (x2 : List UInt8) (h : AHeap) : G_ref33_bytes.t2 J Q x2 h = atJ prog C 43 J false [1, 1, 1, 1, 1] G_ref33_bytes.ann G_ref33_bytes.body [(2, (AV.s x2))] h (kFun prog Tryd.f38 Q) := by kernel_rfl
theorem G_ref33_bytes.i2 {Q : AV → AHeap → Prop} {x2 : List UInt8} {h : AHeap} (H : G_ref33_bytes.t2 (G_ref33_bytes.J Q) Q x2 h) : G_ref33_bytes.p2 Q x2 h := G_ref33_bytes.goR (k := 3) (p := [1, 1, 1, 1, 1]) (by kernel_rfl) ((G_ref33_bytes.t2_eq (G_ref33_bytes.J Q) Q x2 h).mp H)
def G_ref33_bytes.t1 (J : JT) (Q : AV → AHeap → Prop) (x3 : Int) (x4 : List UInt8) (h : AHeap) : Prop :=
((pBuildSl 1 1 [(AV.i .u8 0)] [(0, 1, (AV.i .u8 (IntKind.wrap .u8 x3)))] h fun v41 h42 =>
pBytesStr v41 h42 fun l43 =>
C G_ref33_length.id [(AV.i .i64 (x4.length : Int))] h42 fun v44 h45 =>
asS v44 fun l46 =>
pBytesStr v41 h45 fun l47 =>
((AV.s l43) = (AV.s l47) ∧
(pCat l43 l46 fun l48 =>
pCat l48 x4 fun l49 =>
J 3 [(2, (AV.s l49))] h45))) ∧
(C G_ref33_length.id [(AV.i .i64 (x4.length : Int))] h fun v51 h52 =>
asS v51 fun l53 =>
pBuildSl 1 1 [(AV.i .u8 0)] [(0, 1, (AV.i .u8 (IntKind.wrap .u8 x3)))] h52 fun v54 h55 =>
pBytesStr v54 h55 fun l56 =>
pCat l56 l53 fun l57 =>
pCat l57 x4 fun l58 =>
J 3 [(2, (AV.s l58))] h55))
theorem G_ref33_bytes.t1_eq (J : JT) (Q : AV → AHeap → Prop) (x3 : Int) (x4 : List UInt8) (h : AHeap) : G_ref33_bytes.t1 J Q x3 x4 h = atJ prog C 43 J false [1, 1, 1, 1] G_ref33_bytes.ann G_ref33_bytes.body [(3, (AV.i .i64 x3)), (4, (AV.s x4))] h (kFun prog Tryd.f38 Q) := by kernel_rfl
theorem G_ref33_bytes.i1 {Q : AV → AHeap → Prop} {x3 : Int} {x4 : List UInt8} {h : AHeap} (H : G_ref33_bytes.t1 (G_ref33_bytes.J Q) Q x3 x4 h) : G_ref33_bytes.p1 Q x3 x4 h := G_ref33_bytes.goR (k := 2) (p := [1, 1, 1, 1]) (by kernel_rfl) ((G_ref33_bytes.t1_eq (G_ref33_bytes.J Q) Q x3 x4 h).mp H)
def G_ref33_bytes.t (J : JT) (Q : AV → AHeap → Prop) (x0 : AV) (h : AHeap) : Prop :=
pBox x0 h fun v0 h1 =>
pFieldAddr 0 v0 fun v3 =>
pLoad1 v3 h1 fun v4 =>
asI .i64 v4 fun n5 =>
withI (IntKind.wrap .i64 (64 * n5)) fun n6 =>
pFieldAddr 1 v0 fun v7 =>
pLoad1 v7 h1 fun v8 =>
asI .i64 v8 fun n9 =>
withI (IntKind.wrap .i64 (n6 + n9)) fun n10 =>
pFieldAddr 3 v0 fun v12 =>
pLoad1 v12 h1 fun v13 =>
asS v13 fun l14 =>
pFieldAddr 2 v0 fun v16 =>
pLoad1 v16 h1 fun v17 =>
asB v17 fun c18 =>
(bif c18 then
(withI (IntKind.wrap .i64 (n10 + 32)) fun n20 =>
J 1 [(1, v0), (3, (AV.i .i64 n20)), (4, (AV.s l14)), (5, (AV.i .i64 0))] h1)
else
(J 2 [(3, (AV.i .i64 n10)), (4, (AV.s l14))] h1))
theorem G_ref33_bytes.t_eq (J : JT) (Q : AV → AHeap → Prop) (x0 : AV) (h : AHeap) : G_ref33_bytes.t J Q x0 h = exJ prog C 43 J G_ref33_bytes.ann G_ref33_bytes.body (initEnv 0 [x0]) h (kFun prog Tryd.f38 Q) := by kernel_rfl
theorem G_ref33_bytes.call {K : AV → AHeap → Prop} {x0 : AV} {h : AHeap} (H : G_ref33_bytes.t (G_ref33_bytes.J (kRet h K)) (kRet h K) x0 h) : C G_ref33_bytes.id [x0] h K :=
  callJ (P := prog) (fn := Tryd.f38) (ann := G_ref33_bytes.ann) (body := G_ref33_bytes.body) Tryd.func38 G_ref33_bytes.body_eq (by kernel_rfl) G_ref33_bytes.dist (by kernel_rfl) ((G_ref33_bytes.t_eq (G_ref33_bytes.J (kRet h K)) (kRet h K) x0 h).mp H)

--@@ G_der_plain
/-! ### 39: intrusion/der.plain -/
noncomputable def G_der_plain.body : Code := (Tryd.f39.body).getD .skip
def G_der_plain.ann : Ann := (.seq 0 [1, 2] .leaf (.seq 1 [4] .leaf .leaf))
theorem G_der_plain.body_eq : Tryd.f39.body = some G_der_plain.body := by kernel_rfl
theorem G_der_plain.dist : noTwice (places G_der_plain.ann G_der_plain.body) = true := by kernel_rfl
noncomputable def G_der_plain.J (Q : AV → AHeap → Prop) : JT := funJ prog C Tryd.f39 G_der_plain.ann G_der_plain.body Q
theorem G_der_plain.goR {Q : AV → AHeap → Prop} {k : Nat} {p : List Nat} (hl : lookJ (places G_der_plain.ann G_der_plain.body) k = some (p, false)) {e : Env} {h : AHeap} (hk : atJ prog C 25 (G_der_plain.J Q) false p G_der_plain.ann G_der_plain.body e h (kFun prog Tryd.f39 Q)) : G_der_plain.J Q k e h := goJ_run (P := prog) (fn := Tryd.f39) (ann := G_der_plain.ann) (body := G_der_plain.body) (Q := Q) (k := k) (p := p) (e := e) (h := h) (acall_le X) G_der_plain.dist hl hk
theorem G_der_plain.goH {Q : AV → AHeap → Prop} {k : Nat} {p : List Nat} (hl : lookJ (places G_der_plain.ann G_der_plain.body) k = some (p, true)) {e : Env} {h : AHeap} (hk : atJ prog C 25 (G_der_plain.J Q) true p G_der_plain.ann G_der_plain.body e h (kFun prog Tryd.f39 Q)) : G_der_plain.J Q k e h := goJ_head (P := prog) (fn := Tryd.f39) (ann := G_der_plain.ann) (body := G_der_plain.body) (Q := Q) (k := k) (p := p) (e := e) (h := h) (acall_le X) G_der_plain.dist hl hk
def G_der_plain.p0 (Q : AV → AHeap → Prop) (x4 : Bool) (h : AHeap) : Prop := G_der_plain.J Q 1 [(4, (AV.b x4))] h
theorem G_der_plain.j0 (Q : AV → AHeap → Prop) (x4 : Bool) (h : AHeap) : G_der_plain.J Q 1 [(4, (AV.b x4))] h = G_der_plain.p0 Q x4 h := rfl
def G_der_plain.t0 (J : JT) (Q : AV → AHeap → Prop) (x4 : Bool) (h : AHeap) : Prop :=
Q (AV.b x4) h
theorem G_der_plain.t0_eq (J : JT) (Q : AV → AHeap → Prop) (x4 : Bool) (h : AHeap) : G_der_plain.t0 J Q x4 h = atJ prog C 25 J false [1, 1] G_der_plain.ann G_der_plain.body [(4, (AV.b x4))] h (kFun prog Tryd.f39 Q) := by kernel_rfl
theorem G_der_plain.i0 {Q : AV → AHeap → Prop} {x4 : Bool} {h : AHeap} (H : G_der_plain.t0 (G_der_plain.J Q) Q x4 h) : G_der_plain.p0 Q x4 h := G_der_plain.goR (k := 1) (p := [1, 1]) (by kernel_rfl) ((G_der_plain.t0_eq (G_der_plain.J Q) Q x4 h).mp H)
def G_der_plain.t (J : JT) (Q : AV → AHeap → Prop) (x0 : AV) (x1 : Int) (h : AHeap) : Prop :=
pBox x0 h fun v0 h1 =>
pFieldAddr 0 v0 fun v3 =>
pLoad1 v3 h1 fun v4 =>
asI .i64 v4 fun n5 =>
(bif (decide ((n5 : Int) = 0)) then
(pFieldAddr 1 v0 fun v6 =>
pLoad1 v6 h1 fun v7 =>
asI .i64 v7 fun n8 =>
(bif (decide ((n8 : Int) = x1)) then
(pFieldAddr 2 v0 fun v9 =>
pLoad1 v9 h1 fun v10 =>
asB v10 fun c11 =>
(bif (!c11) then
(pFieldAddr 4 v0 fun v12 =>
pLoad1 v12 h1 fun v13 =>
pLenSl v13 fun n14 =>
J 1 [(4, (AV.b (decide ((n14 : Int) = 0))))] h1)
else
(J 1 [(4, (AV.b false))] h1)))
else
(J 1 [(4, (AV.b false))] h1)))
else
(J 1 [(4, (AV.b false))] h1))
theorem G_der_plain.t_eq (J : JT) (Q : AV → AHeap → Prop) (x0 : AV) (x1 : Int) (h : AHeap) : G_der_plain.t J Q x0 x1 h = exJ prog C 25 J G_der_plain.ann G_der_plain.body (initEnv 0 [x0, (AV.i .i64 x1)]) h (kFun prog Tryd.f39 Q) := by kernel_rfl
theorem G_der_plain.call {K : AV → AHeap → Prop} {x0 : AV} {x1 : Int} {h : AHeap} (H : G_der_plain.t (G_der_plain.J (kRet h K)) (kRet h K) x0 x1 h) : C G_der_plain.id [x0, (AV.i .i64 x1)] h K :=
  callJ (P := prog) (fn := Tryd.f39) (ann := G_der_plain.ann) (body := G_der_plain.body) Tryd.func39 G_der_plain.body_eq (by kernel_rfl) G_der_plain.dist (by kernel_rfl) ((G_der_plain.t_eq (G_der_plain.J (kRet h K)) (kRet h K) x0 x1 h).mp H)

--@@ G_ref33_plain
/-! ### 40: intrusion/intrusionref33.plain -/
noncomputable def G_ref33_plain.body : Code := (Tryd.f40.body).getD .skip
def G_ref33_plain.ann : Ann := (.seq 0 [1, 2] .leaf (.seq 1 [4] .leaf .leaf))
theorem G_ref33_plain.body_eq : Tryd.f40.body = some G_ref33_plain.body := by kernel_rfl
theorem G_ref33_plain.dist : noTwice (places G_ref33_plain.ann G_ref33_plain.body) = true := by kernel_rfl
noncomputable def G_ref33_plain.J (Q : AV → AHeap → Prop) : JT := funJ prog C Tryd.f40 G_ref33_plain.ann G_ref33_plain.body Q
theorem G_ref33_plain.goR {Q : AV → AHeap → Prop} {k : Nat} {p : List Nat} (hl : lookJ (places G_ref33_plain.ann G_ref33_plain.body) k = some (p, false)) {e : Env} {h : AHeap} (hk : atJ prog C 25 (G_ref33_plain.J Q) false p G_ref33_plain.ann G_ref33_plain.body e h (kFun prog Tryd.f40 Q)) : G_ref33_plain.J Q k e h := goJ_run (P := prog) (fn := Tryd.f40) (ann := G_ref33_plain.ann) (body := G_ref33_plain.body) (Q := Q) (k := k) (p := p) (e := e) (h := h) (acall_le X) G_ref33_plain.dist hl hk
theorem G_ref33_plain.goH {Q : AV → AHeap → Prop} {k : Nat} {p : List Nat} (hl : lookJ (places G_ref33_plain.ann G_ref33_plain.body) k = some (p, true)) {e : Env} {h : AHeap} (hk : atJ prog C 25 (G_ref33_plain.J Q) true p G_ref33_plain.ann G_ref33_plain.body e h (kFun prog Tryd.f40 Q)) : G_ref33_plain.J Q k e h := goJ_head (P := prog) (fn := Tryd.f40) (ann := G_ref33_plain.ann) (body := G_ref33_plain.body) (Q := Q) (k := k) (p := p) (e := e) (h := h) (acall_le X) G_ref33_plain.dist hl hk
def G_ref33_plain.p0 (Q : AV → AHeap → Prop) (x4 : Bool) (h : AHeap) : Prop := G_ref33_plain.J Q 1 [(4, (AV.b x4))] h
theorem G_ref33_plain.j0 (Q : AV → AHeap → Prop) (x4 : Bool) (h : AHeap) : G_ref33_plain.J Q 1 [(4, (AV.b x4))] h = G_ref33_plain.p0 Q x4 h := rfl
def G_ref33_plain.t0 (J : JT) (Q : AV → AHeap → Prop) (x4 : Bool) (h : AHeap) : Prop :=
Q (AV.b x4) h
theorem G_ref33_plain.t0_eq (J : JT) (Q : AV → AHeap → Prop) (x4 : Bool) (h : AHeap) : G_ref33_plain.t0 J Q x4 h = atJ prog C 25 J false [1, 1] G_ref33_plain.ann G_ref33_plain.body [(4, (AV.b x4))] h (kFun prog Tryd.f40 Q) := by kernel_rfl
theorem G_ref33_plain.i0 {Q : AV → AHeap → Prop} {x4 : Bool} {h : AHeap} (H : G_ref33_plain.t0 (G_ref33_plain.J Q) Q x4 h) : G_ref33_plain.p0 Q x4 h := G_ref33_plain.goR (k := 1) (p := [1, 1]) (by kernel_rfl) ((G_ref33_plain.t0_eq (G_ref33_plain.J Q) Q x4 h).mp H)
def G_ref33_plain.t (J : JT) (Q : AV → AHeap → Prop) (x0 : AV) (x1 : Int) (h : AHeap) : Prop :=
pBox x0 h fun v0 h1 =>
pFieldAddr 0 v0 fun v3 =>
pLoad1 v3 h1 fun v4 =>
asI .i64 v4 fun n5 =>
(bif (decide ((n5 : Int) = 0)) then
(pFieldAddr 1 v0 fun v6 =>
pLoad1 v6 h1 fun v7 =>
asI .i64 v7 fun n8 =>
(bif (decide ((n8 : Int) = x1)) then
(pFieldAddr 2 v0 fun v9 =>
pLoad1 v9 h1 fun v10 =>
asB v10 fun c11 =>
(bif (!c11) then
(pFieldAddr 4 v0 fun v12 =>
pLoad1 v12 h1 fun v13 =>
pLenSl v13 fun n14 =>
J 1 [(4, (AV.b (decide ((n14 : Int) = 0))))] h1)
else
(J 1 [(4, (AV.b false))] h1)))
else
(J 1 [(4, (AV.b false))] h1)))
else
(J 1 [(4, (AV.b false))] h1))
theorem G_ref33_plain.t_eq (J : JT) (Q : AV → AHeap → Prop) (x0 : AV) (x1 : Int) (h : AHeap) : G_ref33_plain.t J Q x0 x1 h = exJ prog C 25 J G_ref33_plain.ann G_ref33_plain.body (initEnv 0 [x0, (AV.i .i64 x1)]) h (kFun prog Tryd.f40 Q) := by kernel_rfl
theorem G_ref33_plain.call {K : AV → AHeap → Prop} {x0 : AV} {x1 : Int} {h : AHeap} (H : G_ref33_plain.t (G_ref33_plain.J (kRet h K)) (kRet h K) x0 x1 h) : C G_ref33_plain.id [x0, (AV.i .i64 x1)] h K :=
  callJ (P := prog) (fn := Tryd.f40) (ann := G_ref33_plain.ann) (body := G_ref33_plain.body) Tryd.func40 G_ref33_plain.body_eq (by kernel_rfl) G_ref33_plain.dist (by kernel_rfl) ((G_ref33_plain.t_eq (G_ref33_plain.J (kRet h K)) (kRet h K) x0 x1 h).mp H)

--@@ G_der_all_byte_
/-! ### 41: intrusion/der.all[byte] -/
noncomputable def G_der_all_byte_.body : Code := (Tryd.f41.body).getD .skip
def G_der_all_byte_.ann : Ann := (.seq 0 [0, 1] .leaf (.seq 0 [] (.seq 0 [1, 7, 8, 9] .leaf (.one (.loop 1 [1, 7, 8, 9] (.seq 0 [1, 7, 8, 9, 10] .leaf (.seq 0 [1, 7, 8, 9] (.br .leaf .leaf) (.seq 0 [1, 7, 8, 9] (.one (.seq 0 [1, 6, 7, 8, 9] .leaf (.seq 0 [1, 7, 8, 9, 16] .leaf (.br (.seq 0 [4] .leaf .leaf) .leaf)))) .leaf)))))) (.seq 0 [4] .leaf .leaf)))
theorem G_der_all_byte_.body_eq : Tryd.f41.body = some G_der_all_byte_.body := by kernel_rfl
theorem G_der_all_byte_.dist : noTwice (places G_der_all_byte_.ann G_der_all_byte_.body) = true := by kernel_rfl
noncomputable def G_der_all_byte_.J (Q : AV → AHeap → Prop) : JT := funJ prog C Tryd.f41 G_der_all_byte_.ann G_der_all_byte_.body Q
theorem G_der_all_byte_.goR {Q : AV → AHeap → Prop} {k : Nat} {p : List Nat} (hl : lookJ (places G_der_all_byte_.ann G_der_all_byte_.body) k = some (p, false)) {e : Env} {h : AHeap} (hk : atJ prog C 18 (G_der_all_byte_.J Q) false p G_der_all_byte_.ann G_der_all_byte_.body e h (kFun prog Tryd.f41 Q)) : G_der_all_byte_.J Q k e h := goJ_run (P := prog) (fn := Tryd.f41) (ann := G_der_all_byte_.ann) (body := G_der_all_byte_.body) (Q := Q) (k := k) (p := p) (e := e) (h := h) (acall_le X) G_der_all_byte_.dist hl hk
theorem G_der_all_byte_.goH {Q : AV → AHeap → Prop} {k : Nat} {p : List Nat} (hl : lookJ (places G_der_all_byte_.ann G_der_all_byte_.body) k = some (p, true)) {e : Env} {h : AHeap} (hk : atJ prog C 18 (G_der_all_byte_.J Q) true p G_der_all_byte_.ann G_der_all_byte_.body e h (kFun prog Tryd.f41 Q)) : G_der_all_byte_.J Q k e h := goJ_head (P := prog) (fn := Tryd.f41) (ann := G_der_all_byte_.ann) (body := G_der_all_byte_.body) (Q := Q) (k := k) (p := p) (e := e) (h := h) (acall_le X) G_der_all_byte_.dist hl hk
def G_der_all_byte_.p0 (Q : AV → AHeap → Prop) (x1 : AV) (x7 : AV) (x8 : Int) (x9 : Int) (h : AHeap) : Prop := G_der_all_byte_.J Q 1 [(1, x1), (7, x7), (8, (AV.i .i64 x8)), (9, (AV.i .i64 x9))] h
theorem G_der_all_byte_.j0 (Q : AV → AHeap → Prop) (x1 : AV) (x7 : AV) (x8 : Int) (x9 : Int) (h : AHeap) : G_der_all_byte_.J Q 1 [(1, x1), (7, x7), (8, (AV.i .i64 x8)), (9, (AV.i .i64 x9))] h = G_der_all_byte_.p0 Q x1 x7 x8 x9 h := rfl
def G_der_all_byte_.t0 (J : JT) (Q : AV → AHeap → Prop) (x1 : AV) (x7 : AV) (x8 : Int) (x9 : Int) (h : AHeap) : Prop :=
(bif (decide ((x9 : Int) < x8)) then
(pIdxAddrSl 1 x7 (AV.i .i64 x9) h fun v6 =>
pLoad1 v6 h fun v7 =>
asI .u8 v7 fun n8 =>
pCallV C x1 [(AV.i .u8 n8)] h fun v10 h11 =>
asB v10 fun c12 =>
(bif (!c12) then
(Q (AV.b false) h11)
else
(withI (IntKind.wrap .i64 (x9 + 1)) fun n16 =>
J 1 [(1, x1), (7, x7), (8, (AV.i .i64 x8)), (9, (AV.i .i64 n16))] h11)))
else
(Q (AV.b true) h))
theorem G_der_all_byte_.t0_eq (J : JT) (Q : AV → AHeap → Prop) (x1 : AV) (x7 : AV) (x8 : Int) (x9 : Int) (h : AHeap) : G_der_all_byte_.t0 J Q x1 x7 x8 x9 h = atJ prog C 18 J true [1, 0, 1, 0] G_der_all_byte_.ann G_der_all_byte_.body [(1, x1), (7, x7), (8, (AV.i .i64 x8)), (9, (AV.i .i64 x9))] h (kFun prog Tryd.f41 Q) := by kernel_rfl
theorem G_der_all_byte_.i0 {Q : AV → AHeap → Prop} {x1 : AV} {x7 : AV} {x8 : Int} {x9 : Int} {h : AHeap} (H : G_der_all_byte_.t0 (G_der_all_byte_.J Q) Q x1 x7 x8 x9 h) : G_der_all_byte_.p0 Q x1 x7 x8 x9 h := G_der_all_byte_.goH (k := 1) (p := [1, 0, 1, 0]) (by kernel_rfl) ((G_der_all_byte_.t0_eq (G_der_all_byte_.J Q) Q x1 x7 x8 x9 h).mp H)
def G_der_all_byte_.t (J : JT) (Q : AV → AHeap → Prop) (x0 : AV) (x1 : AV) (h : AHeap) : Prop :=
pLenSl x0 fun n1 =>
J 1 [(1, x1), (7, x0), (8, (AV.i .i64 n1)), (9, (AV.i .i64 0))] h
theorem G_der_all_byte_.t_eq (J : JT) (Q : AV → AHeap → Prop) (x0 : AV) (x1 : AV) (h : AHeap) : G_der_all_byte_.t J Q x0 x1 h = exJ prog C 18 J G_der_all_byte_.ann G_der_all_byte_.body (initEnv 0 [x0, x1]) h (kFun prog Tryd.f41 Q) := by kernel_rfl
theorem G_der_all_byte_.call {K : AV → AHeap → Prop} {x0 : AV} {x1 : AV} {h : AHeap} (H : G_der_all_byte_.t (G_der_all_byte_.J (kRet h K)) (kRet h K) x0 x1 h) : C G_der_all_byte_.id [x0, x1] h K :=
  callJ (P := prog) (fn := Tryd.f41) (ann := G_der_all_byte_.ann) (body := G_der_all_byte_.body) Tryd.func41 G_der_all_byte_.body_eq (by kernel_rfl) G_der_all_byte_.dist (by kernel_rfl) ((G_der_all_byte_.t_eq (G_der_all_byte_.J (kRet h K)) (kRet h K) x0 x1 h).mp H)

--@@ G_der_Time_1
/-! ### 42: intrusion/der.Time$1 -/
noncomputable def G_der_Time_1.body : Code := (Tryd.f42.body).getD .skip
def G_der_Time_1.ann : Ann := (.seq 0 [0] .leaf (.seq 1 [2] .leaf .leaf))
theorem G_der_Time_1.body_eq : Tryd.f42.body = some G_der_Time_1.body := by kernel_rfl
theorem G_der_Time_1.dist : noTwice (places G_der_Time_1.ann G_der_Time_1.body) = true := by kernel_rfl
noncomputable def G_der_Time_1.J (Q : AV → AHeap → Prop) : JT := funJ prog C Tryd.f42 G_der_Time_1.ann G_der_Time_1.body Q
theorem G_der_Time_1.goR {Q : AV → AHeap → Prop} {k : Nat} {p : List Nat} (hl : lookJ (places G_der_Time_1.ann G_der_Time_1.body) k = some (p, false)) {e : Env} {h : AHeap} (hk : atJ prog C 9 (G_der_Time_1.J Q) false p G_der_Time_1.ann G_der_Time_1.body e h (kFun prog Tryd.f42 Q)) : G_der_Time_1.J Q k e h := goJ_run (P := prog) (fn := Tryd.f42) (ann := G_der_Time_1.ann) (body := G_der_Time_1.body) (Q := Q) (k := k) (p := p) (e := e) (h := h) (acall_le X) G_der_Time_1.dist hl hk
theorem G_der_Time_1.goH {Q : AV → AHeap → Prop} {k : Nat} {p : List Nat} (hl : lookJ (places G_der_Time_1.ann G_der_Time_1.body) k = some (p, true)) {e : Env} {h : AHeap} (hk : atJ prog C 9 (G_der_Time_1.J Q) true p G_der_Time_1.ann G_der_Time_1.body e h (kFun prog Tryd.f42 Q)) : G_der_Time_1.J Q k e h := goJ_head (P := prog) (fn := Tryd.f42) (ann := G_der_Time_1.ann) (body := G_der_Time_1.body) (Q := Q) (k := k) (p := p) (e := e) (h := h) (acall_le X) G_der_Time_1.dist hl hk
def G_der_Time_1.p0 (Q : AV → AHeap → Prop) (x2 : Bool) (h : AHeap) : Prop := G_der_Time_1.J Q 1 [(2, (AV.b x2))] h
theorem G_der_Time_1.j0 (Q : AV → AHeap → Prop) (x2 : Bool) (h : AHeap) : G_der_Time_1.J Q 1 [(2, (AV.b x2))] h = G_der_Time_1.p0 Q x2 h := rfl
def G_der_Time_1.t0 (J : JT) (Q : AV → AHeap → Prop) (x2 : Bool) (h : AHeap) : Prop :=
Q (AV.b x2) h
theorem G_der_Time_1.t0_eq (J : JT) (Q : AV → AHeap → Prop) (x2 : Bool) (h : AHeap) : G_der_Time_1.t0 J Q x2 h = atJ prog C 9 J false [1, 1] G_der_Time_1.ann G_der_Time_1.body [(2, (AV.b x2))] h (kFun prog Tryd.f42 Q) := by kernel_rfl
theorem G_der_Time_1.i0 {Q : AV → AHeap → Prop} {x2 : Bool} {h : AHeap} (H : G_der_Time_1.t0 (G_der_Time_1.J Q) Q x2 h) : G_der_Time_1.p0 Q x2 h := G_der_Time_1.goR (k := 1) (p := [1, 1]) (by kernel_rfl) ((G_der_Time_1.t0_eq (G_der_Time_1.J Q) Q x2 h).mp H)
def G_der_Time_1.t (J : JT) (Q : AV → AHeap → Prop) (x0 : Int) (h : AHeap) : Prop :=
(bif (decide ((48 : Int) ≤ x0)) then
(J 1 [(2, (AV.b (decide ((x0 : Int) ≤ 57))))] h)
else
(J 1 [(2, (AV.b false))] h))
theorem G_der_Time_1.t_eq (J : JT) (Q : AV → AHeap → Prop) (x0 : Int) (h : AHeap) : G_der_Time_1.t J Q x0 h = exJ prog C 9 J G_der_Time_1.ann G_der_Time_1.body (initEnv 0 [(AV.i .u8 x0)]) h (kFun prog Tryd.f42 Q) := by kernel_rfl
theorem G_der_Time_1.call {K : AV → AHeap → Prop} {x0 : Int} {h : AHeap} (H : G_der_Time_1.t (G_der_Time_1.J (kRet h K)) (kRet h K) x0 h) : C G_der_Time_1.id [(AV.i .u8 x0)] h K :=
  callJ (P := prog) (fn := Tryd.f42) (ann := G_der_Time_1.ann) (body := G_der_Time_1.body) Tryd.func42 G_der_Time_1.body_eq (by kernel_rfl) G_der_Time_1.dist (by kernel_rfl) ((G_der_Time_1.t_eq (G_der_Time_1.J (kRet h K)) (kRet h K) x0 h).mp H)

--@@ G_der_days
/-! ### 43: intrusion/der.days -/
noncomputable def G_der_days.body : Code := (Tryd.f43.body).getD .skip
def G_der_days.ann : Ann := (.seq 0 [0, 1] .leaf (.seq 0 [] (.seq 0 [0, 5] .leaf (.one (.seq 0 [0, 5, 6] .leaf (.br (.seq 0 [] (.seq 0 [9] .leaf (.br (.seq 0 [4] .leaf .leaf) .leaf)) (.seq 0 [4] .leaf .leaf)) (.seq 1 [10] (.seq 0 [5, 10] .leaf (.br .leaf (.seq 0 [5, 10] .leaf (.br .leaf (.seq 0 [5, 10] .leaf (.br .leaf .leaf)))))) (.br (.seq 0 [4] .leaf .leaf) .leaf)))))) (.seq 0 [4] .leaf .leaf)))
theorem G_der_days.body_eq : Tryd.f43.body = some G_der_days.body := by kernel_rfl
theorem G_der_days.dist : noTwice (places G_der_days.ann G_der_days.body) = true := by kernel_rfl
noncomputable def G_der_days.J (Q : AV → AHeap → Prop) : JT := funJ prog C Tryd.f43 G_der_days.ann G_der_days.body Q
theorem G_der_days.goR {Q : AV → AHeap → Prop} {k : Nat} {p : List Nat} (hl : lookJ (places G_der_days.ann G_der_days.body) k = some (p, false)) {e : Env} {h : AHeap} (hk : atJ prog C 15 (G_der_days.J Q) false p G_der_days.ann G_der_days.body e h (kFun prog Tryd.f43 Q)) : G_der_days.J Q k e h := goJ_run (P := prog) (fn := Tryd.f43) (ann := G_der_days.ann) (body := G_der_days.body) (Q := Q) (k := k) (p := p) (e := e) (h := h) (acall_le X) G_der_days.dist hl hk
theorem G_der_days.goH {Q : AV → AHeap → Prop} {k : Nat} {p : List Nat} (hl : lookJ (places G_der_days.ann G_der_days.body) k = some (p, true)) {e : Env} {h : AHeap} (hk : atJ prog C 15 (G_der_days.J Q) true p G_der_days.ann G_der_days.body e h (kFun prog Tryd.f43 Q)) : G_der_days.J Q k e h := goJ_head (P := prog) (fn := Tryd.f43) (ann := G_der_days.ann) (body := G_der_days.body) (Q := Q) (k := k) (p := p) (e := e) (h := h) (acall_le X) G_der_days.dist hl hk
def G_der_days.p0 (Q : AV → AHeap → Prop) (x10 : Bool) (h : AHeap) : Prop := G_der_days.J Q 1 [(10, (AV.b x10))] h
theorem G_der_days.j0 (Q : AV → AHeap → Prop) (x10 : Bool) (h : AHeap) : G_der_days.J Q 1 [(10, (AV.b x10))] h = G_der_days.p0 Q x10 h := rfl
def G_der_days.t0 (J : JT) (Q : AV → AHeap → Prop) (x10 : Bool) (h : AHeap) : Prop :=
(bif x10 then
(Q (AV.i .i64 30) h)
else
(Q (AV.i .i64 31) h))
theorem G_der_days.t0_eq (J : JT) (Q : AV → AHeap → Prop) (x10 : Bool) (h : AHeap) : G_der_days.t0 J Q x10 h = atJ prog C 15 J false [1, 0, 1, 0, 1, 1, 1] G_der_days.ann G_der_days.body [(10, (AV.b x10))] h (kFun prog Tryd.f43 Q) := by kernel_rfl
theorem G_der_days.i0 {Q : AV → AHeap → Prop} {x10 : Bool} {h : AHeap} (H : G_der_days.t0 (G_der_days.J Q) Q x10 h) : G_der_days.p0 Q x10 h := G_der_days.goR (k := 1) (p := [1, 0, 1, 0, 1, 1, 1]) (by kernel_rfl) ((G_der_days.t0_eq (G_der_days.J Q) Q x10 h).mp H)
def G_der_days.t (J : JT) (Q : AV → AHeap → Prop) (x0 : Int) (x1 : Int) (h : AHeap) : Prop :=
(bif (decide ((x1 : Int) = 2)) then
(C G_der_leap.id [(AV.i .i64 x0)] h fun v3 h4 =>
asB v3 fun c5 =>
(bif c5 then
(Q (AV.i .i64 29) h4)
else
(Q (AV.i .i64 28) h4)))
else
((bif (decide ((x1 : Int) = 4)) then
(J 1 [(10, (AV.b (decide ((x1 : Int) = 4))))] h)
else
((bif (decide ((x1 : Int) = 6)) then
(J 1 [(10, (AV.b (decide ((x1 : Int) = 6))))] h)
else
((bif (decide ((x1 : Int) = 9)) then
(J 1 [(10, (AV.b (decide ((x1 : Int) = 9))))] h)
else
(J 1 [(10, (AV.b (decide ((x1 : Int) = 11))))] h))))))))
theorem G_der_days.t_eq (J : JT) (Q : AV → AHeap → Prop) (x0 : Int) (x1 : Int) (h : AHeap) : G_der_days.t J Q x0 x1 h = exJ prog C 15 J G_der_days.ann G_der_days.body (initEnv 0 [(AV.i .i64 x0), (AV.i .i64 x1)]) h (kFun prog Tryd.f43 Q) := by kernel_rfl
theorem G_der_days.call {K : AV → AHeap → Prop} {x0 : Int} {x1 : Int} {h : AHeap} (H : G_der_days.t (G_der_days.J (kRet h K)) (kRet h K) x0 x1 h) : C G_der_days.id [(AV.i .i64 x0), (AV.i .i64 x1)] h K :=
  callJ (P := prog) (fn := Tryd.f43) (ann := G_der_days.ann) (body := G_der_days.body) Tryd.func43 G_der_days.body_eq (by kernel_rfl) G_der_days.dist (by kernel_rfl) ((G_der_days.t_eq (G_der_days.J (kRet h K)) (kRet h K) x0 x1 h).mp H)

--@@ G_der_before
/-! ### 44: intrusion/der.before -/
noncomputable def G_der_before.body : Code := (Tryd.f44.body).getD .skip
def G_der_before.ann : Ann := (.seq 0 [0] .leaf (.seq 0 [0, 3] .leaf (.seq 0 [2] .leaf .leaf)))
theorem G_der_before.body_eq : Tryd.f44.body = some G_der_before.body := by kernel_rfl
theorem G_der_before.dist : noTwice (places G_der_before.ann G_der_before.body) = true := by kernel_rfl
noncomputable def G_der_before.J (Q : AV → AHeap → Prop) : JT := funJ prog C Tryd.f44 G_der_before.ann G_der_before.body Q
theorem G_der_before.goR {Q : AV → AHeap → Prop} {k : Nat} {p : List Nat} (hl : lookJ (places G_der_before.ann G_der_before.body) k = some (p, false)) {e : Env} {h : AHeap} (hk : atJ prog C 15 (G_der_before.J Q) false p G_der_before.ann G_der_before.body e h (kFun prog Tryd.f44 Q)) : G_der_before.J Q k e h := goJ_run (P := prog) (fn := Tryd.f44) (ann := G_der_before.ann) (body := G_der_before.body) (Q := Q) (k := k) (p := p) (e := e) (h := h) (acall_le X) G_der_before.dist hl hk
theorem G_der_before.goH {Q : AV → AHeap → Prop} {k : Nat} {p : List Nat} (hl : lookJ (places G_der_before.ann G_der_before.body) k = some (p, true)) {e : Env} {h : AHeap} (hk : atJ prog C 15 (G_der_before.J Q) true p G_der_before.ann G_der_before.body e h (kFun prog Tryd.f44 Q)) : G_der_before.J Q k e h := goJ_head (P := prog) (fn := Tryd.f44) (ann := G_der_before.ann) (body := G_der_before.body) (Q := Q) (k := k) (p := p) (e := e) (h := h) (acall_le X) G_der_before.dist hl hk
def G_der_before.t (J : JT) (Q : AV → AHeap → Prop) (x0 : Int) (h : AHeap) : Prop :=
withI (IntKind.wrap .i64 (x0 - 1970)) fun n2 =>
withI (IntKind.wrap .i64 (365 * n2)) fun n3 =>
withI (IntKind.wrap .i64 (x0 - 1)) fun n4 =>
pCallV C (AV.fn (.func G_der_before_1.id) [] []) [(AV.i .i64 n4)] h fun v5 h6 =>
asI .i64 v5 fun n7 =>
withI (IntKind.wrap .i64 (n3 + n7)) fun n8 =>
pCallV C (AV.fn (.func G_der_before_1.id) [] []) [(AV.i .i64 1969)] h6 fun v9 h10 =>
asI .i64 v9 fun n11 =>
withI (IntKind.wrap .i64 (n8 - n11)) fun n12 =>
Q (AV.i .i64 n12) h10
theorem G_der_before.t_eq (J : JT) (Q : AV → AHeap → Prop) (x0 : Int) (h : AHeap) : G_der_before.t J Q x0 h = exJ prog C 15 J G_der_before.ann G_der_before.body (initEnv 0 [(AV.i .i64 x0)]) h (kFun prog Tryd.f44 Q) := by kernel_rfl
theorem G_der_before.call {K : AV → AHeap → Prop} {x0 : Int} {h : AHeap} (H : G_der_before.t (G_der_before.J (kRet h K)) (kRet h K) x0 h) : C G_der_before.id [(AV.i .i64 x0)] h K :=
  callJ (P := prog) (fn := Tryd.f44) (ann := G_der_before.ann) (body := G_der_before.body) Tryd.func44 G_der_before.body_eq (by kernel_rfl) G_der_before.dist (by kernel_rfl) ((G_der_before.t_eq (G_der_before.J (kRet h K)) (kRet h K) x0 h).mp H)

--@@ G_ref33_days
/-! ### 45: intrusion/intrusionref33.days -/
noncomputable def G_ref33_days.body : Code := (Tryd.f45.body).getD .skip
def G_ref33_days.ann : Ann := (.seq 0 [0, 1] .leaf (.seq 0 [] (.seq 0 [0, 5] .leaf (.one (.seq 0 [0, 5, 6] .leaf (.br (.seq 0 [] (.seq 0 [9] .leaf (.br (.seq 0 [4] .leaf .leaf) .leaf)) (.seq 0 [4] .leaf .leaf)) (.seq 1 [10] (.seq 0 [5, 10] .leaf (.br .leaf (.seq 0 [5, 10] .leaf (.br .leaf (.seq 0 [5, 10] .leaf (.br .leaf .leaf)))))) (.br (.seq 0 [4] .leaf .leaf) .leaf)))))) (.seq 0 [4] .leaf .leaf)))
theorem G_ref33_days.body_eq : Tryd.f45.body = some G_ref33_days.body := by kernel_rfl
theorem G_ref33_days.dist : noTwice (places G_ref33_days.ann G_ref33_days.body) = true := by kernel_rfl
noncomputable def G_ref33_days.J (Q : AV → AHeap → Prop) : JT := funJ prog C Tryd.f45 G_ref33_days.ann G_ref33_days.body Q
theorem G_ref33_days.goR {Q : AV → AHeap → Prop} {k : Nat} {p : List Nat} (hl : lookJ (places G_ref33_days.ann G_ref33_days.body) k = some (p, false)) {e : Env} {h : AHeap} (hk : atJ prog C 15 (G_ref33_days.J Q) false p G_ref33_days.ann G_ref33_days.body e h (kFun prog Tryd.f45 Q)) : G_ref33_days.J Q k e h := goJ_run (P := prog) (fn := Tryd.f45) (ann := G_ref33_days.ann) (body := G_ref33_days.body) (Q := Q) (k := k) (p := p) (e := e) (h := h) (acall_le X) G_ref33_days.dist hl hk
theorem G_ref33_days.goH {Q : AV → AHeap → Prop} {k : Nat} {p : List Nat} (hl : lookJ (places G_ref33_days.ann G_ref33_days.body) k = some (p, true)) {e : Env} {h : AHeap} (hk : atJ prog C 15 (G_ref33_days.J Q) true p G_ref33_days.ann G_ref33_days.body e h (kFun prog Tryd.f45 Q)) : G_ref33_days.J Q k e h := goJ_head (P := prog) (fn := Tryd.f45) (ann := G_ref33_days.ann) (body := G_ref33_days.body) (Q := Q) (k := k) (p := p) (e := e) (h := h) (acall_le X) G_ref33_days.dist hl hk
def G_ref33_days.p0 (Q : AV → AHeap → Prop) (x10 : Bool) (h : AHeap) : Prop := G_ref33_days.J Q 1 [(10, (AV.b x10))] h
theorem G_ref33_days.j0 (Q : AV → AHeap → Prop) (x10 : Bool) (h : AHeap) : G_ref33_days.J Q 1 [(10, (AV.b x10))] h = G_ref33_days.p0 Q x10 h := rfl
def G_ref33_days.t0 (J : JT) (Q : AV → AHeap → Prop) (x10 : Bool) (h : AHeap) : Prop :=
(bif x10 then
(Q (AV.i .i64 30) h)
else
(Q (AV.i .i64 31) h))
theorem G_ref33_days.t0_eq (J : JT) (Q : AV → AHeap → Prop) (x10 : Bool) (h : AHeap) : G_ref33_days.t0 J Q x10 h = atJ prog C 15 J false [1, 0, 1, 0, 1, 1, 1] G_ref33_days.ann G_ref33_days.body [(10, (AV.b x10))] h (kFun prog Tryd.f45 Q) := by kernel_rfl
theorem G_ref33_days.i0 {Q : AV → AHeap → Prop} {x10 : Bool} {h : AHeap} (H : G_ref33_days.t0 (G_ref33_days.J Q) Q x10 h) : G_ref33_days.p0 Q x10 h := G_ref33_days.goR (k := 1) (p := [1, 0, 1, 0, 1, 1, 1]) (by kernel_rfl) ((G_ref33_days.t0_eq (G_ref33_days.J Q) Q x10 h).mp H)
def G_ref33_days.t (J : JT) (Q : AV → AHeap → Prop) (x0 : Int) (x1 : Int) (h : AHeap) : Prop :=
(bif (decide ((x1 : Int) = 2)) then
(C G_ref33_leap.id [(AV.i .i64 x0)] h fun v3 h4 =>
asB v3 fun c5 =>
(bif c5 then
(Q (AV.i .i64 29) h4)
else
(Q (AV.i .i64 28) h4)))
else
((bif (decide ((x1 : Int) = 4)) then
(J 1 [(10, (AV.b (decide ((x1 : Int) = 4))))] h)
else
((bif (decide ((x1 : Int) = 6)) then
(J 1 [(10, (AV.b (decide ((x1 : Int) = 6))))] h)
else
((bif (decide ((x1 : Int) = 9)) then
(J 1 [(10, (AV.b (decide ((x1 : Int) = 9))))] h)
else
(J 1 [(10, (AV.b (decide ((x1 : Int) = 11))))] h))))))))
theorem G_ref33_days.t_eq (J : JT) (Q : AV → AHeap → Prop) (x0 : Int) (x1 : Int) (h : AHeap) : G_ref33_days.t J Q x0 x1 h = exJ prog C 15 J G_ref33_days.ann G_ref33_days.body (initEnv 0 [(AV.i .i64 x0), (AV.i .i64 x1)]) h (kFun prog Tryd.f45 Q) := by kernel_rfl
theorem G_ref33_days.call {K : AV → AHeap → Prop} {x0 : Int} {x1 : Int} {h : AHeap} (H : G_ref33_days.t (G_ref33_days.J (kRet h K)) (kRet h K) x0 x1 h) : C G_ref33_days.id [(AV.i .i64 x0), (AV.i .i64 x1)] h K :=
  callJ (P := prog) (fn := Tryd.f45) (ann := G_ref33_days.ann) (body := G_ref33_days.body) Tryd.func45 G_ref33_days.body_eq (by kernel_rfl) G_ref33_days.dist (by kernel_rfl) ((G_ref33_days.t_eq (G_ref33_days.J (kRet h K)) (kRet h K) x0 x1 h).mp H)

--@@ G_ref33_Seconds
/-! ### 46: intrusion/intrusionref33.Seconds -/
noncomputable def G_ref33_Seconds.body : Code := (Tryd.f46.body).getD .skip
def G_ref33_Seconds.ann : Ann := (.seq 0 [0, 1, 2, 3, 4, 5] .leaf (.seq 0 [0, 1, 2, 3, 4, 5, 13] .leaf (.seq 0 [0, 1, 2, 3, 4, 5, 13] (.seq 0 [0, 1, 2, 3, 4, 5, 13, 14] .leaf (.one (.loop 1 [0, 1, 2, 3, 4, 5, 13, 14] (.seq 0 [0, 1, 2, 3, 4, 5, 13, 14] (.seq 0 [0, 1, 2, 3, 4, 5, 13, 14, 18] .leaf (.br .leaf .leaf)) (.seq 2 [0, 1, 2, 3, 4, 5, 13, 14] (.one (.seq 0 [0, 1, 2, 3, 4, 5, 13, 14] .leaf (.seq 0 [0, 1, 2, 3, 4, 5, 13, 14, 24] .leaf (.br .leaf .leaf)))) .leaf))))) (.seq 0 [2, 3, 4, 5, 13] (.seq 0 [0, 1, 2, 3, 4, 5, 13, 15] .leaf (.one (.loop 3 [0, 1, 2, 3, 4, 5, 13, 15] (.seq 0 [0, 1, 2, 3, 4, 5, 13, 15] (.seq 0 [0, 1, 2, 3, 4, 5, 13, 15, 29] .leaf (.br .leaf .leaf)) (.seq 0 [0, 1, 2, 3, 4, 5, 13, 15] (.one .leaf) .leaf))))) (.seq 0 [12] .leaf .leaf)))))
theorem G_ref33_Seconds.body_eq : Tryd.f46.body = some G_ref33_Seconds.body := by kernel_rfl
theorem G_ref33_Seconds.dist : noTwice (places G_ref33_Seconds.ann G_ref33_Seconds.body) = true := by kernel_rfl
noncomputable def G_ref33_Seconds.J (Q : AV → AHeap → Prop) : JT := funJ prog C Tryd.f46 G_ref33_Seconds.ann G_ref33_Seconds.body Q
theorem G_ref33_Seconds.goR {Q : AV → AHeap → Prop} {k : Nat} {p : List Nat} (hl : lookJ (places G_ref33_Seconds.ann G_ref33_Seconds.body) k = some (p, false)) {e : Env} {h : AHeap} (hk : atJ prog C 50 (G_ref33_Seconds.J Q) false p G_ref33_Seconds.ann G_ref33_Seconds.body e h (kFun prog Tryd.f46 Q)) : G_ref33_Seconds.J Q k e h := goJ_run (P := prog) (fn := Tryd.f46) (ann := G_ref33_Seconds.ann) (body := G_ref33_Seconds.body) (Q := Q) (k := k) (p := p) (e := e) (h := h) (acall_le X) G_ref33_Seconds.dist hl hk
theorem G_ref33_Seconds.goH {Q : AV → AHeap → Prop} {k : Nat} {p : List Nat} (hl : lookJ (places G_ref33_Seconds.ann G_ref33_Seconds.body) k = some (p, true)) {e : Env} {h : AHeap} (hk : atJ prog C 50 (G_ref33_Seconds.J Q) true p G_ref33_Seconds.ann G_ref33_Seconds.body e h (kFun prog Tryd.f46 Q)) : G_ref33_Seconds.J Q k e h := goJ_head (P := prog) (fn := Tryd.f46) (ann := G_ref33_Seconds.ann) (body := G_ref33_Seconds.body) (Q := Q) (k := k) (p := p) (e := e) (h := h) (acall_le X) G_ref33_Seconds.dist hl hk
def G_ref33_Seconds.p1 (Q : AV → AHeap → Prop) (x0 : Int) (x1 : Int) (x2 : Int) (x3 : Int) (x4 : Int) (x5 : Int) (x13 : Int) (x14 : Int) (h : AHeap) : Prop := G_ref33_Seconds.J Q 2 [(0, (AV.i .i64 x0)), (1, (AV.i .i64 x1)), (2, (AV.i .i64 x2)), (3, (AV.i .i64 x3)), (4, (AV.i .i64 x4)), (5, (AV.i .i64 x5)), (13, (AV.i .i64 x13)), (14, (AV.i .i64 x14))] h
theorem G_ref33_Seconds.j1 (Q : AV → AHeap → Prop) (x0 : Int) (x1 : Int) (x2 : Int) (x3 : Int) (x4 : Int) (x5 : Int) (x13 : Int) (x14 : Int) (h : AHeap) : G_ref33_Seconds.J Q 2 [(0, (AV.i .i64 x0)), (1, (AV.i .i64 x1)), (2, (AV.i .i64 x2)), (3, (AV.i .i64 x3)), (4, (AV.i .i64 x4)), (5, (AV.i .i64 x5)), (13, (AV.i .i64 x13)), (14, (AV.i .i64 x14))] h = G_ref33_Seconds.p1 Q x0 x1 x2 x3 x4 x5 x13 x14 h := rfl
def G_ref33_Seconds.p0 (Q : AV → AHeap → Prop) (x0 : Int) (x1 : Int) (x2 : Int) (x3 : Int) (x4 : Int) (x5 : Int) (x13 : Int) (x14 : Int) (h : AHeap) : Prop := G_ref33_Seconds.J Q 1 [(0, (AV.i .i64 x0)), (1, (AV.i .i64 x1)), (2, (AV.i .i64 x2)), (3, (AV.i .i64 x3)), (4, (AV.i .i64 x4)), (5, (AV.i .i64 x5)), (13, (AV.i .i64 x13)), (14, (AV.i .i64 x14))] h
theorem G_ref33_Seconds.j0 (Q : AV → AHeap → Prop) (x0 : Int) (x1 : Int) (x2 : Int) (x3 : Int) (x4 : Int) (x5 : Int) (x13 : Int) (x14 : Int) (h : AHeap) : G_ref33_Seconds.J Q 1 [(0, (AV.i .i64 x0)), (1, (AV.i .i64 x1)), (2, (AV.i .i64 x2)), (3, (AV.i .i64 x3)), (4, (AV.i .i64 x4)), (5, (AV.i .i64 x5)), (13, (AV.i .i64 x13)), (14, (AV.i .i64 x14))] h = G_ref33_Seconds.p0 Q x0 x1 x2 x3 x4 x5 x13 x14 h := rfl
def G_ref33_Seconds.p2 (Q : AV → AHeap → Prop) (x0 : Int) (x1 : Int) (x2 : Int) (x3 : Int) (x4 : Int) (x5 : Int) (x13 : Int) (x15 : Int) (h : AHeap) : Prop := G_ref33_Seconds.J Q 3 [(0, (AV.i .i64 x0)), (1, (AV.i .i64 x1)), (2, (AV.i .i64 x2)), (3, (AV.i .i64 x3)), (4, (AV.i .i64 x4)), (5, (AV.i .i64 x5)), (13, (AV.i .i64 x13)), (15, (AV.i .i64 x15))] h
theorem G_ref33_Seconds.j2 (Q : AV → AHeap → Prop) (x0 : Int) (x1 : Int) (x2 : Int) (x3 : Int) (x4 : Int) (x5 : Int) (x13 : Int) (x15 : Int) (h : AHeap) : G_ref33_Seconds.J Q 3 [(0, (AV.i .i64 x0)), (1, (AV.i .i64 x1)), (2, (AV.i .i64 x2)), (3, (AV.i .i64 x3)), (4, (AV.i .i64 x4)), (5, (AV.i .i64 x5)), (13, (AV.i .i64 x13)), (15, (AV.i .i64 x15))] h = G_ref33_Seconds.p2 Q x0 x1 x2 x3 x4 x5 x13 x15 h := rfl
def G_ref33_Seconds.t1 (J : JT) (Q : AV → AHeap → Prop) (x0 : Int) (x1 : Int) (x2 : Int) (x3 : Int) (x4 : Int) (x5 : Int) (x13 : Int) (x14 : Int) (h : AHeap) : Prop :=
withI (IntKind.wrap .i64 (x14 + 1)) fun n15 =>
J 1 [(0, (AV.i .i64 x0)), (1, (AV.i .i64 x1)), (2, (AV.i .i64 x2)), (3, (AV.i .i64 x3)), (4, (AV.i .i64 x4)), (5, (AV.i .i64 x5)), (13, (AV.i .i64 x13)), (14, (AV.i .i64 n15))] h
theorem G_ref33_Seconds.t1_eq (J : JT) (Q : AV → AHeap → Prop) (x0 : Int) (x1 : Int) (x2 : Int) (x3 : Int) (x4 : Int) (x5 : Int) (x13 : Int) (x14 : Int) (h : AHeap) : G_ref33_Seconds.t1 J Q x0 x1 x2 x3 x4 x5 x13 x14 h = atJ prog C 50 J false [1, 1, 0, 1, 0, 0, 1, 1] G_ref33_Seconds.ann G_ref33_Seconds.body [(0, (AV.i .i64 x0)), (1, (AV.i .i64 x1)), (2, (AV.i .i64 x2)), (3, (AV.i .i64 x3)), (4, (AV.i .i64 x4)), (5, (AV.i .i64 x5)), (13, (AV.i .i64 x13)), (14, (AV.i .i64 x14))] h (kFun prog Tryd.f46 Q) := by kernel_rfl
theorem G_ref33_Seconds.i1 {Q : AV → AHeap → Prop} {x0 : Int} {x1 : Int} {x2 : Int} {x3 : Int} {x4 : Int} {x5 : Int} {x13 : Int} {x14 : Int} {h : AHeap} (H : G_ref33_Seconds.t1 (G_ref33_Seconds.J Q) Q x0 x1 x2 x3 x4 x5 x13 x14 h) : G_ref33_Seconds.p1 Q x0 x1 x2 x3 x4 x5 x13 x14 h := G_ref33_Seconds.goR (k := 2) (p := [1, 1, 0, 1, 0, 0, 1, 1]) (by kernel_rfl) ((G_ref33_Seconds.t1_eq (G_ref33_Seconds.J Q) Q x0 x1 x2 x3 x4 x5 x13 x14 h).mp H)
def G_ref33_Seconds.t0 (J : JT) (Q : AV → AHeap → Prop) (x0 : Int) (x1 : Int) (x2 : Int) (x3 : Int) (x4 : Int) (x5 : Int) (x13 : Int) (x14 : Int) (h : AHeap) : Prop :=
(bif (decide ((x14 : Int) < x0)) then
(withI (IntKind.wrap .i64 (x13 + 365)) fun n6 =>
C G_ref33_leap.id [(AV.i .i64 x14)] h fun v8 h9 =>
asB v8 fun c10 =>
(bif c10 then
(withI (IntKind.wrap .i64 (n6 + 1)) fun n12 =>
J 2 [(0, (AV.i .i64 x0)), (1, (AV.i .i64 x1)), (2, (AV.i .i64 x2)), (3, (AV.i .i64 x3)), (4, (AV.i .i64 x4)), (5, (AV.i .i64 x5)), (13, (AV.i .i64 n12)), (14, (AV.i .i64 x14))] h9)
else
(J 2 [(0, (AV.i .i64 x0)), (1, (AV.i .i64 x1)), (2, (AV.i .i64 x2)), (3, (AV.i .i64 x3)), (4, (AV.i .i64 x4)), (5, (AV.i .i64 x5)), (13, (AV.i .i64 n6)), (14, (AV.i .i64 x14))] h9)))
else
(J 3 [(0, (AV.i .i64 x0)), (1, (AV.i .i64 x1)), (2, (AV.i .i64 x2)), (3, (AV.i .i64 x3)), (4, (AV.i .i64 x4)), (5, (AV.i .i64 x5)), (13, (AV.i .i64 x13)), (15, (AV.i .i64 1))] h))
theorem G_ref33_Seconds.t0_eq (J : JT) (Q : AV → AHeap → Prop) (x0 : Int) (x1 : Int) (x2 : Int) (x3 : Int) (x4 : Int) (x5 : Int) (x13 : Int) (x14 : Int) (h : AHeap) : G_ref33_Seconds.t0 J Q x0 x1 x2 x3 x4 x5 x13 x14 h = atJ prog C 50 J true [1, 1, 0, 1, 0] G_ref33_Seconds.ann G_ref33_Seconds.body [(0, (AV.i .i64 x0)), (1, (AV.i .i64 x1)), (2, (AV.i .i64 x2)), (3, (AV.i .i64 x3)), (4, (AV.i .i64 x4)), (5, (AV.i .i64 x5)), (13, (AV.i .i64 x13)), (14, (AV.i .i64 x14))] h (kFun prog Tryd.f46 Q) := by kernel_rfl
theorem G_ref33_Seconds.i0 {Q : AV → AHeap → Prop} {x0 : Int} {x1 : Int} {x2 : Int} {x3 : Int} {x4 : Int} {x5 : Int} {x13 : Int} {x14 : Int} {h : AHeap} (H : G_ref33_Seconds.t0 (G_ref33_Seconds.J Q) Q x0 x1 x2 x3 x4 x5 x13 x14 h) : G_ref33_Seconds.p0 Q x0 x1 x2 x3 x4 x5 x13 x14 h := G_ref33_Seconds.goH (k := 1) (p := [1, 1, 0, 1, 0]) (by kernel_rfl) ((G_ref33_Seconds.t0_eq (G_ref33_Seconds.J Q) Q x0 x1 x2 x3 x4 x5 x13 x14 h).mp H)
def G_ref33_Seconds.t2 (J : JT) (Q : AV → AHeap → Prop) (x0 : Int) (x1 : Int) (x2 : Int) (x3 : Int) (x4 : Int) (x5 : Int) (x13 : Int) (x15 : Int) (h : AHeap) : Prop :=
(bif (decide ((x15 : Int) < x1)) then
(C G_ref33_days.id [(AV.i .i64 x0), (AV.i .i64 x15)] h fun v21 h22 =>
asI .i64 v21 fun n23 =>
withI (IntKind.wrap .i64 (x13 + n23)) fun n24 =>
withI (IntKind.wrap .i64 (x15 + 1)) fun n26 =>
J 3 [(0, (AV.i .i64 x0)), (1, (AV.i .i64 x1)), (2, (AV.i .i64 x2)), (3, (AV.i .i64 x3)), (4, (AV.i .i64 x4)), (5, (AV.i .i64 x5)), (13, (AV.i .i64 n24)), (15, (AV.i .i64 n26))] h22)
else
(withI (IntKind.wrap .i64 (x13 + x2)) fun n28 =>
withI (IntKind.wrap .i64 (n28 - 1)) fun n29 =>
withI (IntKind.wrap .i64 (n29 * 86400)) fun n30 =>
withI (IntKind.wrap .i64 (x3 * 3600)) fun n31 =>
withI (IntKind.wrap .i64 (n30 + n31)) fun n32 =>
withI (IntKind.wrap .i64 (x4 * 60)) fun n33 =>
withI (IntKind.wrap .i64 (n32 + n33)) fun n34 =>
withI (IntKind.wrap .i64 (n34 + x5)) fun n35 =>
Q (AV.i .i64 n35) h))
theorem G_ref33_Seconds.t2_eq (J : JT) (Q : AV → AHeap → Prop) (x0 : Int) (x1 : Int) (x2 : Int) (x3 : Int) (x4 : Int) (x5 : Int) (x13 : Int) (x15 : Int) (h : AHeap) : G_ref33_Seconds.t2 J Q x0 x1 x2 x3 x4 x5 x13 x15 h = atJ prog C 50 J true [1, 1, 1, 0, 1, 0] G_ref33_Seconds.ann G_ref33_Seconds.body [(0, (AV.i .i64 x0)), (1, (AV.i .i64 x1)), (2, (AV.i .i64 x2)), (3, (AV.i .i64 x3)), (4, (AV.i .i64 x4)), (5, (AV.i .i64 x5)), (13, (AV.i .i64 x13)), (15, (AV.i .i64 x15))] h (kFun prog Tryd.f46 Q) := by kernel_rfl
theorem G_ref33_Seconds.i2 {Q : AV → AHeap → Prop} {x0 : Int} {x1 : Int} {x2 : Int} {x3 : Int} {x4 : Int} {x5 : Int} {x13 : Int} {x15 : Int} {h : AHeap} (H : G_ref33_Seconds.t2 (G_ref33_Seconds.J Q) Q x0 x1 x2 x3 x4 x5 x13 x15 h) : G_ref33_Seconds.p2 Q x0 x1 x2 x3 x4 x5 x13 x15 h := G_ref33_Seconds.goH (k := 3) (p := [1, 1, 1, 0, 1, 0]) (by kernel_rfl) ((G_ref33_Seconds.t2_eq (G_ref33_Seconds.J Q) Q x0 x1 x2 x3 x4 x5 x13 x15 h).mp H)
def G_ref33_Seconds.t (J : JT) (Q : AV → AHeap → Prop) (x0 : Int) (x1 : Int) (x2 : Int) (x3 : Int) (x4 : Int) (x5 : Int) (h : AHeap) : Prop :=
J 1 [(0, (AV.i .i64 x0)), (1, (AV.i .i64 x1)), (2, (AV.i .i64 x2)), (3, (AV.i .i64 x3)), (4, (AV.i .i64 x4)), (5, (AV.i .i64 x5)), (13, (AV.i .i64 0)), (14, (AV.i .i64 1970))] h
theorem G_ref33_Seconds.t_eq (J : JT) (Q : AV → AHeap → Prop) (x0 : Int) (x1 : Int) (x2 : Int) (x3 : Int) (x4 : Int) (x5 : Int) (h : AHeap) : G_ref33_Seconds.t J Q x0 x1 x2 x3 x4 x5 h = exJ prog C 50 J G_ref33_Seconds.ann G_ref33_Seconds.body (initEnv 0 [(AV.i .i64 x0), (AV.i .i64 x1), (AV.i .i64 x2), (AV.i .i64 x3), (AV.i .i64 x4), (AV.i .i64 x5)]) h (kFun prog Tryd.f46 Q) := by kernel_rfl
theorem G_ref33_Seconds.call {K : AV → AHeap → Prop} {x0 : Int} {x1 : Int} {x2 : Int} {x3 : Int} {x4 : Int} {x5 : Int} {h : AHeap} (H : G_ref33_Seconds.t (G_ref33_Seconds.J (kRet h K)) (kRet h K) x0 x1 x2 x3 x4 x5 h) : C G_ref33_Seconds.id [(AV.i .i64 x0), (AV.i .i64 x1), (AV.i .i64 x2), (AV.i .i64 x3), (AV.i .i64 x4), (AV.i .i64 x5)] h K :=
  callJ (P := prog) (fn := Tryd.f46) (ann := G_ref33_Seconds.ann) (body := G_ref33_Seconds.body) Tryd.func46 G_ref33_Seconds.body_eq (by kernel_rfl) G_ref33_Seconds.dist (by kernel_rfl) ((G_ref33_Seconds.t_eq (G_ref33_Seconds.J (kRet h K)) (kRet h K) x0 x1 x2 x3 x4 x5 h).mp H)

--@@ G_der_Text_1
/-! ### 47: intrusion/der.Text$1 -/
noncomputable def G_der_Text_1.body : Code := (Tryd.f47.body).getD .skip
def G_der_Text_1.ann : Ann := (.seq 0 [0] .leaf (.seq 1 [2] .leaf .leaf))
theorem G_der_Text_1.body_eq : Tryd.f47.body = some G_der_Text_1.body := by kernel_rfl
theorem G_der_Text_1.dist : noTwice (places G_der_Text_1.ann G_der_Text_1.body) = true := by kernel_rfl
noncomputable def G_der_Text_1.J (Q : AV → AHeap → Prop) : JT := funJ prog C Tryd.f47 G_der_Text_1.ann G_der_Text_1.body Q
theorem G_der_Text_1.goR {Q : AV → AHeap → Prop} {k : Nat} {p : List Nat} (hl : lookJ (places G_der_Text_1.ann G_der_Text_1.body) k = some (p, false)) {e : Env} {h : AHeap} (hk : atJ prog C 9 (G_der_Text_1.J Q) false p G_der_Text_1.ann G_der_Text_1.body e h (kFun prog Tryd.f47 Q)) : G_der_Text_1.J Q k e h := goJ_run (P := prog) (fn := Tryd.f47) (ann := G_der_Text_1.ann) (body := G_der_Text_1.body) (Q := Q) (k := k) (p := p) (e := e) (h := h) (acall_le X) G_der_Text_1.dist hl hk
theorem G_der_Text_1.goH {Q : AV → AHeap → Prop} {k : Nat} {p : List Nat} (hl : lookJ (places G_der_Text_1.ann G_der_Text_1.body) k = some (p, true)) {e : Env} {h : AHeap} (hk : atJ prog C 9 (G_der_Text_1.J Q) true p G_der_Text_1.ann G_der_Text_1.body e h (kFun prog Tryd.f47 Q)) : G_der_Text_1.J Q k e h := goJ_head (P := prog) (fn := Tryd.f47) (ann := G_der_Text_1.ann) (body := G_der_Text_1.body) (Q := Q) (k := k) (p := p) (e := e) (h := h) (acall_le X) G_der_Text_1.dist hl hk
def G_der_Text_1.p0 (Q : AV → AHeap → Prop) (x2 : Bool) (h : AHeap) : Prop := G_der_Text_1.J Q 1 [(2, (AV.b x2))] h
theorem G_der_Text_1.j0 (Q : AV → AHeap → Prop) (x2 : Bool) (h : AHeap) : G_der_Text_1.J Q 1 [(2, (AV.b x2))] h = G_der_Text_1.p0 Q x2 h := rfl
def G_der_Text_1.t0 (J : JT) (Q : AV → AHeap → Prop) (x2 : Bool) (h : AHeap) : Prop :=
Q (AV.b x2) h
theorem G_der_Text_1.t0_eq (J : JT) (Q : AV → AHeap → Prop) (x2 : Bool) (h : AHeap) : G_der_Text_1.t0 J Q x2 h = atJ prog C 9 J false [1, 1] G_der_Text_1.ann G_der_Text_1.body [(2, (AV.b x2))] h (kFun prog Tryd.f47 Q) := by kernel_rfl
theorem G_der_Text_1.i0 {Q : AV → AHeap → Prop} {x2 : Bool} {h : AHeap} (H : G_der_Text_1.t0 (G_der_Text_1.J Q) Q x2 h) : G_der_Text_1.p0 Q x2 h := G_der_Text_1.goR (k := 1) (p := [1, 1]) (by kernel_rfl) ((G_der_Text_1.t0_eq (G_der_Text_1.J Q) Q x2 h).mp H)
def G_der_Text_1.t (J : JT) (Q : AV → AHeap → Prop) (x0 : Int) (h : AHeap) : Prop :=
(bif (decide ((32 : Int) ≤ x0)) then
(J 1 [(2, (AV.b (decide ((x0 : Int) ≤ 126))))] h)
else
(J 1 [(2, (AV.b false))] h))
theorem G_der_Text_1.t_eq (J : JT) (Q : AV → AHeap → Prop) (x0 : Int) (h : AHeap) : G_der_Text_1.t J Q x0 h = exJ prog C 9 J G_der_Text_1.ann G_der_Text_1.body (initEnv 0 [(AV.i .u8 x0)]) h (kFun prog Tryd.f47 Q) := by kernel_rfl
theorem G_der_Text_1.call {K : AV → AHeap → Prop} {x0 : Int} {h : AHeap} (H : G_der_Text_1.t (G_der_Text_1.J (kRet h K)) (kRet h K) x0 h) : C G_der_Text_1.id [(AV.i .u8 x0)] h K :=
  callJ (P := prog) (fn := Tryd.f47) (ann := G_der_Text_1.ann) (body := G_der_Text_1.body) Tryd.func47 G_der_Text_1.body_eq (by kernel_rfl) G_der_Text_1.dist (by kernel_rfl) ((G_der_Text_1.t_eq (G_der_Text_1.J (kRet h K)) (kRet h K) x0 h).mp H)

--@@ G_der_TimeOf_1
/-! ### 48: intrusion/der.TimeOf$1 -/
noncomputable def G_der_TimeOf_1.body : Code := (Tryd.f48.body).getD .skip
def G_der_TimeOf_1.ann : Ann := (.seq 0 [0] .leaf (.seq 0 [2] .leaf .leaf))
theorem G_der_TimeOf_1.body_eq : Tryd.f48.body = some G_der_TimeOf_1.body := by kernel_rfl
theorem G_der_TimeOf_1.dist : noTwice (places G_der_TimeOf_1.ann G_der_TimeOf_1.body) = true := by kernel_rfl
noncomputable def G_der_TimeOf_1.J (Q : AV → AHeap → Prop) : JT := funJ prog C Tryd.f48 G_der_TimeOf_1.ann G_der_TimeOf_1.body Q
theorem G_der_TimeOf_1.goR {Q : AV → AHeap → Prop} {k : Nat} {p : List Nat} (hl : lookJ (places G_der_TimeOf_1.ann G_der_TimeOf_1.body) k = some (p, false)) {e : Env} {h : AHeap} (hk : atJ prog C 13 (G_der_TimeOf_1.J Q) false p G_der_TimeOf_1.ann G_der_TimeOf_1.body e h (kFun prog Tryd.f48 Q)) : G_der_TimeOf_1.J Q k e h := goJ_run (P := prog) (fn := Tryd.f48) (ann := G_der_TimeOf_1.ann) (body := G_der_TimeOf_1.body) (Q := Q) (k := k) (p := p) (e := e) (h := h) (acall_le X) G_der_TimeOf_1.dist hl hk
theorem G_der_TimeOf_1.goH {Q : AV → AHeap → Prop} {k : Nat} {p : List Nat} (hl : lookJ (places G_der_TimeOf_1.ann G_der_TimeOf_1.body) k = some (p, true)) {e : Env} {h : AHeap} (hk : atJ prog C 13 (G_der_TimeOf_1.J Q) true p G_der_TimeOf_1.ann G_der_TimeOf_1.body e h (kFun prog Tryd.f48 Q)) : G_der_TimeOf_1.J Q k e h := goJ_head (P := prog) (fn := Tryd.f48) (ann := G_der_TimeOf_1.ann) (body := G_der_TimeOf_1.body) (Q := Q) (k := k) (p := p) (e := e) (h := h) (acall_le X) G_der_TimeOf_1.dist hl hk
def G_der_TimeOf_1.t (J : JT) (Q : AV → AHeap → Prop) (x0 : Int) (h : AHeap) : Prop :=
pQuo .i64 x0 10 fun n1 =>
withI (IntKind.wrap .i64 (48 + n1)) fun n2 =>
pRem x0 10 fun n3 =>
withI (IntKind.wrap .i64 (48 + n3)) fun n4 =>
pBuildSl 1 2 [(AV.i .u8 0), (AV.i .u8 0)] [(0, 1, (AV.i .u8 (IntKind.wrap .u8 n2))), (1, 1, (AV.i .u8 (IntKind.wrap .u8 n4)))] h fun v5 h6 =>
pBytesStr v5 h6 fun l7 =>
Q (AV.s l7) h6
theorem G_der_TimeOf_1.t_eq (J : JT) (Q : AV → AHeap → Prop) (x0 : Int) (h : AHeap) : G_der_TimeOf_1.t J Q x0 h = exJ prog C 13 J G_der_TimeOf_1.ann G_der_TimeOf_1.body (initEnv 0 [(AV.i .i64 x0)]) h (kFun prog Tryd.f48 Q) := by kernel_rfl
theorem G_der_TimeOf_1.call {K : AV → AHeap → Prop} {x0 : Int} {h : AHeap} (H : G_der_TimeOf_1.t (G_der_TimeOf_1.J (kRet h K)) (kRet h K) x0 h) : C G_der_TimeOf_1.id [(AV.i .i64 x0)] h K :=
  callJ (P := prog) (fn := Tryd.f48) (ann := G_der_TimeOf_1.ann) (body := G_der_TimeOf_1.body) Tryd.func48 G_der_TimeOf_1.body_eq (by kernel_rfl) G_der_TimeOf_1.dist (by kernel_rfl) ((G_der_TimeOf_1.t_eq (G_der_TimeOf_1.J (kRet h K)) (kRet h K) x0 h).mp H)

--@@ G_ref33_leap
/-! ### 49: intrusion/intrusionref33.leap -/
noncomputable def G_ref33_leap.body : Code := (Tryd.f49.body).getD .skip
def G_ref33_leap.ann : Ann := (.seq 0 [0] .leaf (.seq 1 [2] .leaf .leaf))
theorem G_ref33_leap.body_eq : Tryd.f49.body = some G_ref33_leap.body := by kernel_rfl
theorem G_ref33_leap.dist : noTwice (places G_ref33_leap.ann G_ref33_leap.body) = true := by kernel_rfl
noncomputable def G_ref33_leap.J (Q : AV → AHeap → Prop) : JT := funJ prog C Tryd.f49 G_ref33_leap.ann G_ref33_leap.body Q
theorem G_ref33_leap.goR {Q : AV → AHeap → Prop} {k : Nat} {p : List Nat} (hl : lookJ (places G_ref33_leap.ann G_ref33_leap.body) k = some (p, false)) {e : Env} {h : AHeap} (hk : atJ prog C 16 (G_ref33_leap.J Q) false p G_ref33_leap.ann G_ref33_leap.body e h (kFun prog Tryd.f49 Q)) : G_ref33_leap.J Q k e h := goJ_run (P := prog) (fn := Tryd.f49) (ann := G_ref33_leap.ann) (body := G_ref33_leap.body) (Q := Q) (k := k) (p := p) (e := e) (h := h) (acall_le X) G_ref33_leap.dist hl hk
theorem G_ref33_leap.goH {Q : AV → AHeap → Prop} {k : Nat} {p : List Nat} (hl : lookJ (places G_ref33_leap.ann G_ref33_leap.body) k = some (p, true)) {e : Env} {h : AHeap} (hk : atJ prog C 16 (G_ref33_leap.J Q) true p G_ref33_leap.ann G_ref33_leap.body e h (kFun prog Tryd.f49 Q)) : G_ref33_leap.J Q k e h := goJ_head (P := prog) (fn := Tryd.f49) (ann := G_ref33_leap.ann) (body := G_ref33_leap.body) (Q := Q) (k := k) (p := p) (e := e) (h := h) (acall_le X) G_ref33_leap.dist hl hk
def G_ref33_leap.p0 (Q : AV → AHeap → Prop) (x2 : Bool) (h : AHeap) : Prop := G_ref33_leap.J Q 1 [(2, (AV.b x2))] h
theorem G_ref33_leap.j0 (Q : AV → AHeap → Prop) (x2 : Bool) (h : AHeap) : G_ref33_leap.J Q 1 [(2, (AV.b x2))] h = G_ref33_leap.p0 Q x2 h := rfl
def G_ref33_leap.t0 (J : JT) (Q : AV → AHeap → Prop) (x2 : Bool) (h : AHeap) : Prop :=
Q (AV.b x2) h
theorem G_ref33_leap.t0_eq (J : JT) (Q : AV → AHeap → Prop) (x2 : Bool) (h : AHeap) : G_ref33_leap.t0 J Q x2 h = atJ prog C 16 J false [1, 1] G_ref33_leap.ann G_ref33_leap.body [(2, (AV.b x2))] h (kFun prog Tryd.f49 Q) := by kernel_rfl
theorem G_ref33_leap.i0 {Q : AV → AHeap → Prop} {x2 : Bool} {h : AHeap} (H : G_ref33_leap.t0 (G_ref33_leap.J Q) Q x2 h) : G_ref33_leap.p0 Q x2 h := G_ref33_leap.goR (k := 1) (p := [1, 1]) (by kernel_rfl) ((G_ref33_leap.t0_eq (G_ref33_leap.J Q) Q x2 h).mp H)
def G_ref33_leap.t (J : JT) (Q : AV → AHeap → Prop) (x0 : Int) (h : AHeap) : Prop :=
pRem x0 4 fun n1 =>
(bif (decide ((n1 : Int) = 0)) then
(pRem x0 100 fun n2 =>
(bif (!decide ((n2 : Int) = 0)) then
(J 1 [(2, (AV.b true))] h)
else
(pRem x0 400 fun n4 =>
J 1 [(2, (AV.b (decide ((n4 : Int) = 0))))] h)))
else
(J 1 [(2, (AV.b false))] h))
theorem G_ref33_leap.t_eq (J : JT) (Q : AV → AHeap → Prop) (x0 : Int) (h : AHeap) : G_ref33_leap.t J Q x0 h = exJ prog C 16 J G_ref33_leap.ann G_ref33_leap.body (initEnv 0 [(AV.i .i64 x0)]) h (kFun prog Tryd.f49 Q) := by kernel_rfl
theorem G_ref33_leap.call {K : AV → AHeap → Prop} {x0 : Int} {h : AHeap} (H : G_ref33_leap.t (G_ref33_leap.J (kRet h K)) (kRet h K) x0 h) : C G_ref33_leap.id [(AV.i .i64 x0)] h K :=
  callJ (P := prog) (fn := Tryd.f49) (ann := G_ref33_leap.ann) (body := G_ref33_leap.body) Tryd.func49 G_ref33_leap.body_eq (by kernel_rfl) G_ref33_leap.dist (by kernel_rfl) ((G_ref33_leap.t_eq (G_ref33_leap.J (kRet h K)) (kRet h K) x0 h).mp H)

--@@ G_ref33_two
/-! ### 50: intrusion/intrusionref33.two -/
noncomputable def G_ref33_two.body : Code := (Tryd.f50.body).getD .skip
def G_ref33_two.ann : Ann := (.seq 0 [0] .leaf (.seq 0 [2] .leaf .leaf))
theorem G_ref33_two.body_eq : Tryd.f50.body = some G_ref33_two.body := by kernel_rfl
theorem G_ref33_two.dist : noTwice (places G_ref33_two.ann G_ref33_two.body) = true := by kernel_rfl
noncomputable def G_ref33_two.J (Q : AV → AHeap → Prop) : JT := funJ prog C Tryd.f50 G_ref33_two.ann G_ref33_two.body Q
theorem G_ref33_two.goR {Q : AV → AHeap → Prop} {k : Nat} {p : List Nat} (hl : lookJ (places G_ref33_two.ann G_ref33_two.body) k = some (p, false)) {e : Env} {h : AHeap} (hk : atJ prog C 14 (G_ref33_two.J Q) false p G_ref33_two.ann G_ref33_two.body e h (kFun prog Tryd.f50 Q)) : G_ref33_two.J Q k e h := goJ_run (P := prog) (fn := Tryd.f50) (ann := G_ref33_two.ann) (body := G_ref33_two.body) (Q := Q) (k := k) (p := p) (e := e) (h := h) (acall_le X) G_ref33_two.dist hl hk
theorem G_ref33_two.goH {Q : AV → AHeap → Prop} {k : Nat} {p : List Nat} (hl : lookJ (places G_ref33_two.ann G_ref33_two.body) k = some (p, true)) {e : Env} {h : AHeap} (hk : atJ prog C 14 (G_ref33_two.J Q) true p G_ref33_two.ann G_ref33_two.body e h (kFun prog Tryd.f50 Q)) : G_ref33_two.J Q k e h := goJ_head (P := prog) (fn := Tryd.f50) (ann := G_ref33_two.ann) (body := G_ref33_two.body) (Q := Q) (k := k) (p := p) (e := e) (h := h) (acall_le X) G_ref33_two.dist hl hk
def G_ref33_two.t (J : JT) (Q : AV → AHeap → Prop) (x0 : Int) (h : AHeap) : Prop :=
pQuo .i64 x0 10 fun n1 =>
pRem n1 10 fun n2 =>
withI (IntKind.wrap .i64 (48 + n2)) fun n3 =>
pRem x0 10 fun n4 =>
withI (IntKind.wrap .i64 (48 + n4)) fun n5 =>
pBuildSl 1 2 [(AV.i .u8 0), (AV.i .u8 0)] [(0, 1, (AV.i .u8 (IntKind.wrap .u8 n3))), (1, 1, (AV.i .u8 (IntKind.wrap .u8 n5)))] h fun v6 h7 =>
pBytesStr v6 h7 fun l8 =>
Q (AV.s l8) h7
theorem G_ref33_two.t_eq (J : JT) (Q : AV → AHeap → Prop) (x0 : Int) (h : AHeap) : G_ref33_two.t J Q x0 h = exJ prog C 14 J G_ref33_two.ann G_ref33_two.body (initEnv 0 [(AV.i .i64 x0)]) h (kFun prog Tryd.f50 Q) := by kernel_rfl
theorem G_ref33_two.call {K : AV → AHeap → Prop} {x0 : Int} {h : AHeap} (H : G_ref33_two.t (G_ref33_two.J (kRet h K)) (kRet h K) x0 h) : C G_ref33_two.id [(AV.i .i64 x0)] h K :=
  callJ (P := prog) (fn := Tryd.f50) (ann := G_ref33_two.ann) (body := G_ref33_two.body) Tryd.func50 G_ref33_two.body_eq (by kernel_rfl) G_ref33_two.dist (by kernel_rfl) ((G_ref33_two.t_eq (G_ref33_two.J (kRet h K)) (kRet h K) x0 h).mp H)

--@@ G_ref06_Number
/-! ### 52: intrusion/intrusionref06.Number -/
noncomputable def G_ref06_Number.body : Code := (Tryd.f52.body).getD .skip
def G_ref06_Number.ann : Ann := (.seq 0 [0] .leaf (.seq 0 [0, 3] .leaf (.seq 0 [0, 3] (.one (.loop 1 [0, 3] (.seq 0 [0, 3] (.seq 0 [0, 3, 5] .leaf (.br .leaf .leaf)) (.one (.seq 0 [0, 3] .leaf .leaf))))) (.seq 0 [2] .leaf .leaf))))
theorem G_ref06_Number.body_eq : Tryd.f52.body = some G_ref06_Number.body := by kernel_rfl
theorem G_ref06_Number.dist : noTwice (places G_ref06_Number.ann G_ref06_Number.body) = true := by kernel_rfl
noncomputable def G_ref06_Number.J (Q : AV → AHeap → Prop) : JT := funJ prog C Tryd.f52 G_ref06_Number.ann G_ref06_Number.body Q
theorem G_ref06_Number.goR {Q : AV → AHeap → Prop} {k : Nat} {p : List Nat} (hl : lookJ (places G_ref06_Number.ann G_ref06_Number.body) k = some (p, false)) {e : Env} {h : AHeap} (hk : atJ prog C 23 (G_ref06_Number.J Q) false p G_ref06_Number.ann G_ref06_Number.body e h (kFun prog Tryd.f52 Q)) : G_ref06_Number.J Q k e h := goJ_run (P := prog) (fn := Tryd.f52) (ann := G_ref06_Number.ann) (body := G_ref06_Number.body) (Q := Q) (k := k) (p := p) (e := e) (h := h) (acall_le X) G_ref06_Number.dist hl hk
theorem G_ref06_Number.goH {Q : AV → AHeap → Prop} {k : Nat} {p : List Nat} (hl : lookJ (places G_ref06_Number.ann G_ref06_Number.body) k = some (p, true)) {e : Env} {h : AHeap} (hk : atJ prog C 23 (G_ref06_Number.J Q) true p G_ref06_Number.ann G_ref06_Number.body e h (kFun prog Tryd.f52 Q)) : G_ref06_Number.J Q k e h := goJ_head (P := prog) (fn := Tryd.f52) (ann := G_ref06_Number.ann) (body := G_ref06_Number.body) (Q := Q) (k := k) (p := p) (e := e) (h := h) (acall_le X) G_ref06_Number.dist hl hk
def G_ref06_Number.p0 (Q : AV → AHeap → Prop) (x0 : Int) (x3 : List UInt8) (h : AHeap) : Prop := G_ref06_Number.J Q 1 [(0, (AV.i .i64 x0)), (3, (AV.s x3))] h
theorem G_ref06_Number.j0 (Q : AV → AHeap → Prop) (x0 : Int) (x3 : List UInt8) (h : AHeap) : G_ref06_Number.J Q 1 [(0, (AV.i .i64 x0)), (3, (AV.s x3))] h = G_ref06_Number.p0 Q x0 x3 h := rfl
def G_ref06_Number.t0 (J : JT) (Q : AV → AHeap → Prop) (x0 : Int) (x3 : List UInt8) (h : AHeap) : Prop :=
(bif (decide ((9 : Int) < x0)) then
(pRem x0 10 fun n5 =>
withI (IntKind.wrap .i64 (48 + n5)) fun n6 =>
pBuildSl 1 1 [(AV.i .u8 0)] [(0, 1, (AV.i .u8 (IntKind.wrap .u8 n6)))] h fun v7 h8 =>
pBytesStr v7 h8 fun l9 =>
pCat l9 x3 fun l10 =>
pQuo .i64 x0 10 fun n12 =>
J 1 [(0, (AV.i .i64 n12)), (3, (AV.s l10))] h8)
else
(withI (IntKind.wrap .i64 (48 + x0)) fun n14 =>
pBuildSl 1 1 [(AV.i .u8 0)] [(0, 1, (AV.i .u8 (IntKind.wrap .u8 n14)))] h fun v15 h16 =>
pBytesStr v15 h16 fun l17 =>
pCat l17 x3 fun l18 =>
Q (AV.s l18) h16))
theorem G_ref06_Number.t0_eq (J : JT) (Q : AV → AHeap → Prop) (x0 : Int) (x3 : List UInt8) (h : AHeap) : G_ref06_Number.t0 J Q x0 x3 h = atJ prog C 23 J true [1, 1, 0, 0] G_ref06_Number.ann G_ref06_Number.body [(0, (AV.i .i64 x0)), (3, (AV.s x3))] h (kFun prog Tryd.f52 Q) := by kernel_rfl
theorem G_ref06_Number.i0 {Q : AV → AHeap → Prop} {x0 : Int} {x3 : List UInt8} {h : AHeap} (H : G_ref06_Number.t0 (G_ref06_Number.J Q) Q x0 x3 h) : G_ref06_Number.p0 Q x0 x3 h := G_ref06_Number.goH (k := 1) (p := [1, 1, 0, 0]) (by kernel_rfl) ((G_ref06_Number.t0_eq (G_ref06_Number.J Q) Q x0 x3 h).mp H)
def G_ref06_Number.t (J : JT) (Q : AV → AHeap → Prop) (x0 : Int) (h : AHeap) : Prop :=
J 1 [(0, (AV.i .i64 x0)), (3, (AV.s []))] h
theorem G_ref06_Number.t_eq (J : JT) (Q : AV → AHeap → Prop) (x0 : Int) (h : AHeap) : G_ref06_Number.t J Q x0 h = exJ prog C 23 J G_ref06_Number.ann G_ref06_Number.body (initEnv 0 [(AV.i .i64 x0)]) h (kFun prog Tryd.f52 Q) := by kernel_rfl
theorem G_ref06_Number.call {K : AV → AHeap → Prop} {x0 : Int} {h : AHeap} (H : G_ref06_Number.t (G_ref06_Number.J (kRet h K)) (kRet h K) x0 h) : C G_ref06_Number.id [(AV.i .i64 x0)] h K :=
  callJ (P := prog) (fn := Tryd.f52) (ann := G_ref06_Number.ann) (body := G_ref06_Number.body) Tryd.func52 G_ref06_Number.body_eq (by kernel_rfl) G_ref06_Number.dist (by kernel_rfl) ((G_ref06_Number.t_eq (G_ref06_Number.J (kRet h K)) (kRet h K) x0 h).mp H)

--@@ G_strings_Split
/-! ### 53: strings.Split -/
noncomputable def G_strings_Split.body : Code := (Tryd.f53.body).getD .skip
def G_strings_Split.ann : Ann := (.seq 0 [0, 1] .leaf (.seq 0 [4] .leaf .leaf))
theorem G_strings_Split.body_eq : Tryd.f53.body = some G_strings_Split.body := by kernel_rfl
theorem G_strings_Split.dist : noTwice (places G_strings_Split.ann G_strings_Split.body) = true := by kernel_rfl
noncomputable def G_strings_Split.J (Q : AV → AHeap → Prop) : JT := funJ prog C Tryd.f53 G_strings_Split.ann G_strings_Split.body Q
theorem G_strings_Split.goR {Q : AV → AHeap → Prop} {k : Nat} {p : List Nat} (hl : lookJ (places G_strings_Split.ann G_strings_Split.body) k = some (p, false)) {e : Env} {h : AHeap} (hk : atJ prog C 8 (G_strings_Split.J Q) false p G_strings_Split.ann G_strings_Split.body e h (kFun prog Tryd.f53 Q)) : G_strings_Split.J Q k e h := goJ_run (P := prog) (fn := Tryd.f53) (ann := G_strings_Split.ann) (body := G_strings_Split.body) (Q := Q) (k := k) (p := p) (e := e) (h := h) (acall_le X) G_strings_Split.dist hl hk
theorem G_strings_Split.goH {Q : AV → AHeap → Prop} {k : Nat} {p : List Nat} (hl : lookJ (places G_strings_Split.ann G_strings_Split.body) k = some (p, true)) {e : Env} {h : AHeap} (hk : atJ prog C 8 (G_strings_Split.J Q) true p G_strings_Split.ann G_strings_Split.body e h (kFun prog Tryd.f53 Q)) : G_strings_Split.J Q k e h := goJ_head (P := prog) (fn := Tryd.f53) (ann := G_strings_Split.ann) (body := G_strings_Split.body) (Q := Q) (k := k) (p := p) (e := e) (h := h) (acall_le X) G_strings_Split.dist hl hk
def G_strings_Split.t (J : JT) (Q : AV → AHeap → Prop) (x0 : List UInt8) (x1 : List UInt8) (h : AHeap) : Prop :=
C G_strings_genSplit.id [(AV.s x0), (AV.s x1), (AV.i .i64 0), (AV.i .i64 (-1))] h fun v1 h2 =>
Q v1 h2
theorem G_strings_Split.t_eq (J : JT) (Q : AV → AHeap → Prop) (x0 : List UInt8) (x1 : List UInt8) (h : AHeap) : G_strings_Split.t J Q x0 x1 h = exJ prog C 8 J G_strings_Split.ann G_strings_Split.body (initEnv 0 [(AV.s x0), (AV.s x1)]) h (kFun prog Tryd.f53 Q) := by kernel_rfl
theorem G_strings_Split.call {K : AV → AHeap → Prop} {x0 : List UInt8} {x1 : List UInt8} {h : AHeap} (H : G_strings_Split.t (G_strings_Split.J (kRet h K)) (kRet h K) x0 x1 h) : C G_strings_Split.id [(AV.s x0), (AV.s x1)] h K :=
  callJ (P := prog) (fn := Tryd.f53) (ann := G_strings_Split.ann) (body := G_strings_Split.body) Tryd.func53 G_strings_Split.body_eq (by kernel_rfl) G_strings_Split.dist (by kernel_rfl) ((G_strings_Split.t_eq (G_strings_Split.J (kRet h K)) (kRet h K) x0 x1 h).mp H)

--@@ G_der_number
/-! ### 54: intrusion/der.number -/
noncomputable def G_der_number.body : Code := (Tryd.f54.body).getD .skip
def G_der_number.ann : Ann := (.seq 0 [0] .leaf (.seq 0 [0] (.seq 1 [0, 22] .leaf (.br (.seq 0 [2, 3] .leaf .leaf) .leaf)) (.seq 0 [0, 4] .leaf (.seq 0 [4] (.seq 0 [0, 4, 24, 25] .leaf (.one (.loop 2 [0, 4, 24, 25] (.seq 0 [0, 4, 24, 25, 26] .leaf (.seq 0 [0, 4, 24, 25] (.br .leaf .leaf) (.seq 0 [0, 4, 24, 25] (.one (.seq 0 [0, 4, 5, 24, 25] .leaf (.seq 0 [0, 4, 5, 24, 25] (.seq 3 [0, 4, 5, 24, 25, 37] .leaf (.br (.seq 0 [2, 3] .leaf .leaf) .leaf)) .leaf))) .leaf)))))) (.seq 0 [2, 3] .leaf .leaf)))))
theorem G_der_number.body_eq : Tryd.f54.body = some G_der_number.body := by kernel_rfl
theorem G_der_number.dist : noTwice (places G_der_number.ann G_der_number.body) = true := by kernel_rfl
noncomputable def G_der_number.J (Q : AV → AHeap → Prop) : JT := funJ prog C Tryd.f54 G_der_number.ann G_der_number.body Q
theorem G_der_number.goR {Q : AV → AHeap → Prop} {k : Nat} {p : List Nat} (hl : lookJ (places G_der_number.ann G_der_number.body) k = some (p, false)) {e : Env} {h : AHeap} (hk : atJ prog C 50 (G_der_number.J Q) false p G_der_number.ann G_der_number.body e h (kFun prog Tryd.f54 Q)) : G_der_number.J Q k e h := goJ_run (P := prog) (fn := Tryd.f54) (ann := G_der_number.ann) (body := G_der_number.body) (Q := Q) (k := k) (p := p) (e := e) (h := h) (acall_le X) G_der_number.dist hl hk
theorem G_der_number.goH {Q : AV → AHeap → Prop} {k : Nat} {p : List Nat} (hl : lookJ (places G_der_number.ann G_der_number.body) k = some (p, true)) {e : Env} {h : AHeap} (hk : atJ prog C 50 (G_der_number.J Q) true p G_der_number.ann G_der_number.body e h (kFun prog Tryd.f54 Q)) : G_der_number.J Q k e h := goJ_head (P := prog) (fn := Tryd.f54) (ann := G_der_number.ann) (body := G_der_number.body) (Q := Q) (k := k) (p := p) (e := e) (h := h) (acall_le X) G_der_number.dist hl hk
def G_der_number.p0 (Q : AV → AHeap → Prop) (x0 : List UInt8) (x22 : Bool) (h : AHeap) : Prop := G_der_number.J Q 1 [(0, (AV.s x0)), (22, (AV.b x22))] h
theorem G_der_number.j0 (Q : AV → AHeap → Prop) (x0 : List UInt8) (x22 : Bool) (h : AHeap) : G_der_number.J Q 1 [(0, (AV.s x0)), (22, (AV.b x22))] h = G_der_number.p0 Q x0 x22 h := rfl
def G_der_number.p2 (Q : AV → AHeap → Prop) (x0 : List UInt8) (x4 : Int) (x5 : Int) (x24 : Int) (x25 : Int) (x37 : Bool) (h : AHeap) : Prop := G_der_number.J Q 3 [(0, (AV.s x0)), (4, (AV.i .i64 x4)), (5, (AV.i .i64 x5)), (24, (AV.i .i64 x24)), (25, (AV.i .i64 x25)), (37, (AV.b x37))] h
theorem G_der_number.j2 (Q : AV → AHeap → Prop) (x0 : List UInt8) (x4 : Int) (x5 : Int) (x24 : Int) (x25 : Int) (x37 : Bool) (h : AHeap) : G_der_number.J Q 3 [(0, (AV.s x0)), (4, (AV.i .i64 x4)), (5, (AV.i .i64 x5)), (24, (AV.i .i64 x24)), (25, (AV.i .i64 x25)), (37, (AV.b x37))] h = G_der_number.p2 Q x0 x4 x5 x24 x25 x37 h := rfl
def G_der_number.p1 (Q : AV → AHeap → Prop) (x0 : List UInt8) (x4 : Int) (x24 : Int) (x25 : Int) (h : AHeap) : Prop := G_der_number.J Q 2 [(0, (AV.s x0)), (4, (AV.i .i64 x4)), (24, (AV.i .i64 x24)), (25, (AV.i .i64 x25))] h
theorem G_der_number.j1 (Q : AV → AHeap → Prop) (x0 : List UInt8) (x4 : Int) (x24 : Int) (x25 : Int) (h : AHeap) : G_der_number.J Q 2 [(0, (AV.s x0)), (4, (AV.i .i64 x4)), (24, (AV.i .i64 x24)), (25, (AV.i .i64 x25))] h = G_der_number.p1 Q x0 x4 x24 x25 h := rfl
def G_der_number.t0 (J : JT) (Q : AV → AHeap → Prop) (x0 : List UInt8) (x22 : Bool) (h : AHeap) : Prop :=
(bif x22 then
(Q (AV.tu [(AV.i .i64 0), (AV.b false)]) h)
else
(J 2 [(0, (AV.s x0)), (4, (AV.i .i64 0)), (24, (AV.i .i64 (x0.length : Int))), (25, (AV.i .i64 0))] h))
theorem G_der_number.t0_eq (J : JT) (Q : AV → AHeap → Prop) (x0 : List UInt8) (x22 : Bool) (h : AHeap) : G_der_number.t0 J Q x0 x22 h = atJ prog C 50 J false [1, 0, 1] G_der_number.ann G_der_number.body [(0, (AV.s x0)), (22, (AV.b x22))] h (kFun prog Tryd.f54 Q) := by kernel_rfl
theorem G_der_number.i0 {Q : AV → AHeap → Prop} {x0 : List UInt8} {x22 : Bool} {h : AHeap} (H : G_der_number.t0 (G_der_number.J Q) Q x0 x22 h) : G_der_number.p0 Q x0 x22 h := G_der_number.goR (k := 1) (p := [1, 0, 1]) (by kernel_rfl) ((G_der_number.t0_eq (G_der_number.J Q) Q x0 x22 h).mp H)
def G_der_number.t2 (J : JT) (Q : AV → AHeap → Prop) (x0 : List UInt8) (x4 : Int) (x5 : Int) (x24 : Int) (x25 : Int) (x37 : Bool) (h : AHeap) : Prop :=
(bif x37 then
(Q (AV.tu [(AV.i .i64 0), (AV.b false)]) h)
else
(withI (IntKind.wrap .i64 (x4 * 10)) fun n20 =>
pIdxStr (AV.s x0) (AV.i .i64 x5) fun n21 =>
withI (IntKind.wrap .u8 (n21 - 48)) fun n22 =>
withI (IntKind.wrap .i64 (n20 + (IntKind.wrap .i64 n22))) fun n23 =>
withI (IntKind.wrap .i64 (x25 + 1)) fun n25 =>
J 2 [(0, (AV.s x0)), (4, (AV.i .i64 n23)), (24, (AV.i .i64 x24)), (25, (AV.i .i64 n25))] h))
theorem G_der_number.t2_eq (J : JT) (Q : AV → AHeap → Prop) (x0 : List UInt8) (x4 : Int) (x5 : Int) (x24 : Int) (x25 : Int) (x37 : Bool) (h : AHeap) : G_der_number.t2 J Q x0 x4 x5 x24 x25 x37 h = atJ prog C 50 J false [1, 1, 1, 0, 1, 0, 0, 1, 1, 0, 0, 1, 0, 1] G_der_number.ann G_der_number.body [(0, (AV.s x0)), (4, (AV.i .i64 x4)), (5, (AV.i .i64 x5)), (24, (AV.i .i64 x24)), (25, (AV.i .i64 x25)), (37, (AV.b x37))] h (kFun prog Tryd.f54 Q) := by kernel_rfl
theorem G_der_number.i2 {Q : AV → AHeap → Prop} {x0 : List UInt8} {x4 : Int} {x5 : Int} {x24 : Int} {x25 : Int} {x37 : Bool} {h : AHeap} (H : G_der_number.t2 (G_der_number.J Q) Q x0 x4 x5 x24 x25 x37 h) : G_der_number.p2 Q x0 x4 x5 x24 x25 x37 h := G_der_number.goR (k := 3) (p := [1, 1, 1, 0, 1, 0, 0, 1, 1, 0, 0, 1, 0, 1]) (by kernel_rfl) ((G_der_number.t2_eq (G_der_number.J Q) Q x0 x4 x5 x24 x25 x37 h).mp H)
def G_der_number.t1 (J : JT) (Q : AV → AHeap → Prop) (x0 : List UInt8) (x4 : Int) (x24 : Int) (x25 : Int) (h : AHeap) : Prop :=
(bif (decide ((x25 : Int) < x24)) then
(pIdxStr (AV.s x0) (AV.i .i64 x25) fun n14 =>
(bif (decide ((n14 : Int) < 48)) then
(J 3 [(0, (AV.s x0)), (4, (AV.i .i64 x4)), (5, (AV.i .i64 x25)), (24, (AV.i .i64 x24)), (25, (AV.i .i64 x25)), (37, (AV.b true))] h)
else
(pIdxStr (AV.s x0) (AV.i .i64 x25) fun n16 =>
J 3 [(0, (AV.s x0)), (4, (AV.i .i64 x4)), (5, (AV.i .i64 x25)), (24, (AV.i .i64 x24)), (25, (AV.i .i64 x25)), (37, (AV.b (decide ((57 : Int) < n16))))] h)))
else
(Q (AV.tu [(AV.i .i64 x4), (AV.b (decide ((x4 : Int) < 268435456)))]) h))
theorem G_der_number.t1_eq (J : JT) (Q : AV → AHeap → Prop) (x0 : List UInt8) (x4 : Int) (x24 : Int) (x25 : Int) (h : AHeap) : G_der_number.t1 J Q x0 x4 x24 x25 h = atJ prog C 50 J true [1, 1, 1, 0, 1, 0] G_der_number.ann G_der_number.body [(0, (AV.s x0)), (4, (AV.i .i64 x4)), (24, (AV.i .i64 x24)), (25, (AV.i .i64 x25))] h (kFun prog Tryd.f54 Q) := by kernel_rfl
theorem G_der_number.i1 {Q : AV → AHeap → Prop} {x0 : List UInt8} {x4 : Int} {x24 : Int} {x25 : Int} {h : AHeap} (H : G_der_number.t1 (G_der_number.J Q) Q x0 x4 x24 x25 h) : G_der_number.p1 Q x0 x4 x24 x25 h := G_der_number.goH (k := 2) (p := [1, 1, 1, 0, 1, 0]) (by kernel_rfl) ((G_der_number.t1_eq (G_der_number.J Q) Q x0 x4 x24 x25 h).mp H)
def G_der_number.t (J : JT) (Q : AV → AHeap → Prop) (x0 : List UInt8) (h : AHeap) : Prop :=
(bif (decide ((x0 : List UInt8) = [])) then
(J 1 [(0, (AV.s x0)), (22, (AV.b true))] h)
else
((bif (decide ((9 : Int) < (x0.length : Int))) then
(J 1 [(0, (AV.s x0)), (22, (AV.b true))] h)
else
(pIdxStr (AV.s x0) (AV.i .i64 0) fun n3 =>
(bif (decide ((n3 : Int) = 48)) then
(J 1 [(0, (AV.s x0)), (22, (AV.b (decide ((1 : Int) < (x0.length : Int)))))] h)
else
(J 1 [(0, (AV.s x0)), (22, (AV.b false))] h))))))
theorem G_der_number.t_eq (J : JT) (Q : AV → AHeap → Prop) (x0 : List UInt8) (h : AHeap) : G_der_number.t J Q x0 h = exJ prog C 50 J G_der_number.ann G_der_number.body (initEnv 0 [(AV.s x0)]) h (kFun prog Tryd.f54 Q) := by kernel_rfl
theorem G_der_number.call {K : AV → AHeap → Prop} {x0 : List UInt8} {h : AHeap} (H : G_der_number.t (G_der_number.J (kRet h K)) (kRet h K) x0 h) : C G_der_number.id [(AV.s x0)] h K :=
  callJ (P := prog) (fn := Tryd.f54) (ann := G_der_number.ann) (body := G_der_number.body) Tryd.func54 G_der_number.body_eq (by kernel_rfl) G_der_number.dist (by kernel_rfl) ((G_der_number.t_eq (G_der_number.J (kRet h K)) (kRet h K) x0 h).mp H)

--@@ G_ref06_Split
/-! ### 55: intrusion/intrusionref06.Split -/
noncomputable def G_ref06_Split.body : Code := (Tryd.f55.body).getD .skip
def G_ref06_Split.ann : Ann := (.seq 0 [0, 1] .leaf (.seq 0 [0, 1, 5] .leaf (.seq 0 [0, 1, 5, 6] .leaf (.seq 0 [5] (.seq 0 [0, 1, 5, 6, 7] .leaf (.one (.loop 1 [0, 1, 5, 6, 7] (.seq 0 [0, 1, 5, 6, 7] (.seq 0 [0, 1, 5, 6, 7, 11] .leaf (.br .leaf .leaf)) (.seq 3 [0, 1, 5, 6, 7] (.one (.seq 2 [0, 1, 5, 6, 7, 24] .leaf (.br (.seq 0 [0, 1, 5, 7] .leaf .leaf) .leaf))) .leaf))))) (.seq 0 [4] .leaf .leaf)))))
theorem G_ref06_Split.body_eq : Tryd.f55.body = some G_ref06_Split.body := by kernel_rfl
theorem G_ref06_Split.dist : noTwice (places G_ref06_Split.ann G_ref06_Split.body) = true := by kernel_rfl
noncomputable def G_ref06_Split.J (Q : AV → AHeap → Prop) : JT := funJ prog C Tryd.f55 G_ref06_Split.ann G_ref06_Split.body Q
theorem G_ref06_Split.goR {Q : AV → AHeap → Prop} {k : Nat} {p : List Nat} (hl : lookJ (places G_ref06_Split.ann G_ref06_Split.body) k = some (p, false)) {e : Env} {h : AHeap} (hk : atJ prog C 35 (G_ref06_Split.J Q) false p G_ref06_Split.ann G_ref06_Split.body e h (kFun prog Tryd.f55 Q)) : G_ref06_Split.J Q k e h := goJ_run (P := prog) (fn := Tryd.f55) (ann := G_ref06_Split.ann) (body := G_ref06_Split.body) (Q := Q) (k := k) (p := p) (e := e) (h := h) (acall_le X) G_ref06_Split.dist hl hk
theorem G_ref06_Split.goH {Q : AV → AHeap → Prop} {k : Nat} {p : List Nat} (hl : lookJ (places G_ref06_Split.ann G_ref06_Split.body) k = some (p, true)) {e : Env} {h : AHeap} (hk : atJ prog C 35 (G_ref06_Split.J Q) true p G_ref06_Split.ann G_ref06_Split.body e h (kFun prog Tryd.f55 Q)) : G_ref06_Split.J Q k e h := goJ_head (P := prog) (fn := Tryd.f55) (ann := G_ref06_Split.ann) (body := G_ref06_Split.body) (Q := Q) (k := k) (p := p) (e := e) (h := h) (acall_le X) G_ref06_Split.dist hl hk
def G_ref06_Split.p1 (Q : AV → AHeap → Prop) (x0 : List UInt8) (x1 : Int) (x5 : AV) (x6 : Int) (x7 : Int) (x24 : Bool) (h : AHeap) : Prop := G_ref06_Split.J Q 2 [(0, (AV.s x0)), (1, (AV.i .u8 x1)), (5, x5), (6, (AV.i .i64 x6)), (7, (AV.i .i64 x7)), (24, (AV.b x24))] h
theorem G_ref06_Split.j1 (Q : AV → AHeap → Prop) (x0 : List UInt8) (x1 : Int) (x5 : AV) (x6 : Int) (x7 : Int) (x24 : Bool) (h : AHeap) : G_ref06_Split.J Q 2 [(0, (AV.s x0)), (1, (AV.i .u8 x1)), (5, x5), (6, (AV.i .i64 x6)), (7, (AV.i .i64 x7)), (24, (AV.b x24))] h = G_ref06_Split.p1 Q x0 x1 x5 x6 x7 x24 h := rfl
def G_ref06_Split.p2 (Q : AV → AHeap → Prop) (x0 : List UInt8) (x1 : Int) (x5 : AV) (x6 : Int) (x7 : Int) (h : AHeap) : Prop := G_ref06_Split.J Q 3 [(0, (AV.s x0)), (1, (AV.i .u8 x1)), (5, x5), (6, (AV.i .i64 x6)), (7, (AV.i .i64 x7))] h
theorem G_ref06_Split.j2 (Q : AV → AHeap → Prop) (x0 : List UInt8) (x1 : Int) (x5 : AV) (x6 : Int) (x7 : Int) (h : AHeap) : G_ref06_Split.J Q 3 [(0, (AV.s x0)), (1, (AV.i .u8 x1)), (5, x5), (6, (AV.i .i64 x6)), (7, (AV.i .i64 x7))] h = G_ref06_Split.p2 Q x0 x1 x5 x6 x7 h := rfl
def G_ref06_Split.p0 (Q : AV → AHeap → Prop) (x0 : List UInt8) (x1 : Int) (x5 : AV) (x6 : Int) (x7 : Int) (h : AHeap) : Prop := G_ref06_Split.J Q 1 [(0, (AV.s x0)), (1, (AV.i .u8 x1)), (5, x5), (6, (AV.i .i64 x6)), (7, (AV.i .i64 x7))] h
theorem G_ref06_Split.j0 (Q : AV → AHeap → Prop) (x0 : List UInt8) (x1 : Int) (x5 : AV) (x6 : Int) (x7 : Int) (h : AHeap) : G_ref06_Split.J Q 1 [(0, (AV.s x0)), (1, (AV.i .u8 x1)), (5, x5), (6, (AV.i .i64 x6)), (7, (AV.i .i64 x7))] h = G_ref06_Split.p0 Q x0 x1 x5 x6 x7 h := rfl
def G_ref06_Split.t1 (J : JT) (Q : AV → AHeap → Prop) (x0 : List UInt8) (x1 : Int) (x5 : AV) (x6 : Int) (x7 : Int) (x24 : Bool) (h : AHeap) : Prop :=
(bif x24 then
(pSliceStr (AV.s x0) (some (AV.i .i64 x6)) (some (AV.i .i64 x7)) fun l10 =>
pBuildSl 1 1 [(AV.s [])] [(0, 1, (AV.s l10))] h fun v11 h12 =>
pAppend 1 16 x5 v11 h12 fun v13 h14 =>
withI (IntKind.wrap .i64 (x7 + 1)) fun n16 =>
J 3 [(0, (AV.s x0)), (1, (AV.i .u8 x1)), (5, v13), (6, (AV.i .i64 n16)), (7, (AV.i .i64 x7))] h14)
else
(J 3 [(0, (AV.s x0)), (1, (AV.i .u8 x1)), (5, x5), (6, (AV.i .i64 x6)), (7, (AV.i .i64 x7))] h))
theorem G_ref06_Split.t1_eq (J : JT) (Q : AV → AHeap → Prop) (x0 : List UInt8) (x1 : Int) (x5 : AV) (x6 : Int) (x7 : Int) (x24 : Bool) (h : AHeap) : G_ref06_Split.t1 J Q x0 x1 x5 x6 x7 x24 h = atJ prog C 35 J false [1, 1, 1, 0, 1, 0, 0, 1, 0, 0, 1] G_ref06_Split.ann G_ref06_Split.body [(0, (AV.s x0)), (1, (AV.i .u8 x1)), (5, x5), (6, (AV.i .i64 x6)), (7, (AV.i .i64 x7)), (24, (AV.b x24))] h (kFun prog Tryd.f55 Q) := by kernel_rfl
theorem G_ref06_Split.i1 {Q : AV → AHeap → Prop} {x0 : List UInt8} {x1 : Int} {x5 : AV} {x6 : Int} {x7 : Int} {x24 : Bool} {h : AHeap} (H : G_ref06_Split.t1 (G_ref06_Split.J Q) Q x0 x1 x5 x6 x7 x24 h) : G_ref06_Split.p1 Q x0 x1 x5 x6 x7 x24 h := G_ref06_Split.goR (k := 2) (p := [1, 1, 1, 0, 1, 0, 0, 1, 0, 0, 1]) (by kernel_rfl) ((G_ref06_Split.t1_eq (G_ref06_Split.J Q) Q x0 x1 x5 x6 x7 x24 h).mp H)
def G_ref06_Split.t2 (J : JT) (Q : AV → AHeap → Prop) (x0 : List UInt8) (x1 : Int) (x5 : AV) (x6 : Int) (x7 : Int) (h : AHeap) : Prop :=
withI (IntKind.wrap .i64 (x7 + 1)) fun n19 =>
J 1 [(0, (AV.s x0)), (1, (AV.i .u8 x1)), (5, x5), (6, (AV.i .i64 x6)), (7, (AV.i .i64 n19))] h
theorem G_ref06_Split.t2_eq (J : JT) (Q : AV → AHeap → Prop) (x0 : List UInt8) (x1 : Int) (x5 : AV) (x6 : Int) (x7 : Int) (h : AHeap) : G_ref06_Split.t2 J Q x0 x1 x5 x6 x7 h = atJ prog C 35 J false [1, 1, 1, 0, 1, 0, 0, 1, 1] G_ref06_Split.ann G_ref06_Split.body [(0, (AV.s x0)), (1, (AV.i .u8 x1)), (5, x5), (6, (AV.i .i64 x6)), (7, (AV.i .i64 x7))] h (kFun prog Tryd.f55 Q) := by kernel_rfl
theorem G_ref06_Split.i2 {Q : AV → AHeap → Prop} {x0 : List UInt8} {x1 : Int} {x5 : AV} {x6 : Int} {x7 : Int} {h : AHeap} (H : G_ref06_Split.t2 (G_ref06_Split.J Q) Q x0 x1 x5 x6 x7 h) : G_ref06_Split.p2 Q x0 x1 x5 x6 x7 h := G_ref06_Split.goR (k := 3) (p := [1, 1, 1, 0, 1, 0, 0, 1, 1]) (by kernel_rfl) ((G_ref06_Split.t2_eq (G_ref06_Split.J Q) Q x0 x1 x5 x6 x7 h).mp H)
def G_ref06_Split.t0 (J : JT) (Q : AV → AHeap → Prop) (x0 : List UInt8) (x1 : Int) (x5 : AV) (x6 : Int) (x7 : Int) (h : AHeap) : Prop :=
(bif (decide ((x7 : Int) ≤ (x0.length : Int))) then
((bif (decide ((x7 : Int) = (x0.length : Int))) then
(J 2 [(0, (AV.s x0)), (1, (AV.i .u8 x1)), (5, x5), (6, (AV.i .i64 x6)), (7, (AV.i .i64 x7)), (24, (AV.b true))] h)
else
(pIdxStr (AV.s x0) (AV.i .i64 x7) fun n8 =>
J 2 [(0, (AV.s x0)), (1, (AV.i .u8 x1)), (5, x5), (6, (AV.i .i64 x6)), (7, (AV.i .i64 x7)), (24, (AV.b (decide ((n8 : Int) = x1))))] h)))
else
(Q x5 h))
theorem G_ref06_Split.t0_eq (J : JT) (Q : AV → AHeap → Prop) (x0 : List UInt8) (x1 : Int) (x5 : AV) (x6 : Int) (x7 : Int) (h : AHeap) : G_ref06_Split.t0 J Q x0 x1 x5 x6 x7 h = atJ prog C 35 J true [1, 1, 1, 0, 1, 0] G_ref06_Split.ann G_ref06_Split.body [(0, (AV.s x0)), (1, (AV.i .u8 x1)), (5, x5), (6, (AV.i .i64 x6)), (7, (AV.i .i64 x7))] h (kFun prog Tryd.f55 Q) := by kernel_rfl
theorem G_ref06_Split.i0 {Q : AV → AHeap → Prop} {x0 : List UInt8} {x1 : Int} {x5 : AV} {x6 : Int} {x7 : Int} {h : AHeap} (H : G_ref06_Split.t0 (G_ref06_Split.J Q) Q x0 x1 x5 x6 x7 h) : G_ref06_Split.p0 Q x0 x1 x5 x6 x7 h := G_ref06_Split.goH (k := 1) (p := [1, 1, 1, 0, 1, 0]) (by kernel_rfl) ((G_ref06_Split.t0_eq (G_ref06_Split.J Q) Q x0 x1 x5 x6 x7 h).mp H)
def G_ref06_Split.t (J : JT) (Q : AV → AHeap → Prop) (x0 : List UInt8) (x1 : Int) (h : AHeap) : Prop :=
J 1 [(0, (AV.s x0)), (1, (AV.i .u8 x1)), (5, (AV.sl none 0 none)), (6, (AV.i .i64 0)), (7, (AV.i .i64 0))] h
theorem G_ref06_Split.t_eq (J : JT) (Q : AV → AHeap → Prop) (x0 : List UInt8) (x1 : Int) (h : AHeap) : G_ref06_Split.t J Q x0 x1 h = exJ prog C 35 J G_ref06_Split.ann G_ref06_Split.body (initEnv 0 [(AV.s x0), (AV.i .u8 x1)]) h (kFun prog Tryd.f55 Q) := by kernel_rfl
theorem G_ref06_Split.call {K : AV → AHeap → Prop} {x0 : List UInt8} {x1 : Int} {h : AHeap} (H : G_ref06_Split.t (G_ref06_Split.J (kRet h K)) (kRet h K) x0 x1 h) : C G_ref06_Split.id [(AV.s x0), (AV.i .u8 x1)] h K :=
  callJ (P := prog) (fn := Tryd.f55) (ann := G_ref06_Split.ann) (body := G_ref06_Split.body) Tryd.func55 G_ref06_Split.body_eq (by kernel_rfl) G_ref06_Split.dist (by kernel_rfl) ((G_ref06_Split.t_eq (G_ref06_Split.J (kRet h K)) (kRet h K) x0 x1 h).mp H)

--@@ G_ref06_Decimal
/-! ### 56: intrusion/intrusionref06.Decimal -/
noncomputable def G_ref06_Decimal.body : Code := (Tryd.f56.body).getD .skip
def G_ref06_Decimal.ann : Ann := (.seq 0 [0, 1] .leaf (.seq 0 [0, 1] (.seq 1 [0, 1, 19] .leaf (.br (.seq 0 [4] .leaf .leaf) .leaf)) (.seq 0 [0, 1, 5] .leaf (.seq 0 [1, 5] (.seq 0 [0, 1, 5, 6] .leaf (.one (.loop 2 [0, 1, 5, 6] (.seq 0 [0, 1, 5, 6] (.seq 0 [0, 1, 5, 6, 23] .leaf (.br .leaf .leaf)) (.seq 0 [0, 1, 5, 6] (.one (.seq 0 [0, 1, 5, 6] (.seq 3 [0, 1, 5, 6, 35] .leaf (.br (.seq 0 [4] .leaf .leaf) .leaf)) .leaf)) .leaf))))) (.seq 0 [5] (.seq 0 [5, 49] .leaf (.br (.seq 0 [4] .leaf .leaf) .leaf)) (.seq 0 [4] .leaf .leaf))))))
theorem G_ref06_Decimal.body_eq : Tryd.f56.body = some G_ref06_Decimal.body := by kernel_rfl
theorem G_ref06_Decimal.dist : noTwice (places G_ref06_Decimal.ann G_ref06_Decimal.body) = true := by kernel_rfl
noncomputable def G_ref06_Decimal.J (Q : AV → AHeap → Prop) : JT := funJ prog C Tryd.f56 G_ref06_Decimal.ann G_ref06_Decimal.body Q
theorem G_ref06_Decimal.goR {Q : AV → AHeap → Prop} {k : Nat} {p : List Nat} (hl : lookJ (places G_ref06_Decimal.ann G_ref06_Decimal.body) k = some (p, false)) {e : Env} {h : AHeap} (hk : atJ prog C 51 (G_ref06_Decimal.J Q) false p G_ref06_Decimal.ann G_ref06_Decimal.body e h (kFun prog Tryd.f56 Q)) : G_ref06_Decimal.J Q k e h := goJ_run (P := prog) (fn := Tryd.f56) (ann := G_ref06_Decimal.ann) (body := G_ref06_Decimal.body) (Q := Q) (k := k) (p := p) (e := e) (h := h) (acall_le X) G_ref06_Decimal.dist hl hk
theorem G_ref06_Decimal.goH {Q : AV → AHeap → Prop} {k : Nat} {p : List Nat} (hl : lookJ (places G_ref06_Decimal.ann G_ref06_Decimal.body) k = some (p, true)) {e : Env} {h : AHeap} (hk : atJ prog C 51 (G_ref06_Decimal.J Q) true p G_ref06_Decimal.ann G_ref06_Decimal.body e h (kFun prog Tryd.f56 Q)) : G_ref06_Decimal.J Q k e h := goJ_head (P := prog) (fn := Tryd.f56) (ann := G_ref06_Decimal.ann) (body := G_ref06_Decimal.body) (Q := Q) (k := k) (p := p) (e := e) (h := h) (acall_le X) G_ref06_Decimal.dist hl hk
def G_ref06_Decimal.p0 (Q : AV → AHeap → Prop) (x0 : List UInt8) (x1 : Int) (x19 : Bool) (h : AHeap) : Prop := G_ref06_Decimal.J Q 1 [(0, (AV.s x0)), (1, (AV.i .i64 x1)), (19, (AV.b x19))] h
theorem G_ref06_Decimal.j0 (Q : AV → AHeap → Prop) (x0 : List UInt8) (x1 : Int) (x19 : Bool) (h : AHeap) : G_ref06_Decimal.J Q 1 [(0, (AV.s x0)), (1, (AV.i .i64 x1)), (19, (AV.b x19))] h = G_ref06_Decimal.p0 Q x0 x1 x19 h := rfl
def G_ref06_Decimal.p2 (Q : AV → AHeap → Prop) (x0 : List UInt8) (x1 : Int) (x5 : Int) (x6 : Int) (x35 : Bool) (h : AHeap) : Prop := G_ref06_Decimal.J Q 3 [(0, (AV.s x0)), (1, (AV.i .i64 x1)), (5, (AV.i .i64 x5)), (6, (AV.i .i64 x6)), (35, (AV.b x35))] h
theorem G_ref06_Decimal.j2 (Q : AV → AHeap → Prop) (x0 : List UInt8) (x1 : Int) (x5 : Int) (x6 : Int) (x35 : Bool) (h : AHeap) : G_ref06_Decimal.J Q 3 [(0, (AV.s x0)), (1, (AV.i .i64 x1)), (5, (AV.i .i64 x5)), (6, (AV.i .i64 x6)), (35, (AV.b x35))] h = G_ref06_Decimal.p2 Q x0 x1 x5 x6 x35 h := rfl
def G_ref06_Decimal.p1 (Q : AV → AHeap → Prop) (x0 : List UInt8) (x1 : Int) (x5 : Int) (x6 : Int) (h : AHeap) : Prop := G_ref06_Decimal.J Q 2 [(0, (AV.s x0)), (1, (AV.i .i64 x1)), (5, (AV.i .i64 x5)), (6, (AV.i .i64 x6))] h
theorem G_ref06_Decimal.j1 (Q : AV → AHeap → Prop) (x0 : List UInt8) (x1 : Int) (x5 : Int) (x6 : Int) (h : AHeap) : G_ref06_Decimal.J Q 2 [(0, (AV.s x0)), (1, (AV.i .i64 x1)), (5, (AV.i .i64 x5)), (6, (AV.i .i64 x6))] h = G_ref06_Decimal.p1 Q x0 x1 x5 x6 h := rfl
def G_ref06_Decimal.t0 (J : JT) (Q : AV → AHeap → Prop) (x0 : List UInt8) (x1 : Int) (x19 : Bool) (h : AHeap) : Prop :=
(bif x19 then
(Q (AV.i .i64 (-1)) h)
else
(J 2 [(0, (AV.s x0)), (1, (AV.i .i64 x1)), (5, (AV.i .i64 0)), (6, (AV.i .i64 0))] h))
theorem G_ref06_Decimal.t0_eq (J : JT) (Q : AV → AHeap → Prop) (x0 : List UInt8) (x1 : Int) (x19 : Bool) (h : AHeap) : G_ref06_Decimal.t0 J Q x0 x1 x19 h = atJ prog C 51 J false [1, 0, 1] G_ref06_Decimal.ann G_ref06_Decimal.body [(0, (AV.s x0)), (1, (AV.i .i64 x1)), (19, (AV.b x19))] h (kFun prog Tryd.f56 Q) := by kernel_rfl
theorem G_ref06_Decimal.i0 {Q : AV → AHeap → Prop} {x0 : List UInt8} {x1 : Int} {x19 : Bool} {h : AHeap} (H : G_ref06_Decimal.t0 (G_ref06_Decimal.J Q) Q x0 x1 x19 h) : G_ref06_Decimal.p0 Q x0 x1 x19 h := G_ref06_Decimal.goR (k := 1) (p := [1, 0, 1]) (by kernel_rfl) ((G_ref06_Decimal.t0_eq (G_ref06_Decimal.J Q) Q x0 x1 x19 h).mp H)
def G_ref06_Decimal.t2 (J : JT) (Q : AV → AHeap → Prop) (x0 : List UInt8) (x1 : Int) (x5 : Int) (x6 : Int) (x35 : Bool) (h : AHeap) : Prop :=
(bif x35 then
(Q (AV.i .i64 (-1)) h)
else
(withI (IntKind.wrap .i64 (10 * x5)) fun n18 =>
pIdxStr (AV.s x0) (AV.i .i64 x6) fun n19 =>
withI (IntKind.wrap .i64 (n18 + (IntKind.wrap .i64 n19))) fun n20 =>
withI (IntKind.wrap .i64 (n20 - 48)) fun n21 =>
withI (IntKind.wrap .i64 (x1 + 1)) fun n22 =>
withI (IntKind.wrap .i64 (x6 + 1)) fun n24 =>
J 2 [(0, (AV.s x0)), (1, (AV.i .i64 x1)), (5, (AV.i .i64 (mmI false n21 n22))), (6, (AV.i .i64 n24))] h))
theorem G_ref06_Decimal.t2_eq (J : JT) (Q : AV → AHeap → Prop) (x0 : List UInt8) (x1 : Int) (x5 : Int) (x6 : Int) (x35 : Bool) (h : AHeap) : G_ref06_Decimal.t2 J Q x0 x1 x5 x6 x35 h = atJ prog C 51 J false [1, 1, 1, 0, 1, 0, 0, 1, 0, 0, 0, 1] G_ref06_Decimal.ann G_ref06_Decimal.body [(0, (AV.s x0)), (1, (AV.i .i64 x1)), (5, (AV.i .i64 x5)), (6, (AV.i .i64 x6)), (35, (AV.b x35))] h (kFun prog Tryd.f56 Q) := by kernel_rfl
theorem G_ref06_Decimal.i2 {Q : AV → AHeap → Prop} {x0 : List UInt8} {x1 : Int} {x5 : Int} {x6 : Int} {x35 : Bool} {h : AHeap} (H : G_ref06_Decimal.t2 (G_ref06_Decimal.J Q) Q x0 x1 x5 x6 x35 h) : G_ref06_Decimal.p2 Q x0 x1 x5 x6 x35 h := G_ref06_Decimal.goR (k := 3) (p := [1, 1, 1, 0, 1, 0, 0, 1, 0, 0, 0, 1]) (by kernel_rfl) ((G_ref06_Decimal.t2_eq (G_ref06_Decimal.J Q) Q x0 x1 x5 x6 x35 h).mp H)
def G_ref06_Decimal.t1 (J : JT) (Q : AV → AHeap → Prop) (x0 : List UInt8) (x1 : Int) (x5 : Int) (x6 : Int) (h : AHeap) : Prop :=
(bif (decide ((x6 : Int) < (x0.length : Int))) then
(pIdxStr (AV.s x0) (AV.i .i64 x6) fun n12 =>
(bif (decide ((n12 : Int) < 48)) then
(J 3 [(0, (AV.s x0)), (1, (AV.i .i64 x1)), (5, (AV.i .i64 x5)), (6, (AV.i .i64 x6)), (35, (AV.b true))] h)
else
(pIdxStr (AV.s x0) (AV.i .i64 x6) fun n14 =>
J 3 [(0, (AV.s x0)), (1, (AV.i .i64 x1)), (5, (AV.i .i64 x5)), (6, (AV.i .i64 x6)), (35, (AV.b (decide ((57 : Int) < n14))))] h)))
else
((bif (decide ((x1 : Int) < x5)) then
(Q (AV.i .i64 (-2)) h)
else
(Q (AV.i .i64 x5) h))))
theorem G_ref06_Decimal.t1_eq (J : JT) (Q : AV → AHeap → Prop) (x0 : List UInt8) (x1 : Int) (x5 : Int) (x6 : Int) (h : AHeap) : G_ref06_Decimal.t1 J Q x0 x1 x5 x6 h = atJ prog C 51 J true [1, 1, 1, 0, 1, 0] G_ref06_Decimal.ann G_ref06_Decimal.body [(0, (AV.s x0)), (1, (AV.i .i64 x1)), (5, (AV.i .i64 x5)), (6, (AV.i .i64 x6))] h (kFun prog Tryd.f56 Q) := by kernel_rfl
theorem G_ref06_Decimal.i1 {Q : AV → AHeap → Prop} {x0 : List UInt8} {x1 : Int} {x5 : Int} {x6 : Int} {h : AHeap} (H : G_ref06_Decimal.t1 (G_ref06_Decimal.J Q) Q x0 x1 x5 x6 h) : G_ref06_Decimal.p1 Q x0 x1 x5 x6 h := G_ref06_Decimal.goH (k := 2) (p := [1, 1, 1, 0, 1, 0]) (by kernel_rfl) ((G_ref06_Decimal.t1_eq (G_ref06_Decimal.J Q) Q x0 x1 x5 x6 h).mp H)
def G_ref06_Decimal.t (J : JT) (Q : AV → AHeap → Prop) (x0 : List UInt8) (x1 : Int) (h : AHeap) : Prop :=
(bif (decide (((x0.length : Int) : Int) = 0)) then
(J 1 [(0, (AV.s x0)), (1, (AV.i .i64 x1)), (19, (AV.b true))] h)
else
((bif (decide ((1 : Int) < (x0.length : Int))) then
(pIdxStr (AV.s x0) (AV.i .i64 0) fun n2 =>
J 1 [(0, (AV.s x0)), (1, (AV.i .i64 x1)), (19, (AV.b (decide ((n2 : Int) = 48))))] h)
else
(J 1 [(0, (AV.s x0)), (1, (AV.i .i64 x1)), (19, (AV.b false))] h))))
theorem G_ref06_Decimal.t_eq (J : JT) (Q : AV → AHeap → Prop) (x0 : List UInt8) (x1 : Int) (h : AHeap) : G_ref06_Decimal.t J Q x0 x1 h = exJ prog C 51 J G_ref06_Decimal.ann G_ref06_Decimal.body (initEnv 0 [(AV.s x0), (AV.i .i64 x1)]) h (kFun prog Tryd.f56 Q) := by kernel_rfl
theorem G_ref06_Decimal.call {K : AV → AHeap → Prop} {x0 : List UInt8} {x1 : Int} {h : AHeap} (H : G_ref06_Decimal.t (G_ref06_Decimal.J (kRet h K)) (kRet h K) x0 x1 h) : C G_ref06_Decimal.id [(AV.s x0), (AV.i .i64 x1)] h K :=
  callJ (P := prog) (fn := Tryd.f56) (ann := G_ref06_Decimal.ann) (body := G_ref06_Decimal.body) Tryd.func56 G_ref06_Decimal.body_eq (by kernel_rfl) G_ref06_Decimal.dist (by kernel_rfl) ((G_ref06_Decimal.t_eq (G_ref06_Decimal.J (kRet h K)) (kRet h K) x0 x1 h).mp H)

--@@ G_ref33_arc
/-! ### 57: intrusion/intrusionref33.arc -/
noncomputable def G_ref33_arc.body : Code := (Tryd.f57.body).getD .skip
def G_ref33_arc.ann : Ann := (.seq 0 [0] .leaf (.seq 0 [0, 3] .leaf (.seq 0 [3] (.seq 0 [0, 3] .leaf (.one (.loop 1 [0, 3] (.seq 0 [0, 3] (.seq 0 [0, 3, 11] .leaf (.br .leaf .leaf)) (.seq 0 [0, 3] (.one .leaf) .leaf))))) (.seq 0 [2] .leaf .leaf))))
theorem G_ref33_arc.body_eq : Tryd.f57.body = some G_ref33_arc.body := by kernel_rfl
theorem G_ref33_arc.dist : noTwice (places G_ref33_arc.ann G_ref33_arc.body) = true := by kernel_rfl
noncomputable def G_ref33_arc.J (Q : AV → AHeap → Prop) : JT := funJ prog C Tryd.f57 G_ref33_arc.ann G_ref33_arc.body Q
theorem G_ref33_arc.goR {Q : AV → AHeap → Prop} {k : Nat} {p : List Nat} (hl : lookJ (places G_ref33_arc.ann G_ref33_arc.body) k = some (p, false)) {e : Env} {h : AHeap} (hk : atJ prog C 23 (G_ref33_arc.J Q) false p G_ref33_arc.ann G_ref33_arc.body e h (kFun prog Tryd.f57 Q)) : G_ref33_arc.J Q k e h := goJ_run (P := prog) (fn := Tryd.f57) (ann := G_ref33_arc.ann) (body := G_ref33_arc.body) (Q := Q) (k := k) (p := p) (e := e) (h := h) (acall_le X) G_ref33_arc.dist hl hk
theorem G_ref33_arc.goH {Q : AV → AHeap → Prop} {k : Nat} {p : List Nat} (hl : lookJ (places G_ref33_arc.ann G_ref33_arc.body) k = some (p, true)) {e : Env} {h : AHeap} (hk : atJ prog C 23 (G_ref33_arc.J Q) true p G_ref33_arc.ann G_ref33_arc.body e h (kFun prog Tryd.f57 Q)) : G_ref33_arc.J Q k e h := goJ_head (P := prog) (fn := Tryd.f57) (ann := G_ref33_arc.ann) (body := G_ref33_arc.body) (Q := Q) (k := k) (p := p) (e := e) (h := h) (acall_le X) G_ref33_arc.dist hl hk
def G_ref33_arc.p0 (Q : AV → AHeap → Prop) (x0 : Int) (x3 : AV) (h : AHeap) : Prop := G_ref33_arc.J Q 1 [(0, (AV.i .i64 x0)), (3, x3)] h
theorem G_ref33_arc.j0 (Q : AV → AHeap → Prop) (x0 : Int) (x3 : AV) (h : AHeap) : G_ref33_arc.J Q 1 [(0, (AV.i .i64 x0)), (3, x3)] h = G_ref33_arc.p0 Q x0 x3 h := rfl
def G_ref33_arc.t0 (J : JT) (Q : AV → AHeap → Prop) (x0 : Int) (x3 : AV) (h : AHeap) : Prop :=
(bif (decide ((0 : Int) < x0)) then
(pRem x0 128 fun n10 =>
withI (IntKind.wrap .i64 (128 + n10)) fun n11 =>
pBuildSl 1 1 [(AV.i .u8 0)] [(0, 1, (AV.i .u8 (IntKind.wrap .u8 n11)))] h fun v12 h13 =>
pAppend 1 1 v12 x3 h13 fun v14 h15 =>
pQuo .i64 x0 128 fun n17 =>
J 1 [(0, (AV.i .i64 n17)), (3, v14)] h15)
else
(pBytesStr x3 h fun l19 =>
Q (AV.s l19) h))
theorem G_ref33_arc.t0_eq (J : JT) (Q : AV → AHeap → Prop) (x0 : Int) (x3 : AV) (h : AHeap) : G_ref33_arc.t0 J Q x0 x3 h = atJ prog C 23 J true [1, 1, 0, 1, 0] G_ref33_arc.ann G_ref33_arc.body [(0, (AV.i .i64 x0)), (3, x3)] h (kFun prog Tryd.f57 Q) := by kernel_rfl
theorem G_ref33_arc.i0 {Q : AV → AHeap → Prop} {x0 : Int} {x3 : AV} {h : AHeap} (H : G_ref33_arc.t0 (G_ref33_arc.J Q) Q x0 x3 h) : G_ref33_arc.p0 Q x0 x3 h := G_ref33_arc.goH (k := 1) (p := [1, 1, 0, 1, 0]) (by kernel_rfl) ((G_ref33_arc.t0_eq (G_ref33_arc.J Q) Q x0 x3 h).mp H)
def G_ref33_arc.t (J : JT) (Q : AV → AHeap → Prop) (x0 : Int) (h : AHeap) : Prop :=
pRem x0 128 fun n1 =>
pBuildSl 1 1 [(AV.i .u8 0)] [(0, 1, (AV.i .u8 (IntKind.wrap .u8 n1)))] h fun v2 h3 =>
pQuo .i64 x0 128 fun n5 =>
J 1 [(0, (AV.i .i64 n5)), (3, v2)] h3
theorem G_ref33_arc.t_eq (J : JT) (Q : AV → AHeap → Prop) (x0 : Int) (h : AHeap) : G_ref33_arc.t J Q x0 h = exJ prog C 23 J G_ref33_arc.ann G_ref33_arc.body (initEnv 0 [(AV.i .i64 x0)]) h (kFun prog Tryd.f57 Q) := by kernel_rfl
theorem G_ref33_arc.call {K : AV → AHeap → Prop} {x0 : Int} {h : AHeap} (H : G_ref33_arc.t (G_ref33_arc.J (kRet h K)) (kRet h K) x0 h) : C G_ref33_arc.id [(AV.i .i64 x0)] h K :=
  callJ (P := prog) (fn := Tryd.f57) (ann := G_ref33_arc.ann) (body := G_ref33_arc.body) Tryd.func57 G_ref33_arc.body_eq (by kernel_rfl) G_ref33_arc.dist (by kernel_rfl) ((G_ref33_arc.t_eq (G_ref33_arc.J (kRet h K)) (kRet h K) x0 h).mp H)

--@@ G_der_length
/-! ### 58: intrusion/der.length -/
noncomputable def G_der_length.body : Code := (Tryd.f58.body).getD .skip
def G_der_length.ann : Ann := (.seq 0 [0] .leaf (.seq 0 [0] (.seq 0 [0, 9] .leaf (.br (.seq 0 [2, 3, 4] .leaf .leaf) .leaf)) (.seq 0 [0, 5] (.ord (.neu 0 (.neu 1 (.neu 2 (.neu 3 (.neu 4 (.neu 5 (.eff 6 .done .stop)))))))) (.seq 0 [0, 5] (.seq 0 [0, 5, 16] .leaf (.br (.seq 0 [2, 3, 4] .leaf .leaf) .leaf)) (.seq 0 [0, 6] .leaf (.seq 0 [0, 6] (.one (.seq 1 [0, 6, 21] .leaf (.br (.seq 0 [2, 3, 4] .leaf .leaf) (.seq 0 [0, 6, 28] .leaf (.br (.seq 0 [2, 3, 4] .leaf .leaf) .leaf))))) (.seq 0 [0, 5, 6] .leaf (.seq 0 [0, 5, 6] (.seq 0 [0, 5, 6, 33, 34] .leaf (.one (.loop 2 [0, 5, 6, 33, 34] (.seq 0 [0, 5, 6, 33, 34, 35] .leaf (.seq 0 [0, 5, 6, 33, 34] (.br .leaf .leaf) (.seq 0 [0, 5, 6, 33, 34] (.one (.seq 0 [0, 5, 6, 7, 33, 34] .leaf .leaf)) .leaf)))))) (.seq 0 [0, 5, 6] (.seq 3 [0, 5, 6, 54] .leaf (.br (.seq 0 [2, 3, 4] .leaf .leaf) .leaf)) (.seq 0 [2, 3, 4] (.ord (.neu 0 (.neu 1 (.neu 2 (.neu 3 (.neu 4 (.neu 5 (.neu 6 .done)))))))) .leaf))))))))))
theorem G_der_length.body_eq : Tryd.f58.body = some G_der_length.body := by kernel_rfl
theorem G_der_length.dist : noTwice (places G_der_length.ann G_der_length.body) = true := by kernel_rfl
noncomputable def G_der_length.J (Q : AV → AHeap → Prop) : JT := funJ prog C Tryd.f58 G_der_length.ann G_der_length.body Q
theorem G_der_length.goR {Q : AV → AHeap → Prop} {k : Nat} {p : List Nat} (hl : lookJ (places G_der_length.ann G_der_length.body) k = some (p, false)) {e : Env} {h : AHeap} (hk : atJ prog C 59 (G_der_length.J Q) false p G_der_length.ann G_der_length.body e h (kFun prog Tryd.f58 Q)) : G_der_length.J Q k e h := goJ_run (P := prog) (fn := Tryd.f58) (ann := G_der_length.ann) (body := G_der_length.body) (Q := Q) (k := k) (p := p) (e := e) (h := h) (acall_le X) G_der_length.dist hl hk
theorem G_der_length.goH {Q : AV → AHeap → Prop} {k : Nat} {p : List Nat} (hl : lookJ (places G_der_length.ann G_der_length.body) k = some (p, true)) {e : Env} {h : AHeap} (hk : atJ prog C 59 (G_der_length.J Q) true p G_der_length.ann G_der_length.body e h (kFun prog Tryd.f58 Q)) : G_der_length.J Q k e h := goJ_head (P := prog) (fn := Tryd.f58) (ann := G_der_length.ann) (body := G_der_length.body) (Q := Q) (k := k) (p := p) (e := e) (h := h) (acall_le X) G_der_length.dist hl hk
def G_der_length.p0 (Q : AV → AHeap → Prop) (x0 : List UInt8) (x6 : Int) (x21 : Bool) (h : AHeap) : Prop := G_der_length.J Q 1 [(0, (AV.s x0)), (6, (AV.i .i64 x6)), (21, (AV.b x21))] h
theorem G_der_length.j0 (Q : AV → AHeap → Prop) (x0 : List UInt8) (x6 : Int) (x21 : Bool) (h : AHeap) : G_der_length.J Q 1 [(0, (AV.s x0)), (6, (AV.i .i64 x6)), (21, (AV.b x21))] h = G_der_length.p0 Q x0 x6 x21 h := rfl
def G_der_length.p1 (Q : AV → AHeap → Prop) (x0 : List UInt8) (x5 : Int) (x6 : Int) (x33 : Int) (x34 : Int) (h : AHeap) : Prop := G_der_length.J Q 2 [(0, (AV.s x0)), (5, (AV.i .i64 x5)), (6, (AV.i .i64 x6)), (33, (AV.i .i64 x33)), (34, (AV.i .i64 x34))] h
theorem G_der_length.j1 (Q : AV → AHeap → Prop) (x0 : List UInt8) (x5 : Int) (x6 : Int) (x33 : Int) (x34 : Int) (h : AHeap) : G_der_length.J Q 2 [(0, (AV.s x0)), (5, (AV.i .i64 x5)), (6, (AV.i .i64 x6)), (33, (AV.i .i64 x33)), (34, (AV.i .i64 x34))] h = G_der_length.p1 Q x0 x5 x6 x33 x34 h := rfl
def G_der_length.p2 (Q : AV → AHeap → Prop) (x0 : List UInt8) (x5 : Int) (x6 : Int) (x54 : Bool) (h : AHeap) : Prop := G_der_length.J Q 3 [(0, (AV.s x0)), (5, (AV.i .i64 x5)), (6, (AV.i .i64 x6)), (54, (AV.b x54))] h
theorem G_der_length.j2 (Q : AV → AHeap → Prop) (x0 : List UInt8) (x5 : Int) (x6 : Int) (x54 : Bool) (h : AHeap) : G_der_length.J Q 3 [(0, (AV.s x0)), (5, (AV.i .i64 x5)), (6, (AV.i .i64 x6)), (54, (AV.b x54))] h = G_der_length.p2 Q x0 x5 x6 x54 h := rfl
def G_der_length.t0 (J : JT) (Q : AV → AHeap → Prop) (x0 : List UInt8) (x6 : Int) (x21 : Bool) (h : AHeap) : Prop :=
(bif x21 then
(Q (AV.tu [(AV.i .i64 0), (AV.s []), (AV.i .i64 2)]) h)
else
((bif (decide (((x0.length : Int) : Int) < x6)) then
(Q (AV.tu [(AV.i .i64 0), (AV.s []), (AV.i .i64 1)]) h)
else
(J 2 [(0, (AV.s x0)), (5, (AV.i .i64 0)), (6, (AV.i .i64 x6)), (33, (AV.i .i64 x6)), (34, (AV.i .i64 0))] h))))
theorem G_der_length.t0_eq (J : JT) (Q : AV → AHeap → Prop) (x0 : List UInt8) (x6 : Int) (x21 : Bool) (h : AHeap) : G_der_length.t0 J Q x0 x6 x21 h = atJ prog C 59 J false [1, 1, 1, 1, 1, 0, 0, 1] G_der_length.ann G_der_length.body [(0, (AV.s x0)), (6, (AV.i .i64 x6)), (21, (AV.b x21))] h (kFun prog Tryd.f58 Q) := by kernel_rfl
theorem G_der_length.i0 {Q : AV → AHeap → Prop} {x0 : List UInt8} {x6 : Int} {x21 : Bool} {h : AHeap} (H : G_der_length.t0 (G_der_length.J Q) Q x0 x6 x21 h) : G_der_length.p0 Q x0 x6 x21 h := G_der_length.goR (k := 1) (p := [1, 1, 1, 1, 1, 0, 0, 1]) (by kernel_rfl) ((G_der_length.t0_eq (G_der_length.J Q) Q x0 x6 x21 h).mp H)
def G_der_length.t1 (J : JT) (Q : AV → AHeap → Prop) (x0 : List UInt8) (x5 : Int) (x6 : Int) (x33 : Int) (x34 : Int) (h : AHeap) : Prop :=
(bif (decide ((x34 : Int) < x33)) then
(pShl .i64 x5 8 fun n24 =>
pIdxStr (AV.s x0) (AV.i .i64 x34) fun n25 =>
withI (bitsOp .or .i64 n24 (IntKind.wrap .i64 n25)) fun n26 =>
withI (IntKind.wrap .i64 (x34 + 1)) fun n28 =>
J 2 [(0, (AV.s x0)), (5, (AV.i .i64 n26)), (6, (AV.i .i64 x6)), (33, (AV.i .i64 x33)), (34, (AV.i .i64 n28))] h)
else
((bif (decide ((x5 : Int) < 128)) then
(J 3 [(0, (AV.s x0)), (5, (AV.i .i64 x5)), (6, (AV.i .i64 x6)), (54, (AV.b true))] h)
else
(withI (IntKind.wrap .i64 (x6 - 1)) fun n31 =>
withI (IntKind.wrap .i64 (8 * n31)) fun n32 =>
pShr .i64 x5 n32 fun n33 =>
J 3 [(0, (AV.s x0)), (5, (AV.i .i64 x5)), (6, (AV.i .i64 x6)), (54, (AV.b (decide ((n33 : Int) = 0))))] h))))
theorem G_der_length.t1_eq (J : JT) (Q : AV → AHeap → Prop) (x0 : List UInt8) (x5 : Int) (x6 : Int) (x33 : Int) (x34 : Int) (h : AHeap) : G_der_length.t1 J Q x0 x5 x6 x33 x34 h = atJ prog C 59 J true [1, 1, 1, 1, 1, 1, 1, 0, 1, 0] G_der_length.ann G_der_length.body [(0, (AV.s x0)), (5, (AV.i .i64 x5)), (6, (AV.i .i64 x6)), (33, (AV.i .i64 x33)), (34, (AV.i .i64 x34))] h (kFun prog Tryd.f58 Q) := by kernel_rfl
theorem G_der_length.i1 {Q : AV → AHeap → Prop} {x0 : List UInt8} {x5 : Int} {x6 : Int} {x33 : Int} {x34 : Int} {h : AHeap} (H : G_der_length.t1 (G_der_length.J Q) Q x0 x5 x6 x33 x34 h) : G_der_length.p1 Q x0 x5 x6 x33 x34 h := G_der_length.goH (k := 2) (p := [1, 1, 1, 1, 1, 1, 1, 0, 1, 0]) (by kernel_rfl) ((G_der_length.t1_eq (G_der_length.J Q) Q x0 x5 x6 x33 x34 h).mp H)
def G_der_length.t2 (J : JT) (Q : AV → AHeap → Prop) (x0 : List UInt8) (x5 : Int) (x6 : Int) (x54 : Bool) (h : AHeap) : Prop :=
(bif x54 then
(Q (AV.tu [(AV.i .i64 0), (AV.s []), (AV.i .i64 2)]) h)
else
(pSliceStr (AV.s x0) (some (AV.i .i64 x6)) none fun l37 =>
Q (AV.tu [(AV.i .i64 x5), (AV.s l37), (AV.i .i64 0)]) h))
theorem G_der_length.t2_eq (J : JT) (Q : AV → AHeap → Prop) (x0 : List UInt8) (x5 : Int) (x6 : Int) (x54 : Bool) (h : AHeap) : G_der_length.t2 J Q x0 x5 x6 x54 h = atJ prog C 59 J false [1, 1, 1, 1, 1, 1, 1, 1, 0, 1] G_der_length.ann G_der_length.body [(0, (AV.s x0)), (5, (AV.i .i64 x5)), (6, (AV.i .i64 x6)), (54, (AV.b x54))] h (kFun prog Tryd.f58 Q) := by kernel_rfl
theorem G_der_length.i2 {Q : AV → AHeap → Prop} {x0 : List UInt8} {x5 : Int} {x6 : Int} {x54 : Bool} {h : AHeap} (H : G_der_length.t2 (G_der_length.J Q) Q x0 x5 x6 x54 h) : G_der_length.p2 Q x0 x5 x6 x54 h := G_der_length.goR (k := 3) (p := [1, 1, 1, 1, 1, 1, 1, 1, 0, 1]) (by kernel_rfl) ((G_der_length.t2_eq (G_der_length.J Q) Q x0 x5 x6 x54 h).mp H)
def G_der_length.t (J : JT) (Q : AV → AHeap → Prop) (x0 : List UInt8) (h : AHeap) : Prop :=
(bif (decide ((x0 : List UInt8) = [])) then
(Q (AV.tu [(AV.i .i64 0), (AV.s []), (AV.i .i64 1)]) h)
else
(pIdxStr (AV.s x0) (AV.i .i64 0) fun n4 =>
pSliceStr (AV.s x0) (some (AV.i .i64 1)) none fun l5 =>
(bif (decide (((IntKind.wrap .i64 n4) : Int) < 128)) then
(Q (AV.tu [(AV.i .i64 (IntKind.wrap .i64 n4)), (AV.s l5), (AV.i .i64 0)]) h)
else
(withI (IntKind.wrap .i64 ((IntKind.wrap .i64 n4) - 128)) fun n10 =>
(bif (decide ((n10 : Int) < 1)) then
(J 1 [(0, (AV.s l5)), (6, (AV.i .i64 n10)), (21, (AV.b true))] h)
else
(J 1 [(0, (AV.s l5)), (6, (AV.i .i64 n10)), (21, (AV.b (decide ((3 : Int) < n10))))] h))))))
theorem G_der_length.t_eq (J : JT) (Q : AV → AHeap → Prop) (x0 : List UInt8) (h : AHeap) : G_der_length.t J Q x0 h = exJ prog C 59 J G_der_length.ann G_der_length.body (initEnv 0 [(AV.s x0)]) h (kFun prog Tryd.f58 Q) := by kernel_rfl
theorem G_der_length.call {K : AV → AHeap → Prop} {x0 : List UInt8} {h : AHeap} (H : G_der_length.t (G_der_length.J (kRet h K)) (kRet h K) x0 h) : C G_der_length.id [(AV.s x0)] h K :=
  callJ (P := prog) (fn := Tryd.f58) (ann := G_der_length.ann) (body := G_der_length.body) Tryd.func58 G_der_length.body_eq (by kernel_rfl) G_der_length.dist (by kernel_rfl) ((G_der_length.t_eq (G_der_length.J (kRet h K)) (kRet h K) x0 h).mp H)

--@@ G_ref33_Scan_size
/-! ### 59: (*intrusion/intrusionref33.Scan).size -/
noncomputable def G_ref33_Scan_size.body : Code := (Tryd.f59.body).getD .skip
def G_ref33_Scan_size.ann : Ann := (.seq 0 [0, 1] .leaf (.seq 0 [0, 1] (.seq 0 [0, 1, 15] .leaf (.br (.seq 0 [4, 5] .leaf .leaf) .leaf)) (.seq 0 [0, 1, 6] (.ord (.neu 0 (.neu 1 (.neu 2 (.neu 3 (.neu 4 (.neu 5 (.neu 6 (.neu 7 (.neu 8 (.neu 9 (.neu 10 .done)))))))))))) (.seq 0 [0, 1, 6] .leaf (.seq 0 [0, 1, 6] (.seq 0 [0, 1, 6, 34] .leaf (.br (.seq 0 [4, 5] .leaf .leaf) .leaf)) (.seq 0 [0, 1, 7] .leaf (.seq 0 [0, 1, 7] (.seq 1 [0, 1, 7, 43] .leaf (.br (.seq 0 [4, 5] .leaf .leaf) .leaf)) (.seq 0 [0, 7] (.seq 0 [0, 7, 51] .leaf (.br (.seq 0 [4, 5] .leaf .leaf) .leaf)) (.seq 0 [0, 7, 8] .leaf (.seq 0 [0, 7, 8] (.seq 0 [0, 7, 8, 9] .leaf (.one (.loop 2 [0, 7, 8, 9] (.seq 0 [0, 7, 8, 9] (.seq 0 [0, 7, 8, 9, 54] .leaf (.br .leaf .leaf)) (.seq 0 [0, 7, 8, 9] (.one (.ord (.neu 0 (.neu 1 (.neu 2 (.neu 3 (.neu 4 (.neu 5 (.neu 6 (.neu 7 (.neu 8 (.neu 9 (.neu 10 (.neu 11 (.neu 12 (.neu 13 (.neu 14 (.eff 15 .done .stop)))))))))))))))))) .leaf))))) (.seq 0 [7, 8] .leaf (.seq 0 [8] (.seq 3 [8, 94] .leaf (.br (.seq 0 [4, 5] .leaf .leaf) .leaf)) (.seq 0 [4, 5] .leaf .leaf)))))))))))))
theorem G_ref33_Scan_size.body_eq : Tryd.f59.body = some G_ref33_Scan_size.body := by kernel_rfl
theorem G_ref33_Scan_size.dist : noTwice (places G_ref33_Scan_size.ann G_ref33_Scan_size.body) = true := by kernel_rfl
noncomputable def G_ref33_Scan_size.J (Q : AV → AHeap → Prop) : JT := funJ prog C Tryd.f59 G_ref33_Scan_size.ann G_ref33_Scan_size.body Q
theorem G_ref33_Scan_size.goR {Q : AV → AHeap → Prop} {k : Nat} {p : List Nat} (hl : lookJ (places G_ref33_Scan_size.ann G_ref33_Scan_size.body) k = some (p, false)) {e : Env} {h : AHeap} (hk : atJ prog C 96 (G_ref33_Scan_size.J Q) false p G_ref33_Scan_size.ann G_ref33_Scan_size.body e h (kFun prog Tryd.f59 Q)) : G_ref33_Scan_size.J Q k e h := goJ_run (P := prog) (fn := Tryd.f59) (ann := G_ref33_Scan_size.ann) (body := G_ref33_Scan_size.body) (Q := Q) (k := k) (p := p) (e := e) (h := h) (acall_le X) G_ref33_Scan_size.dist hl hk
theorem G_ref33_Scan_size.goH {Q : AV → AHeap → Prop} {k : Nat} {p : List Nat} (hl : lookJ (places G_ref33_Scan_size.ann G_ref33_Scan_size.body) k = some (p, true)) {e : Env} {h : AHeap} (hk : atJ prog C 96 (G_ref33_Scan_size.J Q) true p G_ref33_Scan_size.ann G_ref33_Scan_size.body e h (kFun prog Tryd.f59 Q)) : G_ref33_Scan_size.J Q k e h := goJ_head (P := prog) (fn := Tryd.f59) (ann := G_ref33_Scan_size.ann) (body := G_ref33_Scan_size.body) (Q := Q) (k := k) (p := p) (e := e) (h := h) (acall_le X) G_ref33_Scan_size.dist hl hk
def G_ref33_Scan_size.p0 (Q : AV → AHeap → Prop) (x0 : AV) (x1 : Int) (x7 : Int) (x43 : Bool) (h : AHeap) : Prop := G_ref33_Scan_size.J Q 1 [(0, x0), (1, (AV.i .i64 x1)), (7, (AV.i .i64 x7)), (43, (AV.b x43))] h
theorem G_ref33_Scan_size.j0 (Q : AV → AHeap → Prop) (x0 : AV) (x1 : Int) (x7 : Int) (x43 : Bool) (h : AHeap) : G_ref33_Scan_size.J Q 1 [(0, x0), (1, (AV.i .i64 x1)), (7, (AV.i .i64 x7)), (43, (AV.b x43))] h = G_ref33_Scan_size.p0 Q x0 x1 x7 x43 h := rfl
def G_ref33_Scan_size.p1 (Q : AV → AHeap → Prop) (x0 : AV) (x7 : Int) (x8 : Int) (x9 : Int) (h : AHeap) : Prop := G_ref33_Scan_size.J Q 2 [(0, x0), (7, (AV.i .i64 x7)), (8, (AV.i .i64 x8)), (9, (AV.i .i64 x9))] h
theorem G_ref33_Scan_size.j1 (Q : AV → AHeap → Prop) (x0 : AV) (x7 : Int) (x8 : Int) (x9 : Int) (h : AHeap) : G_ref33_Scan_size.J Q 2 [(0, x0), (7, (AV.i .i64 x7)), (8, (AV.i .i64 x8)), (9, (AV.i .i64 x9))] h = G_ref33_Scan_size.p1 Q x0 x7 x8 x9 h := rfl
def G_ref33_Scan_size.p2 (Q : AV → AHeap → Prop) (x8 : Int) (x94 : Bool) (h : AHeap) : Prop := G_ref33_Scan_size.J Q 3 [(8, (AV.i .i64 x8)), (94, (AV.b x94))] h
theorem G_ref33_Scan_size.j2 (Q : AV → AHeap → Prop) (x8 : Int) (x94 : Bool) (h : AHeap) : G_ref33_Scan_size.J Q 3 [(8, (AV.i .i64 x8)), (94, (AV.b x94))] h = G_ref33_Scan_size.p2 Q x8 x94 h := rfl
def G_ref33_Scan_size.t0 (J : JT) (Q : AV → AHeap → Prop) (x0 : AV) (x1 : Int) (x7 : Int) (x43 : Bool) (h : AHeap) : Prop :=
(bif x43 then
(Q (AV.tu [(AV.i .i64 0), (AV.i .i64 2)]) h)
else
(pNil x0 fun v36 =>
pFieldAddr 1 v36 fun v37 =>
pLoad1 v37 h fun v38 =>
asI .i64 v38 fun n39 =>
withI (IntKind.wrap .i64 (x1 - n39)) fun n40 =>
(bif (decide ((n40 : Int) < x7)) then
(Q (AV.tu [(AV.i .i64 0), (AV.i .i64 1)]) h)
else
(J 2 [(0, x0), (7, (AV.i .i64 x7)), (8, (AV.i .i64 0)), (9, (AV.i .i64 0))] h))))
theorem G_ref33_Scan_size.t0_eq (J : JT) (Q : AV → AHeap → Prop) (x0 : AV) (x1 : Int) (x7 : Int) (x43 : Bool) (h : AHeap) : G_ref33_Scan_size.t0 J Q x0 x1 x7 x43 h = atJ prog C 96 J false [1, 1, 1, 1, 1, 1, 0, 1] G_ref33_Scan_size.ann G_ref33_Scan_size.body [(0, x0), (1, (AV.i .i64 x1)), (7, (AV.i .i64 x7)), (43, (AV.b x43))] h (kFun prog Tryd.f59 Q) := by kernel_rfl
theorem G_ref33_Scan_size.i0 {Q : AV → AHeap → Prop} {x0 : AV} {x1 : Int} {x7 : Int} {x43 : Bool} {h : AHeap} (H : G_ref33_Scan_size.t0 (G_ref33_Scan_size.J Q) Q x0 x1 x7 x43 h) : G_ref33_Scan_size.p0 Q x0 x1 x7 x43 h := G_ref33_Scan_size.goR (k := 1) (p := [1, 1, 1, 1, 1, 1, 0, 1]) (by kernel_rfl) ((G_ref33_Scan_size.t0_eq (G_ref33_Scan_size.J Q) Q x0 x1 x7 x43 h).mp H)
def G_ref33_Scan_size.t1 (J : JT) (Q : AV → AHeap → Prop) (x0 : AV) (x7 : Int) (x8 : Int) (x9 : Int) (h : AHeap) : Prop :=
(bif (decide ((x9 : Int) < x7)) then
(pShl .i64 x8 8 fun n49 =>
pNil x0 fun v50 =>
pFieldAddr 0 v50 fun v51 =>
pLoad1 v51 h fun v52 =>
asS v52 fun l53 =>
pNil x0 fun v54 =>
pFieldAddr 1 v54 fun v55 =>
pLoad1 v55 h fun v56 =>
asI .i64 v56 fun n57 =>
withI (IntKind.wrap .i64 (n57 + x9)) fun n58 =>
pIdxStr (AV.s l53) (AV.i .i64 n58) fun n59 =>
withI (bitsOp .or .i64 n49 (IntKind.wrap .i64 n59)) fun n60 =>
withI (IntKind.wrap .i64 (x9 + 1)) fun n62 =>
J 2 [(0, x0), (7, (AV.i .i64 x7)), (8, (AV.i .i64 n60)), (9, (AV.i .i64 n62))] h)
else
(pNil x0 fun v64 =>
pFieldAddr 1 v64 fun v65 =>
pLoad1 v65 h fun v66 =>
asI .i64 v66 fun n67 =>
withI (IntKind.wrap .i64 (n67 + x7)) fun n68 =>
pNil x0 fun v69 =>
pFieldAddr 1 v69 fun v70 =>
pStore 1 v70 (AV.i .i64 n68) h fun h71 =>
(bif (decide ((x8 : Int) < 128)) then
(J 3 [(8, (AV.i .i64 x8)), (94, (AV.b true))] h71)
else
((bif (decide ((1 : Int) < x7)) then
(withI (IntKind.wrap .i64 (x7 - 1)) fun n74 =>
withI (IntKind.wrap .i64 (8 * n74)) fun n75 =>
pShl .i64 1 (IntKind.wrap .u64 n75) fun n76 =>
J 3 [(8, (AV.i .i64 x8)), (94, (AV.b (decide ((x8 : Int) < n76))))] h71)
else
(J 3 [(8, (AV.i .i64 x8)), (94, (AV.b false))] h71))))))
theorem G_ref33_Scan_size.t1_eq (J : JT) (Q : AV → AHeap → Prop) (x0 : AV) (x7 : Int) (x8 : Int) (x9 : Int) (h : AHeap) : G_ref33_Scan_size.t1 J Q x0 x7 x8 x9 h = atJ prog C 96 J true [1, 1, 1, 1, 1, 1, 1, 1, 1, 0, 1, 0] G_ref33_Scan_size.ann G_ref33_Scan_size.body [(0, x0), (7, (AV.i .i64 x7)), (8, (AV.i .i64 x8)), (9, (AV.i .i64 x9))] h (kFun prog Tryd.f59 Q) := by kernel_rfl
theorem G_ref33_Scan_size.i1 {Q : AV → AHeap → Prop} {x0 : AV} {x7 : Int} {x8 : Int} {x9 : Int} {h : AHeap} (H : G_ref33_Scan_size.t1 (G_ref33_Scan_size.J Q) Q x0 x7 x8 x9 h) : G_ref33_Scan_size.p1 Q x0 x7 x8 x9 h := G_ref33_Scan_size.goH (k := 2) (p := [1, 1, 1, 1, 1, 1, 1, 1, 1, 0, 1, 0]) (by kernel_rfl) ((G_ref33_Scan_size.t1_eq (G_ref33_Scan_size.J Q) Q x0 x7 x8 x9 h).mp H)
def G_ref33_Scan_size.t2 (J : JT) (Q : AV → AHeap → Prop) (x8 : Int) (x94 : Bool) (h : AHeap) : Prop :=
(bif x94 then
(Q (AV.tu [(AV.i .i64 0), (AV.i .i64 2)]) h)
else
(Q (AV.tu [(AV.i .i64 x8), (AV.i .i64 0)]) h))
theorem G_ref33_Scan_size.t2_eq (J : JT) (Q : AV → AHeap → Prop) (x8 : Int) (x94 : Bool) (h : AHeap) : G_ref33_Scan_size.t2 J Q x8 x94 h = atJ prog C 96 J false [1, 1, 1, 1, 1, 1, 1, 1, 1, 1, 1, 0, 1] G_ref33_Scan_size.ann G_ref33_Scan_size.body [(8, (AV.i .i64 x8)), (94, (AV.b x94))] h (kFun prog Tryd.f59 Q) := by kernel_rfl
theorem G_ref33_Scan_size.i2 {Q : AV → AHeap → Prop} {x8 : Int} {x94 : Bool} {h : AHeap} (H : G_ref33_Scan_size.t2 (G_ref33_Scan_size.J Q) Q x8 x94 h) : G_ref33_Scan_size.p2 Q x8 x94 h := G_ref33_Scan_size.goR (k := 3) (p := [1, 1, 1, 1, 1, 1, 1, 1, 1, 1, 1, 0, 1]) (by kernel_rfl) ((G_ref33_Scan_size.t2_eq (G_ref33_Scan_size.J Q) Q x8 x94 h).mp H)
def G_ref33_Scan_size.t (J : JT) (Q : AV → AHeap → Prop) (x0 : AV) (x1 : Int) (h : AHeap) : Prop :=
pNil x0 fun v1 =>
pFieldAddr 1 v1 fun v2 =>
pLoad1 v2 h fun v3 =>
asI .i64 v3 fun n4 =>
(bif (decide ((x1 : Int) ≤ n4)) then
(Q (AV.tu [(AV.i .i64 0), (AV.i .i64 1)]) h)
else
(pNil x0 fun v8 =>
pFieldAddr 0 v8 fun v9 =>
pLoad1 v9 h fun v10 =>
asS v10 fun l11 =>
pNil x0 fun v12 =>
pFieldAddr 1 v12 fun v13 =>
pLoad1 v13 h fun v14 =>
asI .i64 v14 fun n15 =>
pIdxStr (AV.s l11) (AV.i .i64 n15) fun n16 =>
pNil x0 fun v18 =>
pFieldAddr 1 v18 fun v19 =>
pLoad1 v19 h fun v20 =>
asI .i64 v20 fun n21 =>
withI (IntKind.wrap .i64 (n21 + 1)) fun n22 =>
pNil x0 fun v23 =>
pFieldAddr 1 v23 fun v24 =>
pStore 1 v24 (AV.i .i64 n22) h fun h25 =>
(bif (decide (((IntKind.wrap .i64 n16) : Int) < 128)) then
(Q (AV.tu [(AV.i .i64 (IntKind.wrap .i64 n16)), (AV.i .i64 0)]) h25)
else
(withI (IntKind.wrap .i64 ((IntKind.wrap .i64 n16) - 128)) fun n30 =>
(bif (decide ((n30 : Int) < 1)) then
(J 1 [(0, x0), (1, (AV.i .i64 x1)), (7, (AV.i .i64 n30)), (43, (AV.b true))] h25)
else
(J 1 [(0, x0), (1, (AV.i .i64 x1)), (7, (AV.i .i64 n30)), (43, (AV.b (decide ((3 : Int) < n30))))] h25))))))
theorem G_ref33_Scan_size.t_eq (J : JT) (Q : AV → AHeap → Prop) (x0 : AV) (x1 : Int) (h : AHeap) : G_ref33_Scan_size.t J Q x0 x1 h = exJ prog C 96 J G_ref33_Scan_size.ann G_ref33_Scan_size.body (initEnv 0 [x0, (AV.i .i64 x1)]) h (kFun prog Tryd.f59 Q) := by kernel_rfl
theorem G_ref33_Scan_size.call {K : AV → AHeap → Prop} {x0 : AV} {x1 : Int} {h : AHeap} (H : G_ref33_Scan_size.t (G_ref33_Scan_size.J (kRet h K)) (kRet h K) x0 x1 h) : C G_ref33_Scan_size.id [x0, (AV.i .i64 x1)] h K :=
  callJ (P := prog) (fn := Tryd.f59) (ann := G_ref33_Scan_size.ann) (body := G_ref33_Scan_size.body) Tryd.func59 G_ref33_Scan_size.body_eq (by kernel_rfl) G_ref33_Scan_size.dist (by kernel_rfl) ((G_ref33_Scan_size.t_eq (G_ref33_Scan_size.J (kRet h K)) (kRet h K) x0 x1 h).mp H)

--@@ G_der_all_api_Der_
/-! ### 60: intrusion/der.all[intrusion/api.Der] -/
noncomputable def G_der_all_api_Der_.body : Code := (Tryd.f60.body).getD .skip
def G_der_all_api_Der_.ann : Ann := (.seq 0 [0, 1] .leaf (.seq 0 [] (.seq 0 [1, 7, 8, 9] .leaf (.one (.loop 1 [1, 7, 8, 9] (.seq 0 [1, 7, 8, 9, 10] .leaf (.seq 0 [1, 7, 8, 9] (.br .leaf .leaf) (.seq 0 [1, 7, 8, 9] (.one (.seq 0 [1, 6, 7, 8, 9] .leaf (.seq 0 [1, 7, 8, 9, 16] .leaf (.br (.seq 0 [4] .leaf .leaf) .leaf)))) .leaf)))))) (.seq 0 [4] .leaf .leaf)))
theorem G_der_all_api_Der_.body_eq : Tryd.f60.body = some G_der_all_api_Der_.body := by kernel_rfl
theorem G_der_all_api_Der_.dist : noTwice (places G_der_all_api_Der_.ann G_der_all_api_Der_.body) = true := by kernel_rfl
noncomputable def G_der_all_api_Der_.J (Q : AV → AHeap → Prop) : JT := funJ prog C Tryd.f60 G_der_all_api_Der_.ann G_der_all_api_Der_.body Q
theorem G_der_all_api_Der_.goR {Q : AV → AHeap → Prop} {k : Nat} {p : List Nat} (hl : lookJ (places G_der_all_api_Der_.ann G_der_all_api_Der_.body) k = some (p, false)) {e : Env} {h : AHeap} (hk : atJ prog C 18 (G_der_all_api_Der_.J Q) false p G_der_all_api_Der_.ann G_der_all_api_Der_.body e h (kFun prog Tryd.f60 Q)) : G_der_all_api_Der_.J Q k e h := goJ_run (P := prog) (fn := Tryd.f60) (ann := G_der_all_api_Der_.ann) (body := G_der_all_api_Der_.body) (Q := Q) (k := k) (p := p) (e := e) (h := h) (acall_le X) G_der_all_api_Der_.dist hl hk
theorem G_der_all_api_Der_.goH {Q : AV → AHeap → Prop} {k : Nat} {p : List Nat} (hl : lookJ (places G_der_all_api_Der_.ann G_der_all_api_Der_.body) k = some (p, true)) {e : Env} {h : AHeap} (hk : atJ prog C 18 (G_der_all_api_Der_.J Q) true p G_der_all_api_Der_.ann G_der_all_api_Der_.body e h (kFun prog Tryd.f60 Q)) : G_der_all_api_Der_.J Q k e h := goJ_head (P := prog) (fn := Tryd.f60) (ann := G_der_all_api_Der_.ann) (body := G_der_all_api_Der_.body) (Q := Q) (k := k) (p := p) (e := e) (h := h) (acall_le X) G_der_all_api_Der_.dist hl hk
def G_der_all_api_Der_.p0 (Q : AV → AHeap → Prop) (x1 : AV) (x7 : AV) (x8 : Int) (x9 : Int) (h : AHeap) : Prop := G_der_all_api_Der_.J Q 1 [(1, x1), (7, x7), (8, (AV.i .i64 x8)), (9, (AV.i .i64 x9))] h
theorem G_der_all_api_Der_.j0 (Q : AV → AHeap → Prop) (x1 : AV) (x7 : AV) (x8 : Int) (x9 : Int) (h : AHeap) : G_der_all_api_Der_.J Q 1 [(1, x1), (7, x7), (8, (AV.i .i64 x8)), (9, (AV.i .i64 x9))] h = G_der_all_api_Der_.p0 Q x1 x7 x8 x9 h := rfl
def G_der_all_api_Der_.t0 (J : JT) (Q : AV → AHeap → Prop) (x1 : AV) (x7 : AV) (x8 : Int) (x9 : Int) (h : AHeap) : Prop :=
(bif (decide ((x9 : Int) < x8)) then
(pIdxAddrSl 5 x7 (AV.i .i64 x9) h fun v6 =>
pLoadN 5 v6 h fun v7 =>
pAlloc [(AV.i .i64 0), (AV.i .i64 0), (AV.b false), (AV.s []), (AV.sl none 0 none)] h fun v8 h9 =>
pStore 5 v8 v7 h9 fun h10 =>
pLoadN 5 v8 h10 fun v12 =>
pCallV C x1 [v12] h10 fun v13 h14 =>
asB v13 fun c15 =>
(bif (!c15) then
(Q (AV.b false) h14)
else
(withI (IntKind.wrap .i64 (x9 + 1)) fun n19 =>
J 1 [(1, x1), (7, x7), (8, (AV.i .i64 x8)), (9, (AV.i .i64 n19))] h14)))
else
(Q (AV.b true) h))
theorem G_der_all_api_Der_.t0_eq (J : JT) (Q : AV → AHeap → Prop) (x1 : AV) (x7 : AV) (x8 : Int) (x9 : Int) (h : AHeap) : G_der_all_api_Der_.t0 J Q x1 x7 x8 x9 h = atJ prog C 18 J true [1, 0, 1, 0] G_der_all_api_Der_.ann G_der_all_api_Der_.body [(1, x1), (7, x7), (8, (AV.i .i64 x8)), (9, (AV.i .i64 x9))] h (kFun prog Tryd.f60 Q) := by kernel_rfl
theorem G_der_all_api_Der_.i0 {Q : AV → AHeap → Prop} {x1 : AV} {x7 : AV} {x8 : Int} {x9 : Int} {h : AHeap} (H : G_der_all_api_Der_.t0 (G_der_all_api_Der_.J Q) Q x1 x7 x8 x9 h) : G_der_all_api_Der_.p0 Q x1 x7 x8 x9 h := G_der_all_api_Der_.goH (k := 1) (p := [1, 0, 1, 0]) (by kernel_rfl) ((G_der_all_api_Der_.t0_eq (G_der_all_api_Der_.J Q) Q x1 x7 x8 x9 h).mp H)
def G_der_all_api_Der_.t (J : JT) (Q : AV → AHeap → Prop) (x0 : AV) (x1 : AV) (h : AHeap) : Prop :=
pLenSl x0 fun n1 =>
J 1 [(1, x1), (7, x0), (8, (AV.i .i64 n1)), (9, (AV.i .i64 0))] h
theorem G_der_all_api_Der_.t_eq (J : JT) (Q : AV → AHeap → Prop) (x0 : AV) (x1 : AV) (h : AHeap) : G_der_all_api_Der_.t J Q x0 x1 h = exJ prog C 18 J G_der_all_api_Der_.ann G_der_all_api_Der_.body (initEnv 0 [x0, x1]) h (kFun prog Tryd.f60 Q) := by kernel_rfl
theorem G_der_all_api_Der_.call {K : AV → AHeap → Prop} {x0 : AV} {x1 : AV} {h : AHeap} (H : G_der_all_api_Der_.t (G_der_all_api_Der_.J (kRet h K)) (kRet h K) x0 x1 h) : C G_der_all_api_Der_.id [x0, x1] h K :=
  callJ (P := prog) (fn := Tryd.f60) (ann := G_der_all_api_Der_.ann) (body := G_der_all_api_Der_.body) Tryd.func60 G_der_all_api_Der_.body_eq (by kernel_rfl) G_der_all_api_Der_.dist (by kernel_rfl) ((G_der_all_api_Der_.t_eq (G_der_all_api_Der_.J (kRet h K)) (kRet h K) x0 x1 h).mp H)

--@@ G_der_reader_check_1
/-! ### 61: (*intrusion/der.reader).check$1 -/
noncomputable def G_der_reader_check_1.body : Code := (Tryd.f61.body).getD .skip
def G_der_reader_check_1.ann : Ann := (.seq 0 [1, 2, 3, 4] .leaf (.seq 0 [3] .leaf (.seq 0 [5] .leaf .leaf)))
theorem G_der_reader_check_1.body_eq : Tryd.f61.body = some G_der_reader_check_1.body := by kernel_rfl
theorem G_der_reader_check_1.dist : noTwice (places G_der_reader_check_1.ann G_der_reader_check_1.body) = true := by kernel_rfl
noncomputable def G_der_reader_check_1.J (Q : AV → AHeap → Prop) : JT := funJ prog C Tryd.f61 G_der_reader_check_1.ann G_der_reader_check_1.body Q
theorem G_der_reader_check_1.goR {Q : AV → AHeap → Prop} {k : Nat} {p : List Nat} (hl : lookJ (places G_der_reader_check_1.ann G_der_reader_check_1.body) k = some (p, false)) {e : Env} {h : AHeap} (hk : atJ prog C 13 (G_der_reader_check_1.J Q) false p G_der_reader_check_1.ann G_der_reader_check_1.body e h (kFun prog Tryd.f61 Q)) : G_der_reader_check_1.J Q k e h := goJ_run (P := prog) (fn := Tryd.f61) (ann := G_der_reader_check_1.ann) (body := G_der_reader_check_1.body) (Q := Q) (k := k) (p := p) (e := e) (h := h) (acall_le X) G_der_reader_check_1.dist hl hk
theorem G_der_reader_check_1.goH {Q : AV → AHeap → Prop} {k : Nat} {p : List Nat} (hl : lookJ (places G_der_reader_check_1.ann G_der_reader_check_1.body) k = some (p, true)) {e : Env} {h : AHeap} (hk : atJ prog C 13 (G_der_reader_check_1.J Q) true p G_der_reader_check_1.ann G_der_reader_check_1.body e h (kFun prog Tryd.f61 Q)) : G_der_reader_check_1.J Q k e h := goJ_head (P := prog) (fn := Tryd.f61) (ann := G_der_reader_check_1.ann) (body := G_der_reader_check_1.body) (Q := Q) (k := k) (p := p) (e := e) (h := h) (acall_le X) G_der_reader_check_1.dist hl hk
def G_der_reader_check_1.t (J : JT) (Q : AV → AHeap → Prop) (x0 : AV) (x1 : AV) (x2 : AV) (x3 : AV) (h : AHeap) : Prop :=
pBox x0 h fun v0 h1 =>
pLoad1 x1 h1 fun v3 =>
pLoadN 5 v0 h1 fun v4 =>
pLoad1 x2 h1 fun v5 =>
asI .i64 v5 fun n6 =>
withI (IntKind.wrap .i64 (n6 + 1)) fun n7 =>
C G_der_reader_check.id [v3, v4, (AV.i .i64 n7)] h1 fun v8 h9 =>
asI .i64 v8 fun n10 =>
pStore 1 x3 (AV.i .i64 n10) h9 fun h11 =>
pLoad1 x3 h11 fun v13 =>
asI .i64 v13 fun n14 =>
Q (AV.b (decide ((n14 : Int) = 0))) h11
theorem G_der_reader_check_1.t_eq (J : JT) (Q : AV → AHeap → Prop) (x0 : AV) (x1 : AV) (x2 : AV) (x3 : AV) (h : AHeap) : G_der_reader_check_1.t J Q x0 x1 x2 x3 h = exJ prog C 13 J G_der_reader_check_1.ann G_der_reader_check_1.body (initEnv 0 [x0, x1, x2, x3]) h (kFun prog Tryd.f61 Q) := by kernel_rfl
theorem G_der_reader_check_1.call {K : AV → AHeap → Prop} {x0 : AV} {x1 : AV} {x2 : AV} {x3 : AV} {h : AHeap} (H : G_der_reader_check_1.t (G_der_reader_check_1.J (kRet h K)) (kRet h K) x0 x1 x2 x3 h) : C G_der_reader_check_1.id [x0, x1, x2, x3] h K :=
  callJ (P := prog) (fn := Tryd.f61) (ann := G_der_reader_check_1.ann) (body := G_der_reader_check_1.body) Tryd.func61 G_der_reader_check_1.body_eq (by kernel_rfl) G_der_reader_check_1.dist (by kernel_rfl) ((G_der_reader_check_1.t_eq (G_der_reader_check_1.J (kRet h K)) (kRet h K) x0 x1 x2 x3 h).mp H)

--@@ G_ref33_length
/-! ### 62: intrusion/intrusionref33.length -/
noncomputable def G_ref33_length.body : Code := (Tryd.f62.body).getD .skip
def G_ref33_length.ann : Ann := (.seq 0 [0] .leaf (.seq 0 [0] (.seq 0 [0, 6] .leaf (.br (.seq 0 [2] .leaf .leaf) .leaf)) (.seq 0 [0, 3] .leaf (.seq 0 [3] (.seq 0 [3, 4] .leaf (.one (.loop 1 [3, 4] (.seq 0 [3, 4] (.seq 0 [3, 4, 13] .leaf (.br .leaf .leaf)) (.seq 0 [3, 4] (.one .leaf) .leaf))))) (.seq 0 [2] .leaf .leaf)))))
theorem G_ref33_length.body_eq : Tryd.f62.body = some G_ref33_length.body := by kernel_rfl
theorem G_ref33_length.dist : noTwice (places G_ref33_length.ann G_ref33_length.body) = true := by kernel_rfl
noncomputable def G_ref33_length.J (Q : AV → AHeap → Prop) : JT := funJ prog C Tryd.f62 G_ref33_length.ann G_ref33_length.body Q
theorem G_ref33_length.goR {Q : AV → AHeap → Prop} {k : Nat} {p : List Nat} (hl : lookJ (places G_ref33_length.ann G_ref33_length.body) k = some (p, false)) {e : Env} {h : AHeap} (hk : atJ prog C 30 (G_ref33_length.J Q) false p G_ref33_length.ann G_ref33_length.body e h (kFun prog Tryd.f62 Q)) : G_ref33_length.J Q k e h := goJ_run (P := prog) (fn := Tryd.f62) (ann := G_ref33_length.ann) (body := G_ref33_length.body) (Q := Q) (k := k) (p := p) (e := e) (h := h) (acall_le X) G_ref33_length.dist hl hk
theorem G_ref33_length.goH {Q : AV → AHeap → Prop} {k : Nat} {p : List Nat} (hl : lookJ (places G_ref33_length.ann G_ref33_length.body) k = some (p, true)) {e : Env} {h : AHeap} (hk : atJ prog C 30 (G_ref33_length.J Q) true p G_ref33_length.ann G_ref33_length.body e h (kFun prog Tryd.f62 Q)) : G_ref33_length.J Q k e h := goJ_head (P := prog) (fn := Tryd.f62) (ann := G_ref33_length.ann) (body := G_ref33_length.body) (Q := Q) (k := k) (p := p) (e := e) (h := h) (acall_le X) G_ref33_length.dist hl hk
def G_ref33_length.p0 (Q : AV → AHeap → Prop) (x3 : AV) (x4 : Int) (h : AHeap) : Prop := G_ref33_length.J Q 1 [(3, x3), (4, (AV.i .i64 x4))] h
theorem G_ref33_length.j0 (Q : AV → AHeap → Prop) (x3 : AV) (x4 : Int) (h : AHeap) : G_ref33_length.J Q 1 [(3, x3), (4, (AV.i .i64 x4))] h = G_ref33_length.p0 Q x3 x4 h := rfl
def G_ref33_length.t0 (J : JT) (Q : AV → AHeap → Prop) (x3 : AV) (x4 : Int) (h : AHeap) : Prop :=
(bif (decide ((0 : Int) < x4)) then
(pBuildSl 1 1 [(AV.i .u8 0)] [(0, 1, (AV.i .u8 (IntKind.wrap .u8 x4)))] h fun v12 h13 =>
pAppend 1 1 v12 x3 h13 fun v14 h15 =>
pShr .i64 x4 8 fun n17 =>
J 1 [(3, v14), (4, (AV.i .i64 n17))] h15)
else
(pLenSl x3 fun n19 =>
withI (IntKind.wrap .i64 (128 + n19)) fun n20 =>
pBuildSl 1 1 [(AV.i .u8 0)] [(0, 1, (AV.i .u8 (IntKind.wrap .u8 n20)))] h fun v21 h22 =>
pBytesStr v21 h22 fun l23 =>
pBytesStr x3 h22 fun l24 =>
pCat l23 l24 fun l25 =>
Q (AV.s l25) h22))
theorem G_ref33_length.t0_eq (J : JT) (Q : AV → AHeap → Prop) (x3 : AV) (x4 : Int) (h : AHeap) : G_ref33_length.t0 J Q x3 x4 h = atJ prog C 30 J true [1, 1, 1, 0, 1, 0] G_ref33_length.ann G_ref33_length.body [(3, x3), (4, (AV.i .i64 x4))] h (kFun prog Tryd.f62 Q) := by kernel_rfl
theorem G_ref33_length.i0 {Q : AV → AHeap → Prop} {x3 : AV} {x4 : Int} {h : AHeap} (H : G_ref33_length.t0 (G_ref33_length.J Q) Q x3 x4 h) : G_ref33_length.p0 Q x3 x4 h := G_ref33_length.goH (k := 1) (p := [1, 1, 1, 0, 1, 0]) (by kernel_rfl) ((G_ref33_length.t0_eq (G_ref33_length.J Q) Q x3 x4 h).mp H)
def G_ref33_length.t (J : JT) (Q : AV → AHeap → Prop) (x0 : Int) (h : AHeap) : Prop :=
(bif (decide ((x0 : Int) < 128)) then
(pBuildSl 1 1 [(AV.i .u8 0)] [(0, 1, (AV.i .u8 (IntKind.wrap .u8 x0)))] h fun v2 h3 =>
pBytesStr v2 h3 fun l4 =>
Q (AV.s l4) h3)
else
(J 1 [(3, (AV.sl none 0 none)), (4, (AV.i .i64 x0))] h))
theorem G_ref33_length.t_eq (J : JT) (Q : AV → AHeap → Prop) (x0 : Int) (h : AHeap) : G_ref33_length.t J Q x0 h = exJ prog C 30 J G_ref33_length.ann G_ref33_length.body (initEnv 0 [(AV.i .i64 x0)]) h (kFun prog Tryd.f62 Q) := by kernel_rfl
theorem G_ref33_length.call {K : AV → AHeap → Prop} {x0 : Int} {h : AHeap} (H : G_ref33_length.t (G_ref33_length.J (kRet h K)) (kRet h K) x0 h) : C G_ref33_length.id [(AV.i .i64 x0)] h K :=
  callJ (P := prog) (fn := Tryd.f62) (ann := G_ref33_length.ann) (body := G_ref33_length.body) Tryd.func62 G_ref33_length.body_eq (by kernel_rfl) G_ref33_length.dist (by kernel_rfl) ((G_ref33_length.t_eq (G_ref33_length.J (kRet h K)) (kRet h K) x0 h).mp H)

--@@ G_der_leap
/-! ### 63: intrusion/der.leap -/
noncomputable def G_der_leap.body : Code := (Tryd.f63.body).getD .skip
def G_der_leap.ann : Ann := (.seq 0 [0] .leaf (.seq 1 [2] .leaf .leaf))
theorem G_der_leap.body_eq : Tryd.f63.body = some G_der_leap.body := by kernel_rfl
theorem G_der_leap.dist : noTwice (places G_der_leap.ann G_der_leap.body) = true := by kernel_rfl
noncomputable def G_der_leap.J (Q : AV → AHeap → Prop) : JT := funJ prog C Tryd.f63 G_der_leap.ann G_der_leap.body Q
theorem G_der_leap.goR {Q : AV → AHeap → Prop} {k : Nat} {p : List Nat} (hl : lookJ (places G_der_leap.ann G_der_leap.body) k = some (p, false)) {e : Env} {h : AHeap} (hk : atJ prog C 16 (G_der_leap.J Q) false p G_der_leap.ann G_der_leap.body e h (kFun prog Tryd.f63 Q)) : G_der_leap.J Q k e h := goJ_run (P := prog) (fn := Tryd.f63) (ann := G_der_leap.ann) (body := G_der_leap.body) (Q := Q) (k := k) (p := p) (e := e) (h := h) (acall_le X) G_der_leap.dist hl hk
theorem G_der_leap.goH {Q : AV → AHeap → Prop} {k : Nat} {p : List Nat} (hl : lookJ (places G_der_leap.ann G_der_leap.body) k = some (p, true)) {e : Env} {h : AHeap} (hk : atJ prog C 16 (G_der_leap.J Q) true p G_der_leap.ann G_der_leap.body e h (kFun prog Tryd.f63 Q)) : G_der_leap.J Q k e h := goJ_head (P := prog) (fn := Tryd.f63) (ann := G_der_leap.ann) (body := G_der_leap.body) (Q := Q) (k := k) (p := p) (e := e) (h := h) (acall_le X) G_der_leap.dist hl hk
def G_der_leap.p0 (Q : AV → AHeap → Prop) (x2 : Bool) (h : AHeap) : Prop := G_der_leap.J Q 1 [(2, (AV.b x2))] h
theorem G_der_leap.j0 (Q : AV → AHeap → Prop) (x2 : Bool) (h : AHeap) : G_der_leap.J Q 1 [(2, (AV.b x2))] h = G_der_leap.p0 Q x2 h := rfl
def G_der_leap.t0 (J : JT) (Q : AV → AHeap → Prop) (x2 : Bool) (h : AHeap) : Prop :=
Q (AV.b x2) h
theorem G_der_leap.t0_eq (J : JT) (Q : AV → AHeap → Prop) (x2 : Bool) (h : AHeap) : G_der_leap.t0 J Q x2 h = atJ prog C 16 J false [1, 1] G_der_leap.ann G_der_leap.body [(2, (AV.b x2))] h (kFun prog Tryd.f63 Q) := by kernel_rfl
theorem G_der_leap.i0 {Q : AV → AHeap → Prop} {x2 : Bool} {h : AHeap} (H : G_der_leap.t0 (G_der_leap.J Q) Q x2 h) : G_der_leap.p0 Q x2 h := G_der_leap.goR (k := 1) (p := [1, 1]) (by kernel_rfl) ((G_der_leap.t0_eq (G_der_leap.J Q) Q x2 h).mp H)
def G_der_leap.t (J : JT) (Q : AV → AHeap → Prop) (x0 : Int) (h : AHeap) : Prop :=
pRem x0 4 fun n1 =>
(bif (decide ((n1 : Int) = 0)) then
(pRem x0 100 fun n2 =>
(bif (!decide ((n2 : Int) = 0)) then
(J 1 [(2, (AV.b true))] h)
else
(pRem x0 400 fun n4 =>
J 1 [(2, (AV.b (decide ((n4 : Int) = 0))))] h)))
else
(J 1 [(2, (AV.b false))] h))
theorem G_der_leap.t_eq (J : JT) (Q : AV → AHeap → Prop) (x0 : Int) (h : AHeap) : G_der_leap.t J Q x0 h = exJ prog C 16 J G_der_leap.ann G_der_leap.body (initEnv 0 [(AV.i .i64 x0)]) h (kFun prog Tryd.f63 Q) := by kernel_rfl
theorem G_der_leap.call {K : AV → AHeap → Prop} {x0 : Int} {h : AHeap} (H : G_der_leap.t (G_der_leap.J (kRet h K)) (kRet h K) x0 h) : C G_der_leap.id [(AV.i .i64 x0)] h K :=
  callJ (P := prog) (fn := Tryd.f63) (ann := G_der_leap.ann) (body := G_der_leap.body) Tryd.func63 G_der_leap.body_eq (by kernel_rfl) G_der_leap.dist (by kernel_rfl) ((G_der_leap.t_eq (G_der_leap.J (kRet h K)) (kRet h K) x0 h).mp H)

--@@ G_der_before_1
/-! ### 64: intrusion/der.before$1 -/
noncomputable def G_der_before_1.body : Code := (Tryd.f64.body).getD .skip
def G_der_before_1.ann : Ann := (.seq 0 [0] .leaf (.seq 0 [2] .leaf .leaf))
theorem G_der_before_1.body_eq : Tryd.f64.body = some G_der_before_1.body := by kernel_rfl
theorem G_der_before_1.dist : noTwice (places G_der_before_1.ann G_der_before_1.body) = true := by kernel_rfl
noncomputable def G_der_before_1.J (Q : AV → AHeap → Prop) : JT := funJ prog C Tryd.f64 G_der_before_1.ann G_der_before_1.body Q
theorem G_der_before_1.goR {Q : AV → AHeap → Prop} {k : Nat} {p : List Nat} (hl : lookJ (places G_der_before_1.ann G_der_before_1.body) k = some (p, false)) {e : Env} {h : AHeap} (hk : atJ prog C 11 (G_der_before_1.J Q) false p G_der_before_1.ann G_der_before_1.body e h (kFun prog Tryd.f64 Q)) : G_der_before_1.J Q k e h := goJ_run (P := prog) (fn := Tryd.f64) (ann := G_der_before_1.ann) (body := G_der_before_1.body) (Q := Q) (k := k) (p := p) (e := e) (h := h) (acall_le X) G_der_before_1.dist hl hk
theorem G_der_before_1.goH {Q : AV → AHeap → Prop} {k : Nat} {p : List Nat} (hl : lookJ (places G_der_before_1.ann G_der_before_1.body) k = some (p, true)) {e : Env} {h : AHeap} (hk : atJ prog C 11 (G_der_before_1.J Q) true p G_der_before_1.ann G_der_before_1.body e h (kFun prog Tryd.f64 Q)) : G_der_before_1.J Q k e h := goJ_head (P := prog) (fn := Tryd.f64) (ann := G_der_before_1.ann) (body := G_der_before_1.body) (Q := Q) (k := k) (p := p) (e := e) (h := h) (acall_le X) G_der_before_1.dist hl hk
def G_der_before_1.t (J : JT) (Q : AV → AHeap → Prop) (x0 : Int) (h : AHeap) : Prop :=
pQuo .i64 x0 4 fun n1 =>
pQuo .i64 x0 100 fun n2 =>
withI (IntKind.wrap .i64 (n1 - n2)) fun n3 =>
pQuo .i64 x0 400 fun n4 =>
withI (IntKind.wrap .i64 (n3 + n4)) fun n5 =>
Q (AV.i .i64 n5) h
theorem G_der_before_1.t_eq (J : JT) (Q : AV → AHeap → Prop) (x0 : Int) (h : AHeap) : G_der_before_1.t J Q x0 h = exJ prog C 11 J G_der_before_1.ann G_der_before_1.body (initEnv 0 [(AV.i .i64 x0)]) h (kFun prog Tryd.f64 Q) := by kernel_rfl
theorem G_der_before_1.call {K : AV → AHeap → Prop} {x0 : Int} {h : AHeap} (H : G_der_before_1.t (G_der_before_1.J (kRet h K)) (kRet h K) x0 h) : C G_der_before_1.id [(AV.i .i64 x0)] h K :=
  callJ (P := prog) (fn := Tryd.f64) (ann := G_der_before_1.ann) (body := G_der_before_1.body) Tryd.func64 G_der_before_1.body_eq (by kernel_rfl) G_der_before_1.dist (by kernel_rfl) ((G_der_before_1.t_eq (G_der_before_1.J (kRet h K)) (kRet h K) x0 h).mp H)

--@@ G_strings_genSplit
/-! ### 66: strings.genSplit -/
noncomputable def G_strings_genSplit.body : Code := (Tryd.f66.body).getD .skip
def G_strings_genSplit.ann : Ann := (.seq 0 [0, 1, 2, 3] .leaf (.seq 0 [0, 1, 2, 3] (.seq 0 [0, 1, 2, 3, 13] .leaf (.br (.seq 0 [8] .leaf .leaf) .leaf)) (.seq 0 [0, 1, 2, 3] (.seq 0 [0, 1, 2, 3, 15] .leaf (.br (.seq 0 [8] .leaf .leaf) .leaf)) (.seq 1 [0, 1, 2, 3] (.seq 0 [0, 1, 2, 3, 20] .leaf (.br .leaf .leaf)) (.seq 0 [0, 1, 2, 3] .leaf (.seq 0 [0, 1, 2, 3, 9] .leaf (.seq 0 [0, 1, 2, 3, 9] .leaf (.seq 0 [0, 1, 2, 3, 9, 10] .leaf (.seq 3 [0, 9, 10] (.one (.loop 2 [0, 1, 2, 3, 9, 10] (.seq 0 [0, 1, 2, 3, 9, 10] (.seq 0 [0, 1, 2, 3, 9, 10, 36] .leaf (.br .leaf .leaf)) (.one (.seq 0 [0, 1, 2, 3, 9, 10, 11] .leaf (.seq 0 [0, 1, 2, 3, 9, 10, 11] (.seq 0 [0, 1, 2, 3, 9, 10, 11, 41] .leaf (.br .leaf .leaf)) (.seq 0 [0, 1, 2, 3, 9, 10, 11] .leaf (.seq 0 [0, 1, 2, 3, 9, 10] .leaf .leaf)))))))) (.seq 0 [9, 10] .leaf (.seq 0 [8] .leaf .leaf)))))))))))
theorem G_strings_genSplit.body_eq : Tryd.f66.body = some G_strings_genSplit.body := by kernel_rfl
theorem G_strings_genSplit.dist : noTwice (places G_strings_genSplit.ann G_strings_genSplit.body) = true := by kernel_rfl
noncomputable def G_strings_genSplit.J (Q : AV → AHeap → Prop) : JT := funJ prog C Tryd.f66 G_strings_genSplit.ann G_strings_genSplit.body Q
theorem G_strings_genSplit.goR {Q : AV → AHeap → Prop} {k : Nat} {p : List Nat} (hl : lookJ (places G_strings_genSplit.ann G_strings_genSplit.body) k = some (p, false)) {e : Env} {h : AHeap} (hk : atJ prog C 66 (G_strings_genSplit.J Q) false p G_strings_genSplit.ann G_strings_genSplit.body e h (kFun prog Tryd.f66 Q)) : G_strings_genSplit.J Q k e h := goJ_run (P := prog) (fn := Tryd.f66) (ann := G_strings_genSplit.ann) (body := G_strings_genSplit.body) (Q := Q) (k := k) (p := p) (e := e) (h := h) (acall_le X) G_strings_genSplit.dist hl hk
theorem G_strings_genSplit.goH {Q : AV → AHeap → Prop} {k : Nat} {p : List Nat} (hl : lookJ (places G_strings_genSplit.ann G_strings_genSplit.body) k = some (p, true)) {e : Env} {h : AHeap} (hk : atJ prog C 66 (G_strings_genSplit.J Q) true p G_strings_genSplit.ann G_strings_genSplit.body e h (kFun prog Tryd.f66 Q)) : G_strings_genSplit.J Q k e h := goJ_head (P := prog) (fn := Tryd.f66) (ann := G_strings_genSplit.ann) (body := G_strings_genSplit.body) (Q := Q) (k := k) (p := p) (e := e) (h := h) (acall_le X) G_strings_genSplit.dist hl hk
def G_strings_genSplit.p1 (Q : AV → AHeap → Prop) (x0 : List UInt8) (x1 : List UInt8) (x2 : Int) (x3 : Int) (x9 : AV) (x10 : Int) (h : AHeap) : Prop := G_strings_genSplit.J Q 2 [(0, (AV.s x0)), (1, (AV.s x1)), (2, (AV.i .i64 x2)), (3, (AV.i .i64 x3)), (9, x9), (10, (AV.i .i64 x10))] h
theorem G_strings_genSplit.j1 (Q : AV → AHeap → Prop) (x0 : List UInt8) (x1 : List UInt8) (x2 : Int) (x3 : Int) (x9 : AV) (x10 : Int) (h : AHeap) : G_strings_genSplit.J Q 2 [(0, (AV.s x0)), (1, (AV.s x1)), (2, (AV.i .i64 x2)), (3, (AV.i .i64 x3)), (9, x9), (10, (AV.i .i64 x10))] h = G_strings_genSplit.p1 Q x0 x1 x2 x3 x9 x10 h := rfl
def G_strings_genSplit.p2 (Q : AV → AHeap → Prop) (x0 : List UInt8) (x9 : AV) (x10 : Int) (h : AHeap) : Prop := G_strings_genSplit.J Q 3 [(0, (AV.s x0)), (9, x9), (10, (AV.i .i64 x10))] h
theorem G_strings_genSplit.j2 (Q : AV → AHeap → Prop) (x0 : List UInt8) (x9 : AV) (x10 : Int) (h : AHeap) : G_strings_genSplit.J Q 3 [(0, (AV.s x0)), (9, x9), (10, (AV.i .i64 x10))] h = G_strings_genSplit.p2 Q x0 x9 x10 h := rfl
def G_strings_genSplit.p0 (Q : AV → AHeap → Prop) (x0 : List UInt8) (x1 : List UInt8) (x2 : Int) (x3 : Int) (h : AHeap) : Prop := G_strings_genSplit.J Q 1 [(0, (AV.s x0)), (1, (AV.s x1)), (2, (AV.i .i64 x2)), (3, (AV.i .i64 x3))] h
theorem G_strings_genSplit.j0 (Q : AV → AHeap → Prop) (x0 : List UInt8) (x1 : List UInt8) (x2 : Int) (x3 : Int) (h : AHeap) : G_strings_genSplit.J Q 1 [(0, (AV.s x0)), (1, (AV.s x1)), (2, (AV.i .i64 x2)), (3, (AV.i .i64 x3))] h = G_strings_genSplit.p0 Q x0 x1 x2 x3 h := rfl
def G_strings_genSplit.t1 (J : JT) (Q : AV → AHeap → Prop) (x0 : List UInt8) (x1 : List UInt8) (x2 : Int) (x3 : Int) (x9 : AV) (x10 : Int) (h : AHeap) : Prop :=
(bif (decide ((x10 : Int) < x3)) then
(C G_strings_Index.id [(AV.s x0), (AV.s x1)] h fun v27 h28 =>
asI .i64 v27 fun n29 =>
(bif (decide ((n29 : Int) < 0)) then
(J 3 [(0, (AV.s x0)), (9, x9), (10, (AV.i .i64 x10))] h28)
else
(withI (IntKind.wrap .i64 (n29 + x2)) fun n34 =>
pSliceStr (AV.s x0) none (some (AV.i .i64 n34)) fun l35 =>
pIdxAddrSl 1 x9 (AV.i .i64 x10) h28 fun v36 =>
pStore 1 v36 (AV.s l35) h28 fun h37 =>
withI (IntKind.wrap .i64 (n29 + (x1.length : Int))) fun n39 =>
pSliceStr (AV.s x0) (some (AV.i .i64 n39)) none fun l40 =>
withI (IntKind.wrap .i64 (x10 + 1)) fun n42 =>
J 2 [(0, (AV.s l40)), (1, (AV.s x1)), (2, (AV.i .i64 x2)), (3, (AV.i .i64 x3)), (9, x9), (10, (AV.i .i64 n42))] h37)))
else
(J 3 [(0, (AV.s x0)), (9, x9), (10, (AV.i .i64 x10))] h))
theorem G_strings_genSplit.t1_eq (J : JT) (Q : AV → AHeap → Prop) (x0 : List UInt8) (x1 : List UInt8) (x2 : Int) (x3 : Int) (x9 : AV) (x10 : Int) (h : AHeap) : G_strings_genSplit.t1 J Q x0 x1 x2 x3 x9 x10 h = atJ prog C 66 J true [1, 1, 1, 1, 1, 1, 1, 1, 0, 0] G_strings_genSplit.ann G_strings_genSplit.body [(0, (AV.s x0)), (1, (AV.s x1)), (2, (AV.i .i64 x2)), (3, (AV.i .i64 x3)), (9, x9), (10, (AV.i .i64 x10))] h (kFun prog Tryd.f66 Q) := by kernel_rfl
theorem G_strings_genSplit.i1 {Q : AV → AHeap → Prop} {x0 : List UInt8} {x1 : List UInt8} {x2 : Int} {x3 : Int} {x9 : AV} {x10 : Int} {h : AHeap} (H : G_strings_genSplit.t1 (G_strings_genSplit.J Q) Q x0 x1 x2 x3 x9 x10 h) : G_strings_genSplit.p1 Q x0 x1 x2 x3 x9 x10 h := G_strings_genSplit.goH (k := 2) (p := [1, 1, 1, 1, 1, 1, 1, 1, 0, 0]) (by kernel_rfl) ((G_strings_genSplit.t1_eq (G_strings_genSplit.J Q) Q x0 x1 x2 x3 x9 x10 h).mp H)
def G_strings_genSplit.t2 (J : JT) (Q : AV → AHeap → Prop) (x0 : List UInt8) (x9 : AV) (x10 : Int) (h : AHeap) : Prop :=
pIdxAddrSl 1 x9 (AV.i .i64 x10) h fun v44 =>
pStore 1 v44 (AV.s x0) h fun h45 =>
withI (IntKind.wrap .i64 (x10 + 1)) fun n47 =>
pSliceSl 1 x9 none (some (AV.i .i64 n47)) none h45 fun v48 =>
Q v48 h45
theorem G_strings_genSplit.t2_eq (J : JT) (Q : AV → AHeap → Prop) (x0 : List UInt8) (x9 : AV) (x10 : Int) (h : AHeap) : G_strings_genSplit.t2 J Q x0 x9 x10 h = atJ prog C 66 J false [1, 1, 1, 1, 1, 1, 1, 1, 1] G_strings_genSplit.ann G_strings_genSplit.body [(0, (AV.s x0)), (9, x9), (10, (AV.i .i64 x10))] h (kFun prog Tryd.f66 Q) := by kernel_rfl
theorem G_strings_genSplit.i2 {Q : AV → AHeap → Prop} {x0 : List UInt8} {x9 : AV} {x10 : Int} {h : AHeap} (H : G_strings_genSplit.t2 (G_strings_genSplit.J Q) Q x0 x9 x10 h) : G_strings_genSplit.p2 Q x0 x9 x10 h := G_strings_genSplit.goR (k := 3) (p := [1, 1, 1, 1, 1, 1, 1, 1, 1]) (by kernel_rfl) ((G_strings_genSplit.t2_eq (G_strings_genSplit.J Q) Q x0 x9 x10 h).mp H)
def G_strings_genSplit.t0 (J : JT) (Q : AV → AHeap → Prop) (x0 : List UInt8) (x1 : List UInt8) (x2 : Int) (x3 : Int) (h : AHeap) : Prop :=
withI (IntKind.wrap .i64 ((x0.length : Int) + 1)) fun n16 =>
pMake 1 16 [(AV.s [])] (AV.i .i64 (mmI false x3 n16)) (AV.i .i64 (mmI false x3 n16)) h fun v18 h19 =>
withI (IntKind.wrap .i64 ((mmI false x3 n16) - 1)) fun n21 =>
J 2 [(0, (AV.s x0)), (1, (AV.s x1)), (2, (AV.i .i64 x2)), (3, (AV.i .i64 n21)), (9, v18), (10, (AV.i .i64 0))] h19
theorem G_strings_genSplit.t0_eq (J : JT) (Q : AV → AHeap → Prop) (x0 : List UInt8) (x1 : List UInt8) (x2 : Int) (x3 : Int) (h : AHeap) : G_strings_genSplit.t0 J Q x0 x1 x2 x3 h = atJ prog C 66 J false [1, 1, 1, 1] G_strings_genSplit.ann G_strings_genSplit.body [(0, (AV.s x0)), (1, (AV.s x1)), (2, (AV.i .i64 x2)), (3, (AV.i .i64 x3))] h (kFun prog Tryd.f66 Q) := by kernel_rfl
theorem G_strings_genSplit.i0 {Q : AV → AHeap → Prop} {x0 : List UInt8} {x1 : List UInt8} {x2 : Int} {x3 : Int} {h : AHeap} (H : G_strings_genSplit.t0 (G_strings_genSplit.J Q) Q x0 x1 x2 x3 h) : G_strings_genSplit.p0 Q x0 x1 x2 x3 h := G_strings_genSplit.goR (k := 1) (p := [1, 1, 1, 1]) (by kernel_rfl) ((G_strings_genSplit.t0_eq (G_strings_genSplit.J Q) Q x0 x1 x2 x3 h).mp H)
def G_strings_genSplit.t (J : JT) (Q : AV → AHeap → Prop) (x0 : List UInt8) (x1 : List UInt8) (x2 : Int) (x3 : Int) (h : AHeap) : Prop :=
(bif (decide ((x3 : Int) = 0)) then
(Q (AV.sl none 0 none) h)
else
((bif (decide ((x1 : List UInt8) = [])) then
(C G_strings_explode.id [(AV.s x0), (AV.i .i64 x3)] h fun v5 h6 =>
Q v5 h6)
else
((bif (decide ((x3 : Int) < 0)) then
(C G_strings_Count.id [(AV.s x0), (AV.s x1)] h fun v10 h11 =>
asI .i64 v10 fun n12 =>
withI (IntKind.wrap .i64 (n12 + 1)) fun n13 =>
J 1 [(0, (AV.s x0)), (1, (AV.s x1)), (2, (AV.i .i64 x2)), (3, (AV.i .i64 n13))] h11)
else
(J 1 [(0, (AV.s x0)), (1, (AV.s x1)), (2, (AV.i .i64 x2)), (3, (AV.i .i64 x3))] h))))))
theorem G_strings_genSplit.t_eq (J : JT) (Q : AV → AHeap → Prop) (x0 : List UInt8) (x1 : List UInt8) (x2 : Int) (x3 : Int) (h : AHeap) : G_strings_genSplit.t J Q x0 x1 x2 x3 h = exJ prog C 66 J G_strings_genSplit.ann G_strings_genSplit.body (initEnv 0 [(AV.s x0), (AV.s x1), (AV.i .i64 x2), (AV.i .i64 x3)]) h (kFun prog Tryd.f66 Q) := by kernel_rfl
theorem G_strings_genSplit.call {K : AV → AHeap → Prop} {x0 : List UInt8} {x1 : List UInt8} {x2 : Int} {x3 : Int} {h : AHeap} (H : G_strings_genSplit.t (G_strings_genSplit.J (kRet h K)) (kRet h K) x0 x1 x2 x3 h) : C G_strings_genSplit.id [(AV.s x0), (AV.s x1), (AV.i .i64 x2), (AV.i .i64 x3)] h K :=
  callJ (P := prog) (fn := Tryd.f66) (ann := G_strings_genSplit.ann) (body := G_strings_genSplit.body) Tryd.func66 G_strings_genSplit.body_eq (by kernel_rfl) G_strings_genSplit.dist (by kernel_rfl) ((G_strings_genSplit.t_eq (G_strings_genSplit.J (kRet h K)) (kRet h K) x0 x1 x2 x3 h).mp H)


end Go.Proofs.YtffgchcidkapjaaDoor

/- Proofs over the texts: buffers of bytes, results without addresses. -/
set_option linter.unusedVariables false
set_option linter.unusedSimpArgs false
namespace Go.GAM

/-- What was there is there. -/
def Ext (h0 h : AHeap) : Prop := h0.length ≤ h.length ∧ ∀ id, id < h0.length → h[id]? = h0[id]?

theorem Ext.refl (h : AHeap) : Ext h h := ⟨Nat.le_refl _, fun _ _ => rfl⟩
theorem Ext.trans {h1 h2 h3 : AHeap} (a : Ext h1 h2) (b : Ext h2 h3) : Ext h1 h3 := ⟨Nat.le_trans a.1 b.1, fun id hi => (b.2 id (Nat.lt_of_lt_of_le hi a.1)).trans (a.2 id hi)⟩
theorem Ext.app (h s : AHeap) : Ext h (h ++ s) := ⟨by simp, fun id hi => by rw [List.getElem?_append_left hi]⟩
theorem Ext.take {h0 h : AHeap} (a : Ext h0 h) : h.take h0.length = h0 := by
  apply List.ext_getElem?
  intro i
  rw [List.getElem?_take]
  by_cases hi : i < h0.length
  · rw [if_pos hi, a.2 i hi]
  · rw [if_neg hi, List.getElem?_eq_none (Nat.le_of_not_lt hi)]
theorem Ext.set {h0 h : AHeap} (a : Ext h0 h) {id : Nat} (hi : h0.length ≤ id) (b : ABlk) : Ext h0 (h.set id b) :=
  ⟨by simpa using a.1, fun j hj => by rw [List.getElem?_set_ne (by omega)]; exact a.2 j hj⟩

def clean1 : AV → Bool
  | .b _ | .i _ _ | .s _ | .p none | .sl none _ _ | .nf | .ni => true
  | _ => false
/-- No address in it. -/
def clean : AV → Bool
  | .ag cs | .tu cs => cs.all clean1
  | v => clean1 v

theorem clean1_ren {n : Nat} {v : AV} (h : clean1 v = true) : ren1 n [] v = v ∧ ok1 n [] v = true := by
  unfold clean1 at h
  split at h <;> first | exact ⟨rfl, rfl⟩ | cases h

theorem clean_ren {n : Nat} {v : AV} (h : clean v = true) : ren n [] v = v ∧ okR n [] v = true := by
  have hl : ∀ cs : List AV, cs.all clean1 = true → cs.map (ren1 n []) = cs ∧ cs.all (ok1 n []) = true := by
    intro cs
    induction cs with
    | nil => exact fun _ => ⟨rfl, rfl⟩
    | cons c cs ih =>
      intro hc
      simp only [List.all_cons, Bool.and_eq_true] at hc
      obtain ⟨h1, h2⟩ := ih hc.2
      obtain ⟨h3, h4⟩ := clean1_ren (n := n) hc.1
      simp [h1, h2, h3, h4]
  unfold clean at h
  split at h
  · rename_i cs; obtain ⟨h1, h2⟩ := hl cs h; exact ⟨by simp [ren, h1], by simpa [okR] using h2⟩
  · rename_i cs; obtain ⟨h1, h2⟩ := hl cs h; exact ⟨by simp [ren, h1], by simpa [okR] using h2⟩
  · rename_i h1 h2
    obtain ⟨h3, h4⟩ := clean1_ren (n := n) h
    constructor
    · unfold ren; split
      · exact absurd rfl (h1 _)
      · exact absurd rfl (h2 _)
      · exact h3
    · unfold okR; split
      · exact absurd rfl (h1 _)
      · exact absurd rfl (h2 _)
      · exact h4

theorem kRet_pure {h0 h : AHeap} {K : AV → AHeap → Prop} {r : AV} (hp : clean r = true) (hE : Ext h0 h) (hk : K r h0) : kRet h0 K r h := by
  obtain ⟨h1, h2⟩ := clean_ren (n := h0.length) hp
  refine .inr ⟨[], List.nodup_nil, h2, by simp, fun id hi => .inl (hE.2 id hi), hE.1, ?_⟩
  rw [h1, hE.take]
  simpa using hk

/-- A slice of bytes that may be appended to. -/
def Buf (n : Nat) (h : AHeap) (v : AV) (l : List UInt8) : Prop :=
  (l = [] ∧ v = .sl none 0 none) ∨ ∃ id b, n ≤ id ∧ h[id]? = some b ∧ v = .sl (some ⟨id, l.length, 0⟩) l.length none ∧ b.cells = l.map byteAV ∧ b.sz = 1 ∧ b.floor ≤ l.length ∧ b.ro = false ∧ b.gl = false

theorem byteAV_cellOK (l : List UInt8) : (l.map byteAV).all AV.cellOK = true := by
  rw [List.all_eq_true]; intro x hx; simp only [List.mem_map] at hx; obtain ⟨c, _, rfl⟩ := hx; rfl
theorem byteAV_isByte (l : List UInt8) : (l.map byteAV).all isByte = true := by
  rw [List.all_eq_true]; intro x hx; simp only [List.mem_map] at hx; obtain ⟨c, _, rfl⟩ := hx; rfl
theorem toByte_byteAV (c : UInt8) : toByte (byteAV c) = c := by simp [toByte, byteAV]
theorem toBytes_map (l : List UInt8) : (l.map byteAV).map toByte = l := by
  rw [List.map_map]
  have : toByte ∘ byteAV = id := by funext c; exact toByte_byteAV c
  rw [this, List.map_id]

theorem Buf.lt {n : Nat} {h : AHeap} {v : AV} {l : List UInt8} (B : Buf n h v l) : v = .sl none 0 none ∨ ∃ a len, v = .sl (some a) len none ∧ n ≤ a.id ∧ a.id < h.length := by
  rcases B with ⟨_, h2⟩ | ⟨id, b, h1, h2, h3, _⟩
  · exact .inl h2
  · exact .inr ⟨_, _, h3, h1, by rcases Nat.lt_or_ge id h.length with h | h; exact h; rw [List.getElem?_eq_none h] at h2; cases h2⟩

theorem Buf.str {n : Nat} {h : AHeap} {v : AV} {l : List UInt8} (B : Buf n h v l) {K : List UInt8 → Prop} (hk : K l) : pBytesStr v h K := by
  unfold pBytesStr slCells
  rcases B with ⟨rfl, rfl⟩ | ⟨id, b, h1, h2, rfl, h4, h5, h6, h7, h8⟩
  · exact ⟨rfl, hk⟩
  · refine ⟨b, h2, h5, ⟨h6, by simp [h4], by simp⟩, ?_, ?_⟩
    · simp only [h4, List.drop_zero, Nat.mul_one]; rw [List.take_of_length_le (by simp)]; exact byteAV_isByte l
    · simp only [h4, List.drop_zero, Nat.mul_one]; rw [List.take_of_length_le (by simp), toBytes_map]; exact hk

theorem Buf.append {n : Nat} {h : AHeap} {v x : AV} {l t : List UInt8} (B : Buf n h v l) (hn : n ≤ h.length) {K : AV → AHeap → Prop}
    (hx : ∀ K : List AV → Nat → Prop, K (t.map byteAV) t.length → newsOf 1 x h K) (hlen : l.length + t.length ≤ 140737488355328)
    (hk : ∀ v' h', h.length ≤ h'.length → (∀ id, id < n → h'[id]? = h[id]?) → Buf n h' v' (l ++ t) → K v' h') : pAppend 1 1 v x h K := by
  refine ⟨Nat.one_pos, hx _ ?_⟩
  rcases B with ⟨rfl, rfl⟩ | ⟨id, b, h1, h2, rfl, h4, h5, h6, h7, h8⟩
  · refine ⟨by simpa using hlen, by have := hlen; simp at this; omega, ?_⟩
    split
    · rename_i h0
      have : t = [] := List.eq_nil_of_length_eq_zero h0
      subst this
      exact hk _ _ (Nat.le_refl _) (fun _ _ => rfl) (.inl ⟨rfl, rfl⟩)
    · refine hk _ _ (by simp) (fun id hi => by rw [List.getElem?_append_left (by omega)]) (.inr ⟨h.length, newBlk (t.map byteAV) 1 false, hn, by simp, by simp, rfl, rfl, by simp [newBlk], rfl, rfl⟩)
  · have hid : id < h.length := by rcases Nat.lt_or_ge id h.length with h' | h'; exact h'; rw [List.getElem?_eq_none h'] at h2; cases h2
    refine ⟨by omega, by omega, b, h2, h5, ⟨h6, by simp [h4], by simp⟩, ?_⟩
    have hcells : (List.take (l.length * 1) (List.drop 0 b.cells)) = l.map byteAV := by
      rw [h4, List.drop_zero, Nat.mul_one, List.take_of_length_le (by simp)]
    by_cases ht : t.length = 0
    · have : t = [] := List.eq_nil_of_length_eq_zero ht
      subst this
      refine .inl ⟨ht, hk _ _ (Nat.le_refl _) (fun _ _ => rfl) ?_⟩
      rw [List.append_nil]
      exact .inr ⟨id, b, h1, h2, rfl, h4, h5, h6, h7, h8⟩
    · have htp : 0 < t.length := Nat.pos_of_ne_zero ht
      cases hex : b.ex with
      | true =>
        refine .inr (.inl ⟨htp, .inr ⟨rfl, by simp [h4], rfl, by simp [h4]; omega⟩, ?_⟩)
        rw [hcells]
        refine hk _ _ (by simp) (fun id hi => by rw [List.getElem?_append_left (by omega)]) (.inr ⟨h.length, newBlk (l.map byteAV ++ t.map byteAV) 1 false, hn, by simp, by simp, by simp [newBlk], rfl, by simp [newBlk], rfl, rfl⟩)
      | false =>
        refine .inr (.inr (.inr (.inl ⟨htp, h7, by simp [h4], rfl, by simp [h4], rfl, rfl, h8, byteAV_cellOK t, ?_⟩)))
        refine hk _ _ (by simp) (fun j hj => by rw [List.getElem?_set_ne (by simp only; omega)]) (.inr ⟨id, { b with cells := b.cells ++ t.map byteAV }, h1, by simp [hid, hex], by simp [h4], by simp [h4], h5, by simp; omega, h7, h8⟩)

theorem byteAV_wrap {n : Int} (h0 : 0 ≤ n) (h1 : n < 256) : AV.i .u8 n = byteAV (UInt8.ofNat n.toNat) := by
  unfold byteAV
  congr 1
  rw [UInt8.toNat_ofNat']
  omega

/-- append(b, c) -/
theorem Buf.push {n : Nat} {h : AHeap} {v : AV} {l : List UInt8} (B : Buf n h v l) (hn : n ≤ h.length) {c : Int} {K : AV → AHeap → Prop} (h0 : 0 ≤ c) (h1 : c < 256) (hlen : l.length < 140737488355328)
    (hk : ∀ v' h', n ≤ h'.length → (∀ id, id < n → h'[id]? = h[id]?) → Buf n h' v' (l ++ [UInt8.ofNat c.toNat]) → K v' h') :
    pBuildSl 1 1 [.i .u8 0] [(0, 1, .i .u8 c)] h fun x h' => pAppend 1 1 v x h' K := by
  have hb := byteAV_wrap h0 h1
  refine ⟨rfl, ?_⟩
  show pAppend 1 1 v (.sl (some ⟨h.length, 1, 0⟩) 1 none) (h ++ [newBlk [AV.i .u8 c] 1 true]) K
  have B' : Buf n (h ++ [newBlk [AV.i .u8 c] 1 true]) v l := by
    rcases B with h | ⟨id, b, h1, h2, h3⟩
    · exact .inl h
    · refine .inr ⟨id, b, h1, ?_, h3⟩
      rw [List.getElem?_append_left]
      · exact h2
      · rcases Nat.lt_or_ge id h.length with h' | h'; exact h'; rw [List.getElem?_eq_none h'] at h2; cases h2
  refine B'.append (t := [UInt8.ofNat c.toNat]) (by simp; omega) (fun K' hK => ?_) (by simp; omega) fun v' h' g1 g2 g3 => hk v' h' (by simp at g1; omega) (fun id hi => by rw [g2 id hi, List.getElem?_append_left (by omega)]) g3
  refine ⟨newBlk [AV.i .u8 c] 1 true, by simp, rfl, ⟨by simp [newBlk], by simp [newBlk], by simp⟩, ?_⟩
  simpa [newBlk, hb] using hK

theorem wrap_i64 {n : Int} (h0 : -9223372036854775808 ≤ n) (h1 : n < 9223372036854775808) : IntKind.wrap .i64 n = n := by
  have e1 : (2 : Int) ^ 64 = 18446744073709551616 := by decide
  have e2 : (2 : Int) ^ (64 - 1) = 9223372036854775808 := by decide
  simp only [IntKind.wrap, IntKind.bits, IntKind.signed, Bool.true_and, decide_eq_true_eq, e1, e2]
  split <;> omega
theorem wrap_u8 {n : Int} (h0 : 0 ≤ n) (h1 : n < 256) : IntKind.wrap .u8 n = n := by
  simp only [IntKind.wrap, IntKind.bits, IntKind.signed, Bool.false_and, Bool.false_eq_true, if_false]
  omega

theorem getD_some {α : Type} {l : List α} {i : Nat} {c d : α} (hc : l[i]? = some c) : l.getD i d = c := by
  rw [List.getD_eq_getElem?_getD, hc]; rfl

theorem idxStr {l : List UInt8} {k : IntKind} {i : Nat} {c : UInt8} {K : Int → Prop} (hc : l[i]? = some c) (hk : K (c.toNat : Int)) : pIdxStr (.s l) (.i k (i : Int)) K := by
  obtain ⟨hlt, _⟩ := List.getElem?_eq_some_iff.1 hc
  refine ⟨by omega, by simpa using hlt, ?_⟩
  rw [Int.toNat_natCast, getD_some hc]
  exact hk

theorem take_succ {α : Type} {l : List α} {i : Nat} {c : α} (hc : l[i]? = some c) : l.take (i + 1) = l.take i ++ [c] := by
  rw [List.take_add_one, hc]; rfl

theorem bif_t {c : Bool} {A B : Prop} (hc : c = true) (h : A) : (bif c then A else B) := by rw [hc]; exact h
theorem bif_f {c : Bool} {A B : Prop} (hc : c = false) (h : B) : (bif c then A else B) := by rw [hc]; exact h
theorem bif_both {c : Bool} {A B : Prop} (h1 : c = true → A) (h2 : c = false → B) : (bif c then A else B) := by
  cases c
  · exact h2 rfl
  · exact h1 rfl

theorem withI_is {e n : Int} {K : Int → Prop} (h : e = n) (hk : K n) : withI e K := by subst h; exact hk
theorem withB_is {e n : Bool} {K : Bool → Prop} (h : e = n) (hk : K n) : withB e K := by subst h; exact hk
theorem withL_is {e n : List UInt8} {K : List UInt8 → Prop} (h : e = n) (hk : K n) : withL e K := by subst h; exact hk

end Go.GAM

/- Functions without a body: what bytealg's answer. -/
set_option linter.unusedVariables false
set_option linter.unusedSimpArgs false
namespace Go.GAM

section
variable {P : Program}

/-- A body-less function that only answers. -/
theorem ext_run {f : FuncId} {fn : Func} {ex : Array Value → Sem Value} (hf : P.funcs[f]? = some fn) (hn : (fn.name == "runtime.NumGoroutine") = false) (hb : fn.body.isNone = true)
    (h1 : Extern.findNext fn = none) (h2 : Extern.find fn = some ex) {args : Array Value} {v : Value} {w : World} (he : (ex args).run P w = .ok v w) : (callFunc f args).run P w = .ok (.value v) w := by
  have hn' : fn.name ≠ "runtime.NumGoroutine" := by simpa using hn
  have hb' : fn.body = none := by simpa using hb
  have hm : ∀ (m : Mark) (k : Sem Unit) (w : World), Sem.run P (Sem.mark m k) w = Sem.run P k w := fun _ _ _ => rfl
  unfold callFunc
  simp [go_sem, hf, hn', hb', h1, h2, mark, hm, he]

end
end Go.GAM

/- Steps for proofs over the texts: records, arrays, slices that are read. -/
set_option linter.unusedVariables false
set_option linter.unusedSimpArgs false
namespace Go.GAM

/-- All blocks but those of M are as they were. -/
def Upd (M : Nat → Prop) (h h' : AHeap) : Prop := h.length ≤ h'.length ∧ ∀ i, i < h.length → ¬ M i → h'[i]? = h[i]?

theorem Upd.refl (M : Nat → Prop) (h : AHeap) : Upd M h h := ⟨Nat.le_refl _, fun _ _ _ => rfl⟩
theorem Upd.trans {M M' : Nat → Prop} {h h1 h2 : AHeap} (a : Upd M h h1) (b : Upd M' h1 h2) (hM : ∀ i, i < h.length → M' i → M i) : Upd M h h2 :=
  ⟨Nat.le_trans a.1 b.1, fun i hi hn => (b.2 i (Nat.lt_of_lt_of_le hi a.1) fun hm => hn (hM i hi hm)).trans (a.2 i hi hn)⟩
theorem Upd.mono {M M' : Nat → Prop} {h h1 : AHeap} (a : Upd M h h1) (hM : ∀ i, i < h.length → M i → M' i) : Upd M' h h1 :=
  ⟨a.1, fun i hi hn => a.2 i hi fun hm => hn (hM i hi hm)⟩
theorem Upd.app (h s : AHeap) : Upd (fun _ => False) h (h ++ s) := ⟨by simp, fun i hi _ => by rw [List.getElem?_append_left hi]⟩
theorem Upd.set (h : AHeap) (id : Nat) (b : ABlk) : Upd (· = id) h (h.set id b) := ⟨by simp, fun i hi hn => by rw [List.getElem?_set_ne (fun e => hn e.symm)]⟩

theorem lt_of_some {α : Type} {l : List α} {i : Nat} {a : α} (h : l[i]? = some a) : i < l.length := (List.getElem?_eq_some_iff.1 h).1

/-! ### records -/

def RecAt (h : AHeap) (id : Nat) (cs : List AV) : Prop := ∃ b : ABlk, h[id]? = some b ∧ b.cells = cs ∧ b.floor ≤ cs.length ∧ b.ro = false

theorem RecAt.lt {h : AHeap} {id : Nat} {cs : List AV} (R : RecAt h id cs) : id < h.length := by obtain ⟨b, h1, _⟩ := R; exact lt_of_some h1
theorem RecAt.upd {M : Nat → Prop} {h h' : AHeap} {id : Nat} {cs : List AV} (R : RecAt h id cs) (U : Upd M h h') (hM : ¬ M id) : RecAt h' id cs := by
  have hl := R.lt
  obtain ⟨b, h1, h2⟩ := R
  exact ⟨b, (U.2 id hl hM).trans h1, h2⟩

theorem st_nil {a : AA} {K : AV → Prop} (hk : K (.p (some a))) : pNil (.p (some a)) K := hk
theorem st_fld {id ver off o : Nat} {K : AV → Prop} (hk : K (.p (some ⟨id, ver, off + o⟩))) : pFieldAddr o (.p (some ⟨id, ver, off⟩)) K := hk
theorem st_quo {k : IntKind} {a b n : Int} {K : Int → Prop} (hb : b ≠ 0) (hn : k.wrap (a.tdiv b) = n) (hk : K n) : pQuo k a b K := by subst hn; exact ⟨hb, hk⟩
theorem st_rem {a b n : Int} {K : Int → Prop} (hb : b ≠ 0) (hn : a.tmod b = n) (hk : K n) : pRem a b K := by subst hn; exact ⟨hb, hk⟩
theorem st_load {h : AHeap} {id n o : Nat} {cs : List AV} {v : AV} {K : AV → Prop} (R : RecAt h id cs) (hn : n = cs.length) (hc : cs[o]? = some v) (hk : K v) : pLoad1 (.p (some ⟨id, n, o⟩)) h K := by
  obtain ⟨b, h1, rfl, h3, h4⟩ := R
  subst hn
  have := lt_of_some hc
  refine ⟨b, h1, ⟨h3, Nat.le_refl _, this⟩, ?_⟩
  show K (b.cells.getD o .u)
  rw [getD_some hc]; exact hk
theorem st_store {h : AHeap} {id n o : Nat} {cs : List AV} {v : AV} {K : AHeap → Prop} (R : RecAt h id cs) (hn : n = cs.length) (ho : o < cs.length) (hv : v.parts = [v] := by rfl) (hs : v.sizeOK = true := by rfl) (hc : v.cellOK = true := by rfl)
    (hk : ∀ h', h'.length = h.length → Upd (· = id) h h' → RecAt h' id (cs.set o v) → K h') : pStore 1 (.p (some ⟨id, n, o⟩)) v h K := by
  have hl := R.lt
  obtain ⟨b, h1, rfl, h3, h4⟩ := R
  subst hn
  refine ⟨b, h1, h4, h3, rfl, (by show o + 1 ≤ b.cells.length; omega), hs, by rw [hv]; rfl, by rw [hv]; simp [hc], ?_⟩
  refine hk _ (by simp) (Upd.set _ _ _) ⟨_, List.getElem?_set_self hl, ?_, ?_, h4⟩
  · rw [hv]; rfl
  · simp
theorem st_alloc {cells : List AV} {h : AHeap} {K : AV → AHeap → Prop} (hk : ∀ h', h'.length = h.length + 1 → Upd (fun _ => False) h h' → RecAt h' h.length cells → K (.p (some ⟨h.length, cells.length, 0⟩)) h') : pAlloc cells h K :=
  hk _ (by simp) (Upd.app _ _) ⟨newBlk cells 1 true, by simp, rfl, Nat.le_refl _, rfl⟩
theorem st_box {x : AV} {h : AHeap} {K : AV → AHeap → Prop} (hs : x.sizeOK = true := by rfl) (hk : ∀ h', h'.length = h.length + 1 → Upd (fun _ => False) h h' → RecAt h' h.length x.parts → K (.p (some ⟨h.length, x.parts.length, 0⟩)) h') : pBox x h K :=
  ⟨hs, hk _ (by simp) (Upd.app _ _) ⟨newBlk x.parts 1 true, by simp, rfl, Nat.le_refl _, rfl⟩⟩

theorem st_asI64 {n : Int} {K : Int → Prop} (hk : K n) : asI .i64 (.i .i64 n) K := hk
theorem st_asI {k : IntKind} {n : Int} {K : Int → Prop} (hk : K n) : asI k (.i k n) K := by cases k <;> exact hk
theorem st_asB {n : Bool} {K : Bool → Prop} (hk : K n) : asB (.b n) K := hk
theorem st_asS {n : List UInt8} {K : List UInt8 → Prop} (hk : K n) : asS (.s n) K := hk
theorem st_len {a : Option AA} {n : Nat} {c : Option Nat} {K : Int → Prop} (hk : K n) : pLenSl (.sl a n c) K := hk

theorem wr_all : ∀ (ws pre cs : List AV), ws.length = cs.length → wr (pre ++ cs) pre.length ws = pre ++ ws
  | [], pre, cs, h => by
    have : cs = [] := List.eq_nil_of_length_eq_zero (by simpa using h.symm)
    subst this; simp [wr]
  | w :: ws, pre, [], h => by simp at h
  | w :: ws, pre, c :: cs, h => by
    simp only [wr]
    have e : (pre ++ c :: cs).set pre.length w = (pre ++ [w]) ++ cs := by simp
    rw [e]
    have := wr_all ws (pre ++ [w]) cs (by simpa using h)
    simpa using this
theorem st_loadN {h : AHeap} {id n : Nat} {cs : List AV} {K : AV → Prop} (R : RecAt h id cs) (hn : n = cs.length) (hk : K (.ag cs)) : pLoadN n (.p (some ⟨id, n, 0⟩)) h K := by
  obtain ⟨b, h1, rfl, h3, h4⟩ := R
  subst hn
  refine ⟨b, h1, ⟨h3, Nat.le_refl _, by simp⟩, ?_⟩
  simpa using hk
theorem st_storeN {h : AHeap} {id n : Nat} {cs ws : List AV} {K : AHeap → Prop} (R : RecAt h id cs) (hn : n = cs.length) (hw : ws.length = n) (hc : ws.all AV.cellOK = true)
    (hk : ∀ h', h'.length = h.length → Upd (· = id) h h' → RecAt h' id ws → K h') : pStore n (.p (some ⟨id, n, 0⟩)) (.ag ws) h K := by
  have hl := R.lt
  obtain ⟨b, h1, rfl, h3, h4⟩ := R
  subst hn
  refine ⟨b, h1, h4, h3, rfl, (by show 0 + b.cells.length ≤ b.cells.length; omega), rfl, hw, hc, ?_⟩
  refine hk _ (by simp) (Upd.set _ _ _) ⟨_, List.getElem?_set_self hl, ?_, ?_, h4⟩
  · exact wr_all ws [] b.cells hw
  · rw [hw]; exact Nat.le_refl _

/-! ### slices -/

def SlAt (v : AV) (id : Nat) : Prop := match v with
  | .sl (some a) _ _ => a.id = id
  | _ => False

/-- A slice that may be read: its cells, its length. -/
def Rd (sz : Nat) (h : AHeap) (v : AV) (cs : List AV) (len : Nat) : Prop :=
  (v = .sl none 0 none ∧ len = 0 ∧ cs = []) ∨ ∃ id ver off cap b, v = .sl (some ⟨id, ver, off⟩) len cap ∧ h[id]? = some b ∧ b.sz = sz ∧ b.floor ≤ ver ∧ ver ≤ b.cells.length ∧ off + len * sz ≤ ver ∧ (b.cells.drop off).take (len * sz) = cs

theorem Rd.upd {sz : Nat} {M : Nat → Prop} {h h' : AHeap} {v : AV} {cs : List AV} {len : Nat} (R : Rd sz h v cs len) (U : Upd M h h') (hM : ∀ id, SlAt v id → ¬ M id) : Rd sz h' v cs len := by
  rcases R with h1 | ⟨id, ver, off, cap, b, rfl, h2, h3⟩
  · exact .inl h1
  · exact .inr ⟨id, ver, off, cap, b, rfl, (U.2 id (lt_of_some h2) (hM id rfl)).trans h2, h3⟩
theorem Rd.lt {sz : Nat} {h : AHeap} {v : AV} {cs : List AV} {len : Nat} (R : Rd sz h v cs len) {id : Nat} (hs : SlAt v id) : id < h.length := by
  rcases R with ⟨rfl, _⟩ | ⟨id', ver, off, cap, b, rfl, h2, h3⟩
  · exact hs.elim
  · cases hs; exact lt_of_some h2
theorem Rd.length {sz : Nat} {h : AHeap} {v : AV} {cs : List AV} {len : Nat} (R : Rd sz h v cs len) : cs.length = len * sz := by
  rcases R with ⟨_, rfl, rfl⟩ | ⟨id, ver, off, cap, b, rfl, h2, h3, h4, h5, h6, rfl⟩
  · simp
  · simp; omega
theorem Rd.sl {sz : Nat} {h : AHeap} {v : AV} {cs : List AV} {len : Nat} (R : Rd sz h v cs len) {K : List AV → Prop} (hk : K cs) : slCells sz v h K := by
  rcases R with ⟨rfl, rfl, rfl⟩ | ⟨id, ver, off, cap, b, rfl, h2, h3, h4, h5, h6, rfl⟩
  · exact hk
  · exact ⟨b, h2, h3, ⟨h4, h5, h6⟩, hk⟩
theorem Rd.len {sz : Nat} {h : AHeap} {v : AV} {cs : List AV} {len : Nat} (R : Rd sz h v cs len) {K : Int → Prop} (hk : K len) : pLenSl v K := by
  rcases R with ⟨rfl, rfl, rfl⟩ | ⟨id, ver, off, cap, b, rfl, h2⟩ <;> exact hk
theorem Rd.news {sz : Nat} {h : AHeap} {v : AV} {cs : List AV} {len : Nat} (R : Rd sz h v cs len) {K : List AV → Nat → Prop} (hk : K cs len) : newsOf sz v h K := by
  rcases R with ⟨rfl, rfl, rfl⟩ | ⟨id, ver, off, cap, b, rfl, h2, h3, h4, h5, h6, rfl⟩
  · exact hk
  · exact ⟨b, h2, h3, ⟨h4, h5, h6⟩, hk⟩

/-- The address of an element. -/
theorem Rd.idx {sz : Nat} {h : AHeap} {v : AV} {cs : List AV} {len : Nat} (R : Rd sz h v cs len) {k : IntKind} {i : Int} (h0 : 0 ≤ i) (h1 : i < len) {K : AV → Prop}
    (hk : ∀ id ver off, (∃ b : ABlk, h[id]? = some b ∧ b.floor ≤ ver ∧ ver ≤ b.cells.length ∧ off + sz ≤ ver ∧ (b.cells.drop off).take sz = (cs.drop (i.toNat * sz)).take sz) → K (.p (some ⟨id, ver, off⟩))) : pIdxAddrSl sz v (.i k i) h K := by
  rcases R with ⟨rfl, rfl, rfl⟩ | ⟨id, ver, off, cap, b, rfl, h2, h3, h4, h5, h6, rfl⟩
  · omega
  · refine ⟨h0, h1, ⟨b, h2, h4, by omega⟩, hk _ _ _ ⟨b, h2, h4, h5, ?_, ?_⟩⟩
    · have : (i.toNat + 1) * sz ≤ len * sz := Nat.mul_le_mul_right _ (by omega)
      rw [Nat.add_mul] at this; simp only; omega
    · have : (i.toNat + 1) * sz ≤ len * sz := Nat.mul_le_mul_right _ (by omega)
      rw [Nat.add_mul] at this
      rw [List.drop_take, List.drop_drop, List.take_take, Nat.min_eq_left (by omega)]

/-- The same, its place known. -/
structure RdAt (sz : Nat) (h : AHeap) (id ver off : Nat) (b : ABlk) (cs : List AV) (len : Nat) : Prop where
  blk : h[id]? = some b
  siz : b.sz = sz
  flo : b.floor ≤ ver
  vle : ver ≤ b.cells.length
  end_ : off + len * sz ≤ ver
  cel : (b.cells.drop off).take (len * sz) = cs

theorem RdAt.rd {sz : Nat} {h : AHeap} {id ver off : Nat} {b : ABlk} {cs : List AV} {len : Nat} (R : RdAt sz h id ver off b cs len) (cap : Option Nat) : Rd sz h (.sl (some ⟨id, ver, off⟩) len cap) cs len :=
  .inr ⟨id, ver, off, cap, b, rfl, R.1, R.2, R.3, R.4, R.5, R.6⟩
theorem RdAt.upd {sz : Nat} {M : Nat → Prop} {h h' : AHeap} {id ver off : Nat} {b : ABlk} {cs : List AV} {len : Nat} (R : RdAt sz h id ver off b cs len) (U : Upd M h h') (hM : ¬ M id) : RdAt sz h' id ver off b cs len :=
  ⟨(U.2 id (lt_of_some R.1) hM).trans R.1, R.2, R.3, R.4, R.5, R.6⟩
theorem RdAt.lt {sz : Nat} {h : AHeap} {id ver off : Nat} {b : ABlk} {cs : List AV} {len : Nat} (R : RdAt sz h id ver off b cs len) : id < h.length := lt_of_some R.1
theorem st_idx {sz : Nat} {h : AHeap} {id ver off : Nat} {b : ABlk} {cs : List AV} {len : Nat} {cap : Option Nat} {k : IntKind} {i : Nat} {K : AV → Prop} (R : RdAt sz h id ver off b cs len) (hi : i < len) (hk : K (.p (some ⟨id, ver, off + i * sz⟩))) :
    pIdxAddrSl sz (.sl (some ⟨id, ver, off⟩) len cap) (.i k (i : Int)) h K :=
  ⟨by omega, by omega, ⟨b, R.1, R.3, Nat.le_trans R.3 R.4⟩, by simpa using hk⟩
theorem st_elem {sz : Nat} {h : AHeap} {id ver off : Nat} {b : ABlk} {cs : List AV} {len i o : Nat} {c : AV} {K : AV → Prop} (R : RdAt sz h id ver off b cs len) (hi : i < len) (ho : o < sz) (hc : cs[i * sz + o]? = some c) (hk : K c) : pLoad1 (.p (some ⟨id, ver, off + i * sz + o⟩)) h K := by
  have h1 : (i + 1) * sz ≤ len * sz := Nat.mul_le_mul_right _ hi
  rw [Nat.add_mul] at h1
  have h2 := R.end_
  refine ⟨b, R.1, ⟨R.3, R.4, by simp only; omega⟩, ?_⟩
  have h3 := R.cel
  rw [← h3, List.getElem?_take_of_lt (by omega), List.getElem?_drop] at hc
  show K (b.cells.getD (off + i * sz + o) .u)
  rw [getD_some (show b.cells[off + i * sz + o]? = some c by rw [← hc]; congr 1; omega)]
  exact hk

theorem Rd.fld {sz : Nat} {h : AHeap} {v : AV} {cs : List AV} {len : Nat} (R : Rd sz h v cs len) {k : IntKind} {i o : Nat} {c : AV} (hi : i < len) (ho : o < sz) (hc : cs[i * sz + o]? = some c) {K : AV → Prop} (hk : K c) :
    pIdxAddrSl sz v (.i k (i : Int)) h fun a => pFieldAddr o a fun p => pLoad1 p h K := by
  rcases R with ⟨rfl, rfl, rfl⟩ | ⟨id, ver, off, cap, b, rfl, h2, h3, h4, h5, h6, h7⟩
  · omega
  · have A : RdAt sz h id ver off b cs len := ⟨h2, h3, h4, h5, h6, h7⟩
    exact st_idx A hi (st_fld (st_elem A hi ho hc hk))

/-- An array of one's own that may be appended to. -/
def Arr (sz : Nat) (h : AHeap) (v : AV) (cs : List AV) (len : Nat) : Prop :=
  (v = .sl none 0 none ∧ len = 0 ∧ cs = []) ∨ ∃ id b, v = .sl (some ⟨id, cs.length, 0⟩) len none ∧ h[id]? = some b ∧ b.cells = cs ∧ cs.length = len * sz ∧ b.sz = sz ∧ b.floor ≤ cs.length ∧ b.ro = false ∧ b.gl = false

theorem Arr.nil (sz : Nat) (h : AHeap) : Arr sz h (.sl none 0 none) [] 0 := .inl ⟨rfl, rfl, rfl⟩
theorem Arr.rd {sz : Nat} {h : AHeap} {v : AV} {cs : List AV} {len : Nat} (A : Arr sz h v cs len) : Rd sz h v cs len := by
  rcases A with h1 | ⟨id, b, rfl, h2, rfl, h4, h5, h6, h7⟩
  · exact .inl h1
  · refine .inr ⟨id, _, 0, none, b, rfl, h2, h5, h6, Nat.le_refl _, by omega, ?_⟩
    rw [List.drop_zero, ← h4, List.take_length]
theorem Arr.upd {sz : Nat} {M : Nat → Prop} {h h' : AHeap} {v : AV} {cs : List AV} {len : Nat} (A : Arr sz h v cs len) (U : Upd M h h') (hM : ∀ id, SlAt v id → ¬ M id) : Arr sz h' v cs len := by
  rcases A with h1 | ⟨id, b, rfl, h2, h3⟩
  · exact .inl h1
  · exact .inr ⟨id, b, rfl, (U.2 id (lt_of_some h2) (hM id rfl)).trans h2, h3⟩

theorem Arr.append {sz bytes : Nat} {h : AHeap} {v x : AV} {cs ns : List AV} {len k : Nat} (A : Arr sz h v cs len) (hz : 0 < sz) {K : AV → AHeap → Prop}
    (hx : ∀ K : List AV → Nat → Prop, K ns k → newsOf sz x h K) (hns : ns.length = k * sz) (hok : ns.all AV.cellOK = true) (hlen : (len + k) * bytes ≤ 140737488355328) (hl2 : len + k ≤ 9223372036854775807)
    (hk : ∀ v' h', Upd (SlAt v) h h' → Arr sz h' v' (cs ++ ns) (len + k) → (∀ id, SlAt v' id → SlAt v id ∨ h.length ≤ id) → K v' h') : pAppend sz bytes v x h K := by
  refine ⟨hz, hx _ ?_⟩
  rcases A with ⟨rfl, rfl, rfl⟩ | ⟨id, b, rfl, h2, rfl, h4, h5, h6, h7, h8⟩
  · refine ⟨by simpa using hlen, by omega, ?_⟩
    split
    · rename_i h0
      subst h0
      have : ns = [] := List.eq_nil_of_length_eq_zero (by simpa using hns)
      subst this
      exact hk _ _ (Upd.refl _ _) (.inl ⟨rfl, rfl, rfl⟩) fun id hi => .inl hi
    · refine hk _ _ ((Upd.app _ _).mono fun _ _ h => h.elim) (.inr ⟨h.length, newBlk ns sz false, by simp, by simp, rfl, by simpa using hns, rfl, Nat.le_refl _, rfl, rfl⟩) fun id hi => .inr (by cases hi; exact Nat.le_refl _)
  · have hid := lt_of_some h2
    refine ⟨hlen, by omega, b, h2, h5, ⟨h6, Nat.le_refl _, by simp only; omega⟩, ?_⟩
    have hcells : (b.cells.drop 0).take (len * sz) = b.cells := by rw [List.drop_zero, ← h4, List.take_length]
    by_cases ht : k = 0
    · subst ht
      have : ns = [] := List.eq_nil_of_length_eq_zero (by simpa using hns)
      subst this
      refine .inl ⟨rfl, hk _ _ (Upd.refl _ _) ?_ fun id hi => .inl hi⟩
      rw [List.append_nil]
      exact .inr ⟨id, b, rfl, h2, rfl, h4, h5, h6, h7, h8⟩
    · have htp : 0 < k := Nat.pos_of_ne_zero ht
      have hmul : (len + k) * sz = len * sz + k * sz := Nat.add_mul _ _ _
      cases hex : b.ex with
      | true =>
        have hkz : 0 < k * sz := Nat.mul_pos htp hz
        refine .inr (.inl ⟨htp, .inr ⟨rfl, rfl, rfl, by simp only; omega⟩, ?_⟩)
        rw [hcells]
        refine hk _ _ ((Upd.app _ _).mono fun _ _ h => h.elim) (.inr ⟨h.length, newBlk (b.cells ++ ns) sz false, rfl, by simp, rfl, by simp [newBlk, hns, h4, hmul], rfl, by simp [newBlk], rfl, rfl⟩) fun id hi => .inr (by cases hi; exact Nat.le_refl _)
      | false =>
        refine .inr (.inr (.inr (.inl ⟨htp, h7, rfl, rfl, h4.symm, rfl, rfl, h8, hok, ?_⟩)))
        refine hk _ _ ((Upd.set _ _ _).mono fun i _ h => h.symm) (.inr ⟨id, { b with cells := b.cells ++ ns }, rfl, by simp [hid, hex], rfl, by simp [hns, h4, hmul], h5, by simp; omega, h7, h8⟩) fun id hi => .inl hi

theorem st_build {sz len : Nat} {zeros cs : List AV} {parts : List (Nat × Nat × AV)} {h : AHeap} {K : AV → AHeap → Prop} (hf : fillA zeros parts = some cs) (hl : cs.length = len * sz)
    (hk : ∀ v h', h'.length = h.length + 1 → Upd (fun _ => False) h h' → Rd sz h' v cs len → (∀ id, SlAt v id → h.length ≤ id) → K v h') : pBuildSl sz len zeros parts h K := by
  unfold pBuildSl
  rw [hf]
  refine ⟨hl, hk _ _ (by simp) (Upd.app _ _) (.inr ⟨h.length, cs.length, 0, none, newBlk cs sz true, rfl, by simp, rfl, Nat.le_refl _, Nat.le_refl _, by omega, ?_⟩) fun id hi => by cases hi; exact Nat.le_refl _⟩
  simp [newBlk, ← hl]

/-- append(v, x): one element. -/
theorem Arr.push {sz bytes : Nat} {h : AHeap} {v x : AV} {cs zeros : List AV} {len : Nat} (A : Arr sz h v cs len) (hz : 0 < sz) {K : AV → AHeap → Prop} (hf : fillA zeros [(0, sz, x)] = some x.parts) (hxl : x.parts.length = sz) (hok : x.parts.all AV.cellOK = true)
    (hlen : (len + 1) * bytes ≤ 140737488355328) (hl2 : len + 1 ≤ 9223372036854775807)
    (hk : ∀ v' h', Upd (SlAt v) h h' → Arr sz h' v' (cs ++ x.parts) (len + 1) → (∀ id, SlAt v' id → SlAt v id ∨ h.length ≤ id) → K v' h') :
    pBuildSl sz 1 zeros [(0, sz, x)] h fun y h' => pAppend sz bytes v y h' K := by
  refine st_build hf (by omega) fun y h1 hl1 U1 R1 F1 => ?_
  refine (A.upd U1 fun _ _ h => h).append hz (ns := x.parts) (k := 1) (fun K hK => R1.news hK) (by omega) hok hlen hl2 fun v' h' U2 A2 F2 => hk v' h' ((U1.mono fun _ _ h => h.elim).trans U2 fun _ _ h => h) A2 fun id hi => ?_
  rcases F2 id hi with h | h
  · exact .inl h
  · exact .inr (by omega)

/-! ### slices of bytes -/

def Byt (h : AHeap) (v : AV) (l : List UInt8) : Prop := Rd 1 h v (l.map byteAV) l.length

theorem Byt.str {h : AHeap} {v : AV} {l : List UInt8} (B : Byt h v l) {K : List UInt8 → Prop} (hk : K l) : pBytesStr v h K := by
  refine Rd.sl B ⟨byteAV_isByte l, ?_⟩
  rw [toBytes_map]; exact hk


theorem Byt.slice3 {h : AHeap} {v : AV} {l : List UInt8} (B : Byt h v l) {n : Nat} (hn : n ≤ l.length) {K : AV → Prop}
    (hk : ∀ v', Byt h v' (l.take n) → (∀ i, SlAt v' i → SlAt v i) → (v' = .sl none 0 none ∨ ∃ a, v' = .sl (some a) n (some n)) → K v') : pSliceSl 1 v none (some (.i .i64 n)) (some (.i .i64 n)) h K := by
  rcases B with ⟨rfl, h1, h2⟩ | ⟨id, ver, off, cap, b, rfl, h2, h3, h4, h5, h6, h7⟩
  · have hl : l = [] := by simpa using h1
    subst hl
    have hn0 : n = 0 := by simpa using hn
    subst hn0
    exact ⟨by simp, by simp, rfl, rfl, rfl, fun _ => rfl, hk _ (.inl ⟨rfl, rfl, rfl⟩) (fun _ h => h) (.inl rfl)⟩
  · refine ⟨Nat.one_pos, fun _ => rfl, by omega, by simp, b, h2, by omega, h4, h3, by omega, by simp, .inl (by simpa using hn), ?_⟩
    refine hk _ ?_ (fun _ h => h) (.inr ⟨⟨id, ver, off⟩, by simp⟩)
    refine .inr ⟨id, ver, off, some n, b, ?_, h2, h3, h4, h5, by simp; omega, ?_⟩
    · simp; omega
    · rw [List.length_take, Nat.min_eq_left hn, Nat.mul_one, List.map_take, ← h7, List.take_take, Nat.mul_one, Nat.min_eq_left hn]

theorem Byt.drop {h : AHeap} {v : AV} {l : List UInt8} (B : Byt h v l) {n : Nat} (hn : n ≤ l.length) {K : AV → Prop}
    (hk : ∀ v', Byt h v' (l.drop n) → (∀ i, SlAt v' i → SlAt v i) → K v') : pSliceSl 1 v (some (.i .i64 n)) none none h K := by
  rcases B with ⟨rfl, h1, h2⟩ | ⟨id, ver, off, cap, b, rfl, h2, h3, h4, h5, h6, h7⟩
  · have hl : l = [] := by simpa using h1
    subst hl
    have hn0 : n = 0 := by simpa using hn
    subst hn0
    exact ⟨by simp, rfl, rfl, rfl, fun h => by simp at h, hk _ (.inl ⟨rfl, rfl, rfl⟩) (fun _ h => h)⟩
  · refine ⟨Nat.one_pos, fun h => by simp at h, by omega, by simp; omega, b, h2, by omega, h4, h3, .inl (Nat.le_refl _), ?_⟩
    refine hk _ ?_ (fun _ h => h)
    refine .inr ⟨id, ver, off + n, cap.map (· - n), b, by simp, h2, h3, h4, h5, by simp; omega, ?_⟩
    rw [List.length_drop, Nat.mul_one, List.map_drop, ← h7, Nat.mul_one, List.drop_take, List.drop_drop]

/-- append(w[:len(w):len(w)], s..): nothing that is there is written. -/
theorem Byt.grow {h : AHeap} {v : AV} {l s : List UInt8} (B : Byt h v l) (hv : v = .sl none 0 none ∨ ∃ a, v = .sl (some a) l.length (some l.length)) (hlen : l.length + s.length ≤ 140737488355328) {K : AV → AHeap → Prop}
    (hk : ∀ v' h', Upd (fun _ => False) h h' → Byt h' v' (l ++ s) → (∀ i, SlAt v' i → SlAt v i ∨ h.length ≤ i) → h'.length ≤ h.length + 1 → K v' h') : pAppend 1 1 v (.s s) h K := by
  refine ⟨Nat.one_pos, rfl, ?_⟩
  rcases B with ⟨rfl, h1, h2⟩ | ⟨id, ver, off, cap, b, rfl, h2, h3, h4, h5, h6, h7⟩
  · have hl : l = [] := by simpa using h1
    subst hl
    refine ⟨by simpa using hlen, by simp at hlen; omega, ?_⟩
    by_cases hs : s.length = 0
    · rw [if_pos hs]
      have : s = [] := List.eq_nil_of_length_eq_zero hs
      subst this
      exact hk _ _ (Upd.refl _ _) (.inl ⟨rfl, rfl, rfl⟩) (fun _ h => .inl h) (by omega)
    · rw [if_neg hs]
      exact hk _ _ (Upd.app _ _) (.inr ⟨h.length, (s.map byteAV).length, 0, none, newBlk (s.map byteAV) 1 false, by simp, by simp, rfl, Nat.le_refl _, Nat.le_refl _, by simp, by simp [newBlk, List.take_of_length_le]⟩) (fun i h => .inr (by cases h; exact Nat.le_refl _)) (by simp)
  · obtain ⟨a, ha⟩ := hv.resolve_left (by simp)
    cases ha
    refine ⟨by omega, by omega, b, h2, h3, ⟨h4, h5, by simpa using h6⟩, ?_⟩
    by_cases hs : s.length = 0
    · have : s = [] := List.eq_nil_of_length_eq_zero hs
      subst this
      refine .inl ⟨rfl, hk _ _ (Upd.refl _ _) ?_ (fun _ h => .inl h) (by omega)⟩
      rw [List.append_nil]
      exact .inr ⟨id, ver, off, _, b, rfl, h2, h3, h4, h5, h6, h7⟩
    · refine .inr (.inl ⟨by omega, .inl ⟨_, rfl, by omega⟩, ?_⟩)
      have h7' : (b.cells.drop off).take (l.length * 1) = l.map byteAV := h7
      simp only [h7']
      exact hk _ _ (Upd.app _ _) (.inr ⟨h.length, l.length + s.length, 0, none, newBlk (l.map byteAV ++ s.map byteAV) 1 false, by simp, by simp, rfl, by simp [newBlk], by simp [newBlk], by simp, by simp [newBlk, List.take_of_length_le]⟩) (fun i h => .inr (by cases h; exact Nat.le_refl _)) (by simp)


theorem Rd.elem {sz : Nat} {h : AHeap} {v : AV} {cs : List AV} {len : Nat} (R : Rd sz h v cs len) {k : IntKind} {i : Int} (h0 : 0 ≤ i) (h1 : i < len) {K : AV → Prop} (hk : K (.ag ((cs.drop (i.toNat * sz)).take sz))) :
    pIdxAddrSl sz v (.i k i) h fun a => pLoadN sz a h K :=
  R.idx h0 h1 fun id ver off ⟨b, g1, g2, g3, g4, g5⟩ => ⟨b, g1, ⟨g2, g3, g4⟩, by rw [g5]; exact hk⟩

theorem st_subs {l : List UInt8} {lo : Nat} {K : List UInt8 → Prop} (h : lo ≤ l.length) (hk : K (l.drop lo)) : pSliceStr (.s l) (some (.i .i64 lo)) none K := by
  refine ⟨by omega, by simpa using h, Nat.le_refl _, ?_⟩
  simpa using hk
theorem st_subs2 {l : List UInt8} {lo hi : Nat} {K : List UInt8 → Prop} (h : lo ≤ hi) (h2 : hi ≤ l.length) (hk : K ((l.take hi).drop lo)) : pSliceStr (.s l) (some (.i .i64 lo)) (some (.i .i64 hi)) K := by
  refine ⟨by omega, by omega, by simpa using h, by simpa using h2, ?_⟩
  simpa using hk
theorem st_subs1 {l : List UInt8} {hi : Nat} {K : List UInt8 → Prop} (h2 : hi ≤ l.length) (hk : K (l.take hi)) : pSliceStr (.s l) none (some (.i .i64 hi)) K := by
  refine ⟨by omega, by simp, by simpa using h2, ?_⟩
  simpa using hk

theorem st_arg0 {K : Prop} (hk : K) : arg0 [] K := hk
theorem st_arg1 {v : AV} {K : AV → Prop} (hk : K v) : arg1 [v] K := hk
theorem st_arg2 {v w : AV} {K : AV → AV → Prop} (hk : K v w) : arg2 [v, w] K := hk

theorem st_range {P : Program} {R : CallR} {A : CallR → CallR} {gf : FuncId} {first cap : List AV} {Y : List AV → AHeap → (AV → AHeap → Prop) → Prop} {h : AHeap} {K : AHeap → Prop} (hc : (Nat.blt gf yid0 && bodyOK P gf) = true)
    (hk : ∀ l, A (orY R l Y) gf (first ++ [.fn (.yield l) [] []] ++ cap) h (fun _ h' => K h')) : rngA P R A (.fn (.func gf) first cap) Y h K := bif_t hc hk

end Go.GAM

/- The start: a world as it comes in, as blocks that are only read; a law's call. -/
set_option linter.unusedVariables false
set_option linter.unusedSimpArgs false
namespace Go.GAM
open Go.RowKit

def absV1 (w : World) (szOf : Nat → Nat) : Value → AV
  | .bool x => .b x
  | .int k n => .i k n
  | .string s => .s s.data.toList
  | .pointer none => .p none
  | .pointer (some a) => match w.shape? a.block, a.spot with
    | some (_, n), none => .p (some ⟨a.block, n, a.off⟩)
    | _, _ => .u
  | .slice none 0 0 => .sl none 0 none
  | .slice (some a) len cap => if cap = 0 then (if len = 0 then .sl (some ⟨w.heap.size, 0, 0⟩) 0 (some 0) else .u) else
    match w.shape? a.block, a.spot with
    | some (_, n), none => if len ≤ cap ∧ a.off + cap * szOf a.block ≤ n then .sl (some ⟨a.block, n, a.off⟩) len (some cap) else .u
    | _, _ => .u
  | .nilFunc => .nf
  | .nilIface => .ni
  | .map none => .mp none
  | _ => .u

def absV (w : World) (szOf : Nat → Nat) : Value → AV
  | .agg cs => .ag (cs.toList.map (absV1 w szOf))
  | .iface t v => .ifc t (absV1 w szOf v)
  | v => absV1 w szOf v

def blkC (w : World) (szOf : Nat → Nat) (B : Nat) : ABlk := match w.heap[B]? with
  | some (.cells c _ _) => ⟨c.toList.map (absV w szOf), szOf B, c.size, false, true, true⟩
  | _ => dead
def heapC (w : World) (szOf : Nat → Nat) : AHeap := (List.range w.heap.size).map (blkC w szOf) ++ [dead]
def muC (w : World) (szOf : Nat → Nat) : Mu := fun id ver =>
  if id = w.heap.size then (if ver = 0 then some ⟨0, 0, 0, 1⟩ else none) else
  match w.shape? id with
  | some (_, n) => if ver = n then some ⟨id, 0, n, szOf id⟩ else none
  | none => none
def ownC (w : World) : Nat → Option Nat := fun B => if (w.shape? B).isSome then some B else none

section
variable {w : World} {szOf : Nat → Nat}

theorem shape_some {B : Nat} {t : TypeId} {n : Nat} (h : w.shape? B = some (t, n)) : ∃ c fr, w.heap[B]? = some (.cells c t fr) ∧ c.size = n := by
  unfold World.shape? at h
  split at h
  · rename_i c el fr hh
    simp only [Option.some.injEq, Prod.mk.injEq] at h
    obtain ⟨rfl, rfl⟩ := h
    exact ⟨c, fr, hh, rfl⟩
  · cases h
theorem shape_lt {B : Nat} {x : TypeId × Nat} (h : w.shape? B = some x) : B < w.heap.size := by
  obtain ⟨c, fr, hh, _⟩ := shape_some (t := x.1) (n := x.2) h
  exact (Array.getElem?_eq_some_iff.1 hh).1
theorem muC_is {B : Nat} {t : TypeId} {n : Nat} (h : w.shape? B = some (t, n)) : muC w szOf B n = some ⟨B, 0, n, szOf B⟩ := by
  have := shape_lt h
  unfold muC
  rw [if_neg (by omega), h]
  simp

theorem absV1_rel (v : Value) : VRel (muC w szOf) (absV1 w szOf v) v := by
  cases v <;> first | exact .u _ | exact .b _ | exact .i _ _ | exact .s _ _ rfl | exact .nf | exact .ni | skip
  case pointer a =>
    cases a with
    | none => exact .pn
    | some a =>
      obtain ⟨B, off, spot⟩ := a
      simp only [absV1]
      split
      · rename_i t n hs
        exact .p _ _ _ (muC_is hs) (by simp)
      · exact .u _
  case slice a len cap =>
    cases a with
    | none =>
      cases len with
      | succ l => exact .u _
      | zero => cases cap with
        | succ c => exact .u _
        | zero => exact .sn
    | some a =>
      obtain ⟨B, off, spot⟩ := a
      simp only [absV1]
      split
      · rename_i hc
        subst hc
        split
        · rename_i hl
          subst hl
          exact .sl _ _ _ 0 _ ⟨0, 0, 0, 1⟩ (by unfold muC; simp) (Nat.le_refl _) (by simp) (by simp) (by simp) (by simp)
        · exact .u _
      · split
        · rename_i t n hs
          split
          · rename_i hl
            exact .sl _ _ _ cap _ _ (muC_is hs) hl.1 hl.2 (by simp) (by simp) (by simp)
          · exact .u _
        · exact .u _
  case map r => cases r <;> first | exact .mpn | exact .u _

theorem absV1s_rel : ∀ vs : List Value, VRels (muC w szOf) (vs.map (absV1 w szOf)) vs
  | [] => .nil
  | v :: vs => .cons _ _ _ _ (absV1_rel v) (absV1s_rel vs)
theorem absV_rel (v : Value) : VRel (muC w szOf) (absV w szOf v) v := by
  cases v <;> simp only [absV] <;> first | exact absV1_rel _ | exact .ag _ _ (absV1s_rel _) | exact .ifc _ _ _ (absV1_rel _)
theorem absVs_rel : ∀ vs : List Value, VRels (muC w szOf) (vs.map (absV w szOf)) vs
  | [] => .nil
  | v :: vs => .cons _ _ _ _ (absV_rel v) (absVs_rel vs)

theorem heapC_at {B : Nat} (h : B < w.heap.size) : (heapC w szOf)[B]? = some (blkC w szOf B) := by
  unfold heapC
  rw [List.getElem?_append_left (by simpa using h)]
  simp [h]
theorem heapC_len : (heapC w szOf).length = w.heap.size + 1 := by simp [heapC]

theorem canon_rel (w : World) (szOf : Nat → Nat) : Rel w (fun B => B < w.heap.size) (muC w szOf) (ownC w) (heapC w szOf) w where
  os := rfl
  tape := rfl
  output := rfl
  size0 := Nat.le_refl _
  fz := fun B hB => ⟨hB, rfl⟩
  ownlt := fun B id h => by
    unfold ownC at h
    split at h
    · rename_i hs
      obtain ⟨x, hx⟩ := Option.isSome_iff_exists.1 hs
      exact shape_lt hx
    · cases h
  mulen := fun id ver l h => by
    unfold muC at h
    split at h
    · rename_i he
      subst he
      exact ⟨dead, by simp [heapC], by simp [dead]⟩
    · split at h
      · rename_i t n hs
        obtain ⟨c, fr, hh, hc⟩ := shape_some hs
        refine ⟨blkC w szOf id, heapC_at (shape_lt hs), fun _ => ?_⟩
        split at h
        · rename_i hv
          unfold blkC
          rw [hh]
          simp [hv, hc]
        · cases h
      · cases h
  blk := fun id b hb hl => by
    rcases Nat.lt_or_ge id w.heap.size with hi | hi
    · rw [heapC_at hi] at hb
      cases hb
      unfold blkC at hl ⊢
      split at hl
      · rename_i c el fr hh
        have hs : w.shape? id = some (el, c.size) := by unfold World.shape?; rw [hh]
        refine ⟨⟨id, 0, c.size, szOf id⟩, ?_⟩
        have hlen : (c.toList.map (absV w szOf)).length = c.size := by simp
        refine { cur := by simp only [hlen]; exact muC_is hs, owned := by simp [ownC, hs], sz := rfl, len := by simp, ex := by simp, ro := by simp, gl := by simp, row := ⟨c, el, fr, hh, by simp⟩, free := by simp, vers := fun ver h1 h2 l' hl' => ?_ }
        have hv : ver = c.size := by simp only [hlen] at h2; simp only at h1; omega
        subst hv
        rw [muC_is hs] at hl'
        cases hl'
        refine { own := by simp [ownC, hs], sz := rfl, le := Nat.le_refl _, base := fun _ => rfl, cells := fun j hj => ?_ }
        refine ⟨c[j], by simp [World.cell?, hh, hj], ?_⟩
        have e : (c.toList.map (absV w szOf)).getD j .u = absV w szOf c[j] := by simp [List.getD, hj]
        simp only [e]
        exact absV_rel _
      · exact absurd hl (by simp [dead])
    · exfalso
      rcases Nat.lt_or_ge id (w.heap.size + 1) with h2 | h2
      · have : id = w.heap.size := by omega
        subst this
        simp [heapC] at hb
        subst hb
        simp [dead] at hl
      · rw [List.getElem?_eq_none (by rw [heapC_len]; omega)] at hb; cases hb

/-- A slice that came in, its cells known. -/
theorem canon_slice {x : Addr} {len cap sz : Nat} {vs : List Value} (hl : len ≤ cap) (hc0 : cap ≠ 0) (hz : 0 < sz) (hs : szOf x.block = sz) (hlen : vs.length = cap * sz) (hv : ∀ i, i < vs.length → w.cell? (x.add i) = some (vs.getD i undef)) :
    ∃ ver b, absV w szOf (.slice (some x) len cap) = .sl (some ⟨x.block, ver, x.off⟩) len (some cap) ∧ RdAt sz (heapC w szOf) x.block ver x.off b ((vs.take (len * sz)).map (absV w szOf)) len ∧ b.ro = true := by
  obtain ⟨B, off, spot⟩ := x
  simp only at hs ⊢
  have hpos : 0 < vs.length := by rw [hlen]; exact Nat.mul_pos (by omega) hz
  have cellAdd : ∀ i v, spot = none → w.cell? ((⟨B, off, spot⟩ : Addr).add i) = some v → ∃ c el fr, w.heap[B]? = some (.cells c el fr) ∧ c[off + i]? = some v := by
    intro i v hs h
    subst hs
    have e : (⟨B, off, none⟩ : Addr).add i = ⟨B, off + i, none⟩ := by
      unfold Addr.add
      by_cases hi : i = 0
      · subst hi; simp
      · simp [hi]
    rw [e] at h
    unfold World.cell? at h
    split at h
    · rename_i c el fr hh
      exact ⟨c, el, fr, hh, by simpa using h⟩
    · cases h
  have hsp : spot = none := by
    have h0 := hv 0 hpos
    unfold World.cell? at h0
    split at h0
    · cases spot with
      | none => rfl
      | some s => simp [Addr.add] at h0
    · cases h0
  subst hsp
  obtain ⟨c, el, fr, hh, _⟩ := cellAdd 0 _ rfl (hv 0 hpos)
  · have hcell : ∀ i, i < vs.length → c[off + i]? = some (vs.getD i undef) := fun i hi => by
      obtain ⟨c', el', fr', h1, h2⟩ := cellAdd i _ rfl (hv i hi)
      rw [hh] at h1; cases h1; exact h2
    have hsize : off + cap * sz ≤ c.size := by
      have := hcell (vs.length - 1) (by omega)
      have := (Array.getElem?_eq_some_iff.1 this).1
      omega
    have hshape : w.shape? B = some (el, c.size) := by unfold World.shape?; rw [hh]
    have hlc : len * sz ≤ cap * sz := Nat.mul_le_mul_right _ hl
    refine ⟨c.size, blkC w szOf B, ?_, ⟨heapC_at (shape_lt hshape), ?_, ?_, ?_, by omega, ?_⟩, ?_⟩
    · simp only [absV, absV1]
      rw [if_neg hc0, hshape]
      simp only
      rw [if_pos ⟨hl, by rw [hs]; exact hsize⟩]
    · unfold blkC; rw [hh]; exact hs
    · unfold blkC; rw [hh]; exact Nat.le_refl _
    · unfold blkC; rw [hh]; simp
    · unfold blkC; rw [hh]
      simp only
      apply List.ext_getElem?
      intro i
      by_cases hi : i < len * sz
      · rw [List.getElem?_take_of_lt hi, List.getElem?_drop, List.getElem?_map, Array.getElem?_toList, hcell i (by omega), List.getElem?_map, List.getElem?_take_of_lt hi]
        rw [List.getD_eq_getElem?_getD, List.getElem?_eq_getElem (by omega : i < vs.length)]
        rfl
      · rw [List.getElem?_eq_none (by simp; omega), List.getElem?_eq_none (by simp; omega)]
    · unfold blkC; rw [hh]

end

def Yes : AV → AHeap → Prop := fun v _ => v = .b true
theorem kRet_yes {h0 h : AHeap} : kRet h0 Yes (.b true) h := .inl rfl

/-- A law that returns true, in the abstract machine and so in the model. -/
theorem law_calls {P : Program} {X : CallR} (hm : P.follows .mixedOrders = true) (hsz : P.funcs.size ≤ yid0) (hX : Sound P X) {f : FuncId} (hb : bodyOK P f = true) {w : World} {szOf : Nat → Nat} {avs : List AV} {args : Array Value}
    (hv : VRels (muC w szOf) avs args.toList) (hk : acall P X f avs (heapC w szOf) Yes) : Calls P f args w fun e w' => e = .returned (.bool true) ∧ Below w.heap.size w w' := by
  have hlt : f < yid0 := by
    unfold bodyOK at hb
    split at hb
    · rename_i fn hf; exact Nat.lt_of_lt_of_le (Array.getElem?_eq_some_iff.1 hf).1 hsz
    · cases hb
  have hs := acall_sound hm hsz hX w (fun B => B < w.heap.size) (fun _ _ => none) f avs _ _ hk (muC w szOf) (ownC w) w args.toList (fun _ _ _ h => by cases h) (canon_rel w szOf) hv
  rw [if_pos hlt] at hs
  have hrun := bodyOK_run hb args w
  rcases hs with ⟨g, avs', h1, h2⟩ | ⟨v, h1, h2⟩
  · rw [Array.toArray_toList, hrun] at h1
    cases h1
    refine h2.mono fun e w' ⟨v, he, v', μ', own', h', g1, g2, g3, g4⟩ => ?_
    subst he
    have g1 : v' = .b true := g1
    subst g1
    cases g2
    exact ⟨rfl, g3.os, g3.tape, g3.output, g3.size0, fun k hk => (g3.fz k hk).2⟩
  · rw [Array.toArray_toList, hrun] at h1; cases h1

end Go.GAM

/- Arguments that are slices: what their reading says. -/
set_option linter.unusedVariables false
set_option linter.unusedSimpArgs false
namespace Go.GAM
open Go.RowKit Go.ChangeShapes

section
variable {H : Type} {enc : TypeId × Value → H} {P : Program} {w : World} {szOf : Nat → Nat}

theorem rows_cells {a : Addr} {sz : Nat} : ∀ (rows : List (List Value)) (k : Nat), (∀ i r, rows[i]? = some r → r.length = sz ∧ ∀ j, j < sz → w.cell? (a.add ((k + i) * sz + j)) = some (r.getD j undef)) →
    ∀ i, i < rows.flatten.length → w.cell? (a.add (k * sz + i)) = some (rows.flatten.getD i undef)
  | [], k, h, i, hi => by simp at hi
  | r :: rows, k, h, i, hi => by
    obtain ⟨h1, h2⟩ := h 0 r rfl
    rw [List.flatten_cons]
    by_cases hlt : i < sz
    · have := h2 i hlt
      rw [Nat.add_zero] at this
      rw [this, List.getD_eq_getElem?_getD, List.getD_eq_getElem?_getD, List.getElem?_append_left (by omega)]
    · have := rows_cells (a := a) (sz := sz) rows (k + 1) (fun j r hj => by
        have := h (j + 1) r (by simpa using hj)
        rw [show k + 1 + j = k + (j + 1) by omega]; exact this) (i - sz) (by simp at hi ⊢; omega)
      rw [show (k + 1) * sz + (i - sz) = k * sz + i by rw [Nat.add_mul]; omega] at this
      rw [this, List.getD_eq_getElem?_getD, List.getD_eq_getElem?_getD, List.getElem?_append_right (by omega), h1]

/-- A slice that is read, spare places and all: its rows. -/
theorem row_open {t e : TypeId} {fuel : Nat} {cs : List Value} {x : DataW H × List MemPlace} (ht : P.underlying t = some (.slice e)) (h : DataW.trod enc P w 0 (fun _ => true) true fuel t cs = some x) :
    cs = [.slice none 0 0] ∨ ∃ (a : Addr) (len cap : Nat) (rows : List (List Value)), cs = [.slice (some a) len cap] ∧ len ≤ cap ∧ rows.length = cap ∧
      (∀ r ∈ rows, r.length = P.cellsOf e ∧ ∃ n y, DataW.trod enc P w 0 (fun _ => true) true n e r = some y) ∧ ∀ i, i < rows.flatten.length → w.cell? (a.add i) = some (rows.flatten.getD i undef) := by
  rcases DataW.trod_slice ht h with ⟨h0, _⟩ | ⟨a, len, cap, elems, rest, n, _, rfl, _, hb, hl, hm, hlen, hel, hsp, hns⟩
  · exact .inl h0
  right
  have each : ∀ i, i < cap → ∃ r, w.cells? 0 (a.add (i * P.cellsOf e)) (P.cellsOf e) = some r ∧ ∃ y, DataW.trod enc P w 0 (fun _ => true) true n e r = some y := by
    intro i hi
    have hb' : ∃ y, (w.cells? 0 (a.add (i * P.cellsOf e)) (P.cellsOf e)).bind (DataW.trod enc P w 0 (fun _ => true) true n e) = some y := by
      by_cases h1 : i < len
      · rw [hel i h1]
        exact ⟨_, List.getElem?_eq_getElem (by omega)⟩
      · obtain ⟨h2, h3⟩ := hsp rfl
        have := h3 (i - len) (by omega)
        rw [show len + (i - len) = i by omega] at this
        rw [this]
        exact ⟨_, List.getElem?_eq_getElem (by omega)⟩
    obtain ⟨y, hy⟩ := hb'
    obtain ⟨r, h1, h2⟩ := Option.bind_eq_some_iff.1 hy
    exact ⟨r, h1, y, h2⟩
  refine ⟨a, len, cap, (List.range cap).map fun i => (w.cells? 0 (a.add (i * P.cellsOf e)) (P.cellsOf e)).getD [], rfl, hl, by simp, ?_, ?_⟩
  · intro r hr
    obtain ⟨i, hi, rfl⟩ := List.mem_map.1 hr
    obtain ⟨r, h1, y, h2⟩ := each i (by simpa using hi)
    rw [h1]
    exact ⟨(World.cells?_some h1).2.1, n, y, h2⟩
  · have := rows_cells (w := w) (a := a) (sz := P.cellsOf e) ((List.range cap).map fun i => (w.cells? 0 (a.add (i * P.cellsOf e)) (P.cellsOf e)).getD []) 0 (fun i r hi => by
      simp only [List.getElem?_map, Option.map_eq_some_iff] at hi
      obtain ⟨i', hi', rfl⟩ := hi
      obtain ⟨hlt, rfl⟩ := List.getElem?_eq_some_iff.1 hi'
      rw [List.getElem_range]
      obtain ⟨r, h1, _⟩ := each i (by simpa using hlt)
      rw [h1]
      have hs := World.cells?_some h1
      refine ⟨hs.2.1, fun j hj => ?_⟩
      have := hs.2.2 j hj
      rw [Addr.add_add] at this
      rw [Nat.zero_add, this]
      simp [hs.2.1, hj])
    simpa using this

/-- What a law is told of a slice that came in. -/
def SArg (sz : Nat) (h : AHeap) (v : AV) (cs : List AV) (len : Nat) : Prop := Rd sz h v cs len ∨ (len = 0 ∧ cs = [] ∧ ∃ a c, v = .sl (some a) 0 c)

theorem SArg.len {sz : Nat} {h : AHeap} {v : AV} {cs : List AV} {len : Nat} (R : SArg sz h v cs len) {K : Int → Prop} (hk : K len) : pLenSl v K := by
  rcases R with R | ⟨rfl, _, a, c, rfl⟩
  · exact R.len hk
  · exact hk

theorem rows_list {α : Type} (f : α → List AV) (g : Value → AV) : ∀ rows : List (List Value), (∀ r ∈ rows, ∃ x : α, r.map g = f x) → ∃ l : List α, l.length = rows.length ∧ rows.flatten.map g = l.flatMap f
  | [], _ => ⟨[], rfl, rfl⟩
  | r :: rows, h => by
    obtain ⟨x, hx⟩ := h r (by simp)
    obtain ⟨l, h1, h2⟩ := rows_list f g rows fun r hr => h r (by simp [hr])
    exact ⟨x :: l, by simp [h1], by simp [hx, h2]⟩

theorem rows_len {sz : Nat} : ∀ rows : List (List Value), (∀ r ∈ rows, r.length = sz) → rows.flatten.length = rows.length * sz
  | [], _ => by simp
  | r :: rows, h => by
    rw [List.flatten_cons, List.length_append, rows_len rows fun r hr => h r (by simp [hr]), h r (by simp), List.length_cons, Nat.add_mul]; omega

theorem rows_take {sz : Nat} : ∀ (rows : List (List Value)) (n : Nat), (∀ r ∈ rows, r.length = sz) → rows.flatten.take (n * sz) = (rows.take n).flatten
  | [], n, _ => by simp
  | r :: rows, 0, _ => by simp
  | r :: rows, n + 1, h => by
    have h1 := h r (by simp)
    rw [List.take_succ_cons, List.flatten_cons, List.flatten_cons, ← rows_take rows n fun r hr => h r (by simp [hr]), List.take_append, h1]
    rw [List.take_of_length_le (by rw [h1, Nat.add_mul]; omega), show (n + 1) * sz - sz = n * sz by rw [Nat.add_mul]; omega]

theorem row_arg {α : Type} (f : α → List AV) {t e : TypeId} {b : Option Addr} {len cap : Nat} {d : DataW H} {p : List MemPlace} {sz : Nat} (ht : P.underlying t = some (.slice e)) (hc : P.cellsOf e = sz) (hz : 0 < sz) (hs : ∀ B, szOf B = sz)
    (hrow : ∀ r n y, DataW.trod enc P w 0 (fun _ => true) true n e r = some y → ∃ x : α, r.map (absV w szOf) = f x) (h : DataW.Trod enc P w 0 (fun _ => true) true t (.slice b len cap) d p) :
    ∃ (av : AV) (l : List α), VRel (muC w szOf) av (.slice b len cap) ∧ SArg sz (heapC w szOf) av (l.flatMap f) l.length := by
  obtain ⟨fuel, h⟩ := h
  rcases row_open ht h with h0 | ⟨a, len', cap', rows, h0, hl, hrl, hr, hcell⟩
  · simp [Value.cells] at h0
    obtain ⟨rfl, rfl, rfl⟩ := h0
    exact ⟨_, [], .sn, .inl (.inl ⟨rfl, rfl, rfl⟩)⟩
  · simp [Value.cells] at h0
    obtain ⟨rfl, rfl, rfl⟩ := h0
    have hlen := rows_len rows fun r hr' => (hr r hr').1.trans hc
    by_cases hc0 : cap = 0
    · subst hc0
      have hl0 : len = 0 := by omega
      subst hl0
      exact ⟨_, [], absV_rel _, .inr ⟨rfl, rfl, ⟨w.heap.size, 0, 0⟩, some 0, by simp [absV, absV1]⟩⟩
    · obtain ⟨ver, b, h1, h2, h3⟩ := canon_slice (szOf := szOf) hl hc0 hz (hs a.block) (by rw [hlen, hrl]) hcell
      rw [rows_take rows len fun r hr' => (hr r hr').1.trans hc] at h2
      obtain ⟨l, h4, h5⟩ := rows_list f (absV w szOf) (rows.take len) fun r hr' => by
        obtain ⟨_, n, y, hy⟩ := hr r (List.mem_of_mem_take hr')
        exact hrow r n y hy
      have h6 : l.length = len := by rw [h4, List.length_take, hrl]; omega
      refine ⟨_, l, absV_rel _, .inl ?_⟩
      rw [h1, ← h5, h6]
      exact h2.rd _

theorem row_int {e : TypeId} {k : IntKind} (he : P.underlying e = some (.int k)) (r : List Value) (n : Nat) (y : DataW H × List MemPlace) (h : DataW.trod enc P w 0 (fun _ => true) true n e r = some y) :
    ∃ x : { n : Int // (Lit.int k n).wf = true }, r.map (absV w szOf) = [.i k x.1] := by
  obtain ⟨m, rfl, _, hw⟩ := DataW.trod_int he h
  exact ⟨⟨m, hw⟩, rfl⟩
theorem row_string {e : TypeId} (he : P.underlying e = some .string) (r : List Value) (n : Nat) (y : DataW H × List MemPlace) (h : DataW.trod enc P w 0 (fun _ => true) true n e r = some y) :
    ∃ x : { l : List UInt8 // l.length ≤ maxLen }, r.map (absV w szOf) = [.s x.1] := by
  obtain ⟨s, rfl, _, hw⟩ := DataW.trod_string he h
  exact ⟨⟨s.data.toList, by simpa using hw⟩, rfl⟩

end
end Go.GAM

/- A text that is built up byte by byte; a stack of values; calls of the library by contracts that are given. -/
set_option linter.unusedVariables false
set_option linter.unusedSimpArgs false
namespace Go.GAM
open Go.RowKit

theorem Upd.ext {h h' : AHeap} (U : Upd (fun _ => False) h h') : Ext h h' := ⟨U.1, fun i hi => U.2 i hi fun h => h⟩

/-- An array that is made since h0. -/
structure NewA (sz : Nat) (h0 h : AHeap) (v : AV) (cs : List AV) (len : Nat) : Prop where
  upd : Upd (fun _ => False) h0 h
  arr : Arr sz h v cs len
  new : ∀ i, SlAt v i → h0.length ≤ i

theorem NewA.start (sz : Nat) (h : AHeap) : NewA sz h h (.sl none 0 none) [] 0 := ⟨Upd.refl _ _, Arr.nil _ _, fun _ h => h.elim⟩
theorem NewA.append {sz bytes : Nat} {h0 h : AHeap} {v x : AV} {cs ns : List AV} {len k : Nat} (A : NewA sz h0 h v cs len) (hz : 0 < sz) {K : AV → AHeap → Prop}
    (hx : ∀ K : List AV → Nat → Prop, K ns k → newsOf sz x h K) (hns : ns.length = k * sz) (hok : ns.all AV.cellOK = true) (hlen : (len + k) * bytes ≤ 140737488355328) (hl2 : len + k ≤ 9223372036854775807)
    (hk : ∀ v' h', NewA sz h0 h' v' (cs ++ ns) (len + k) → Upd (SlAt v) h h' → K v' h') : pAppend sz bytes v x h K :=
  A.arr.append hz hx hns hok hlen hl2 fun v' h' U A' F => hk v' h' ⟨A.upd.trans U fun i hi hs => absurd (A.new i hs) (by omega), A', fun i hi => by
    rcases F i hi with h | h
    · exact A.new i h
    · exact Nat.le_trans A.upd.1 h⟩ U
theorem NewA.build {sz bytes n : Nat} {h0 h : AHeap} {v : AV} {cs ns zeros : List AV} {parts : List (Nat × Nat × AV)} {len : Nat} (A : NewA sz h0 h v cs len) (hz : 0 < sz) {K : AV → AHeap → Prop}
    (hf : fillA zeros parts = some ns) (hns : ns.length = n * sz) (hok : ns.all AV.cellOK = true) (hlen : (len + n) * bytes ≤ 140737488355328) (hl2 : len + n ≤ 9223372036854775807)
    (hk : ∀ v' h', NewA sz h0 h' v' (cs ++ ns) (len + n) → K v' h') : pBuildSl sz n zeros parts h fun y h' => pAppend sz bytes v y h' K := by
  refine st_build hf hns fun y h1 hl1 U1 R1 F1 => ?_
  have A1 : NewA sz h0 h1 v cs len := ⟨A.upd.trans U1 fun _ _ h => h, A.arr.upd U1 fun _ _ h => h, A.new⟩
  exact A1.append hz (fun K hK => R1.news hK) hns hok hlen hl2 fun v' h' A' _ => hk v' h' A'

/-- A text that is made since h0. -/
def Tx (h0 h : AHeap) (v : AV) (l : List UInt8) : Prop := NewA 1 h0 h v (l.map byteAV) l.length

theorem Tx.start (h : AHeap) : Tx h h (.sl none 0 none) [] := NewA.start 1 h
theorem Tx.empty {h : AHeap} {K : AV → AHeap → Prop} (hk : ∀ v h', Tx h h' v [] → K v h') : pBuildSl 1 0 [] [] h K := by
  refine ⟨rfl, hk _ _ ⟨Upd.app _ _, .inr ⟨h.length, newBlk [] 1 true, rfl, by simp, rfl, rfl, rfl, Nat.le_refl _, rfl, rfl⟩, fun i hi => by cases hi; exact Nat.le_refl _⟩⟩
theorem Tx.push {h0 h : AHeap} {v : AV} {l : List UInt8} (A : Tx h0 h v l) {c : UInt8} {K : AV → AHeap → Prop} (hlen : l.length < 1000000000) (hk : ∀ v' h', Tx h0 h' v' (l ++ [c]) → K v' h') :
    pBuildSl 1 1 [.i .u8 0] [(0, 1, .i .u8 (c.toNat : Int))] h fun y h' => pAppend 1 1 v y h' K := by
  refine NewA.build A (by decide) (ns := [byteAV c]) rfl rfl rfl (by omega) (by omega) fun v' h' A' => hk v' h' ?_
  unfold Tx
  rw [List.map_append, List.length_append]; exact A'
theorem Tx.push2 {h0 h : AHeap} {v : AV} {l : List UInt8} (A : Tx h0 h v l) {c d : UInt8} {K : AV → AHeap → Prop} (hlen : l.length < 1000000000) (hk : ∀ v' h', Tx h0 h' v' (l ++ [c, d]) → K v' h') :
    pBuildSl 1 2 [.i .u8 0, .i .u8 0] [(0, 1, .i .u8 (c.toNat : Int)), (1, 1, .i .u8 (d.toNat : Int))] h fun y h' => pAppend 1 1 v y h' K := by
  refine NewA.build A (by decide) (ns := [byteAV c, byteAV d]) rfl rfl rfl (by omega) (by omega) fun v' h' A' => hk v' h' ?_
  unfold Tx
  rw [List.map_append, List.length_append]; exact A'
theorem Tx.push3 {h0 h : AHeap} {v : AV} {l : List UInt8} (A : Tx h0 h v l) {c d e : UInt8} {K : AV → AHeap → Prop} (hlen : l.length < 1000000000) (hk : ∀ v' h', Tx h0 h' v' (l ++ [c, d, e]) → K v' h') :
    pBuildSl 1 3 [.i .u8 0, .i .u8 0, .i .u8 0] [(0, 1, .i .u8 (c.toNat : Int)), (1, 1, .i .u8 (d.toNat : Int)), (2, 1, .i .u8 (e.toNat : Int))] h fun y h' => pAppend 1 1 v y h' K := by
  refine NewA.build A (by decide) (ns := [byteAV c, byteAV d, byteAV e]) rfl rfl rfl (by omega) (by omega) fun v' h' A' => hk v' h' ?_
  unfold Tx
  rw [List.map_append, List.length_append]; exact A'
theorem Tx.push4 {h0 h : AHeap} {v : AV} {l : List UInt8} (A : Tx h0 h v l) {c d e f : UInt8} {K : AV → AHeap → Prop} (hlen : l.length < 1000000000) (hk : ∀ v' h', Tx h0 h' v' (l ++ [c, d, e, f]) → K v' h') :
    pBuildSl 1 4 [.i .u8 0, .i .u8 0, .i .u8 0, .i .u8 0] [(0, 1, .i .u8 (c.toNat : Int)), (1, 1, .i .u8 (d.toNat : Int)), (2, 1, .i .u8 (e.toNat : Int)), (3, 1, .i .u8 (f.toNat : Int))] h fun y h' => pAppend 1 1 v y h' K := by
  refine NewA.build A (by decide) (ns := [byteAV c, byteAV d, byteAV e, byteAV f]) rfl rfl rfl (by omega) (by omega) fun v' h' A' => hk v' h' ?_
  unfold Tx
  rw [List.map_append, List.length_append]; exact A'
/-- The text is handed back as a string. -/
theorem Tx.ret {h0 h : AHeap} {v : AV} {l : List UInt8} (A : Tx h0 h v l) {Q : AV → AHeap → Prop} (hq : Q (.s l) h0) : pBytesStr v h fun x => kRet h0 Q (.s x) h :=
  Byt.str (l := l) A.arr.rd (kRet_pure rfl A.upd.ext hq)
theorem Tx.str {h0 h : AHeap} {v : AV} {l : List UInt8} (A : Tx h0 h v l) {K : List UInt8 → Prop} (hq : K l) : pBytesStr v h K := Byt.str (l := l) A.arr.rd hq

/-- One byte at a place. -/
theorem st_at {l r : List UInt8} {i : Nat} {c : UInt8} {K : Int → Prop} (h : l.drop i = c :: r) (hk : K (c.toNat : Int)) : pIdxStr (.s l) (.i .i64 (i : Int)) K := by
  refine idxStr ?_ hk
  have : (l.drop i)[0]? = some c := by rw [h]; rfl
  simpa using this
theorem drop_lt {α : Type} {l r : List α} {i : Nat} {c : α} (h : l.drop i = c :: r) : i < l.length := by
  rcases Nat.lt_or_ge i l.length with h1 | h1
  · exact h1
  · rw [List.drop_eq_nil_of_le h1] at h; cases h
theorem drop_next {α : Type} {l r : List α} {i : Nat} {c : α} (h : l.drop i = c :: r) : l.drop (i + 1) = r := by
  have : (l.drop i).drop 1 = r := by rw [h]; rfl
  rwa [List.drop_drop] at this
theorem drop_end {α : Type} {l : List α} {i : Nat} (h : l.drop i = []) : l.length ≤ i := by
  have := congrArg List.length h
  simp at this; omega
theorem byte_lt (c : UInt8) : 0 ≤ (c.toNat : Int) ∧ (c.toNat : Int) < 256 := ⟨by omega, by have := c.toNat_lt; omega⟩

/-! ### a stack of values of one cell -/

def Stk (h : AHeap) (v : AV) (l : List AV) : Prop :=
  (v = .sl none 0 none ∧ l = []) ∨ ∃ id b, v = .sl (some ⟨id, b.cells.length, 0⟩) l.length none ∧ h[id]? = some b ∧ b.sz = 1 ∧ l.length ≤ b.cells.length ∧ b.cells.take l.length = l ∧ b.floor ≤ b.cells.length ∧ b.ro = false ∧ b.gl = false

theorem Stk.rd {h : AHeap} {v : AV} {l : List AV} (S : Stk h v l) : Rd 1 h v l l.length := by
  rcases S with ⟨rfl, rfl⟩ | ⟨id, b, rfl, h1, h2, h3, h4, h5, h6, h7⟩
  · exact .inl ⟨rfl, rfl, rfl⟩
  · exact .inr ⟨id, _, 0, none, b, rfl, h1, h2, h5, Nat.le_refl _, by omega, by rw [List.drop_zero, Nat.mul_one]; exact h4⟩
theorem Stk.upd {M : Nat → Prop} {h h' : AHeap} {v : AV} {l : List AV} (S : Stk h v l) (U : Upd M h h') (hM : ∀ i, SlAt v i → ¬ M i) : Stk h' v l := by
  rcases S with h1 | ⟨id, b, rfl, h1, h2⟩
  · exact .inl h1
  · exact .inr ⟨id, b, rfl, (U.2 id (lt_of_some h1) (hM id rfl)).trans h1, h2⟩
theorem Stk.cut {h : AHeap} {v : AV} {l : List AV} (S : Stk h v l) {n : Nat} (hn : n ≤ l.length) {K : AV → Prop} (hk : ∀ v', Stk h v' (l.take n) → (∀ i, SlAt v' i → SlAt v i) → K v') : pSliceSl 1 v none (some (.i .i64 n)) none h K := by
  rcases S with ⟨rfl, rfl⟩ | ⟨id, b, rfl, h1, h2, h3, h4, h5, h6, h7⟩
  · have : n = 0 := by simpa using hn
    subst this
    exact ⟨by simp, rfl, rfl, rfl, fun h => by simp at h, hk _ (.inl ⟨rfl, by simp⟩) fun _ h => h⟩
  · refine ⟨Nat.one_pos, fun h => by simp at h, by omega, by simp, b, h1, h5, h5, h2, .inl (by simpa using hn), ?_⟩
    refine hk _ (.inr ⟨id, b, by simp; omega, h1, h2, by simp; omega, ?_, h5, h6, h7⟩) fun _ h => h
    rw [List.length_take, Nat.min_eq_left hn, ← h4, List.take_take, Nat.min_eq_left hn]
theorem Stk.push {bytes : Nat} {h : AHeap} {v x : AV} {l zeros : List AV} (S : Stk h v l) (hf : fillA zeros [(0, 1, x)] = some [x]) (hx : x.cellOK = true) (hlen : (l.length + 1) * bytes ≤ 140737488355328) (hl2 : l.length + 1 ≤ 9223372036854775807) {K : AV → AHeap → Prop}
    (hk : ∀ v' h', Upd (SlAt v) h h' → Stk h' v' (l ++ [x]) → (∀ i, SlAt v' i → SlAt v i ∨ h.length ≤ i) → K v' h') : pBuildSl 1 1 zeros [(0, 1, x)] h fun y h' => pAppend 1 bytes v y h' K := by
  refine st_build hf rfl fun y h1 hl1 U1 R1 F1 => ⟨Nat.one_pos, R1.news ?_⟩
  have S1 := S.upd U1 fun _ _ h => h
  rcases S1 with ⟨rfl, rfl⟩ | ⟨id, b, rfl, g1, g2, g3, g4, g5, g6, g7⟩
  · refine ⟨by simpa using hlen, by omega, ?_⟩
    rw [if_neg (by decide)]
    exact hk _ _ ((U1.mono fun _ _ h => h.elim).trans (Upd.app _ _) fun _ _ h => h.elim) (.inr ⟨h1.length, newBlk [x] 1 false, by simp [newBlk], by simp, rfl, by simp [newBlk], by simp [newBlk], by simp [newBlk], rfl, rfl⟩) fun i hi => .inr (by have e : h1.length = i := hi; omega)
  · have hid := lt_of_some g1
    have hidh : id < h.length := Rd.lt S.rd (id := id) rfl
    refine ⟨hlen, by omega, b, g1, g2, ⟨g5, Nat.le_refl _, by simp only; omega⟩, ?_⟩
    by_cases hfull : l.length = b.cells.length
    · cases hex : b.ex with
      | true =>
        refine .inr (.inl ⟨Nat.one_pos, .inr ⟨rfl, rfl, rfl, by simp only; omega⟩, ?_⟩)
        refine hk _ _ ((U1.mono fun _ _ h => h.elim).trans (Upd.app _ _) fun _ _ h => h.elim) (.inr ⟨h1.length, newBlk (l ++ [x]) 1 false, ?_, ?_, rfl, by simp [newBlk], by simp only [newBlk, List.length_append]; exact List.take_of_length_le (by simp), by simp [newBlk], rfl, rfl⟩) fun i hi => .inr (by have e : h1.length = i := hi; omega)
        · simp [newBlk, g4, g3]
        · simp [g4]
      | false =>
        refine .inr (.inr (.inr (.inl ⟨Nat.one_pos, g6, rfl, rfl, by omega, rfl, rfl, g7, by simp [hx], ?_⟩)))
        have hcl : b.cells = l := by rw [hfull, List.take_length] at g4; exact g4
        refine hk _ _ ((U1.mono fun _ _ h => h.elim).trans (Upd.set _ _ _) fun i _ h => h.symm) (.inr ⟨id, { b with cells := b.cells ++ [x] }, ?_, by simp [hid, hex], g2, by simp; omega, ?_, by simp; omega, g6, g7⟩) fun i hi => .inl hi
        · simp
        · simp only [hcl]
          rw [List.take_of_length_le (by simp)]
    · refine .inr (.inr (.inl ⟨Nat.one_pos, g6, rfl, by simp only; omega, .inl rfl, by simp [hx], ?_⟩))
      refine hk _ _ ((U1.mono fun _ _ h => h.elim).trans (Upd.set _ _ _) fun i _ h => h.symm) (.inr ⟨id, { b with cells := wr b.cells (0 + l.length * 1) [x], floor := b.cells.length }, ?_, show (h1.set id _)[id]? = some _ from List.getElem?_set_self hid, g2, ?_, ?_, ?_, g6, g7⟩) fun i hi => .inl hi
      · simp [wr]
      · simp [wr]; omega
      · simp only [wr, Nat.zero_add, Nat.mul_one, List.length_append, List.length_cons, List.length_nil]
        apply List.ext_getElem?
        intro i
        by_cases h1 : i < l.length
        · rw [List.getElem?_take_of_lt (by omega), List.getElem?_set_ne (by omega), List.getElem?_append_left h1]
          conv => rhs; rw [← g4]
          rw [List.getElem?_take_of_lt h1]
        · by_cases h2 : i = l.length
          · subst h2
            rw [List.getElem?_take_of_lt (by omega), List.getElem?_set_self (by omega), List.getElem?_append_right (by omega)]
            simp
          · rw [List.getElem?_eq_none (by simp; omega), List.getElem?_eq_none (by simp; omega)]
      · simp [wr]

theorem Rd.cell {sz : Nat} {h : AHeap} {v : AV} {cs : List AV} {len : Nat} (R : Rd sz h v cs len) {k : IntKind} {i : Nat} {c : AV} (hz : 0 < sz) (hi : i < len) (hc : cs[i * sz]? = some c) {K : AV → Prop} (hk : K c) :
    pIdxAddrSl sz v (.i k (i : Int)) h fun a => pLoad1 a h K := by
  rcases R with ⟨rfl, rfl, rfl⟩ | ⟨id, ver, off, cap, b, rfl, h2, h3, h4, h5, h6, h7⟩
  · omega
  · have A : RdAt sz h id ver off b cs len := ⟨h2, h3, h4, h5, h6, h7⟩
    exact st_idx A hi (st_elem (o := 0) A hi hz (by simpa using hc) hk)

theorem Tx.load {h0 h : AHeap} {v : AV} {l : List UInt8} (A : Tx h0 h v l) {k : IntKind} {i : Nat} {c : UInt8} (hc : l[i]? = some c) {K : AV → Prop} (hk : K (.i .u8 (c.toNat : Int))) : pIdxAddrSl 1 v (.i k (i : Int)) h fun a => pLoad1 a h K :=
  Rd.cell A.arr.rd Nat.one_pos (lt_of_some hc) (by rw [Nat.mul_one, List.getElem?_map, hc]; rfl) hk

/-- A store into an array of one's own, one cell an element. -/
theorem Arr.store {h : AHeap} {v x : AV} {cs : List AV} {len : Nat} (A : Arr 1 h v cs len) {k : IntKind} {i : Nat} (hi : i < len) (hx : x.parts = [x]) (hs : x.sizeOK = true) (hc : x.cellOK = true) {K : AHeap → Prop}
    (hk : ∀ h', Upd (SlAt v) h h' → Arr 1 h' v (cs.set i x) len → K h') : pIdxAddrSl 1 v (.i k (i : Int)) h fun p => pStore 1 p x h K := by
  rcases A with ⟨rfl, rfl, rfl⟩ | ⟨id, b, rfl, h2, rfl, h4, h5, h6, h7, h8⟩
  · omega
  · have hid := lt_of_some h2
    refine ⟨by omega, by omega, ⟨b, h2, h6, h6⟩, ?_⟩
    refine ⟨b, h2, h7, h6, rfl, by simp only [Int.toNat_natCast]; omega, hs, by rw [hx]; rfl, by rw [hx]; simp [hc], ?_⟩
    refine hk _ ((Upd.set _ _ _).mono fun i _ h => h.symm) (.inr ⟨id, { b with cells := wr b.cells (0 + i * 1) x.parts, floor := b.cells.length }, ?_, ?_, ?_, ?_, h5, ?_, h7, h8⟩)
    · simp
    · simp only [Int.toNat_natCast]; exact List.getElem?_set_self hid
    · rw [hx]; simp [wr]
    · simpa using h4
    · simp
theorem Tx.store {h0 h : AHeap} {v : AV} {l : List UInt8} (A : Tx h0 h v l) {k : IntKind} {i : Nat} {c : UInt8} (hi : i < l.length) {K : AHeap → Prop} (hk : ∀ h', Tx h0 h' v (l.set i c) → K h') :
    pIdxAddrSl 1 v (.i k (i : Int)) h fun p => pStore 1 p (.i .u8 (c.toNat : Int)) h K := by
  refine A.arr.store hi rfl rfl rfl fun h' U A' => hk h' ⟨A.upd.trans U fun j hj hs => absurd (A.new j hs) (by omega), ?_, A.new⟩
  have e : (l.map byteAV).set i (.i .u8 (c.toNat : Int)) = (l.set i c).map byteAV := by rw [List.map_set]; rfl
  rw [e] at A'
  rw [List.length_set]; exact A'
theorem Tx.ofStr {l : List UInt8} {h : AHeap} {K : AV → AHeap → Prop} (hk : ∀ v h', Tx h h' v l → K v h') : pStrBytes (.s l) h K :=
  hk _ _ ⟨Upd.app _ _, .inr ⟨h.length, newBlk (l.map byteAV) 1 false, by simp, by simp, rfl, by simp, rfl, Nat.le_refl _, rfl, rfl⟩, fun i hi => by cases hi; exact Nat.le_refl _⟩

/-! ### numbers -/

theorem bits_nat {x : Nat} (h : x < 2 ^ 64) : (BitVec.ofInt 64 (x : Int)).toNat = x := by
  simp [BitVec.toNat_ofInt]; omega
theorem bits_or {x y : Nat} (hx : x < 2 ^ 62) (hy : y < 2 ^ 62) : bitsOp .or .i64 x y = ((x ||| y : Nat) : Int) := by
  have h : x ||| y < 2 ^ 62 := Nat.or_lt_two_pow hx hy
  show IntKind.wrap .i64 (((BitVec.ofInt 64 (x : Int)) ||| (BitVec.ofInt 64 (y : Int))).toNat : Int) = _
  rw [BitVec.toNat_or, bits_nat (by omega), bits_nat (by omega), wrap_i64 (by omega) (by omega)]
theorem bits_and {x y : Nat} (hx : x < 2 ^ 62) (hy : y < 2 ^ 62) : bitsOp .and .i64 x y = ((x &&& y : Nat) : Int) := by
  have h : x &&& y < 2 ^ 62 := Nat.and_lt_two_pow _ hy
  show IntKind.wrap .i64 (((BitVec.ofInt 64 (x : Int)) &&& (BitVec.ofInt 64 (y : Int))).toNat : Int) = _
  rw [BitVec.toNat_and, bits_nat (by omega), bits_nat (by omega), wrap_i64 (by omega) (by omega)]
theorem bits8_nat {x : Nat} (h : x < 256) : (BitVec.ofInt 8 (x : Int)).toNat = x := by
  simp [BitVec.toNat_ofInt]; omega
theorem bits_and8 {x y : Nat} (hx : x < 256) (hy : y < 256) : bitsOp .and .u8 x y = ((x &&& y : Nat) : Int) := by
  have h : x &&& y < 2 ^ 8 := Nat.and_lt_two_pow _ hy
  show IntKind.wrap .u8 (((BitVec.ofInt 8 (x : Int)) &&& (BitVec.ofInt 8 (y : Int))).toNat : Int) = _
  rw [BitVec.toNat_and, bits8_nat (by omega), bits8_nat (by omega), wrap_u8 (by omega) (by omega)]
theorem st_shl {a b : Nat} {K : Int → Prop} (hb : b ≤ 64) (h : a * 2 ^ b < 2 ^ 62) (hk : K ((a * 2 ^ b : Nat) : Int)) : pShl .i64 a b K := by
  refine ⟨by omega, ?_⟩
  have e : (a : Int) * 2 ^ (min (b : Int).toNat IntKind.i64.bits) = ((a * 2 ^ b : Nat) : Int) := by
    rw [Int.toNat_natCast, show IntKind.i64.bits = 64 from rfl, Nat.min_eq_left hb]; simp
  rw [e, wrap_i64 (by omega) (by omega)]; exact hk
theorem st_shr {a b : Nat} {k : IntKind} {K : Int → Prop} (hb : b ≤ k.bits) (hk : K ((a / 2 ^ b : Nat) : Int)) : pShr k a b K := by
  refine ⟨by omega, ?_⟩
  have e : (a : Int).fdiv (2 ^ (min (b : Int).toNat k.bits)) = ((a / 2 ^ b : Nat) : Int) := by
    rw [Int.toNat_natCast, Nat.min_eq_left hb]
    have h2 : ((2 : Int) ^ b) = ((2 ^ b : Nat) : Int) := by simp
    rw [h2, Int.fdiv_eq_ediv_of_nonneg _ (Int.natCast_nonneg (2 ^ b))]; rfl
  rw [e]; exact hk

/-! ### calls by contracts -/

theorem x_calls {P : Program} {f : FuncId} {cargs : List Value} {w w0 : World} {Fz : Nat → Prop} {μ : Mu} {own : Nat → Option Nat} {h : AHeap} {K : AV → AHeap → Prop} {av : AV} {v : Value} (hb : bodyOK P f = true) (R : Rel w0 Fz μ own h w)
    (hc : Calls P f cargs.toArray w fun e w' => e = .returned v ∧ Below w.heap.size w w') (hv : VRel μ av v) (hk : K av h) : CallOK P f cargs w (PostOf w0 Fz μ K) := by
  refine .inl ⟨f, cargs.toArray, bodyOK_run hb _ _, hc.mono fun e w' ⟨he, hb⟩ => ⟨v, he, av, μ, own, h, hk, hv, ?_, Sub.refl _⟩⟩
  exact R.same (fun B hB => hb.block B hB) hb.size hb.os hb.tape hb.output

end Go.GAM

/- Arguments that are slices of strings, bytes, numbers: as lists. -/
set_option linter.unusedVariables false
set_option linter.unusedSimpArgs false
namespace Go.GAM
open Go.RowKit

theorem flatMap_one {α β : Type} (f : α → β) : ∀ l : List α, (l.flatMap fun x => [f x]) = l.map f
  | [] => rfl
  | a :: l => by rw [List.flatMap_cons, flatMap_one f l]; rfl

theorem u8_bd {n : Int} (h : (Lit.int .u8 n).wf = true) : 0 ≤ n ∧ n < 256 := by
  simp [Lit.wf, IntKind.min, IntKind.max, IntKind.signed, IntKind.bits] at h
  omega
theorem i64_bd {n : Int} (h : (Lit.int .i64 n).wf = true) : -9223372036854775808 ≤ n ∧ n < 9223372036854775808 := by
  simp [Lit.wf, IntKind.min, IntKind.max, IntKind.signed, IntKind.bits] at h
  omega

section
variable {H : Type} {enc : TypeId × Value → H} {P : Program} {w : World} {szOf : Nat → Nat}

theorem arg_strings {t e : TypeId} {b : Option Addr} {len cap : Nat} {d : DataW H} {p : List MemPlace} (ht : P.underlying t = some (.slice e)) (hc : P.cellsOf e = 1) (he : P.underlying e = some .string) (hs : ∀ B, szOf B = 1) (h : DataW.Trod enc P w 0 (fun _ => true) true t (.slice b len cap) d p) :
    ∃ (av : AV) (l : List (List UInt8)), VRel (muC w szOf) av (.slice b len cap) ∧ SArg 1 (heapC w szOf) av (l.map .s) l.length := by
  obtain ⟨av, l, h1, h2⟩ := row_arg (szOf := szOf) (fun (x : { l : List UInt8 // l.length ≤ maxLen }) => [AV.s x.1]) ht hc Nat.one_pos hs (fun r n y h => row_string he r n y h) h
  refine ⟨av, l.map (·.1), h1, ?_⟩
  rw [List.map_map, List.length_map]
  rwa [flatMap_one (fun (x : { l : List UInt8 // l.length ≤ maxLen }) => AV.s x.1)] at h2
theorem arg_ints {k : IntKind} {t e : TypeId} {b : Option Addr} {len cap : Nat} {d : DataW H} {p : List MemPlace} (ht : P.underlying t = some (.slice e)) (hc : P.cellsOf e = 1) (he : P.underlying e = some (.int k)) (hs : ∀ B, szOf B = 1) (h : DataW.Trod enc P w 0 (fun _ => true) true t (.slice b len cap) d p) :
    ∃ (av : AV) (l : List Int), VRel (muC w szOf) av (.slice b len cap) ∧ SArg 1 (heapC w szOf) av (l.map (.i k)) l.length ∧ ∀ n ∈ l, (Lit.int k n).wf = true := by
  obtain ⟨av, l, h1, h2⟩ := row_arg (szOf := szOf) (fun (x : { n : Int // (Lit.int k n).wf = true }) => [AV.i k x.1]) ht hc Nat.one_pos hs (fun r n y h => row_int he r n y h) h
  refine ⟨av, l.map (·.1), h1, ?_, fun n hn => ?_⟩
  · rw [List.map_map, List.length_map]
    rwa [flatMap_one (fun (x : { n : Int // (Lit.int k n).wf = true }) => AV.i k x.1)] at h2
  · obtain ⟨x, _, rfl⟩ := List.mem_map.1 hn
    exact x.2
theorem arg_bytes {t e : TypeId} {b : Option Addr} {len cap : Nat} {d : DataW H} {p : List MemPlace} (ht : P.underlying t = some (.slice e)) (hc : P.cellsOf e = 1) (he : P.underlying e = some (.int .u8)) (hs : ∀ B, szOf B = 1) (h : DataW.Trod enc P w 0 (fun _ => true) true t (.slice b len cap) d p) :
    ∃ (av : AV) (l : List UInt8), VRel (muC w szOf) av (.slice b len cap) ∧ SArg 1 (heapC w szOf) av (l.map byteAV) l.length := by
  obtain ⟨av, l, h1, h2, h3⟩ := arg_ints (k := .u8) ht hc he hs h
  refine ⟨av, l.map fun n => UInt8.ofNat n.toNat, h1, ?_⟩
  rw [List.map_map, List.length_map]
  have e : l.map (byteAV ∘ fun n => UInt8.ofNat n.toNat) = l.map (.i .u8) := List.map_congr_left fun n hn => by
    have := u8_bd (h3 n hn)
    exact (byteAV_wrap this.1 this.2).symm
  rwa [e]
end

theorem SArg.rd {sz : Nat} {h : AHeap} {v : AV} {cs : List AV} {len : Nat} (S : SArg sz h v cs len) (hl : len ≠ 0) : Rd sz h v cs len := by
  rcases S with R | ⟨h1, _⟩
  · exact R
  · exact absurd h1 hl

theorem Rd.str {h : AHeap} {v : AV} {l : List (List UInt8)} {len : Nat} (R : Rd 1 h v (l.map .s) len) {k : IntKind} {i : Nat} {x : List UInt8} (hx : l[i]? = some x) {K : List UInt8 → Prop} (hk : K x) :
    pIdxAddrSl 1 v (.i k (i : Int)) h fun a => pLoad1 a h fun y => asS y K := by
  have hl := R.length
  rw [List.length_map, Nat.mul_one] at hl
  exact R.cell Nat.one_pos (by have := lt_of_some hx; omega) (c := .s x) (by rw [Nat.mul_one, List.getElem?_map, hx]; rfl) (st_asS hk)
theorem Rd.int {kd : IntKind} {h : AHeap} {v : AV} {l : List Int} {len : Nat} (R : Rd 1 h v (l.map (.i kd)) len) {k : IntKind} {i : Nat} {x : Int} (hx : l[i]? = some x) {K : Int → Prop} (hk : K x) :
    pIdxAddrSl 1 v (.i k (i : Int)) h fun a => pLoad1 a h fun y => asI kd y K := by
  have hl := R.length
  rw [List.length_map, Nat.mul_one] at hl
  exact R.cell Nat.one_pos (by have := lt_of_some hx; omega) (c := .i kd x) (by rw [Nat.mul_one, List.getElem?_map, hx]; rfl) (st_asI hk)
theorem Rd.byte {h : AHeap} {v : AV} {l : List UInt8} {len : Nat} (R : Rd 1 h v (l.map byteAV) len) {k : IntKind} {i : Nat} {x : UInt8} (hx : l[i]? = some x) {K : Int → Prop} (hk : K (x.toNat : Int)) :
    pIdxAddrSl 1 v (.i k (i : Int)) h fun a => pLoad1 a h fun y => asI .u8 y K := by
  have hl := R.length
  rw [List.length_map, Nat.mul_one] at hl
  exact R.cell Nat.one_pos (by have := lt_of_some hx; omega) (c := byteAV x) (by rw [Nat.mul_one, List.getElem?_map, hx]; rfl) (st_asI hk)

end Go.GAM

/- Slices that came in, where a block of the world is known: an empty one that is not nil is one at that block's end. Package variables that are laid. -/
set_option linter.unusedVariables false
set_option linter.unusedSimpArgs false
namespace Go.GAM
open Go.RowKit Go.ChangeShapes

section
variable {H : Type} {enc : TypeId × Value → H} {P : Program} {w : World} {szOf : Nat → Nat}

/-- A listed variable is a block of cells. -/
theorem laid_shape {n : String} {d : DataW Unit} {l : List (String × DataW Unit)} (hm : (n, d) ∈ l) (hL : laidMet P l w) :
    ∃ g t cs fuel p, P.globalNamed n = some g ∧ (P.globals[g]?).map (·.type) = some t ∧ w.var? P n = some cs ∧ DataW.trod (fun _ => ()) P w 0 (fun _ => true) false fuel t cs.toList = some (d, p) := by
  obtain ⟨ps, h, hx⟩ := hL
  clear hx
  induction l generalizing ps with
  | nil => cases hm
  | cons x l ih =>
    obtain ⟨n', d'⟩ := x
    obtain ⟨g, t, cs, fuel, p, q, h1, h2, h3, h4, h5, h6⟩ := h
    rcases List.mem_cons.1 hm with h | h
    · cases h; exact ⟨g, t, cs, fuel, p, h1, h2, h3, h4⟩
    · exact ih h _ h5
theorem var_shape {n : String} {g : Nat} {cs : Array Value} (hg : P.globalNamed n = some g) (hv : w.var? P n = some cs) : ∃ t fr, w.heap[g]? = some (.cells cs t fr) := by
  unfold World.var? at hv
  rw [hg] at hv
  simp only [Option.bind_some] at hv
  split at hv
  · rename_i c t fr h
    cases hv
    exact ⟨t, fr, h⟩
  · cases hv
theorem laid_live {n : String} {d : DataW Unit} {l : List (String × DataW Unit)} (hL : laidMet P ((n, d) :: l) w) : ∃ B, (w.shape? B).isSome = true := by
  obtain ⟨g, t, cs, fuel, p, h1, h2, h3, h4⟩ := laid_shape (List.mem_cons_self) hL
  obtain ⟨t', fr, h⟩ := var_shape h1 h3
  exact ⟨g, by simp [World.shape?, h]⟩

theorem row_argL {α : Type} (f : α → List AV) {t e : TypeId} {b : Option Addr} {len cap : Nat} {d : DataW H} {p : List MemPlace} {sz : Nat} (hl : ∃ B, (w.shape? B).isSome = true) (ht : P.underlying t = some (.slice e)) (hc : P.cellsOf e = sz) (hz : 0 < sz) (hs : ∀ B, szOf B = sz)
    (hrow : ∀ r n y, DataW.trod enc P w 0 (fun _ => true) true n e r = some y → ∃ x : α, r.map (absV w szOf) = f x) (h : DataW.Trod enc P w 0 (fun _ => true) true t (.slice b len cap) d p) :
    ∃ (av : AV) (l : List α), VRel (muC w szOf) av (.slice b len cap) ∧ Rd sz (heapC w szOf) av (l.flatMap f) l.length := by
  obtain ⟨av, l, h1, h2⟩ := row_arg (szOf := szOf) f ht hc hz hs hrow h
  rcases h2 with h2 | ⟨hl0, hc0, a, c, rfl⟩
  · exact ⟨av, l, h1, h2⟩
  by_cases hcap : cap = 0
  · subst hcap
    obtain ⟨B, hB⟩ := hl
    obtain ⟨⟨el, n⟩, hB⟩ := Option.isSome_iff_exists.1 hB
    obtain ⟨cs, fr, hh, hn⟩ := shape_some hB
    have hlen : len = 0 := by
      cases h1 with
      | sl _ _ _ _ _ _ h3 h4 => omega
    have hb : ∃ x, b = some x := by cases h1; exact ⟨_, rfl⟩
    obtain ⟨x, rfl⟩ := hb
    subst hlen
    refine ⟨.sl (some ⟨B, n, n⟩) 0 (some 0), [], .sl _ _ _ 0 _ ⟨B, 0, n, szOf B⟩ (muC_is hB) (Nat.le_refl _) (by simp) (by simp) (by simp) (by simp), .inr ⟨B, n, n, some 0, blkC w szOf B, rfl, heapC_at (shape_lt hB), ?_, ?_, ?_, by simp, by simp⟩⟩
    · unfold blkC; rw [hh]; exact hs B
    · unfold blkC; rw [hh]; simp only; omega
    · unfold blkC; rw [hh]; simp [hn]
  · obtain ⟨fuel, h⟩ := h
    rcases row_open ht h with h0 | ⟨a', len', cap', rows, h0, hl', hrl, hr, hcell⟩
    · simp [Value.cells] at h0
      exact absurd h0.2.2 hcap
    · simp [Value.cells] at h0
      obtain ⟨rfl, rfl, rfl⟩ := h0
      have hlen := rows_len rows fun r hr' => (hr r hr').1.trans hc
      obtain ⟨ver, b, g1, g2, g3⟩ := canon_slice (szOf := szOf) hl' hcap hz (hs a'.block) (by rw [hlen, hrl]) hcell
      have hl0' : len = 0 := by
        cases h1; rfl
      subst hl0'
      refine ⟨_, [], absV_rel _, ?_⟩
      rw [g1]
      simp only [Nat.zero_mul, List.take_zero, List.map_nil] at g2
      exact g2.rd _

theorem argL_strings (hl : ∃ B, (w.shape? B).isSome = true) {t e : TypeId} {b : Option Addr} {len cap : Nat} {d : DataW H} {p : List MemPlace} (ht : P.underlying t = some (.slice e)) (hc : P.cellsOf e = 1) (he : P.underlying e = some .string) (hs : ∀ B, szOf B = 1) (h : DataW.Trod enc P w 0 (fun _ => true) true t (.slice b len cap) d p) :
    ∃ (av : AV) (l : List (List UInt8)), VRel (muC w szOf) av (.slice b len cap) ∧ Rd 1 (heapC w szOf) av (l.map .s) l.length := by
  obtain ⟨av, l, h1, h2⟩ := row_argL (szOf := szOf) (fun (x : { l : List UInt8 // l.length ≤ maxLen }) => [AV.s x.1]) hl ht hc Nat.one_pos hs (fun r n y h => row_string he r n y h) h
  refine ⟨av, l.map (·.1), h1, ?_⟩
  rw [List.map_map, List.length_map]
  rwa [flatMap_one (fun (x : { l : List UInt8 // l.length ≤ maxLen }) => AV.s x.1)] at h2
theorem argL_ints (hl : ∃ B, (w.shape? B).isSome = true) {k : IntKind} {t e : TypeId} {b : Option Addr} {len cap : Nat} {d : DataW H} {p : List MemPlace} (ht : P.underlying t = some (.slice e)) (hc : P.cellsOf e = 1) (he : P.underlying e = some (.int k)) (hs : ∀ B, szOf B = 1) (h : DataW.Trod enc P w 0 (fun _ => true) true t (.slice b len cap) d p) :
    ∃ (av : AV) (l : List Int), VRel (muC w szOf) av (.slice b len cap) ∧ Rd 1 (heapC w szOf) av (l.map (.i k)) l.length ∧ ∀ n ∈ l, (Lit.int k n).wf = true := by
  obtain ⟨av, l, h1, h2⟩ := row_argL (szOf := szOf) (fun (x : { n : Int // (Lit.int k n).wf = true }) => [AV.i k x.1]) hl ht hc Nat.one_pos hs (fun r n y h => row_int he r n y h) h
  refine ⟨av, l.map (·.1), h1, ?_, fun n hn => ?_⟩
  · rw [List.map_map, List.length_map]
    rwa [flatMap_one (fun (x : { n : Int // (Lit.int k n).wf = true }) => AV.i k x.1)] at h2
  · obtain ⟨x, _, rfl⟩ := List.mem_map.1 hn
    exact x.2
theorem argL_bytes (hl : ∃ B, (w.shape? B).isSome = true) {t e : TypeId} {b : Option Addr} {len cap : Nat} {d : DataW H} {p : List MemPlace} (ht : P.underlying t = some (.slice e)) (hc : P.cellsOf e = 1) (he : P.underlying e = some (.int .u8)) (hs : ∀ B, szOf B = 1) (h : DataW.Trod enc P w 0 (fun _ => true) true t (.slice b len cap) d p) :
    ∃ (av : AV) (l : List UInt8), VRel (muC w szOf) av (.slice b len cap) ∧ Rd 1 (heapC w szOf) av (l.map byteAV) l.length := by
  obtain ⟨av, l, h1, h2, h3⟩ := argL_ints (k := .u8) hl ht hc he hs h
  refine ⟨av, l.map fun n => UInt8.ofNat n.toNat, h1, ?_⟩
  rw [List.map_map, List.length_map]
  have e : l.map (byteAV ∘ fun n => UInt8.ofNat n.toNat) = l.map (.i .u8) := List.map_congr_left fun n hn => by
    have := u8_bd (h3 n hn)
    exact (byteAV_wrap this.1 this.2).symm
  rwa [e]
end

/-- x[lo:hi] of a slice that is read: the same at every heap that keeps its block. -/
theorem Rd.cutAt {sz : Nat} {h : AHeap} {v : AV} {cs : List AV} {len : Nat} (R : Rd sz h v cs len) (hz : 0 < sz) {lo : Option AV} {lo' hi : Nat} (hlo : lo = none ∧ lo' = 0 ∨ lo = some (.i .i64 lo')) (h1 : lo' ≤ hi) (h2 : hi ≤ len) :
    ∃ v', Rd sz h v' ((cs.take (hi * sz)).drop (lo' * sz)) (hi - lo') ∧ ∀ (K : AV → Prop), K v' → pSliceSl sz v lo (some (.i .i64 (hi : Int))) none h K := by
  rcases R with ⟨rfl, h0, rfl⟩ | ⟨id, ver, off, cap, b, rfl, g2, g3, g4, g5, g6, g7⟩
  · have : hi = 0 := by omega
    subst this
    have : lo' = 0 := by omega
    subst this
    refine ⟨.sl none 0 none, .inl ⟨rfl, rfl, by simp⟩, fun K hk => ⟨by simp, ?_⟩⟩
    rcases hlo with ⟨rfl, _⟩ | rfl
    · exact ⟨rfl, rfl, rfl, fun h => by simp at h, hk⟩
    · exact ⟨by simp, rfl, rfl, rfl, fun h => by simp at h, hk⟩
  · have e2 : hi * sz ≤ len * sz := Nat.mul_le_mul_right _ h2
    have e1 : lo' * sz ≤ hi * sz := Nat.mul_le_mul_right _ h1
    have e3 : (hi - lo') * sz = hi * sz - lo' * sz := Nat.sub_mul _ _ _
    refine ⟨.sl (some ⟨id, ver, off + lo' * sz⟩) (hi - lo') (cap.map (· - lo')), .inr ⟨id, ver, off + lo' * sz, _, b, rfl, g2, g3, g4, g5, by omega, ?_⟩, fun K hk => ?_⟩
    · rw [← g7, List.take_take, Nat.min_eq_left e2, List.drop_take, List.drop_drop, e3]
    · refine ⟨hz, fun h => by simp at h, by omega, ?_⟩
      rcases hlo with ⟨rfl, rfl⟩ | rfl
      · exact ⟨by omega, b, g2, by omega, g4, g3, .inl (by simpa using h2), by simpa using hk⟩
      · exact ⟨by omega, by simpa using h1, b, g2, by omega, g4, g3, .inl (by simpa using h2), by simpa using hk⟩

end Go.GAM

/- Counting up; stacks and arrays that are made; contracts' small change. -/
set_option linter.unusedVariables false
set_option linter.unusedSimpArgs false
namespace Go.GAM
open Go.RowKit

theorem inc {i : Nat} {K : Int → Prop} (h : i ≤ 1000000000) (hk : K ((i + 1 : Nat) : Int)) : withI (IntKind.wrap .i64 ((i : Int) + 1)) K :=
  withI_is (n := ((i + 1 : Nat) : Int)) (by rw [wrap_i64 (by omega) (by omega)]; omega) hk
theorem inc2 {i : Nat} {K : Int → Prop} (h : i ≤ 1000000000) (hk : K ((i + 2 : Nat) : Int)) : withI (IntKind.wrap .i64 ((i : Int) + 2)) K :=
  withI_is (n := ((i + 2 : Nat) : Int)) (by rw [wrap_i64 (by omega) (by omega)]; omega) hk
/-- A sum, a product that fits. -/
theorem st_w {e n : Int} {K : Int → Prop} (h : e = n) (h0 : -9223372036854775808 ≤ n) (h1 : n < 9223372036854775808) (hk : K n) : withI (IntKind.wrap .i64 e) K :=
  withI_is (by rw [h, wrap_i64 h0 h1]) hk
theorem u8_of {n : Int} (h0 : 0 ≤ n) (h1 : n < 256) : n = ((UInt8.ofNat n.toNat).toNat : Int) := by
  rw [UInt8.toNat_ofNat']; omega
theorem eq_byte (c d : UInt8) : decide ((c.toNat : Int) = (d.toNat : Int)) = decide (c = d) := by
  rw [decide_eq_decide]
  constructor
  · intro h; exact UInt8.toNat_inj.1 (by omega)
  · rintro rfl; rfl
theorem take_snoc {α : Type} {l : List α} {i : Nat} {c : α} (hc : l[i]? = some c) : l.take (i + 1) = l.take i ++ [c] := by
  rw [List.take_add_one, hc]; rfl
theorem at_of_drop {α : Type} {l r : List α} {i : Nat} {c : α} (h : l.drop i = c :: r) : l[i]? = some c := by
  have : (l.drop i)[0]? = some c := by rw [h]; rfl
  simpa using this
theorem drop_of_at {α : Type} {l : List α} {i : Nat} {c : α} (h : l[i]? = some c) : l.drop i = c :: l.drop (i + 1) := by
  have hi := lt_of_some h
  rw [List.drop_eq_getElem_cons hi]
  rw [List.getElem?_eq_getElem hi] at h
  simp only [Option.some.injEq] at h
  rw [h]

theorem callV_c {R : CallR} {f : Nat} {first cap vs : List AV} {h : AHeap} {K : AV → AHeap → Prop} (hf : Nat.blt f yid0 = true) (hk : R f (first ++ vs ++ cap) h K) : pCallV R (.fn (.func f) first cap) vs h K := by
  unfold pCallV
  simp only
  unfold pCall
  exact bif_t hf hk

/-- A stack that is made since h0. -/
structure NewS (h0 h : AHeap) (v : AV) (l : List AV) : Prop where
  upd : Upd (fun _ => False) h0 h
  stk : Stk h v l
  new : ∀ i, SlAt v i → h0.length ≤ i

theorem NewS.start (h : AHeap) : NewS h h (.sl none 0 none) [] := ⟨Upd.refl _ _, .inl ⟨rfl, rfl⟩, fun _ h => h.elim⟩
theorem NewS.empty {h0 h : AHeap} (U : Upd (fun _ => False) h0 h) {K : AV → AHeap → Prop} (hk : ∀ v h', NewS h0 h' v [] → Upd (fun _ => False) h h' → (∀ i, SlAt v i → h.length ≤ i) → K v h') : pBuildSl 1 0 [] [] h K := by
  refine ⟨rfl, hk _ _ ⟨U.trans (Upd.app _ _) fun _ _ h => h, .inr ⟨h.length, newBlk [] 1 true, rfl, by simp, rfl, Nat.le_refl _, rfl, Nat.le_refl _, rfl, rfl⟩, fun i hi => ?_⟩ (Upd.app _ _) fun i hi => ?_⟩
  · cases hi; exact U.1
  · cases hi; exact Nat.le_refl _
theorem NewS.push {bytes : Nat} {h0 h : AHeap} {v x : AV} {l zeros : List AV} (S : NewS h0 h v l) (hf : fillA zeros [(0, 1, x)] = some [x]) (hx : x.cellOK = true) (hlen : (l.length + 1) * bytes ≤ 140737488355328) (hl2 : l.length + 1 ≤ 9223372036854775807) {K : AV → AHeap → Prop}
    (hk : ∀ v' h', NewS h0 h' v' (l ++ [x]) → Upd (SlAt v) h h' → (∀ i, SlAt v' i → SlAt v i ∨ h.length ≤ i) → K v' h') : pBuildSl 1 1 zeros [(0, 1, x)] h fun y h' => pAppend 1 bytes v y h' K :=
  S.stk.push hf hx hlen hl2 fun v' h' U S' F => hk v' h' ⟨S.upd.trans U fun i hi hs => absurd (S.new i hs) (by omega), S', fun i hi => by
    rcases F i hi with h | h
    · exact S.new i h
    · exact Nat.le_trans S.upd.1 h⟩ U F
theorem NewS.cut {h0 h : AHeap} {v : AV} {l : List AV} (S : NewS h0 h v l) {n : Nat} (hn : n ≤ l.length) {K : AV → Prop} (hk : ∀ v', NewS h0 h v' (l.take n) → (∀ i, SlAt v' i → SlAt v i) → K v') : pSliceSl 1 v none (some (.i .i64 n)) none h K :=
  S.stk.cut hn fun v' S' F => hk v' ⟨S.upd, S', fun i hi => S.new i (F i hi)⟩ F

theorem Arr.stk {h : AHeap} {v : AV} {l : List AV} {n : Nat} (A : Arr 1 h v l n) : n = l.length ∧ Stk h v l := by
  rcases A with ⟨rfl, rfl, rfl⟩ | ⟨id, b, rfl, h2, rfl, h4, h5, h6, h7, h8⟩
  · exact ⟨rfl, .inl ⟨rfl, rfl⟩⟩
  · have : n = b.cells.length := by omega
    subst this
    exact ⟨rfl, .inr ⟨id, b, rfl, h2, h5, Nat.le_refl _, by simp, h6, h7, h8⟩⟩

theorem flat_rep (z : AV) : ∀ n, (List.replicate n [z]).flatten = List.replicate n z
  | 0 => rfl
  | n + 1 => by rw [List.replicate_succ, List.flatten_cons, flat_rep z n, List.replicate_succ]; rfl
theorem st_make {bytes n : Nat} {z : AV} {h : AHeap} {k : IntKind} (hb : bytes * n ≤ 281474976710656) (hn : n ≤ 9223372036854775807) {K : AV → AHeap → Prop}
    (hk : ∀ v h', NewA 1 h h' v (List.replicate n z) n → K v h') : pMake 1 bytes [z] (.i k (n : Int)) (.i k (n : Int)) h K := by
  refine ⟨by omega, by omega, Int.natCast_mul bytes n ▸ (by omega : ((bytes * n : Nat) : Int) ≤ (281474976710656 : Int)), by omega, rfl, Nat.one_pos, ?_⟩
  refine hk _ _ ⟨Upd.app _ _, .inr ⟨h.length, newBlk (List.replicate n z) 1 true, ?_, ?_, rfl, by simp, rfl, Nat.le_refl _, rfl, rfl⟩, fun i hi => by cases hi; exact Nat.le_refl _⟩
  · rw [Int.toNat_natCast, Nat.mul_one, List.length_replicate]
  · rw [Int.toNat_natCast, flat_rep, List.getElem?_append_right (Nat.le_refl _), Nat.sub_self]; rfl


/-- A text of one byte that is made. -/
theorem Tx.one {h0 h : AHeap} (U : Upd (fun _ => False) h0 h) {c : UInt8} {K : AV → AHeap → Prop} (hk : ∀ v h', Tx h0 h' v [c] → Upd (fun _ => False) h h' → K v h') : pBuildSl 1 1 [.i .u8 0] [(0, 1, .i .u8 (c.toNat : Int))] h K := by
  refine ⟨rfl, hk _ _ ⟨U.trans (Upd.app _ _) fun _ _ h => h, .inr ⟨h.length, newBlk [byteAV c] 1 true, rfl, by simp [byteAV]; rfl, rfl, rfl, rfl, Nat.le_refl _, rfl, rfl⟩, fun i hi => ?_⟩ (Upd.app _ _)⟩
  cases hi; exact U.1
theorem Tx.startU {h0 h : AHeap} (U : Upd (fun _ => False) h0 h) : Tx h0 h (.sl none 0 none) [] := ⟨U, Arr.nil _ _, fun _ h => h.elim⟩
/-- append(v, w..) of bytes. -/
theorem Tx.app {h0 h : AHeap} {v w : AV} {l m : List UInt8} (A : Tx h0 h v l) (B : Byt h w m) (hlen : l.length + m.length < 1000000000) {K : AV → AHeap → Prop} (hk : ∀ v' h', Tx h0 h' v' (l ++ m) → Upd (SlAt v) h h' → K v' h') : pAppend 1 1 v w h K := by
  refine NewA.append A (by decide) (ns := m.map byteAV) (k := m.length) (fun K hK => Rd.news B hK) (by simp) (byteAV_cellOK m) (by omega) (by omega) fun v' h' A' U => hk v' h' ?_ U
  unfold Tx
  rw [List.map_append, List.length_append]; exact A'
theorem Tx.byt {h0 h : AHeap} {v : AV} {l : List UInt8} (A : Tx h0 h v l) : Byt h v l := A.arr.rd
theorem Tx.ext {h0 h h' : AHeap} {v : AV} {l : List UInt8} (A : Tx h0 h v l) (U : Upd (fun _ => False) h h') : Tx h0 h' v l := ⟨A.upd.trans U fun _ _ h => h, A.arr.upd U fun _ _ h => h, A.new⟩

/-! ### tuples -/

theorem st_ext0 {a : AV} {l : List AV} {K : AV → Prop} (hk : K a) : pExtract 0 (.tu (a :: l)) K := ⟨by simp, hk⟩
theorem st_ext1 {a b : AV} {l : List AV} {K : AV → Prop} (hk : K b) : pExtract 1 (.tu (a :: b :: l)) K := ⟨by simp, hk⟩
theorem st_ext2 {a b c : AV} {l : List AV} {K : AV → Prop} (hk : K c) : pExtract 2 (.tu (a :: b :: c :: l)) K := ⟨by simp, hk⟩

/-! ### bits and bytes -/

theorem bits_and_mod {x n : Nat} (hx : x < 2 ^ 62) (hn : n < 62) : bitsOp .and .i64 (x : Int) ((2 ^ n - 1 : Nat) : Int) = ((x % 2 ^ n : Nat) : Int) := by
  have : 2 ^ n ≤ 2 ^ 61 := Nat.pow_le_pow_right (by omega) (by omega)
  rw [bits_and hx (by omega), Nat.and_two_pow_sub_one_eq_mod]
theorem wrap_u64 {n : Int} (h0 : 0 ≤ n) (h1 : n < 18446744073709551616) : IntKind.wrap .u64 n = n := by
  have : IntKind.wrap .u64 n = n % 18446744073709551616 := by
    show n.emod (2 ^ 64) = _
    rfl
  rw [this]; omega
theorem wrap_u8_nat (x : Nat) : IntKind.wrap .u8 (x : Int) = ((x % 256 : Nat) : Int) := by
  have : IntKind.wrap .u8 (x : Int) = (x : Int) % 256 := by
    show (x : Int).emod (2 ^ 8) = _
    rfl
  rw [this]; rfl
theorem byte_mod (x : Nat) : ((x % 256 : Nat) : Int) = ((UInt8.ofNat x).toNat : Int) := by
  rw [UInt8.toNat_ofNat']

end Go.GAM

