/- Bodies' texts in the abstract machine: printed by Gen.lean, checked by Lean's kernel. -/
import Derived.Test.YtffgchcidkapjaaDoorTx0
set_option linter.unusedVariables false
set_option linter.unusedSectionVars false
set_option maxRecDepth 100000
namespace Go.Proofs.YtffgchcidkapjaaDoor
open Go.GAM
variable [XR]
--@@ G_ref33_bytes
/-! ### 38: intrusion/intrusionref33.bytes -/
noncomputable def G_ref33_bytes.body : Code := (Tryd.f38.body).getD .skip
def G_ref33_bytes.ann : Ann := (.seq 0 [1] .leaf (.seq 0 [1, 3] .leaf (.seq 0 [1, 3, 4] .leaf (.seq 2 [3, 4] (.seq 0 [1, 3, 4, 15] .leaf (.br (.seq 0 [1, 3, 4] .leaf (.seq 0 [1, 3, 4, 5] .leaf (.one (.loop 1 [1, 3, 4, 5] (.seq 0 [1, 3, 4, 5] (.seq 0 [1, 3, 4, 5, 22] .leaf (.br .leaf .leaf)) (.seq 0 [1, 3, 4, 5] (.one .leaf) .leaf)))))) .leaf)) (.seq 3 [2] (.ord (.neu 0 (.neu 1 (.neu 4 (.neu 5 (.neu 8 (.eff 2 (.neu 3 (.eff 6 (.neu 7 (.neu 9 (.neu 10 .done))) .stop)) (.eff 6 (.eff 2 (.neu 3 (.neu 7 (.neu 9 (.neu 10 .done)))) .stop) .stop)))))))) .leaf)))))
theorem G_ref33_bytes.body_eq : Tryd.f38.body = some G_ref33_bytes.body := by kernel_rfl
theorem G_ref33_bytes.dist : noTwice (places G_ref33_bytes.ann G_ref33_bytes.body) = true := by kernel_rfl
noncomputable def G_ref33_bytes.J (Q : AV → AHeap → Prop) : JT := funJ prog C Tryd.f38 G_ref33_bytes.ann G_ref33_bytes.body Q
theorem G_ref33_bytes.goR {Q : AV → AHeap → Prop} {k : Nat} {p : List Nat} (hl : lookJ (places G_ref33_bytes.ann G_ref33_bytes.body) k = some (p, false)) {e : Env} {h : AHeap} (hk : atJ prog C 43 (G_ref33_bytes.J Q) false p G_ref33_bytes.ann G_ref33_bytes.body e h (kFun prog Tryd.f38 Q)) : G_ref33_bytes.J Q k e h := goJ_run (P := prog) (fn := Tryd.f38) (ann := G_ref33_bytes.ann) (body := G_ref33_bytes.body) (Q := Q) (k := k) (p := p) (e := e) (h := h) (acall_le X) G_ref33_bytes.dist hl hk
theorem G_ref33_bytes.goH {Q : AV → AHeap → Prop} {k : Nat} {p : List Nat} (hl : lookJ (places G_ref33_bytes.ann G_ref33_bytes.body) k = some (p, true)) {e : Env} {h : AHeap} (hk : atJ prog C 43 (G_ref33_bytes.J Q) true p G_ref33_bytes.ann G_ref33_bytes.body e h (kFun prog Tryd.f38 Q)) : G_ref33_bytes.J Q k e h := goJ_head (P := prog) (fn := Tryd.f38) (ann := G_ref33_bytes.ann) (body := G_ref33_bytes.body) (Q := Q) (k := k) (p := p) (e := e) (h := h) (acall_le X) G_ref33_bytes.dist hl hk
def G_ref33_bytes.p0 (Q : AV → AHeap → Prop) (x1 : AV) (x3 : Int) (x4 : List UInt8) (x5 : Int) (h : AHeap) : Prop := G_ref33_bytes.J Q 1 [(1, x1), (3, (AV.i .i64 x3)), (4, (AV.s x4)), (5, (AV.i .i64 x5))] h
theorem G_ref33_bytes.j0 (Q : AV → AHeap → Prop) (x1 : AV) (x3 : Int) (x4 : List UInt8) (x5 : Int) (h : AHeap) : G_ref33_bytes.J Q 1 [(1, x1), (3, (AV.i .i64 x3)), (4, (AV.s x4)), (5, (AV.i .i64 x5))] h = G_ref33_bytes.p0 Q x1 x3 x4 x5 h := rfl
def G_ref33_bytes.p2 (Q : AV → AHeap → Prop) (x2 : List UInt8) (h : AHeap) : Prop := G_ref33_bytes.J Q 3 [(2, (AV.s x2))] h
theorem G_ref33_bytes.j2 (Q : AV → AHeap → Prop) (x2 : List UInt8) (h : AHeap) : G_ref33_bytes.J Q 3 [(2, (AV.s x2))] h = G_ref33_bytes.p2 Q x2 h := rfl
def G_ref33_bytes.p1 (Q : AV → AHeap → Prop) (x3 : Int) (x4 : List UInt8) (h : AHeap) : Prop := G_ref33_bytes.J Q 2 [(3, (AV.i .i64 x3)), (4, (AV.s x4))] h
theorem G_ref33_bytes.j1 (Q : AV → AHeap → Prop) (x3 : Int) (x4 : List UInt8) (h : AHeap) : G_ref33_bytes.J Q 2 [(3, (AV.i .i64 x3)), (4, (AV.s x4))] h = G_ref33_bytes.p1 Q x3 x4 h := rfl
def G_ref33_bytes.t0 (J : JT) (Q : AV → AHeap → Prop) (x1 : AV) (x3 : Int) (x4 : List UInt8) (x5 : Int) (h : AHeap) : Prop :=
pFieldAddr 4 x1 fun v23 =>
pLoad1 v23 h fun v24 =>
pLenSl v24 fun n25 =>
(bif (decide ((x5 : Int) < n25)) then
(pFieldAddr 4 x1 fun v29 =>
pLoad1 v29 h fun v30 =>
pIdxAddrSl 5 v30 (AV.i .i64 x5) h fun v31 =>
pLoadN 5 v31 h fun v32 =>
C G_ref33_bytes.id [v32] h fun v33 h34 =>
asS v33 fun l35 =>
pCat x4 l35 fun l36 =>
withI (IntKind.wrap .i64 (x5 + 1)) fun n38 =>
J 1 [(1, x1), (3, (AV.i .i64 x3)), (4, (AV.s l36)), (5, (AV.i .i64 n38))] h34)
else
(J 2 [(3, (AV.i .i64 x3)), (4, (AV.s x4))] h))
theorem G_ref33_bytes.t0_eq (J : JT) (Q : AV → AHeap → Prop) (x1 : AV) (x3 : Int) (x4 : List UInt8) (x5 : Int) (h : AHeap) : G_ref33_bytes.t0 J Q x1 x3 x4 x5 h = atJ prog C 43 J true [1, 1, 1, 0, 1, 0, 1, 1, 0] G_ref33_bytes.ann G_ref33_bytes.body [(1, x1), (3, (AV.i .i64 x3)), (4, (AV.s x4)), (5, (AV.i .i64 x5))] h (kFun prog Tryd.f38 Q) := by kernel_rfl
theorem G_ref33_bytes.i0 {Q : AV → AHeap → Prop} {x1 : AV} {x3 : Int} {x4 : List UInt8} {x5 : Int} {h : AHeap} (H : G_ref33_bytes.t0 (G_ref33_bytes.J Q) Q x1 x3 x4 x5 h) : G_ref33_bytes.p0 Q x1 x3 x4 x5 h := G_ref33_bytes.goH (k := 1) (p := [1, 1, 1, 0, 1, 0, 1, 1, 0]) (by kernel_rfl) ((G_ref33_bytes.t0_eq (G_ref33_bytes.J Q) Q x1 x3 x4 x5 h).mp H)
def G_ref33_bytes.t2 (J : JT) (Q : AV → AHeap → Prop) (x2 : List UInt8) (h : AHeap) : Prop :=
Q (AV.s x2) h
theorem G_ref33_bytes.t2_eq (J : JT) (Q : AV → AHeap → Prop) (x2 : List UInt8) (h : AHeap) : G_ref33_bytes.t2 J Q x2 h = atJ prog C 43 J false [1, 1, 1, 1, 1] G_ref33_bytes.ann G_ref33_bytes.body [(2, (AV.s x2))] h (kFun prog Tryd.f38 Q) := by kernel_rfl
theorem G_ref33_bytes.i2 {Q : AV → AHeap → Prop} {x2 : List UInt8} {h : AHeap} (H : G_ref33_bytes.t2 (G_ref33_bytes.J Q) Q x2 h) : G_ref33_bytes.p2 Q x2 h := G_ref33_bytes.goR (k := 3) (p := [1, 1, 1, 1, 1]) (by kernel_rfl) ((G_ref33_bytes.t2_eq (G_ref33_bytes.J Q) Q x2 h).mp H)
def G_ref33_bytes.t1 (J : JT) (Q : AV → AHeap → Prop) (x3 : Int) (x4 : List UInt8) (h : AHeap) : Prop :=
((pBuildSl 1 1 [(AV.i .u8 0)] [(0, 1, (AV.i .u8 (IntKind.wrap .u8 x3)))] h fun v41 h42 =>
pBytesStr v41 h42 fun l43 =>
C G_ref33_length.id [(AV.i .i64 (x4.length : Int))] h42 fun v44 h45 =>
asS v44 fun l46 =>
pBytesStr v41 h45 fun l47 =>
((AV.s l43) = (AV.s l47) ∧
(pCat l43 l46 fun l48 =>
pCat l48 x4 fun l49 =>
J 3 [(2, (AV.s l49))] h45))) ∧
(C G_ref33_length.id [(AV.i .i64 (x4.length : Int))] h fun v51 h52 =>
asS v51 fun l53 =>
pBuildSl 1 1 [(AV.i .u8 0)] [(0, 1, (AV.i .u8 (IntKind.wrap .u8 x3)))] h52 fun v54 h55 =>
pBytesStr v54 h55 fun l56 =>
pCat l56 l53 fun l57 =>
pCat l57 x4 fun l58 =>
J 3 [(2, (AV.s l58))] h55))
theorem G_ref33_bytes.t1_eq (J : JT) (Q : AV → AHeap → Prop) (x3 : Int) (x4 : List UInt8) (h : AHeap) : G_ref33_bytes.t1 J Q x3 x4 h = atJ prog C 43 J false [1, 1, 1, 1] G_ref33_bytes.ann G_ref33_bytes.body [(3, (AV.i .i64 x3)), (4, (AV.s x4))] h (kFun prog Tryd.f38 Q) := by kernel_rfl
theorem G_ref33_bytes.i1 {Q : AV → AHeap → Prop} {x3 : Int} {x4 : List UInt8} {h : AHeap} (H : G_ref33_bytes.t1 (G_ref33_bytes.J Q) Q x3 x4 h) : G_ref33_bytes.p1 Q x3 x4 h := G_ref33_bytes.goR (k := 2) (p := [1, 1, 1, 1]) (by kernel_rfl) ((G_ref33_bytes.t1_eq (G_ref33_bytes.J Q) Q x3 x4 h).mp H)
def G_ref33_bytes.t (J : JT) (Q : AV → AHeap → Prop) (x0 : AV) (h : AHeap) : Prop :=
pBox x0 h fun v0 h1 =>
pFieldAddr 0 v0 fun v3 =>
pLoad1 v3 h1 fun v4 =>
asI .i64 v4 fun n5 =>
withI (IntKind.wrap .i64 (64 * n5)) fun n6 =>
pFieldAddr 1 v0 fun v7 =>
pLoad1 v7 h1 fun v8 =>
asI .i64 v8 fun n9 =>
withI (IntKind.wrap .i64 (n6 + n9)) fun n10 =>
pFieldAddr 3 v0 fun v12 =>
pLoad1 v12 h1 fun v13 =>
asS v13 fun l14 =>
pFieldAddr 2 v0 fun v16 =>
pLoad1 v16 h1 fun v17 =>
asB v17 fun c18 =>
(bif c18 then
(withI (IntKind.wrap .i64 (n10 + 32)) fun n20 =>
J 1 [(1, v0), (3, (AV.i .i64 n20)), (4, (AV.s l14)), (5, (AV.i .i64 0))] h1)
else
(J 2 [(3, (AV.i .i64 n10)), (4, (AV.s l14))] h1))
theorem G_ref33_bytes.t_eq (J : JT) (Q : AV → AHeap → Prop) (x0 : AV) (h : AHeap) : G_ref33_bytes.t J Q x0 h = exJ prog C 43 J G_ref33_bytes.ann G_ref33_bytes.body (initEnv 0 [x0]) h (kFun prog Tryd.f38 Q) := by kernel_rfl
theorem G_ref33_bytes.call {K : AV → AHeap → Prop} {x0 : AV} {h : AHeap} (H : G_ref33_bytes.t (G_ref33_bytes.J (kRet h K)) (kRet h K) x0 h) : C G_ref33_bytes.id [x0] h K :=
  callJ (P := prog) (fn := Tryd.f38) (ann := G_ref33_bytes.ann) (body := G_ref33_bytes.body) Tryd.func38 G_ref33_bytes.body_eq (by kernel_rfl) G_ref33_bytes.dist (by kernel_rfl) ((G_ref33_bytes.t_eq (G_ref33_bytes.J (kRet h K)) (kRet h K) x0 h).mp H)

--@@ G_der_plain
/-! ### 39: intrusion/der.plain -/
noncomputable def G_der_plain.body : Code := (Tryd.f39.body).getD .skip
def G_der_plain.ann : Ann := (.seq 0 [1, 2] .leaf (.seq 1 [4] .leaf .leaf))
theorem G_der_plain.body_eq : Tryd.f39.body = some G_der_plain.body := by kernel_rfl
theorem G_der_plain.dist : noTwice (places G_der_plain.ann G_der_plain.body) = true := by kernel_rfl
noncomputable def G_der_plain.J (Q : AV → AHeap → Prop) : JT := funJ prog C Tryd.f39 G_der_plain.ann G_der_plain.body Q
theorem G_der_plain.goR {Q : AV → AHeap → Prop} {k : Nat} {p : List Nat} (hl : lookJ (places G_der_plain.ann G_der_plain.body) k = some (p, false)) {e : Env} {h : AHeap} (hk : atJ prog C 25 (G_der_plain.J Q) false p G_der_plain.ann G_der_plain.body e h (kFun prog Tryd.f39 Q)) : G_der_plain.J Q k e h := goJ_run (P := prog) (fn := Tryd.f39) (ann := G_der_plain.ann) (body := G_der_plain.body) (Q := Q) (k := k) (p := p) (e := e) (h := h) (acall_le X) G_der_plain.dist hl hk
theorem G_der_plain.goH {Q : AV → AHeap → Prop} {k : Nat} {p : List Nat} (hl : lookJ (places G_der_plain.ann G_der_plain.body) k = some (p, true)) {e : Env} {h : AHeap} (hk : atJ prog C 25 (G_der_plain.J Q) true p G_der_plain.ann G_der_plain.body e h (kFun prog Tryd.f39 Q)) : G_der_plain.J Q k e h := goJ_head (P := prog) (fn := Tryd.f39) (ann := G_der_plain.ann) (body := G_der_plain.body) (Q := Q) (k := k) (p := p) (e := e) (h := h) (acall_le X) G_der_plain.dist hl hk
def G_der_plain.p0 (Q : AV → AHeap → Prop) (x4 : Bool) (h : AHeap) : Prop := G_der_plain.J Q 1 [(4, (AV.b x4))] h
theorem G_der_plain.j0 (Q : AV → AHeap → Prop) (x4 : Bool) (h : AHeap) : G_der_plain.J Q 1 [(4, (AV.b x4))] h = G_der_plain.p0 Q x4 h := rfl
def G_der_plain.t0 (J : JT) (Q : AV → AHeap → Prop) (x4 : Bool) (h : AHeap) : Prop :=
Q (AV.b x4) h
theorem G_der_plain.t0_eq (J : JT) (Q : AV → AHeap → Prop) (x4 : Bool) (h : AHeap) : G_der_plain.t0 J Q x4 h = atJ prog C 25 J false [1, 1] G_der_plain.ann G_der_plain.body [(4, (AV.b x4))] h (kFun prog Tryd.f39 Q) := by kernel_rfl
theorem G_der_plain.i0 {Q : AV → AHeap → Prop} {x4 : Bool} {h : AHeap} (H : G_der_plain.t0 (G_der_plain.J Q) Q x4 h) : G_der_plain.p0 Q x4 h := G_der_plain.goR (k := 1) (p := [1, 1]) (by kernel_rfl) ((G_der_plain.t0_eq (G_der_plain.J Q) Q x4 h).mp H)
def G_der_plain.t (J : JT) (Q : AV → AHeap → Prop) (x0 : AV) (x1 : Int) (h : AHeap) : Prop :=
pBox x0 h fun v0 h1 =>
pFieldAddr 0 v0 fun v3 =>
pLoad1 v3 h1 fun v4 =>
asI .i64 v4 fun n5 =>
(bif (decide ((n5 : Int) = 0)) then
(pFieldAddr 1 v0 fun v6 =>
pLoad1 v6 h1 fun v7 =>
asI .i64 v7 fun n8 =>
(bif (decide ((n8 : Int) = x1)) then
(pFieldAddr 2 v0 fun v9 =>
pLoad1 v9 h1 fun v10 =>
asB v10 fun c11 =>
(bif (!c11) then
(pFieldAddr 4 v0 fun v12 =>
pLoad1 v12 h1 fun v13 =>
pLenSl v13 fun n14 =>
J 1 [(4, (AV.b (decide ((n14 : Int) = 0))))] h1)
else
(J 1 [(4, (AV.b false))] h1)))
else
(J 1 [(4, (AV.b false))] h1)))
else
(J 1 [(4, (AV.b false))] h1))
theorem G_der_plain.t_eq (J : JT) (Q : AV → AHeap → Prop) (x0 : AV) (x1 : Int) (h : AHeap) : G_der_plain.t J Q x0 x1 h = exJ prog C 25 J G_der_plain.ann G_der_plain.body (initEnv 0 [x0, (AV.i .i64 x1)]) h (kFun prog Tryd.f39 Q) := by kernel_rfl
theorem G_der_plain.call {K : AV → AHeap → Prop} {x0 : AV} {x1 : Int} {h : AHeap} (H : G_der_plain.t (G_der_plain.J (kRet h K)) (kRet h K) x0 x1 h) : C G_der_plain.id [x0, (AV.i .i64 x1)] h K :=
  callJ (P := prog) (fn := Tryd.f39) (ann := G_der_plain.ann) (body := G_der_plain.body) Tryd.func39 G_der_plain.body_eq (by kernel_rfl) G_der_plain.dist (by kernel_rfl) ((G_der_plain.t_eq (G_der_plain.J (kRet h K)) (kRet h K) x0 x1 h).mp H)

--@@ G_ref33_plain
/-! ### 40: intrusion/intrusionref33.plain -/
noncomputable def G_ref33_plain.body : Code := (Tryd.f40.body).getD .skip
def G_ref33_plain.ann : Ann := (.seq 0 [1, 2] .leaf (.seq 1 [4] .leaf .leaf))
theorem G_ref33_plain.body_eq : Tryd.f40.body = some G_ref33_plain.body := by kernel_rfl
theorem G_ref33_plain.dist : noTwice (places G_ref33_plain.ann G_ref33_plain.body) = true := by kernel_rfl
noncomputable def G_ref33_plain.J (Q : AV → AHeap → Prop) : JT := funJ prog C Tryd.f40 G_ref33_plain.ann G_ref33_plain.body Q
theorem G_ref33_plain.goR {Q : AV → AHeap → Prop} {k : Nat} {p : List Nat} (hl : lookJ (places G_ref33_plain.ann G_ref33_plain.body) k = some (p, false)) {e : Env} {h : AHeap} (hk : atJ prog C 25 (G_ref33_plain.J Q) false p G_ref33_plain.ann G_ref33_plain.body e h (kFun prog Tryd.f40 Q)) : G_ref33_plain.J Q k e h := goJ_run (P := prog) (fn := Tryd.f40) (ann := G_ref33_plain.ann) (body := G_ref33_plain.body) (Q := Q) (k := k) (p := p) (e := e) (h := h) (acall_le X) G_ref33_plain.dist hl hk
theorem G_ref33_plain.goH {Q : AV → AHeap → Prop} {k : Nat} {p : List Nat} (hl : lookJ (places G_ref33_plain.ann G_ref33_plain.body) k = some (p, true)) {e : Env} {h : AHeap} (hk : atJ prog C 25 (G_ref33_plain.J Q) true p G_ref33_plain.ann G_ref33_plain.body e h (kFun prog Tryd.f40 Q)) : G_ref33_plain.J Q k e h := goJ_head (P := prog) (fn := Tryd.f40) (ann := G_ref33_plain.ann) (body := G_ref33_plain.body) (Q := Q) (k := k) (p := p) (e := e) (h := h) (acall_le X) G_ref33_plain.dist hl hk
def G_ref33_plain.p0 (Q : AV → AHeap → Prop) (x4 : Bool) (h : AHeap) : Prop := G_ref33_plain.J Q 1 [(4, (AV.b x4))] h
theorem G_ref33_plain.j0 (Q : AV → AHeap → Prop) (x4 : Bool) (h : AHeap) : G_ref33_plain.J Q 1 [(4, (AV.b x4))] h = G_ref33_plain.p0 Q x4 h := rfl
def G_ref33_plain.t0 (J : JT) (Q : AV → AHeap → Prop) (x4 : Bool) (h : AHeap) : Prop :=
Q (AV.b x4) h
theorem G_ref33_plain.t0_eq (J : JT) (Q : AV → AHeap → Prop) (x4 : Bool) (h : AHeap) : G_ref33_plain.t0 J Q x4 h = atJ prog C 25 J false [1, 1] G_ref33_plain.ann G_ref33_plain.body [(4, (AV.b x4))] h (kFun prog Tryd.f40 Q) := by kernel_rfl
theorem G_ref33_plain.i0 {Q : AV → AHeap → Prop} {x4 : Bool} {h : AHeap} (H : G_ref33_plain.t0 (G_ref33_plain.J Q) Q x4 h) : G_ref33_plain.p0 Q x4 h := G_ref33_plain.goR (k := 1) (p := [1, 1]) (by kernel_rfl) ((G_ref33_plain.t0_eq (G_ref33_plain.J Q) Q x4 h).mp H)
def G_ref33_plain.t (J : JT) (Q : AV → AHeap → Prop) (x0 : AV) (x1 : Int) (h : AHeap) : Prop :=
pBox x0 h fun v0 h1 =>
pFieldAddr 0 v0 fun v3 =>
pLoad1 v3 h1 fun v4 =>
asI .i64 v4 fun n5 =>
(bif (decide ((n5 : Int) = 0)) then
(pFieldAddr 1 v0 fun v6 =>
pLoad1 v6 h1 fun v7 =>
asI .i64 v7 fun n8 =>
(bif (decide ((n8 : Int) = x1)) then
(pFieldAddr 2 v0 fun v9 =>
pLoad1 v9 h1 fun v10 =>
asB v10 fun c11 =>
(bif (!c11) then
(pFieldAddr 4 v0 fun v12 =>
pLoad1 v12 h1 fun v13 =>
pLenSl v13 fun n14 =>
J 1 [(4, (AV.b (decide ((n14 : Int) = 0))))] h1)
else
(J 1 [(4, (AV.b false))] h1)))
else
(J 1 [(4, (AV.b false))] h1)))
else
(J 1 [(4, (AV.b false))] h1))
theorem G_ref33_plain.t_eq (J : JT) (Q : AV → AHeap → Prop) (x0 : AV) (x1 : Int) (h : AHeap) : G_ref33_plain.t J Q x0 x1 h = exJ prog C 25 J G_ref33_plain.ann G_ref33_plain.body (initEnv 0 [x0, (AV.i .i64 x1)]) h (kFun prog Tryd.f40 Q) := by kernel_rfl
theorem G_ref33_plain.call {K : AV → AHeap → Prop} {x0 : AV} {x1 : Int} {h : AHeap} (H : G_ref33_plain.t (G_ref33_plain.J (kRet h K)) (kRet h K) x0 x1 h) : C G_ref33_plain.id [x0, (AV.i .i64 x1)] h K :=
  callJ (P := prog) (fn := Tryd.f40) (ann := G_ref33_plain.ann) (body := G_ref33_plain.body) Tryd.func40 G_ref33_plain.body_eq (by kernel_rfl) G_ref33_plain.dist (by kernel_rfl) ((G_ref33_plain.t_eq (G_ref33_plain.J (kRet h K)) (kRet h K) x0 x1 h).mp H)

--@@ G_der_all_byte_
/-! ### 41: intrusion/der.all[byte] -/
noncomputable def G_der_all_byte_.body : Code := (Tryd.f41.body).getD .skip
def G_der_all_byte_.ann : Ann := (.seq 0 [0, 1] .leaf (.seq 0 [] (.seq 0 [1, 7, 8, 9] .leaf (.one (.loop 1 [1, 7, 8, 9] (.seq 0 [1, 7, 8, 9, 10] .leaf (.seq 0 [1, 7, 8, 9] (.br .leaf .leaf) (.seq 0 [1, 7, 8, 9] (.one (.seq 0 [1, 6, 7, 8, 9] .leaf (.seq 0 [1, 7, 8, 9, 16] .leaf (.br (.seq 0 [4] .leaf .leaf) .leaf)))) .leaf)))))) (.seq 0 [4] .leaf .leaf)))
theorem G_der_all_byte_.body_eq : Tryd.f41.body = some G_der_all_byte_.body := by kernel_rfl
theorem G_der_all_byte_.dist : noTwice (places G_der_all_byte_.ann G_der_all_byte_.body) = true := by kernel_rfl
noncomputable def G_der_all_byte_.J (Q : AV → AHeap → Prop) : JT := funJ prog C Tryd.f41 G_der_all_byte_.ann G_der_all_byte_.body Q
theorem G_der_all_byte_.goR {Q : AV → AHeap → Prop} {k : Nat} {p : List Nat} (hl : lookJ (places G_der_all_byte_.ann G_der_all_byte_.body) k = some (p, false)) {e : Env} {h : AHeap} (hk : atJ prog C 18 (G_der_all_byte_.J Q) false p G_der_all_byte_.ann G_der_all_byte_.body e h (kFun prog Tryd.f41 Q)) : G_der_all_byte_.J Q k e h := goJ_run (P := prog) (fn := Tryd.f41) (ann := G_der_all_byte_.ann) (body := G_der_all_byte_.body) (Q := Q) (k := k) (p := p) (e := e) (h := h) (acall_le X) G_der_all_byte_.dist hl hk
theorem G_der_all_byte_.goH {Q : AV → AHeap → Prop} {k : Nat} {p : List Nat} (hl : lookJ (places G_der_all_byte_.ann G_der_all_byte_.body) k = some (p, true)) {e : Env} {h : AHeap} (hk : atJ prog C 18 (G_der_all_byte_.J Q) true p G_der_all_byte_.ann G_der_all_byte_.body e h (kFun prog Tryd.f41 Q)) : G_der_all_byte_.J Q k e h := goJ_head (P := prog) (fn := Tryd.f41) (ann := G_der_all_byte_.ann) (body := G_der_all_byte_.body) (Q := Q) (k := k) (p := p) (e := e) (h := h) (acall_le X) G_der_all_byte_.dist hl hk
def G_der_all_byte_.p0 (Q : AV → AHeap → Prop) (x1 : AV) (x7 : AV) (x8 : Int) (x9 : Int) (h : AHeap) : Prop := G_der_all_byte_.J Q 1 [(1, x1), (7, x7), (8, (AV.i .i64 x8)), (9, (AV.i .i64 x9))] h
theorem G_der_all_byte_.j0 (Q : AV → AHeap → Prop) (x1 : AV) (x7 : AV) (x8 : Int) (x9 : Int) (h : AHeap) : G_der_all_byte_.J Q 1 [(1, x1), (7, x7), (8, (AV.i .i64 x8)), (9, (AV.i .i64 x9))] h = G_der_all_byte_.p0 Q x1 x7 x8 x9 h := rfl
def G_der_all_byte_.t0 (J : JT) (Q : AV → AHeap → Prop) (x1 : AV) (x7 : AV) (x8 : Int) (x9 : Int) (h : AHeap) : Prop :=
(bif (decide ((x9 : Int) < x8)) then
(pIdxAddrSl 1 x7 (AV.i .i64 x9) h fun v6 =>
pLoad1 v6 h fun v7 =>
asI .u8 v7 fun n8 =>
pCallV C x1 [(AV.i .u8 n8)] h fun v10 h11 =>
asB v10 fun c12 =>
(bif (!c12) then
(Q (AV.b false) h11)
else
(withI (IntKind.wrap .i64 (x9 + 1)) fun n16 =>
J 1 [(1, x1), (7, x7), (8, (AV.i .i64 x8)), (9, (AV.i .i64 n16))] h11)))
else
(Q (AV.b true) h))
theorem G_der_all_byte_.t0_eq (J : JT) (Q : AV → AHeap → Prop) (x1 : AV) (x7 : AV) (x8 : Int) (x9 : Int) (h : AHeap) : G_der_all_byte_.t0 J Q x1 x7 x8 x9 h = atJ prog C 18 J true [1, 0, 1, 0] G_der_all_byte_.ann G_der_all_byte_.body [(1, x1), (7, x7), (8, (AV.i .i64 x8)), (9, (AV.i .i64 x9))] h (kFun prog Tryd.f41 Q) := by kernel_rfl
theorem G_der_all_byte_.i0 {Q : AV → AHeap → Prop} {x1 : AV} {x7 : AV} {x8 : Int} {x9 : Int} {h : AHeap} (H : G_der_all_byte_.t0 (G_der_all_byte_.J Q) Q x1 x7 x8 x9 h) : G_der_all_byte_.p0 Q x1 x7 x8 x9 h := G_der_all_byte_.goH (k := 1) (p := [1, 0, 1, 0]) (by kernel_rfl) ((G_der_all_byte_.t0_eq (G_der_all_byte_.J Q) Q x1 x7 x8 x9 h).mp H)
def G_der_all_byte_.t (J : JT) (Q : AV → AHeap → Prop) (x0 : AV) (x1 : AV) (h : AHeap) : Prop :=
pLenSl x0 fun n1 =>
J 1 [(1, x1), (7, x0), (8, (AV.i .i64 n1)), (9, (AV.i .i64 0))] h
theorem G_der_all_byte_.t_eq (J : JT) (Q : AV → AHeap → Prop) (x0 : AV) (x1 : AV) (h : AHeap) : G_der_all_byte_.t J Q x0 x1 h = exJ prog C 18 J G_der_all_byte_.ann G_der_all_byte_.body (initEnv 0 [x0, x1]) h (kFun prog Tryd.f41 Q) := by kernel_rfl
theorem G_der_all_byte_.call {K : AV → AHeap → Prop} {x0 : AV} {x1 : AV} {h : AHeap} (H : G_der_all_byte_.t (G_der_all_byte_.J (kRet h K)) (kRet h K) x0 x1 h) : C G_der_all_byte_.id [x0, x1] h K :=
  callJ (P := prog) (fn := Tryd.f41) (ann := G_der_all_byte_.ann) (body := G_der_all_byte_.body) Tryd.func41 G_der_all_byte_.body_eq (by kernel_rfl) G_der_all_byte_.dist (by kernel_rfl) ((G_der_all_byte_.t_eq (G_der_all_byte_.J (kRet h K)) (kRet h K) x0 x1 h).mp H)

--@@ G_der_Time_1
/-! ### 42: intrusion/der.Time$1 -/
noncomputable def G_der_Time_1.body : Code := (Tryd.f42.body).getD .skip
def G_der_Time_1.ann : Ann := (.seq 0 [0] .leaf (.seq 1 [2] .leaf .leaf))
theorem G_der_Time_1.body_eq : Tryd.f42.body = some G_der_Time_1.body := by kernel_rfl
theorem G_der_Time_1.dist : noTwice (places G_der_Time_1.ann G_der_Time_1.body) = true := by kernel_rfl
noncomputable def G_der_Time_1.J (Q : AV → AHeap → Prop) : JT := funJ prog C Tryd.f42 G_der_Time_1.ann G_der_Time_1.body Q
theorem G_der_Time_1.goR {Q : AV → AHeap → Prop} {k : Nat} {p : List Nat} (hl : lookJ (places G_der_Time_1.ann G_der_Time_1.body) k = some (p, false)) {e : Env} {h : AHeap} (hk : atJ prog C 9 (G_der_Time_1.J Q) false p G_der_Time_1.ann G_der_Time_1.body e h (kFun prog Tryd.f42 Q)) : G_der_Time_1.J Q k e h := goJ_run (P := prog) (fn := Tryd.f42) (ann := G_der_Time_1.ann) (body := G_der_Time_1.body) (Q := Q) (k := k) (p := p) (e := e) (h := h) (acall_le X) G_der_Time_1.dist hl hk
theorem G_der_Time_1.goH {Q : AV → AHeap → Prop} {k : Nat} {p : List Nat} (hl : lookJ (places G_der_Time_1.ann G_der_Time_1.body) k = some (p, true)) {e : Env} {h : AHeap} (hk : atJ prog C 9 (G_der_Time_1.J Q) true p G_der_Time_1.ann G_der_Time_1.body e h (kFun prog Tryd.f42 Q)) : G_der_Time_1.J Q k e h := goJ_head (P := prog) (fn := Tryd.f42) (ann := G_der_Time_1.ann) (body := G_der_Time_1.body) (Q := Q) (k := k) (p := p) (e := e) (h := h) (acall_le X) G_der_Time_1.dist hl hk
def G_der_Time_1.p0 (Q : AV → AHeap → Prop) (x2 : Bool) (h : AHeap) : Prop := G_der_Time_1.J Q 1 [(2, (AV.b x2))] h
theorem G_der_Time_1.j0 (Q : AV → AHeap → Prop) (x2 : Bool) (h : AHeap) : G_der_Time_1.J Q 1 [(2, (AV.b x2))] h = G_der_Time_1.p0 Q x2 h := rfl
def G_der_Time_1.t0 (J : JT) (Q : AV → AHeap → Prop) (x2 : Bool) (h : AHeap) : Prop :=
Q (AV.b x2) h
theorem G_der_Time_1.t0_eq (J : JT) (Q : AV → AHeap → Prop) (x2 : Bool) (h : AHeap) : G_der_Time_1.t0 J Q x2 h = atJ prog C 9 J false [1, 1] G_der_Time_1.ann G_der_Time_1.body [(2, (AV.b x2))] h (kFun prog Tryd.f42 Q) := by kernel_rfl
theorem G_der_Time_1.i0 {Q : AV → AHeap → Prop} {x2 : Bool} {h : AHeap} (H : G_der_Time_1.t0 (G_der_Time_1.J Q) Q x2 h) : G_der_Time_1.p0 Q x2 h := G_der_Time_1.goR (k := 1) (p := [1, 1]) (by kernel_rfl) ((G_der_Time_1.t0_eq (G_der_Time_1.J Q) Q x2 h).mp H)
def G_der_Time_1.t (J : JT) (Q : AV → AHeap → Prop) (x0 : Int) (h : AHeap) : Prop :=
(bif (decide ((48 : Int) ≤ x0)) then
(J 1 [(2, (AV.b (decide ((x0 : Int) ≤ 57))))] h)
else
(J 1 [(2, (AV.b false))] h))
theorem G_der_Time_1.t_eq (J : JT) (Q : AV → AHeap → Prop) (x0 : Int) (h : AHeap) : G_der_Time_1.t J Q x0 h = exJ prog C 9 J G_der_Time_1.ann G_der_Time_1.body (initEnv 0 [(AV.i .u8 x0)]) h (kFun prog Tryd.f42 Q) := by kernel_rfl
theorem G_der_Time_1.call {K : AV → AHeap → Prop} {x0 : Int} {h : AHeap} (H : G_der_Time_1.t (G_der_Time_1.J (kRet h K)) (kRet h K) x0 h) : C G_der_Time_1.id [(AV.i .u8 x0)] h K :=
  callJ (P := prog) (fn := Tryd.f42) (ann := G_der_Time_1.ann) (body := G_der_Time_1.body) Tryd.func42 G_der_Time_1.body_eq (by kernel_rfl) G_der_Time_1.dist (by kernel_rfl) ((G_der_Time_1.t_eq (G_der_Time_1.J (kRet h K)) (kRet h K) x0 h).mp H)

--@@ G_der_days
/-! ### 43: intrusion/der.days -/
noncomputable def G_der_days.body : Code := (Tryd.f43.body).getD .skip
def G_der_days.ann : Ann := (.seq 0 [0, 1] .leaf (.seq 0 [] (.seq 0 [0, 5] .leaf (.one (.seq 0 [0, 5, 6] .leaf (.br (.seq 0 [] (.seq 0 [9] .leaf (.br (.seq 0 [4] .leaf .leaf) .leaf)) (.seq 0 [4] .leaf .leaf)) (.seq 1 [10] (.seq 0 [5, 10] .leaf (.br .leaf (.seq 0 [5, 10] .leaf (.br .leaf (.seq 0 [5, 10] .leaf (.br .leaf .leaf)))))) (.br (.seq 0 [4] .leaf .leaf) .leaf)))))) (.seq 0 [4] .leaf .leaf)))
theorem G_der_days.body_eq : Tryd.f43.body = some G_der_days.body := by kernel_rfl
theorem G_der_days.dist : noTwice (places G_der_days.ann G_der_days.body) = true := by kernel_rfl
noncomputable def G_der_days.J (Q : AV → AHeap → Prop) : JT := funJ prog C Tryd.f43 G_der_days.ann G_der_days.body Q
theorem G_der_days.goR {Q : AV → AHeap → Prop} {k : Nat} {p : List Nat} (hl : lookJ (places G_der_days.ann G_der_days.body) k = some (p, false)) {e : Env} {h : AHeap} (hk : atJ prog C 15 (G_der_days.J Q) false p G_der_days.ann G_der_days.body e h (kFun prog Tryd.f43 Q)) : G_der_days.J Q k e h := goJ_run (P := prog) (fn := Tryd.f43) (ann := G_der_days.ann) (body := G_der_days.body) (Q := Q) (k := k) (p := p) (e := e) (h := h) (acall_le X) G_der_days.dist hl hk
theorem G_der_days.goH {Q : AV → AHeap → Prop} {k : Nat} {p : List Nat} (hl : lookJ (places G_der_days.ann G_der_days.body) k = some (p, true)) {e : Env} {h : AHeap} (hk : atJ prog C 15 (G_der_days.J Q) true p G_der_days.ann G_der_days.body e h (kFun prog Tryd.f43 Q)) : G_der_days.J Q k e h := goJ_head (P := prog) (fn := Tryd.f43) (ann := G_der_days.ann) (body := G_der_days.body) (Q := Q) (k := k) (p := p) (e := e) (h := h) (acall_le X) G_der_days.dist hl hk
def G_der_days.p0 (Q : AV → AHeap → Prop) (x10 : Bool) (h : AHeap) : Prop := G_der_days.J Q 1 [(10, (AV.b x10))] h
theorem G_der_days.j0 (Q : AV → AHeap → Prop) (x10 : Bool) (h : AHeap) : G_der_days.J Q 1 [(10, (AV.b x10))] h = G_der_days.p0 Q x10 h := rfl
def G_der_days.t0 (J : JT) (Q : AV → AHeap → Prop) (x10 : Bool) (h : AHeap) : Prop :=
(bif x10 then
(Q (AV.i .i64 30) h)
else
(Q (AV.i .i64 31) h))
theorem G_der_days.t0_eq (J : JT) (Q : AV → AHeap → Prop) (x10 : Bool) (h : AHeap) : G_der_days.t0 J Q x10 h = atJ prog C 15 J false [1, 0, 1, 0, 1, 1, 1] G_der_days.ann G_der_days.body [(10, (AV.b x10))] h (kFun prog Tryd.f43 Q) := by kernel_rfl
theorem G_der_days.i0 {Q : AV → AHeap → Prop} {x10 : Bool} {h : AHeap} (H : G_der_days.t0 (G_der_days.J Q) Q x10 h) : G_der_days.p0 Q x10 h := G_der_days.goR (k := 1) (p := [1, 0, 1, 0, 1, 1, 1]) (by kernel_rfl) ((G_der_days.t0_eq (G_der_days.J Q) Q x10 h).mp H)
def G_der_days.t (J : JT) (Q : AV → AHeap → Prop) (x0 : Int) (x1 : Int) (h : AHeap) : Prop :=
(bif (decide ((x1 : Int) = 2)) then
(C G_der_leap.id [(AV.i .i64 x0)] h fun v3 h4 =>
asB v3 fun c5 =>
(bif c5 then
(Q (AV.i .i64 29) h4)
else
(Q (AV.i .i64 28) h4)))
else
((bif (decide ((x1 : Int) = 4)) then
(J 1 [(10, (AV.b (decide ((x1 : Int) = 4))))] h)
else
((bif (decide ((x1 : Int) = 6)) then
(J 1 [(10, (AV.b (decide ((x1 : Int) = 6))))] h)
else
((bif (decide ((x1 : Int) = 9)) then
(J 1 [(10, (AV.b (decide ((x1 : Int) = 9))))] h)
else
(J 1 [(10, (AV.b (decide ((x1 : Int) = 11))))] h))))))))
theorem G_der_days.t_eq (J : JT) (Q : AV → AHeap → Prop) (x0 : Int) (x1 : Int) (h : AHeap) : G_der_days.t J Q x0 x1 h = exJ prog C 15 J G_der_days.ann G_der_days.body (initEnv 0 [(AV.i .i64 x0), (AV.i .i64 x1)]) h (kFun prog Tryd.f43 Q) := by kernel_rfl
theorem G_der_days.call {K : AV → AHeap → Prop} {x0 : Int} {x1 : Int} {h : AHeap} (H : G_der_days.t (G_der_days.J (kRet h K)) (kRet h K) x0 x1 h) : C G_der_days.id [(AV.i .i64 x0), (AV.i .i64 x1)] h K :=
  callJ (P := prog) (fn := Tryd.f43) (ann := G_der_days.ann) (body := G_der_days.body) Tryd.func43 G_der_days.body_eq (by kernel_rfl) G_der_days.dist (by kernel_rfl) ((G_der_days.t_eq (G_der_days.J (kRet h K)) (kRet h K) x0 x1 h).mp H)

--@@ G_der_before
/-! ### 44: intrusion/der.before -/
noncomputable def G_der_before.body : Code := (Tryd.f44.body).getD .skip
def G_der_before.ann : Ann := (.seq 0 [0] .leaf (.seq 0 [0, 3] .leaf (.seq 0 [2] .leaf .leaf)))
theorem G_der_before.body_eq : Tryd.f44.body = some G_der_before.body := by kernel_rfl
theorem G_der_before.dist : noTwice (places G_der_before.ann G_der_before.body) = true := by kernel_rfl
noncomputable def G_der_before.J (Q : AV → AHeap → Prop) : JT := funJ prog C Tryd.f44 G_der_before.ann G_der_before.body Q
theorem G_der_before.goR {Q : AV → AHeap → Prop} {k : Nat} {p : List Nat} (hl : lookJ (places G_der_before.ann G_der_before.body) k = some (p, false)) {e : Env} {h : AHeap} (hk : atJ prog C 15 (G_der_before.J Q) false p G_der_before.ann G_der_before.body e h (kFun prog Tryd.f44 Q)) : G_der_before.J Q k e h := goJ_run (P := prog) (fn := Tryd.f44) (ann := G_der_before.ann) (body := G_der_before.body) (Q := Q) (k := k) (p := p) (e := e) (h := h) (acall_le X) G_der_before.dist hl hk
theorem G_der_before.goH {Q : AV → AHeap → Prop} {k : Nat} {p : List Nat} (hl : lookJ (places G_der_before.ann G_der_before.body) k = some (p, true)) {e : Env} {h : AHeap} (hk : atJ prog C 15 (G_der_before.J Q) true p G_der_before.ann G_der_before.body e h (kFun prog Tryd.f44 Q)) : G_der_before.J Q k e h := goJ_head (P := prog) (fn := Tryd.f44) (ann := G_der_before.ann) (body := G_der_before.body) (Q := Q) (k := k) (p := p) (e := e) (h := h) (acall_le X) G_der_before.dist hl hk
def G_der_before.t (J : JT) (Q : AV → AHeap → Prop) (x0 : Int) (h : AHeap) : Prop :=
withI (IntKind.wrap .i64 (x0 - 1970)) fun n2 =>
withI (IntKind.wrap .i64 (365 * n2)) fun n3 =>
withI (IntKind.wrap .i64 (x0 - 1)) fun n4 =>
pCallV C (AV.fn (.func G_der_before_1.id) [] []) [(AV.i .i64 n4)] h fun v5 h6 =>
asI .i64 v5 fun n7 =>
withI (IntKind.wrap .i64 (n3 + n7)) fun n8 =>
pCallV C (AV.fn (.func G_der_before_1.id) [] []) [(AV.i .i64 1969)] h6 fun v9 h10 =>
asI .i64 v9 fun n11 =>
withI (IntKind.wrap .i64 (n8 - n11)) fun n12 =>
Q (AV.i .i64 n12) h10
theorem G_der_before.t_eq (J : JT) (Q : AV → AHeap → Prop) (x0 : Int) (h : AHeap) : G_der_before.t J Q x0 h = exJ prog C 15 J G_der_before.ann G_der_before.body (initEnv 0 [(AV.i .i64 x0)]) h (kFun prog Tryd.f44 Q) := by kernel_rfl
theorem G_der_before.call {K : AV → AHeap → Prop} {x0 : Int} {h : AHeap} (H : G_der_before.t (G_der_before.J (kRet h K)) (kRet h K) x0 h) : C G_der_before.id [(AV.i .i64 x0)] h K :=
  callJ (P := prog) (fn := Tryd.f44) (ann := G_der_before.ann) (body := G_der_before.body) Tryd.func44 G_der_before.body_eq (by kernel_rfl) G_der_before.dist (by kernel_rfl) ((G_der_before.t_eq (G_der_before.J (kRet h K)) (kRet h K) x0 h).mp H)

--@@ G_ref33_days
/-! ### 45: intrusion/intrusionref33.days -/
noncomputable def G_ref33_days.body : Code := (Tryd.f45.body).getD .skip
def G_ref33_days.ann : Ann := (.seq 0 [0, 1] .leaf (.seq 0 [] (.seq 0 [0, 5] .leaf (.one (.seq 0 [0, 5, 6] .leaf (.br (.seq 0 [] (.seq 0 [9] .leaf (.br (.seq 0 [4] .leaf .leaf) .leaf)) (.seq 0 [4] .leaf .leaf)) (.seq 1 [10] (.seq 0 [5, 10] .leaf (.br .leaf (.seq 0 [5, 10] .leaf (.br .leaf (.seq 0 [5, 10] .leaf (.br .leaf .leaf)))))) (.br (.seq 0 [4] .leaf .leaf) .leaf)))))) (.seq 0 [4] .leaf .leaf)))
theorem G_ref33_days.body_eq : Tryd.f45.body = some G_ref33_days.body := by kernel_rfl
theorem G_ref33_days.dist : noTwice (places G_ref33_days.ann G_ref33_days.body) = true := by kernel_rfl
noncomputable def G_ref33_days.J (Q : AV → AHeap → Prop) : JT := funJ prog C Tryd.f45 G_ref33_days.ann G_ref33_days.body Q
theorem G_ref33_days.goR {Q : AV → AHeap → Prop} {k : Nat} {p : List Nat} (hl : lookJ (places G_ref33_days.ann G_ref33_days.body) k = some (p, false)) {e : Env} {h : AHeap} (hk : atJ prog C 15 (G_ref33_days.J Q) false p G_ref33_days.ann G_ref33_days.body e h (kFun prog Tryd.f45 Q)) : G_ref33_days.J Q k e h := goJ_run (P := prog) (fn := Tryd.f45) (ann := G_ref33_days.ann) (body := G_ref33_days.body) (Q := Q) (k := k) (p := p) (e := e) (h := h) (acall_le X) G_ref33_days.dist hl hk
theorem G_ref33_days.goH {Q : AV → AHeap → Prop} {k : Nat} {p : List Nat} (hl : lookJ (places G_ref33_days.ann G_ref33_days.body) k = some (p, true)) {e : Env} {h : AHeap} (hk : atJ prog C 15 (G_ref33_days.J Q) true p G_ref33_days.ann G_ref33_days.body e h (kFun prog Tryd.f45 Q)) : G_ref33_days.J Q k e h := goJ_head (P := prog) (fn := Tryd.f45) (ann := G_ref33_days.ann) (body := G_ref33_days.body) (Q := Q) (k := k) (p := p) (e := e) (h := h) (acall_le X) G_ref33_days.dist hl hk
def G_ref33_days.p0 (Q : AV → AHeap → Prop) (x10 : Bool) (h : AHeap) : Prop := G_ref33_days.J Q 1 [(10, (AV.b x10))] h
theorem G_ref33_days.j0 (Q : AV → AHeap → Prop) (x10 : Bool) (h : AHeap) : G_ref33_days.J Q 1 [(10, (AV.b x10))] h = G_ref33_days.p0 Q x10 h := rfl
def G_ref33_days.t0 (J : JT) (Q : AV → AHeap → Prop) (x10 : Bool) (h : AHeap) : Prop :=
(bif x10 then
(Q (AV.i .i64 30) h)
else
(Q (AV.i .i64 31) h))
theorem G_ref33_days.t0_eq (J : JT) (Q : AV → AHeap → Prop) (x10 : Bool) (h : AHeap) : G_ref33_days.t0 J Q x10 h = atJ prog C 15 J false [1, 0, 1, 0, 1, 1, 1] G_ref33_days.ann G_ref33_days.body [(10, (AV.b x10))] h (kFun prog Tryd.f45 Q) := by kernel_rfl
theorem G_ref33_days.i0 {Q : AV → AHeap → Prop} {x10 : Bool} {h : AHeap} (H : G_ref33_days.t0 (G_ref33_days.J Q) Q x10 h) : G_ref33_days.p0 Q x10 h := G_ref33_days.goR (k := 1) (p := [1, 0, 1, 0, 1, 1, 1]) (by kernel_rfl) ((G_ref33_days.t0_eq (G_ref33_days.J Q) Q x10 h).mp H)
def G_ref33_days.t (J : JT) (Q : AV → AHeap → Prop) (x0 : Int) (x1 : Int) (h : AHeap) : Prop :=
(bif (decide ((x1 : Int) = 2)) then
(C G_ref33_leap.id [(AV.i .i64 x0)] h fun v3 h4 =>
asB v3 fun c5 =>
(bif c5 then
(Q (AV.i .i64 29) h4)
else
(Q (AV.i .i64 28) h4)))
else
((bif (decide ((x1 : Int) = 4)) then
(J 1 [(10, (AV.b (decide ((x1 : Int) = 4))))] h)
else
((bif (decide ((x1 : Int) = 6)) then
(J 1 [(10, (AV.b (decide ((x1 : Int) = 6))))] h)
else
((bif (decide ((x1 : Int) = 9)) then
(J 1 [(10, (AV.b (decide ((x1 : Int) = 9))))] h)
else
(J 1 [(10, (AV.b (decide ((x1 : Int) = 11))))] h))))))))
theorem G_ref33_days.t_eq (J : JT) (Q : AV → AHeap → Prop) (x0 : Int) (x1 : Int) (h : AHeap) : G_ref33_days.t J Q x0 x1 h = exJ prog C 15 J G_ref33_days.ann G_ref33_days.body (initEnv 0 [(AV.i .i64 x0), (AV.i .i64 x1)]) h (kFun prog Tryd.f45 Q) := by kernel_rfl
theorem G_ref33_days.call {K : AV → AHeap → Prop} {x0 : Int} {x1 : Int} {h : AHeap} (H : G_ref33_days.t (G_ref33_days.J (kRet h K)) (kRet h K) x0 x1 h) : C G_ref33_days.id [(AV.i .i64 x0), (AV.i .i64 x1)] h K :=
  callJ (P := prog) (fn := Tryd.f45) (ann := G_ref33_days.ann) (body := G_ref33_days.body) Tryd.func45 G_ref33_days.body_eq (by kernel_rfl) G_ref33_days.dist (by kernel_rfl) ((G_ref33_days.t_eq (G_ref33_days.J (kRet h K)) (kRet h K) x0 x1 h).mp H)

--@@ G_ref33_Seconds
/-! ### 46: intrusion/intrusionref33.Seconds -/
noncomputable def G_ref33_Seconds.body : Code := (Tryd.f46.body).getD .skip
def G_ref33_Seconds.ann : Ann := (.seq 0 [0, 1, 2, 3, 4, 5] .leaf (.seq 0 [0, 1, 2, 3, 4, 5, 13] .leaf (.seq 0 [0, 1, 2, 3, 4, 5, 13] (.seq 0 [0, 1, 2, 3, 4, 5, 13, 14] .leaf (.one (.loop 1 [0, 1, 2, 3, 4, 5, 13, 14] (.seq 0 [0, 1, 2, 3, 4, 5, 13, 14] (.seq 0 [0, 1, 2, 3, 4, 5, 13, 14, 18] .leaf (.br .leaf .leaf)) (.seq 2 [0, 1, 2, 3, 4, 5, 13, 14] (.one (.seq 0 [0, 1, 2, 3, 4, 5, 13, 14] .leaf (.seq 0 [0, 1, 2, 3, 4, 5, 13, 14, 24] .leaf (.br .leaf .leaf)))) .leaf))))) (.seq 0 [2, 3, 4, 5, 13] (.seq 0 [0, 1, 2, 3, 4, 5, 13, 15] .leaf (.one (.loop 3 [0, 1, 2, 3, 4, 5, 13, 15] (.seq 0 [0, 1, 2, 3, 4, 5, 13, 15] (.seq 0 [0, 1, 2, 3, 4, 5, 13, 15, 29] .leaf (.br .leaf .leaf)) (.seq 0 [0, 1, 2, 3, 4, 5, 13, 15] (.one .leaf) .leaf))))) (.seq 0 [12] .leaf .leaf)))))
theorem G_ref33_Seconds.body_eq : Tryd.f46.body = some G_ref33_Seconds.body := by kernel_rfl
theorem G_ref33_Seconds.dist : noTwice (places G_ref33_Seconds.ann G_ref33_Seconds.body) = true := by kernel_rfl
noncomputable def G_ref33_Seconds.J (Q : AV → AHeap → Prop) : JT := funJ prog C Tryd.f46 G_ref33_Seconds.ann G_ref33_Seconds.body Q
theorem G_ref33_Seconds.goR {Q : AV → AHeap → Prop} {k : Nat} {p : List Nat} (hl : lookJ (places G_ref33_Seconds.ann G_ref33_Seconds.body) k = some (p, false)) {e : Env} {h : AHeap} (hk : atJ prog C 50 (G_ref33_Seconds.J Q) false p G_ref33_Seconds.ann G_ref33_Seconds.body e h (kFun prog Tryd.f46 Q)) : G_ref33_Seconds.J Q k e h := goJ_run (P := prog) (fn := Tryd.f46) (ann := G_ref33_Seconds.ann) (body := G_ref33_Seconds.body) (Q := Q) (k := k) (p := p) (e := e) (h := h) (acall_le X) G_ref33_Seconds.dist hl hk
theorem G_ref33_Seconds.goH {Q : AV → AHeap → Prop} {k : Nat} {p : List Nat} (hl : lookJ (places G_ref33_Seconds.ann G_ref33_Seconds.body) k = some (p, true)) {e : Env} {h : AHeap} (hk : atJ prog C 50 (G_ref33_Seconds.J Q) true p G_ref33_Seconds.ann G_ref33_Seconds.body e h (kFun prog Tryd.f46 Q)) : G_ref33_Seconds.J Q k e h := goJ_head (P := prog) (fn := Tryd.f46) (ann := G_ref33_Seconds.ann) (body := G_ref33_Seconds.body) (Q := Q) (k := k) (p := p) (e := e) (h := h) (acall_le X) G_ref33_Seconds.dist hl hk
def G_ref33_Seconds.p1 (Q : AV → AHeap → Prop) (x0 : Int) (x1 : Int) (x2 : Int) (x3 : Int) (x4 : Int) (x5 : Int) (x13 : Int) (x14 : Int) (h : AHeap) : Prop := G_ref33_Seconds.J Q 2 [(0, (AV.i .i64 x0)), (1, (AV.i .i64 x1)), (2, (AV.i .i64 x2)), (3, (AV.i .i64 x3)), (4, (AV.i .i64 x4)), (5, (AV.i .i64 x5)), (13, (AV.i .i64 x13)), (14, (AV.i .i64 x14))] h
theorem G_ref33_Seconds.j1 (Q : AV → AHeap → Prop) (x0 : Int) (x1 : Int) (x2 : Int) (x3 : Int) (x4 : Int) (x5 : Int) (x13 : Int) (x14 : Int) (h : AHeap) : G_ref33_Seconds.J Q 2 [(0, (AV.i .i64 x0)), (1, (AV.i .i64 x1)), (2, (AV.i .i64 x2)), (3, (AV.i .i64 x3)), (4, (AV.i .i64 x4)), (5, (AV.i .i64 x5)), (13, (AV.i .i64 x13)), (14, (AV.i .i64 x14))] h = G_ref33_Seconds.p1 Q x0 x1 x2 x3 x4 x5 x13 x14 h := rfl
def G_ref33_Seconds.p0 (Q : AV → AHeap → Prop) (x0 : Int) (x1 : Int) (x2 : Int) (x3 : Int) (x4 : Int) (x5 : Int) (x13 : Int) (x14 : Int) (h : AHeap) : Prop := G_ref33_Seconds.J Q 1 [(0, (AV.i .i64 x0)), (1, (AV.i .i64 x1)), (2, (AV.i .i64 x2)), (3, (AV.i .i64 x3)), (4, (AV.i .i64 x4)), (5, (AV.i .i64 x5)), (13, (AV.i .i64 x13)), (14, (AV.i .i64 x14))] h
theorem G_ref33_Seconds.j0 (Q : AV → AHeap → Prop) (x0 : Int) (x1 : Int) (x2 : Int) (x3 : Int) (x4 : Int) (x5 : Int) (x13 : Int) (x14 : Int) (h : AHeap) : G_ref33_Seconds.J Q 1 [(0, (AV.i .i64 x0)), (1, (AV.i .i64 x1)), (2, (AV.i .i64 x2)), (3, (AV.i .i64 x3)), (4, (AV.i .i64 x4)), (5, (AV.i .i64 x5)), (13, (AV.i .i64 x13)), (14, (AV.i .i64 x14))] h = G_ref33_Seconds.p0 Q x0 x1 x2 x3 x4 x5 x13 x14 h := rfl
def G_ref33_Seconds.p2 (Q : AV → AHeap → Prop) (x0 : Int) (x1 : Int) (x2 : Int) (x3 : Int) (x4 : Int) (x5 : Int) (x13 : Int) (x15 : Int) (h : AHeap) : Prop := G_ref33_Seconds.J Q 3 [(0, (AV.i .i64 x0)), (1, (AV.i .i64 x1)), (2, (AV.i .i64 x2)), (3, (AV.i .i64 x3)), (4, (AV.i .i64 x4)), (5, (AV.i .i64 x5)), (13, (AV.i .i64 x13)), (15, (AV.i .i64 x15))] h
theorem G_ref33_Seconds.j2 (Q : AV → AHeap → Prop) (x0 : Int) (x1 : Int) (x2 : Int) (x3 : Int) (x4 : Int) (x5 : Int) (x13 : Int) (x15 : Int) (h : AHeap) : G_ref33_Seconds.J Q 3 [(0, (AV.i .i64 x0)), (1, (AV.i .i64 x1)), (2, (AV.i .i64 x2)), (3, (AV.i .i64 x3)), (4, (AV.i .i64 x4)), (5, (AV.i .i64 x5)), (13, (AV.i .i64 x13)), (15, (AV.i .i64 x15))] h = G_ref33_Seconds.p2 Q x0 x1 x2 x3 x4 x5 x13 x15 h := rfl
def G_ref33_Seconds.t1 (J : JT) (Q : AV → AHeap → Prop) (x0 : Int) (x1 : Int) (x2 : Int) (x3 : Int) (x4 : Int) (x5 : Int) (x13 : Int) (x14 : Int) (h : AHeap) : Prop :=
withI (IntKind.wrap .i64 (x14 + 1)) fun n15 =>
J 1 [(0, (AV.i .i64 x0)), (1, (AV.i .i64 x1)), (2, (AV.i .i64 x2)), (3, (AV.i .i64 x3)), (4, (AV.i .i64 x4)), (5, (AV.i .i64 x5)), (13, (AV.i .i64 x13)), (14, (AV.i .i64 n15))] h
theorem G_ref33_Seconds.t1_eq (J : JT) (Q : AV → AHeap → Prop) (x0 : Int) (x1 : Int) (x2 : Int) (x3 : Int) (x4 : Int) (x5 : Int) (x13 : Int) (x14 : Int) (h : AHeap) : G_ref33_Seconds.t1 J Q x0 x1 x2 x3 x4 x5 x13 x14 h = atJ prog C 50 J false [1, 1, 0, 1, 0, 0, 1, 1] G_ref33_Seconds.ann G_ref33_Seconds.body [(0, (AV.i .i64 x0)), (1, (AV.i .i64 x1)), (2, (AV.i .i64 x2)), (3, (AV.i .i64 x3)), (4, (AV.i .i64 x4)), (5, (AV.i .i64 x5)), (13, (AV.i .i64 x13)), (14, (AV.i .i64 x14))] h (kFun prog Tryd.f46 Q) := by kernel_rfl
theorem G_ref33_Seconds.i1 {Q : AV → AHeap → Prop} {x0 : Int} {x1 : Int} {x2 : Int} {x3 : Int} {x4 : Int} {x5 : Int} {x13 : Int} {x14 : Int} {h : AHeap} (H : G_ref33_Seconds.t1 (G_ref33_Seconds.J Q) Q x0 x1 x2 x3 x4 x5 x13 x14 h) : G_ref33_Seconds.p1 Q x0 x1 x2 x3 x4 x5 x13 x14 h := G_ref33_Seconds.goR (k := 2) (p := [1, 1, 0, 1, 0, 0, 1, 1]) (by kernel_rfl) ((G_ref33_Seconds.t1_eq (G_ref33_Seconds.J Q) Q x0 x1 x2 x3 x4 x5 x13 x14 h).mp H)
def G_ref33_Seconds.t0 (J : JT) (Q : AV → AHeap → Prop) (x0 : Int) (x1 : Int) (x2 : Int) (x3 : Int) (x4 : Int) (x5 : Int) (x13 : Int) (x14 : Int) (h : AHeap) : Prop :=
(bif (decide ((x14 : Int) < x0)) then
(withI (IntKind.wrap .i64 (x13 + 365)) fun n6 =>
C G_ref33_leap.id [(AV.i .i64 x14)] h fun v8 h9 =>
asB v8 fun c10 =>
(bif c10 then
(withI (IntKind.wrap .i64 (n6 + 1)) fun n12 =>
J 2 [(0, (AV.i .i64 x0)), (1, (AV.i .i64 x1)), (2, (AV.i .i64 x2)), (3, (AV.i .i64 x3)), (4, (AV.i .i64 x4)), (5, (AV.i .i64 x5)), (13, (AV.i .i64 n12)), (14, (AV.i .i64 x14))] h9)
else
(J 2 [(0, (AV.i .i64 x0)), (1, (AV.i .i64 x1)), (2, (AV.i .i64 x2)), (3, (AV.i .i64 x3)), (4, (AV.i .i64 x4)), (5, (AV.i .i64 x5)), (13, (AV.i .i64 n6)), (14, (AV.i .i64 x14))] h9)))
else
(J 3 [(0, (AV.i .i64 x0)), (1, (AV.i .i64 x1)), (2, (AV.i .i64 x2)), (3, (AV.i .i64 x3)), (4, (AV.i .i64 x4)), (5, (AV.i .i64 x5)), (13, (AV.i .i64 x13)), (15, (AV.i .i64 1))] h))
theorem G_ref33_Seconds.t0_eq (J : JT) (Q : AV → AHeap → Prop) (x0 : Int) (x1 : Int) (x2 : Int) (x3 : Int) (x4 : Int) (x5 : Int) (x13 : Int) (x14 : Int) (h : AHeap) : G_ref33_Seconds.t0 J Q x0 x1 x2 x3 x4 x5 x13 x14 h = atJ prog C 50 J true [1, 1, 0, 1, 0] G_ref33_Seconds.ann G_ref33_Seconds.body [(0, (AV.i .i64 x0)), (1, (AV.i .i64 x1)), (2, (AV.i .i64 x2)), (3, (AV.i .i64 x3)), (4, (AV.i .i64 x4)), (5, (AV.i .i64 x5)), (13, (AV.i .i64 x13)), (14, (AV.i .i64 x14))] h (kFun prog Tryd.f46 Q) := by kernel_rfl
theorem G_ref33_Seconds.i0 {Q : AV → AHeap → Prop} {x0 : Int} {x1 : Int} {x2 : Int} {x3 : Int} {x4 : Int} {x5 : Int} {x13 : Int} {x14 : Int} {h : AHeap} (H : G_ref33_Seconds.t0 (G_ref33_Seconds.J Q) Q x0 x1 x2 x3 x4 x5 x13 x14 h) : G_ref33_Seconds.p0 Q x0 x1 x2 x3 x4 x5 x13 x14 h := G_ref33_Seconds.goH (k := 1) (p := [1, 1, 0, 1, 0]) (by kernel_rfl) ((G_ref33_Seconds.t0_eq (G_ref33_Seconds.J Q) Q x0 x1 x2 x3 x4 x5 x13 x14 h).mp H)
def G_ref33_Seconds.t2 (J : JT) (Q : AV → AHeap → Prop) (x0 : Int) (x1 : Int) (x2 : Int) (x3 : Int) (x4 : Int) (x5 : Int) (x13 : Int) (x15 : Int) (h : AHeap) : Prop :=
(bif (decide ((x15 : Int) < x1)) then
(C G_ref33_days.id [(AV.i .i64 x0), (AV.i .i64 x15)] h fun v21 h22 =>
asI .i64 v21 fun n23 =>
withI (IntKind.wrap .i64 (x13 + n23)) fun n24 =>
withI (IntKind.wrap .i64 (x15 + 1)) fun n26 =>
J 3 [(0, (AV.i .i64 x0)), (1, (AV.i .i64 x1)), (2, (AV.i .i64 x2)), (3, (AV.i .i64 x3)), (4, (AV.i .i64 x4)), (5, (AV.i .i64 x5)), (13, (AV.i .i64 n24)), (15, (AV.i .i64 n26))] h22)
else
(withI (IntKind.wrap .i64 (x13 + x2)) fun n28 =>
withI (IntKind.wrap .i64 (n28 - 1)) fun n29 =>
withI (IntKind.wrap .i64 (n29 * 86400)) fun n30 =>
withI (IntKind.wrap .i64 (x3 * 3600)) fun n31 =>
withI (IntKind.wrap .i64 (n30 + n31)) fun n32 =>
withI (IntKind.wrap .i64 (x4 * 60)) fun n33 =>
withI (IntKind.wrap .i64 (n32 + n33)) fun n34 =>
withI (IntKind.wrap .i64 (n34 + x5)) fun n35 =>
Q (AV.i .i64 n35) h))
theorem G_ref33_Seconds.t2_eq (J : JT) (Q : AV → AHeap → Prop) (x0 : Int) (x1 : Int) (x2 : Int) (x3 : Int) (x4 : Int) (x5 : Int) (x13 : Int) (x15 : Int) (h : AHeap) : G_ref33_Seconds.t2 J Q x0 x1 x2 x3 x4 x5 x13 x15 h = atJ prog C 50 J true [1, 1, 1, 0, 1, 0] G_ref33_Seconds.ann G_ref33_Seconds.body [(0, (AV.i .i64 x0)), (1, (AV.i .i64 x1)), (2, (AV.i .i64 x2)), (3, (AV.i .i64 x3)), (4, (AV.i .i64 x4)), (5, (AV.i .i64 x5)), (13, (AV.i .i64 x13)), (15, (AV.i .i64 x15))] h (kFun prog Tryd.f46 Q) := by kernel_rfl
theorem G_ref33_Seconds.i2 {Q : AV → AHeap → Prop} {x0 : Int} {x1 : Int} {x2 : Int} {x3 : Int} {x4 : Int} {x5 : Int} {x13 : Int} {x15 : Int} {h : AHeap} (H : G_ref33_Seconds.t2 (G_ref33_Seconds.J Q) Q x0 x1 x2 x3 x4 x5 x13 x15 h) : G_ref33_Seconds.p2 Q x0 x1 x2 x3 x4 x5 x13 x15 h := G_ref33_Seconds.goH (k := 3) (p := [1, 1, 1, 0, 1, 0]) (by kernel_rfl) ((G_ref33_Seconds.t2_eq (G_ref33_Seconds.J Q) Q x0 x1 x2 x3 x4 x5 x13 x15 h).mp H)
def G_ref33_Seconds.t (J : JT) (Q : AV → AHeap → Prop) (x0 : Int) (x1 : Int) (x2 : Int) (x3 : Int) (x4 : Int) (x5 : Int) (h : AHeap) : Prop :=
J 1 [(0, (AV.i .i64 x0)), (1, (AV.i .i64 x1)), (2, (AV.i .i64 x2)), (3, (AV.i .i64 x3)), (4, (AV.i .i64 x4)), (5, (AV.i .i64 x5)), (13, (AV.i .i64 0)), (14, (AV.i .i64 1970))] h
theorem G_ref33_Seconds.t_eq (J : JT) (Q : AV → AHeap → Prop) (x0 : Int) (x1 : Int) (x2 : Int) (x3 : Int) (x4 : Int) (x5 : Int) (h : AHeap) : G_ref33_Seconds.t J Q x0 x1 x2 x3 x4 x5 h = exJ prog C 50 J G_ref33_Seconds.ann G_ref33_Seconds.body (initEnv 0 [(AV.i .i64 x0), (AV.i .i64 x1), (AV.i .i64 x2), (AV.i .i64 x3), (AV.i .i64 x4), (AV.i .i64 x5)]) h (kFun prog Tryd.f46 Q) := by kernel_rfl
theorem G_ref33_Seconds.call {K : AV → AHeap → Prop} {x0 : Int} {x1 : Int} {x2 : Int} {x3 : Int} {x4 : Int} {x5 : Int} {h : AHeap} (H : G_ref33_Seconds.t (G_ref33_Seconds.J (kRet h K)) (kRet h K) x0 x1 x2 x3 x4 x5 h) : C G_ref33_Seconds.id [(AV.i .i64 x0), (AV.i .i64 x1), (AV.i .i64 x2), (AV.i .i64 x3), (AV.i .i64 x4), (AV.i .i64 x5)] h K :=
  callJ (P := prog) (fn := Tryd.f46) (ann := G_ref33_Seconds.ann) (body := G_ref33_Seconds.body) Tryd.func46 G_ref33_Seconds.body_eq (by kernel_rfl) G_ref33_Seconds.dist (by kernel_rfl) ((G_ref33_Seconds.t_eq (G_ref33_Seconds.J (kRet h K)) (kRet h K) x0 x1 x2 x3 x4 x5 h).mp H)

--@@ G_der_Text_1
/-! ### 47: intrusion/der.Text$1 -/
noncomputable def G_der_Text_1.body : Code := (Tryd.f47.body).getD .skip
def G_der_Text_1.ann : Ann := (.seq 0 [0] .leaf (.seq 1 [2] .leaf .leaf))
theorem G_der_Text_1.body_eq : Tryd.f47.body = some G_der_Text_1.body := by kernel_rfl
theorem G_der_Text_1.dist : noTwice (places G_der_Text_1.ann G_der_Text_1.body) = true := by kernel_rfl
noncomputable def G_der_Text_1.J (Q : AV → AHeap → Prop) : JT := funJ prog C Tryd.f47 G_der_Text_1.ann G_der_Text_1.body Q
theorem G_der_Text_1.goR {Q : AV → AHeap → Prop} {k : Nat} {p : List Nat} (hl : lookJ (places G_der_Text_1.ann G_der_Text_1.body) k = some (p, false)) {e : Env} {h : AHeap} (hk : atJ prog C 9 (G_der_Text_1.J Q) false p G_der_Text_1.ann G_der_Text_1.body e h (kFun prog Tryd.f47 Q)) : G_der_Text_1.J Q k e h := goJ_run (P := prog) (fn := Tryd.f47) (ann := G_der_Text_1.ann) (body := G_der_Text_1.body) (Q := Q) (k := k) (p := p) (e := e) (h := h) (acall_le X) G_der_Text_1.dist hl hk
theorem G_der_Text_1.goH {Q : AV → AHeap → Prop} {k : Nat} {p : List Nat} (hl : lookJ (places G_der_Text_1.ann G_der_Text_1.body) k = some (p, true)) {e : Env} {h : AHeap} (hk : atJ prog C 9 (G_der_Text_1.J Q) true p G_der_Text_1.ann G_der_Text_1.body e h (kFun prog Tryd.f47 Q)) : G_der_Text_1.J Q k e h := goJ_head (P := prog) (fn := Tryd.f47) (ann := G_der_Text_1.ann) (body := G_der_Text_1.body) (Q := Q) (k := k) (p := p) (e := e) (h := h) (acall_le X) G_der_Text_1.dist hl hk
def G_der_Text_1.p0 (Q : AV → AHeap → Prop) (x2 : Bool) (h : AHeap) : Prop := G_der_Text_1.J Q 1 [(2, (AV.b x2))] h
theorem G_der_Text_1.j0 (Q : AV → AHeap → Prop) (x2 : Bool) (h : AHeap) : G_der_Text_1.J Q 1 [(2, (AV.b x2))] h = G_der_Text_1.p0 Q x2 h := rfl
def G_der_Text_1.t0 (J : JT) (Q : AV → AHeap → Prop) (x2 : Bool) (h : AHeap) : Prop :=
Q (AV.b x2) h
theorem G_der_Text_1.t0_eq (J : JT) (Q : AV → AHeap → Prop) (x2 : Bool) (h : AHeap) : G_der_Text_1.t0 J Q x2 h = atJ prog C 9 J false [1, 1] G_der_Text_1.ann G_der_Text_1.body [(2, (AV.b x2))] h (kFun prog Tryd.f47 Q) := by kernel_rfl
theorem G_der_Text_1.i0 {Q : AV → AHeap → Prop} {x2 : Bool} {h : AHeap} (H : G_der_Text_1.t0 (G_der_Text_1.J Q) Q x2 h) : G_der_Text_1.p0 Q x2 h := G_der_Text_1.goR (k := 1) (p := [1, 1]) (by kernel_rfl) ((G_der_Text_1.t0_eq (G_der_Text_1.J Q) Q x2 h).mp H)
def G_der_Text_1.t (J : JT) (Q : AV → AHeap → Prop) (x0 : Int) (h : AHeap) : Prop :=
(bif (decide ((32 : Int) ≤ x0)) then
(J 1 [(2, (AV.b (decide ((x0 : Int) ≤ 126))))] h)
else
(J 1 [(2, (AV.b false))] h))
theorem G_der_Text_1.t_eq (J : JT) (Q : AV → AHeap → Prop) (x0 : Int) (h : AHeap) : G_der_Text_1.t J Q x0 h = exJ prog C 9 J G_der_Text_1.ann G_der_Text_1.body (initEnv 0 [(AV.i .u8 x0)]) h (kFun prog Tryd.f47 Q) := by kernel_rfl
theorem G_der_Text_1.call {K : AV → AHeap → Prop} {x0 : Int} {h : AHeap} (H : G_der_Text_1.t (G_der_Text_1.J (kRet h K)) (kRet h K) x0 h) : C G_der_Text_1.id [(AV.i .u8 x0)] h K :=
  callJ (P := prog) (fn := Tryd.f47) (ann := G_der_Text_1.ann) (body := G_der_Text_1.body) Tryd.func47 G_der_Text_1.body_eq (by kernel_rfl) G_der_Text_1.dist (by kernel_rfl) ((G_der_Text_1.t_eq (G_der_Text_1.J (kRet h K)) (kRet h K) x0 h).mp H)

--@@ G_der_TimeOf_1
/-! ### 48: intrusion/der.TimeOf$1 -/
noncomputable def G_der_TimeOf_1.body : Code := (Tryd.f48.body).getD .skip
def G_der_TimeOf_1.ann : Ann := (.seq 0 [0] .leaf (.seq 0 [2] .leaf .leaf))
theorem G_der_TimeOf_1.body_eq : Tryd.f48.body = some G_der_TimeOf_1.body := by kernel_rfl
theorem G_der_TimeOf_1.dist : noTwice (places G_der_TimeOf_1.ann G_der_TimeOf_1.body) = true := by kernel_rfl
noncomputable def G_der_TimeOf_1.J (Q : AV → AHeap → Prop) : JT := funJ prog C Tryd.f48 G_der_TimeOf_1.ann G_der_TimeOf_1.body Q
theorem G_der_TimeOf_1.goR {Q : AV → AHeap → Prop} {k : Nat} {p : List Nat} (hl : lookJ (places G_der_TimeOf_1.ann G_der_TimeOf_1.body) k = some (p, false)) {e : Env} {h : AHeap} (hk : atJ prog C 13 (G_der_TimeOf_1.J Q) false p G_der_TimeOf_1.ann G_der_TimeOf_1.body e h (kFun prog Tryd.f48 Q)) : G_der_TimeOf_1.J Q k e h := goJ_run (P := prog) (fn := Tryd.f48) (ann := G_der_TimeOf_1.ann) (body := G_der_TimeOf_1.body) (Q := Q) (k := k) (p := p) (e := e) (h := h) (acall_le X) G_der_TimeOf_1.dist hl hk
theorem G_der_TimeOf_1.goH {Q : AV → AHeap → Prop} {k : Nat} {p : List Nat} (hl : lookJ (places G_der_TimeOf_1.ann G_der_TimeOf_1.body) k = some (p, true)) {e : Env} {h : AHeap} (hk : atJ prog C 13 (G_der_TimeOf_1.J Q) true p G_der_TimeOf_1.ann G_der_TimeOf_1.body e h (kFun prog Tryd.f48 Q)) : G_der_TimeOf_1.J Q k e h := goJ_head (P := prog) (fn := Tryd.f48) (ann := G_der_TimeOf_1.ann) (body := G_der_TimeOf_1.body) (Q := Q) (k := k) (p := p) (e := e) (h := h) (acall_le X) G_der_TimeOf_1.dist hl hk
def G_der_TimeOf_1.t (J : JT) (Q : AV → AHeap → Prop) (x0 : Int) (h : AHeap) : Prop :=
pQuo .i64 x0 10 fun n1 =>
withI (IntKind.wrap .i64 (48 + n1)) fun n2 =>
pRem x0 10 fun n3 =>
withI (IntKind.wrap .i64 (48 + n3)) fun n4 =>
pBuildSl 1 2 [(AV.i .u8 0), (AV.i .u8 0)] [(0, 1, (AV.i .u8 (IntKind.wrap .u8 n2))), (1, 1, (AV.i .u8 (IntKind.wrap .u8 n4)))] h fun v5 h6 =>
pBytesStr v5 h6 fun l7 =>
Q (AV.s l7) h6
theorem G_der_TimeOf_1.t_eq (J : JT) (Q : AV → AHeap → Prop) (x0 : Int) (h : AHeap) : G_der_TimeOf_1.t J Q x0 h = exJ prog C 13 J G_der_TimeOf_1.ann G_der_TimeOf_1.body (initEnv 0 [(AV.i .i64 x0)]) h (kFun prog Tryd.f48 Q) := by kernel_rfl
theorem G_der_TimeOf_1.call {K : AV → AHeap → Prop} {x0 : Int} {h : AHeap} (H : G_der_TimeOf_1.t (G_der_TimeOf_1.J (kRet h K)) (kRet h K) x0 h) : C G_der_TimeOf_1.id [(AV.i .i64 x0)] h K :=
  callJ (P := prog) (fn := Tryd.f48) (ann := G_der_TimeOf_1.ann) (body := G_der_TimeOf_1.body) Tryd.func48 G_der_TimeOf_1.body_eq (by kernel_rfl) G_der_TimeOf_1.dist (by kernel_rfl) ((G_der_TimeOf_1.t_eq (G_der_TimeOf_1.J (kRet h K)) (kRet h K) x0 h).mp H)

--@@ G_ref33_leap
/-! ### 49: intrusion/intrusionref33.leap -/
noncomputable def G_ref33_leap.body : Code := (Tryd.f49.body).getD .skip
def G_ref33_leap.ann : Ann := (.seq 0 [0] .leaf (.seq 1 [2] .leaf .leaf))
theorem G_ref33_leap.body_eq : Tryd.f49.body = some G_ref33_leap.body := by kernel_rfl
theorem G_ref33_leap.dist : noTwice (places G_ref33_leap.ann G_ref33_leap.body) = true := by kernel_rfl
noncomputable def G_ref33_leap.J (Q : AV → AHeap → Prop) : JT := funJ prog C Tryd.f49 G_ref33_leap.ann G_ref33_leap.body Q
theorem G_ref33_leap.goR {Q : AV → AHeap → Prop} {k : Nat} {p : List Nat} (hl : lookJ (places G_ref33_leap.ann G_ref33_leap.body) k = some (p, false)) {e : Env} {h : AHeap} (hk : atJ prog C 16 (G_ref33_leap.J Q) false p G_ref33_leap.ann G_ref33_leap.body e h (kFun prog Tryd.f49 Q)) : G_ref33_leap.J Q k e h := goJ_run (P := prog) (fn := Tryd.f49) (ann := G_ref33_leap.ann) (body := G_ref33_leap.body) (Q := Q) (k := k) (p := p) (e := e) (h := h) (acall_le X) G_ref33_leap.dist hl hk
theorem G_ref33_leap.goH {Q : AV → AHeap → Prop} {k : Nat} {p : List Nat} (hl : lookJ (places G_ref33_leap.ann G_ref33_leap.body) k = some (p, true)) {e : Env} {h : AHeap} (hk : atJ prog C 16 (G_ref33_leap.J Q) true p G_ref33_leap.ann G_ref33_leap.body e h (kFun prog Tryd.f49 Q)) : G_ref33_leap.J Q k e h := goJ_head (P := prog) (fn := Tryd.f49) (ann := G_ref33_leap.ann) (body := G_ref33_leap.body) (Q := Q) (k := k) (p := p) (e := e) (h := h) (acall_le X) G_ref33_leap.dist hl hk
def G_ref33_leap.p0 (Q : AV → AHeap → Prop) (x2 : Bool) (h : AHeap) : Prop := G_ref33_leap.J Q 1 [(2, (AV.b x2))] h
theorem G_ref33_leap.j0 (Q : AV → AHeap → Prop) (x2 : Bool) (h : AHeap) : G_ref33_leap.J Q 1 [(2, (AV.b x2))] h = G_ref33_leap.p0 Q x2 h := rfl
def G_ref33_leap.t0 (J : JT) (Q : AV → AHeap → Prop) (x2 : Bool) (h : AHeap) : Prop :=
Q (AV.b x2) h
theorem G_ref33_leap.t0_eq (J : JT) (Q : AV → AHeap → Prop) (x2 : Bool) (h : AHeap) : G_ref33_leap.t0 J Q x2 h = atJ prog C 16 J false [1, 1] G_ref33_leap.ann G_ref33_leap.body [(2, (AV.b x2))] h (kFun prog Tryd.f49 Q) := by kernel_rfl
theorem G_ref33_leap.i0 {Q : AV → AHeap → Prop} {x2 : Bool} {h : AHeap} (H : G_ref33_leap.t0 (G_ref33_leap.J Q) Q x2 h) : G_ref33_leap.p0 Q x2 h := G_ref33_leap.goR (k := 1) (p := [1, 1]) (by kernel_rfl) ((G_ref33_leap.t0_eq (G_ref33_leap.J Q) Q x2 h).mp H)
def G_ref33_leap.t (J : JT) (Q : AV → AHeap → Prop) (x0 : Int) (h : AHeap) : Prop :=
pRem x0 4 fun n1 =>
(bif (decide ((n1 : Int) = 0)) then
(pRem x0 100 fun n2 =>
(bif (!decide ((n2 : Int) = 0)) then
(J 1 [(2, (AV.b true))] h)
else
(pRem x0 400 fun n4 =>
J 1 [(2, (AV.b (decide ((n4 : Int) = 0))))] h)))
else
(J 1 [(2, (AV.b false))] h))
theorem G_ref33_leap.t_eq (J : JT) (Q : AV → AHeap → Prop) (x0 : Int) (h : AHeap) : G_ref33_leap.t J Q x0 h = exJ prog C 16 J G_ref33_leap.ann G_ref33_leap.body (initEnv 0 [(AV.i .i64 x0)]) h (kFun prog Tryd.f49 Q) := by kernel_rfl
theorem G_ref33_leap.call {K : AV → AHeap → Prop} {x0 : Int} {h : AHeap} (H : G_ref33_leap.t (G_ref33_leap.J (kRet h K)) (kRet h K) x0 h) : C G_ref33_leap.id [(AV.i .i64 x0)] h K :=
  callJ (P := prog) (fn := Tryd.f49) (ann := G_ref33_leap.ann) (body := G_ref33_leap.body) Tryd.func49 G_ref33_leap.body_eq (by kernel_rfl) G_ref33_leap.dist (by kernel_rfl) ((G_ref33_leap.t_eq (G_ref33_leap.J (kRet h K)) (kRet h K) x0 h).mp H)

--@@ G_ref33_two
/-! ### 50: intrusion/intrusionref33.two -/
noncomputable def G_ref33_two.body : Code := (Tryd.f50.body).getD .skip
def G_ref33_two.ann : Ann := (.seq 0 [0] .leaf (.seq 0 [2] .leaf .leaf))
theorem G_ref33_two.body_eq : Tryd.f50.body = some G_ref33_two.body := by kernel_rfl
theorem G_ref33_two.dist : noTwice (places G_ref33_two.ann G_ref33_two.body) = true := by kernel_rfl
noncomputable def G_ref33_two.J (Q : AV → AHeap → Prop) : JT := funJ prog C Tryd.f50 G_ref33_two.ann G_ref33_two.body Q
theorem G_ref33_two.goR {Q : AV → AHeap → Prop} {k : Nat} {p : List Nat} (hl : lookJ (places G_ref33_two.ann G_ref33_two.body) k = some (p, false)) {e : Env} {h : AHeap} (hk : atJ prog C 14 (G_ref33_two.J Q) false p G_ref33_two.ann G_ref33_two.body e h (kFun prog Tryd.f50 Q)) : G_ref33_two.J Q k e h := goJ_run (P := prog) (fn := Tryd.f50) (ann := G_ref33_two.ann) (body := G_ref33_two.body) (Q := Q) (k := k) (p := p) (e := e) (h := h) (acall_le X) G_ref33_two.dist hl hk
theorem G_ref33_two.goH {Q : AV → AHeap → Prop} {k : Nat} {p : List Nat} (hl : lookJ (places G_ref33_two.ann G_ref33_two.body) k = some (p, true)) {e : Env} {h : AHeap} (hk : atJ prog C 14 (G_ref33_two.J Q) true p G_ref33_two.ann G_ref33_two.body e h (kFun prog Tryd.f50 Q)) : G_ref33_two.J Q k e h := goJ_head (P := prog) (fn := Tryd.f50) (ann := G_ref33_two.ann) (body := G_ref33_two.body) (Q := Q) (k := k) (p := p) (e := e) (h := h) (acall_le X) G_ref33_two.dist hl hk
def G_ref33_two.t (J : JT) (Q : AV → AHeap → Prop) (x0 : Int) (h : AHeap) : Prop :=
pQuo .i64 x0 10 fun n1 =>
pRem n1 10 fun n2 =>
withI (IntKind.wrap .i64 (48 + n2)) fun n3 =>
pRem x0 10 fun n4 =>
withI (IntKind.wrap .i64 (48 + n4)) fun n5 =>
pBuildSl 1 2 [(AV.i .u8 0), (AV.i .u8 0)] [(0, 1, (AV.i .u8 (IntKind.wrap .u8 n3))), (1, 1, (AV.i .u8 (IntKind.wrap .u8 n5)))] h fun v6 h7 =>
pBytesStr v6 h7 fun l8 =>
Q (AV.s l8) h7
theorem G_ref33_two.t_eq (J : JT) (Q : AV → AHeap → Prop) (x0 : Int) (h : AHeap) : G_ref33_two.t J Q x0 h = exJ prog C 14 J G_ref33_two.ann G_ref33_two.body (initEnv 0 [(AV.i .i64 x0)]) h (kFun prog Tryd.f50 Q) := by kernel_rfl
theorem G_ref33_two.call {K : AV → AHeap → Prop} {x0 : Int} {h : AHeap} (H : G_ref33_two.t (G_ref33_two.J (kRet h K)) (kRet h K) x0 h) : C G_ref33_two.id [(AV.i .i64 x0)] h K :=
  callJ (P := prog) (fn := Tryd.f50) (ann := G_ref33_two.ann) (body := G_ref33_two.body) Tryd.func50 G_ref33_two.body_eq (by kernel_rfl) G_ref33_two.dist (by kernel_rfl) ((G_ref33_two.t_eq (G_ref33_two.J (kRet h K)) (kRet h K) x0 h).mp H)

--@@ G_ref06_Number
/-! ### 52: intrusion/intrusionref06.Number -/
noncomputable def G_ref06_Number.body : Code := (Tryd.f52.body).getD .skip
def G_ref06_Number.ann : Ann := (.seq 0 [0] .leaf (.seq 0 [0, 3] .leaf (.seq 0 [0, 3] (.one (.loop 1 [0, 3] (.seq 0 [0, 3] (.seq 0 [0, 3, 5] .leaf (.br .leaf .leaf)) (.one (.seq 0 [0, 3] .leaf .leaf))))) (.seq 0 [2] .leaf .leaf))))
theorem G_ref06_Number.body_eq : Tryd.f52.body = some G_ref06_Number.body := by kernel_rfl
theorem G_ref06_Number.dist : noTwice (places G_ref06_Number.ann G_ref06_Number.body) = true := by kernel_rfl
noncomputable def G_ref06_Number.J (Q : AV → AHeap → Prop) : JT := funJ prog C Tryd.f52 G_ref06_Number.ann G_ref06_Number.body Q
theorem G_ref06_Number.goR {Q : AV → AHeap → Prop} {k : Nat} {p : List Nat} (hl : lookJ (places G_ref06_Number.ann G_ref06_Number.body) k = some (p, false)) {e : Env} {h : AHeap} (hk : atJ prog C 23 (G_ref06_Number.J Q) false p G_ref06_Number.ann G_ref06_Number.body e h (kFun prog Tryd.f52 Q)) : G_ref06_Number.J Q k e h := goJ_run (P := prog) (fn := Tryd.f52) (ann := G_ref06_Number.ann) (body := G_ref06_Number.body) (Q := Q) (k := k) (p := p) (e := e) (h := h) (acall_le X) G_ref06_Number.dist hl hk
theorem G_ref06_Number.goH {Q : AV → AHeap → Prop} {k : Nat} {p : List Nat} (hl : lookJ (places G_ref06_Number.ann G_ref06_Number.body) k = some (p, true)) {e : Env} {h : AHeap} (hk : atJ prog C 23 (G_ref06_Number.J Q) true p G_ref06_Number.ann G_ref06_Number.body e h (kFun prog Tryd.f52 Q)) : G_ref06_Number.J Q k e h := goJ_head (P := prog) (fn := Tryd.f52) (ann := G_ref06_Number.ann) (body := G_ref06_Number.body) (Q := Q) (k := k) (p := p) (e := e) (h := h) (acall_le X) G_ref06_Number.dist hl hk
def G_ref06_Number.p0 (Q : AV → AHeap → Prop) (x0 : Int) (x3 : List UInt8) (h : AHeap) : Prop := G_ref06_Number.J Q 1 [(0, (AV.i .i64 x0)), (3, (AV.s x3))] h
theorem G_ref06_Number.j0 (Q : AV → AHeap → Prop) (x0 : Int) (x3 : List UInt8) (h : AHeap) : G_ref06_Number.J Q 1 [(0, (AV.i .i64 x0)), (3, (AV.s x3))] h = G_ref06_Number.p0 Q x0 x3 h := rfl
def G_ref06_Number.t0 (J : JT) (Q : AV → AHeap → Prop) (x0 : Int) (x3 : List UInt8) (h : AHeap) : Prop :=
(bif (decide ((9 : Int) < x0)) then
(pRem x0 10 fun n5 =>
withI (IntKind.wrap .i64 (48 + n5)) fun n6 =>
pBuildSl 1 1 [(AV.i .u8 0)] [(0, 1, (AV.i .u8 (IntKind.wrap .u8 n6)))] h fun v7 h8 =>
pBytesStr v7 h8 fun l9 =>
pCat l9 x3 fun l10 =>
pQuo .i64 x0 10 fun n12 =>
J 1 [(0, (AV.i .i64 n12)), (3, (AV.s l10))] h8)
else
(withI (IntKind.wrap .i64 (48 + x0)) fun n14 =>
pBuildSl 1 1 [(AV.i .u8 0)] [(0, 1, (AV.i .u8 (IntKind.wrap .u8 n14)))] h fun v15 h16 =>
pBytesStr v15 h16 fun l17 =>
pCat l17 x3 fun l18 =>
Q (AV.s l18) h16))
theorem G_ref06_Number.t0_eq (J : JT) (Q : AV → AHeap → Prop) (x0 : Int) (x3 : List UInt8) (h : AHeap) : G_ref06_Number.t0 J Q x0 x3 h = atJ prog C 23 J true [1, 1, 0, 0] G_ref06_Number.ann G_ref06_Number.body [(0, (AV.i .i64 x0)), (3, (AV.s x3))] h (kFun prog Tryd.f52 Q) := by kernel_rfl
theorem G_ref06_Number.i0 {Q : AV → AHeap → Prop} {x0 : Int} {x3 : List UInt8} {h : AHeap} (H : G_ref06_Number.t0 (G_ref06_Number.J Q) Q x0 x3 h) : G_ref06_Number.p0 Q x0 x3 h := G_ref06_Number.goH (k := 1) (p := [1, 1, 0, 0]) (by kernel_rfl) ((G_ref06_Number.t0_eq (G_ref06_Number.J Q) Q x0 x3 h).mp H)
def G_ref06_Number.t (J : JT) (Q : AV → AHeap → Prop) (x0 : Int) (h : AHeap) : Prop :=
J 1 [(0, (AV.i .i64 x0)), (3, (AV.s []))] h
theorem G_ref06_Number.t_eq (J : JT) (Q : AV → AHeap → Prop) (x0 : Int) (h : AHeap) : G_ref06_Number.t J Q x0 h = exJ prog C 23 J G_ref06_Number.ann G_ref06_Number.body (initEnv 0 [(AV.i .i64 x0)]) h (kFun prog Tryd.f52 Q) := by kernel_rfl
theorem G_ref06_Number.call {K : AV → AHeap → Prop} {x0 : Int} {h : AHeap} (H : G_ref06_Number.t (G_ref06_Number.J (kRet h K)) (kRet h K) x0 h) : C G_ref06_Number.id [(AV.i .i64 x0)] h K :=
  callJ (P := prog) (fn := Tryd.f52) (ann := G_ref06_Number.ann) (body := G_ref06_Number.body) Tryd.func52 G_ref06_Number.body_eq (by kernel_rfl) G_ref06_Number.dist (by kernel_rfl) ((G_ref06_Number.t_eq (G_ref06_Number.J (kRet h K)) (kRet h K) x0 h).mp H)

--@@ G_strings_Split
/-! ### 53: strings.Split -/
noncomputable def G_strings_Split.body : Code := (Tryd.f53.body).getD .skip
def G_strings_Split.ann : Ann := (.seq 0 [0, 1] .leaf (.seq 0 [4] .leaf .leaf))
theorem G_strings_Split.body_eq : Tryd.f53.body = some G_strings_Split.body := by kernel_rfl
theorem G_strings_Split.dist : noTwice (places G_strings_Split.ann G_strings_Split.body) = true := by kernel_rfl
noncomputable def G_strings_Split.J (Q : AV → AHeap → Prop) : JT := funJ prog C Tryd.f53 G_strings_Split.ann G_strings_Split.body Q
theorem G_strings_Split.goR {Q : AV → AHeap → Prop} {k : Nat} {p : List Nat} (hl : lookJ (places G_strings_Split.ann G_strings_Split.body) k = some (p, false)) {e : Env} {h : AHeap} (hk : atJ prog C 8 (G_strings_Split.J Q) false p G_strings_Split.ann G_strings_Split.body e h (kFun prog Tryd.f53 Q)) : G_strings_Split.J Q k e h := goJ_run (P := prog) (fn := Tryd.f53) (ann := G_strings_Split.ann) (body := G_strings_Split.body) (Q := Q) (k := k) (p := p) (e := e) (h := h) (acall_le X) G_strings_Split.dist hl hk
theorem G_strings_Split.goH {Q : AV → AHeap → Prop} {k : Nat} {p : List Nat} (hl : lookJ (places G_strings_Split.ann G_strings_Split.body) k = some (p, true)) {e : Env} {h : AHeap} (hk : atJ prog C 8 (G_strings_Split.J Q) true p G_strings_Split.ann G_strings_Split.body e h (kFun prog Tryd.f53 Q)) : G_strings_Split.J Q k e h := goJ_head (P := prog) (fn := Tryd.f53) (ann := G_strings_Split.ann) (body := G_strings_Split.body) (Q := Q) (k := k) (p := p) (e := e) (h := h) (acall_le X) G_strings_Split.dist hl hk
def G_strings_Split.t (J : JT) (Q : AV → AHeap → Prop) (x0 : List UInt8) (x1 : List UInt8) (h : AHeap) : Prop :=
C G_strings_genSplit.id [(AV.s x0), (AV.s x1), (AV.i .i64 0), (AV.i .i64 (-1))] h fun v1 h2 =>
Q v1 h2
theorem G_strings_Split.t_eq (J : JT) (Q : AV → AHeap → Prop) (x0 : List UInt8) (x1 : List UInt8) (h : AHeap) : G_strings_Split.t J Q x0 x1 h = exJ prog C 8 J G_strings_Split.ann G_strings_Split.body (initEnv 0 [(AV.s x0), (AV.s x1)]) h (kFun prog Tryd.f53 Q) := by kernel_rfl
theorem G_strings_Split.call {K : AV → AHeap → Prop} {x0 : List UInt8} {x1 : List UInt8} {h : AHeap} (H : G_strings_Split.t (G_strings_Split.J (kRet h K)) (kRet h K) x0 x1 h) : C G_strings_Split.id [(AV.s x0), (AV.s x1)] h K :=
  callJ (P := prog) (fn := Tryd.f53) (ann := G_strings_Split.ann) (body := G_strings_Split.body) Tryd.func53 G_strings_Split.body_eq (by kernel_rfl) G_strings_Split.dist (by kernel_rfl) ((G_strings_Split.t_eq (G_strings_Split.J (kRet h K)) (kRet h K) x0 x1 h).mp H)

--@@ G_der_number
/-! ### 54: intrusion/der.number -/
noncomputable def G_der_number.body : Code := (Tryd.f54.body).getD .skip
def G_der_number.ann : Ann := (.seq 0 [0] .leaf (.seq 0 [0] (.seq 1 [0, 22] .leaf (.br (.seq 0 [2, 3] .leaf .leaf) .leaf)) (.seq 0 [0, 4] .leaf (.seq 0 [4] (.seq 0 [0, 4, 24, 25] .leaf (.one (.loop 2 [0, 4, 24, 25] (.seq 0 [0, 4, 24, 25, 26] .leaf (.seq 0 [0, 4, 24, 25] (.br .leaf .leaf) (.seq 0 [0, 4, 24, 25] (.one (.seq 0 [0, 4, 5, 24, 25] .leaf (.seq 0 [0, 4, 5, 24, 25] (.seq 3 [0, 4, 5, 24, 25, 37] .leaf (.br (.seq 0 [2, 3] .leaf .leaf) .leaf)) .leaf))) .leaf)))))) (.seq 0 [2, 3] .leaf .leaf)))))
theorem G_der_number.body_eq : Tryd.f54.body = some G_der_number.body := by kernel_rfl
theorem G_der_number.dist : noTwice (places G_der_number.ann G_der_number.body) = true := by kernel_rfl
noncomputable def G_der_number.J (Q : AV → AHeap → Prop) : JT := funJ prog C Tryd.f54 G_der_number.ann G_der_number.body Q
theorem G_der_number.goR {Q : AV → AHeap → Prop} {k : Nat} {p : List Nat} (hl : lookJ (places G_der_number.ann G_der_number.body) k = some (p, false)) {e : Env} {h : AHeap} (hk : atJ prog C 50 (G_der_number.J Q) false p G_der_number.ann G_der_number.body e h (kFun prog Tryd.f54 Q)) : G_der_number.J Q k e h := goJ_run (P := prog) (fn := Tryd.f54) (ann := G_der_number.ann) (body := G_der_number.body) (Q := Q) (k := k) (p := p) (e := e) (h := h) (acall_le X) G_der_number.dist hl hk
theorem G_der_number.goH {Q : AV → AHeap → Prop} {k : Nat} {p : List Nat} (hl : lookJ (places G_der_number.ann G_der_number.body) k = some (p, true)) {e : Env} {h : AHeap} (hk : atJ prog C 50 (G_der_number.J Q) true p G_der_number.ann G_der_number.body e h (kFun prog Tryd.f54 Q)) : G_der_number.J Q k e h := goJ_head (P := prog) (fn := Tryd.f54) (ann := G_der_number.ann) (body := G_der_number.body) (Q := Q) (k := k) (p := p) (e := e) (h := h) (acall_le X) G_der_number.dist hl hk
def G_der_number.p0 (Q : AV → AHeap → Prop) (x0 : List UInt8) (x22 : Bool) (h : AHeap) : Prop := G_der_number.J Q 1 [(0, (AV.s x0)), (22, (AV.b x22))] h
theorem G_der_number.j0 (Q : AV → AHeap → Prop) (x0 : List UInt8) (x22 : Bool) (h : AHeap) : G_der_number.J Q 1 [(0, (AV.s x0)), (22, (AV.b x22))] h = G_der_number.p0 Q x0 x22 h := rfl
def G_der_number.p2 (Q : AV → AHeap → Prop) (x0 : List UInt8) (x4 : Int) (x5 : Int) (x24 : Int) (x25 : Int) (x37 : Bool) (h : AHeap) : Prop := G_der_number.J Q 3 [(0, (AV.s x0)), (4, (AV.i .i64 x4)), (5, (AV.i .i64 x5)), (24, (AV.i .i64 x24)), (25, (AV.i .i64 x25)), (37, (AV.b x37))] h
theorem G_der_number.j2 (Q : AV → AHeap → Prop) (x0 : List UInt8) (x4 : Int) (x5 : Int) (x24 : Int) (x25 : Int) (x37 : Bool) (h : AHeap) : G_der_number.J Q 3 [(0, (AV.s x0)), (4, (AV.i .i64 x4)), (5, (AV.i .i64 x5)), (24, (AV.i .i64 x24)), (25, (AV.i .i64 x25)), (37, (AV.b x37))] h = G_der_number.p2 Q x0 x4 x5 x24 x25 x37 h := rfl
def G_der_number.p1 (Q : AV → AHeap → Prop) (x0 : List UInt8) (x4 : Int) (x24 : Int) (x25 : Int) (h : AHeap) : Prop := G_der_number.J Q 2 [(0, (AV.s x0)), (4, (AV.i .i64 x4)), (24, (AV.i .i64 x24)), (25, (AV.i .i64 x25))] h
theorem G_der_number.j1 (Q : AV → AHeap → Prop) (x0 : List UInt8) (x4 : Int) (x24 : Int) (x25 : Int) (h : AHeap) : G_der_number.J Q 2 [(0, (AV.s x0)), (4, (AV.i .i64 x4)), (24, (AV.i .i64 x24)), (25, (AV.i .i64 x25))] h = G_der_number.p1 Q x0 x4 x24 x25 h := rfl
def G_der_number.t0 (J : JT) (Q : AV → AHeap → Prop) (x0 : List UInt8) (x22 : Bool) (h : AHeap) : Prop :=
(bif x22 then
(Q (AV.tu [(AV.i .i64 0), (AV.b false)]) h)
else
(J 2 [(0, (AV.s x0)), (4, (AV.i .i64 0)), (24, (AV.i .i64 (x0.length : Int))), (25, (AV.i .i64 0))] h))
theorem G_der_number.t0_eq (J : JT) (Q : AV → AHeap → Prop) (x0 : List UInt8) (x22 : Bool) (h : AHeap) : G_der_number.t0 J Q x0 x22 h = atJ prog C 50 J false [1, 0, 1] G_der_number.ann G_der_number.body [(0, (AV.s x0)), (22, (AV.b x22))] h (kFun prog Tryd.f54 Q) := by kernel_rfl
theorem G_der_number.i0 {Q : AV → AHeap → Prop} {x0 : List UInt8} {x22 : Bool} {h : AHeap} (H : G_der_number.t0 (G_der_number.J Q) Q x0 x22 h) : G_der_number.p0 Q x0 x22 h := G_der_number.goR (k := 1) (p := [1, 0, 1]) (by kernel_rfl) ((G_der_number.t0_eq (G_der_number.J Q) Q x0 x22 h).mp H)
def G_der_number.t2 (J : JT) (Q : AV → AHeap → Prop) (x0 : List UInt8) (x4 : Int) (x5 : Int) (x24 : Int) (x25 : Int) (x37 : Bool) (h : AHeap) : Prop :=
(bif x37 then
(Q (AV.tu [(AV.i .i64 0), (AV.b false)]) h)
else
(withI (IntKind.wrap .i64 (x4 * 10)) fun n20 =>
pIdxStr (AV.s x0) (AV.i .i64 x5) fun n21 =>
withI (IntKind.wrap .u8 (n21 - 48)) fun n22 =>
withI (IntKind.wrap .i64 (n20 + (IntKind.wrap .i64 n22))) fun n23 =>
withI (IntKind.wrap .i64 (x25 + 1)) fun n25 =>
J 2 [(0, (AV.s x0)), (4, (AV.i .i64 n23)), (24, (AV.i .i64 x24)), (25, (AV.i .i64 n25))] h))
theorem G_der_number.t2_eq (J : JT) (Q : AV → AHeap → Prop) (x0 : List UInt8) (x4 : Int) (x5 : Int) (x24 : Int) (x25 : Int) (x37 : Bool) (h : AHeap) : G_der_number.t2 J Q x0 x4 x5 x24 x25 x37 h = atJ prog C 50 J false [1, 1, 1, 0, 1, 0, 0, 1, 1, 0, 0, 1, 0, 1] G_der_number.ann G_der_number.body [(0, (AV.s x0)), (4, (AV.i .i64 x4)), (5, (AV.i .i64 x5)), (24, (AV.i .i64 x24)), (25, (AV.i .i64 x25)), (37, (AV.b x37))] h (kFun prog Tryd.f54 Q) := by kernel_rfl
theorem G_der_number.i2 {Q : AV → AHeap → Prop} {x0 : List UInt8} {x4 : Int} {x5 : Int} {x24 : Int} {x25 : Int} {x37 : Bool} {h : AHeap} (H : G_der_number.t2 (G_der_number.J Q) Q x0 x4 x5 x24 x25 x37 h) : G_der_number.p2 Q x0 x4 x5 x24 x25 x37 h := G_der_number.goR (k := 3) (p := [1, 1, 1, 0, 1, 0, 0, 1, 1, 0, 0, 1, 0, 1]) (by kernel_rfl) ((G_der_number.t2_eq (G_der_number.J Q) Q x0 x4 x5 x24 x25 x37 h).mp H)
def G_der_number.t1 (J : JT) (Q : AV → AHeap → Prop) (x0 : List UInt8) (x4 : Int) (x24 : Int) (x25 : Int) (h : AHeap) : Prop :=
(bif (decide ((x25 : Int) < x24)) then
(pIdxStr (AV.s x0) (AV.i .i64 x25) fun n14 =>
(bif (decide ((n14 : Int) < 48)) then
(J 3 [(0, (AV.s x0)), (4, (AV.i .i64 x4)), (5, (AV.i .i64 x25)), (24, (AV.i .i64 x24)), (25, (AV.i .i64 x25)), (37, (AV.b true))] h)
else
(pIdxStr (AV.s x0) (AV.i .i64 x25) fun n16 =>
J 3 [(0, (AV.s x0)), (4, (AV.i .i64 x4)), (5, (AV.i .i64 x25)), (24, (AV.i .i64 x24)), (25, (AV.i .i64 x25)), (37, (AV.b (decide ((57 : Int) < n16))))] h)))
else
(Q (AV.tu [(AV.i .i64 x4), (AV.b (decide ((x4 : Int) < 268435456)))]) h))
theorem G_der_number.t1_eq (J : JT) (Q : AV → AHeap → Prop) (x0 : List UInt8) (x4 : Int) (x24 : Int) (x25 : Int) (h : AHeap) : G_der_number.t1 J Q x0 x4 x24 x25 h = atJ prog C 50 J true [1, 1, 1, 0, 1, 0] G_der_number.ann G_der_number.body [(0, (AV.s x0)), (4, (AV.i .i64 x4)), (24, (AV.i .i64 x24)), (25, (AV.i .i64 x25))] h (kFun prog Tryd.f54 Q) := by kernel_rfl
theorem G_der_number.i1 {Q : AV → AHeap → Prop} {x0 : List UInt8} {x4 : Int} {x24 : Int} {x25 : Int} {h : AHeap} (H : G_der_number.t1 (G_der_number.J Q) Q x0 x4 x24 x25 h) : G_der_number.p1 Q x0 x4 x24 x25 h := G_der_number.goH (k := 2) (p := [1, 1, 1, 0, 1, 0]) (by kernel_rfl) ((G_der_number.t1_eq (G_der_number.J Q) Q x0 x4 x24 x25 h).mp H)
def G_der_number.t (J : JT) (Q : AV → AHeap → Prop) (x0 : List UInt8) (h : AHeap) : Prop :=
(bif (decide ((x0 : List UInt8) = [])) then
(J 1 [(0, (AV.s x0)), (22, (AV.b true))] h)
else
((bif (decide ((9 : Int) < (x0.length : Int))) then
(J 1 [(0, (AV.s x0)), (22, (AV.b true))] h)
else
(pIdxStr (AV.s x0) (AV.i .i64 0) fun n3 =>
(bif (decide ((n3 : Int) = 48)) then
(J 1 [(0, (AV.s x0)), (22, (AV.b (decide ((1 : Int) < (x0.length : Int)))))] h)
else
(J 1 [(0, (AV.s x0)), (22, (AV.b false))] h))))))
theorem G_der_number.t_eq (J : JT) (Q : AV → AHeap → Prop) (x0 : List UInt8) (h : AHeap) : G_der_number.t J Q x0 h = exJ prog C 50 J G_der_number.ann G_der_number.body (initEnv 0 [(AV.s x0)]) h (kFun prog Tryd.f54 Q) := by kernel_rfl
theorem G_der_number.call {K : AV → AHeap → Prop} {x0 : List UInt8} {h : AHeap} (H : G_der_number.t (G_der_number.J (kRet h K)) (kRet h K) x0 h) : C G_der_number.id [(AV.s x0)] h K :=
  callJ (P := prog) (fn := Tryd.f54) (ann := G_der_number.ann) (body := G_der_number.body) Tryd.func54 G_der_number.body_eq (by kernel_rfl) G_der_number.dist (by kernel_rfl) ((G_der_number.t_eq (G_der_number.J (kRet h K)) (kRet h K) x0 h).mp H)

--@@ G_ref06_Split
/-! ### 55: intrusion/intrusionref06.Split -/
noncomputable def G_ref06_Split.body : Code := (Tryd.f55.body).getD .skip
def G_ref06_Split.ann : Ann := (.seq 0 [0, 1] .leaf (.seq 0 [0, 1, 5] .leaf (.seq 0 [0, 1, 5, 6] .leaf (.seq 0 [5] (.seq 0 [0, 1, 5, 6, 7] .leaf (.one (.loop 1 [0, 1, 5, 6, 7] (.seq 0 [0, 1, 5, 6, 7] (.seq 0 [0, 1, 5, 6, 7, 11] .leaf (.br .leaf .leaf)) (.seq 3 [0, 1, 5, 6, 7] (.one (.seq 2 [0, 1, 5, 6, 7, 24] .leaf (.br (.seq 0 [0, 1, 5, 7] .leaf .leaf) .leaf))) .leaf))))) (.seq 0 [4] .leaf .leaf)))))
theorem G_ref06_Split.body_eq : Tryd.f55.body = some G_ref06_Split.body := by kernel_rfl
theorem G_ref06_Split.dist : noTwice (places G_ref06_Split.ann G_ref06_Split.body) = true := by kernel_rfl
noncomputable def G_ref06_Split.J (Q : AV → AHeap → Prop) : JT := funJ prog C Tryd.f55 G_ref06_Split.ann G_ref06_Split.body Q
theorem G_ref06_Split.goR {Q : AV → AHeap → Prop} {k : Nat} {p : List Nat} (hl : lookJ (places G_ref06_Split.ann G_ref06_Split.body) k = some (p, false)) {e : Env} {h : AHeap} (hk : atJ prog C 35 (G_ref06_Split.J Q) false p G_ref06_Split.ann G_ref06_Split.body e h (kFun prog Tryd.f55 Q)) : G_ref06_Split.J Q k e h := goJ_run (P := prog) (fn := Tryd.f55) (ann := G_ref06_Split.ann) (body := G_ref06_Split.body) (Q := Q) (k := k) (p := p) (e := e) (h := h) (acall_le X) G_ref06_Split.dist hl hk
theorem G_ref06_Split.goH {Q : AV → AHeap → Prop} {k : Nat} {p : List Nat} (hl : lookJ (places G_ref06_Split.ann G_ref06_Split.body) k = some (p, true)) {e : Env} {h : AHeap} (hk : atJ prog C 35 (G_ref06_Split.J Q) true p G_ref06_Split.ann G_ref06_Split.body e h (kFun prog Tryd.f55 Q)) : G_ref06_Split.J Q k e h := goJ_head (P := prog) (fn := Tryd.f55) (ann := G_ref06_Split.ann) (body := G_ref06_Split.body) (Q := Q) (k := k) (p := p) (e := e) (h := h) (acall_le X) G_ref06_Split.dist hl hk
def G_ref06_Split.p1 (Q : AV → AHeap → Prop) (x0 : List UInt8) (x1 : Int) (x5 : AV) (x6 : Int) (x7 : Int) (x24 : Bool) (h : AHeap) : Prop := G_ref06_Split.J Q 2 [(0, (AV.s x0)), (1, (AV.i .u8 x1)), (5, x5), (6, (AV.i .i64 x6)), (7, (AV.i .i64 x7)), (24, (AV.b x24))] h
theorem G_ref06_Split.j1 (Q : AV → AHeap → Prop) (x0 : List UInt8) (x1 : Int) (x5 : AV) (x6 : Int) (x7 : Int) (x24 : Bool) (h : AHeap) : G_ref06_Split.J Q 2 [(0, (AV.s x0)), (1, (AV.i .u8 x1)), (5, x5), (6, (AV.i .i64 x6)), (7, (AV.i .i64 x7)), (24, (AV.b x24))] h = G_ref06_Split.p1 Q x0 x1 x5 x6 x7 x24 h := rfl
def G_ref06_Split.p2 (Q : AV → AHeap → Prop) (x0 : List UInt8) (x1 : Int) (x5 : AV) (x6 : Int) (x7 : Int) (h : AHeap) : Prop := G_ref06_Split.J Q 3 [(0, (AV.s x0)), (1, (AV.i .u8 x1)), (5, x5), (6, (AV.i .i64 x6)), (7, (AV.i .i64 x7))] h
theorem G_ref06_Split.j2 (Q : AV → AHeap → Prop) (x0 : List UInt8) (x1 : Int) (x5 : AV) (x6 : Int) (x7 : Int) (h : AHeap) : G_ref06_Split.J Q 3 [(0, (AV.s x0)), (1, (AV.i .u8 x1)), (5, x5), (6, (AV.i .i64 x6)), (7, (AV.i .i64 x7))] h = G_ref06_Split.p2 Q x0 x1 x5 x6 x7 h := rfl
def G_ref06_Split.p0 (Q : AV → AHeap → Prop) (x0 : List UInt8) (x1 : Int) (x5 : AV) (x6 : Int) (x7 : Int) (h : AHeap) : Prop := G_ref06_Split.J Q 1 [(0, (AV.s x0)), (1, (AV.i .u8 x1)), (5, x5), (6, (AV.i .i64 x6)), (7, (AV.i .i64 x7))] h
theorem G_ref06_Split.j0 (Q : AV → AHeap → Prop) (x0 : List UInt8) (x1 : Int) (x5 : AV) (x6 : Int) (x7 : Int) (h : AHeap) : G_ref06_Split.J Q 1 [(0, (AV.s x0)), (1, (AV.i .u8 x1)), (5, x5), (6, (AV.i .i64 x6)), (7, (AV.i .i64 x7))] h = G_ref06_Split.p0 Q x0 x1 x5 x6 x7 h := rfl
def G_ref06_Split.t1 (J : JT) (Q : AV → AHeap → Prop) (x0 : List UInt8) (x1 : Int) (x5 : AV) (x6 : Int) (x7 : Int) (x24 : Bool) (h : AHeap) : Prop :=
(bif x24 then
(pSliceStr (AV.s x0) (some (AV.i .i64 x6)) (some (AV.i .i64 x7)) fun l10 =>
pBuildSl 1 1 [(AV.s [])] [(0, 1, (AV.s l10))] h fun v11 h12 =>
pAppend 1 16 x5 v11 h12 fun v13 h14 =>
withI (IntKind.wrap .i64 (x7 + 1)) fun n16 =>
J 3 [(0, (AV.s x0)), (1, (AV.i .u8 x1)), (5, v13), (6, (AV.i .i64 n16)), (7, (AV.i .i64 x7))] h14)
else
(J 3 [(0, (AV.s x0)), (1, (AV.i .u8 x1)), (5, x5), (6, (AV.i .i64 x6)), (7, (AV.i .i64 x7))] h))
theorem G_ref06_Split.t1_eq (J : JT) (Q : AV → AHeap → Prop) (x0 : List UInt8) (x1 : Int) (x5 : AV) (x6 : Int) (x7 : Int) (x24 : Bool) (h : AHeap) : G_ref06_Split.t1 J Q x0 x1 x5 x6 x7 x24 h = atJ prog C 35 J false [1, 1, 1, 0, 1, 0, 0, 1, 0, 0, 1] G_ref06_Split.ann G_ref06_Split.body [(0, (AV.s x0)), (1, (AV.i .u8 x1)), (5, x5), (6, (AV.i .i64 x6)), (7, (AV.i .i64 x7)), (24, (AV.b x24))] h (kFun prog Tryd.f55 Q) := by kernel_rfl
theorem G_ref06_Split.i1 {Q : AV → AHeap → Prop} {x0 : List UInt8} {x1 : Int} {x5 : AV} {x6 : Int} {x7 : Int} {x24 : Bool} {h : AHeap} (H : G_ref06_Split.t1 (G_ref06_Split.J Q) Q x0 x1 x5 x6 x7 x24 h) : G_ref06_Split.p1 Q x0 x1 x5 x6 x7 x24 h := G_ref06_Split.goR (k := 2) (p := [1, 1, 1, 0, 1, 0, 0, 1, 0, 0, 1]) (by kernel_rfl) ((G_ref06_Split.t1_eq (G_ref06_Split.J Q) Q x0 x1 x5 x6 x7 x24 h).mp H)
def G_ref06_Split.t2 (J : JT) (Q : AV → AHeap → Prop) (x0 : List UInt8) (x1 : Int) (x5 : AV) (x6 : Int) (x7 : Int) (h : AHeap) : Prop :=
withI (IntKind.wrap .i64 (x7 + 1)) fun n19 =>
J 1 [(0, (AV.s x0)), (1, (AV.i .u8 x1)), (5, x5), (6, (AV.i .i64 x6)), (7, (AV.i .i64 n19))] h
theorem G_ref06_Split.t2_eq (J : JT) (Q : AV → AHeap → Prop) (x0 : List UInt8) (x1 : Int) (x5 : AV) (x6 : Int) (x7 : Int) (h : AHeap) : G_ref06_Split.t2 J Q x0 x1 x5 x6 x7 h = atJ prog C 35 J false [1, 1, 1, 0, 1, 0, 0, 1, 1] G_ref06_Split.ann G_ref06_Split.body [(0, (AV.s x0)), (1, (AV.i .u8 x1)), (5, x5), (6, (AV.i .i64 x6)), (7, (AV.i .i64 x7))] h (kFun prog Tryd.f55 Q) := by kernel_rfl
theorem G_ref06_Split.i2 {Q : AV → AHeap → Prop} {x0 : List UInt8} {x1 : Int} {x5 : AV} {x6 : Int} {x7 : Int} {h : AHeap} (H : G_ref06_Split.t2 (G_ref06_Split.J Q) Q x0 x1 x5 x6 x7 h) : G_ref06_Split.p2 Q x0 x1 x5 x6 x7 h := G_ref06_Split.goR (k := 3) (p := [1, 1, 1, 0, 1, 0, 0, 1, 1]) (by kernel_rfl) ((G_ref06_Split.t2_eq (G_ref06_Split.J Q) Q x0 x1 x5 x6 x7 h).mp H)
def G_ref06_Split.t0 (J : JT) (Q : AV → AHeap → Prop) (x0 : List UInt8) (x1 : Int) (x5 : AV) (x6 : Int) (x7 : Int) (h : AHeap) : Prop :=
(bif (decide ((x7 : Int) ≤ (x0.length : Int))) then
((bif (decide ((x7 : Int) = (x0.length : Int))) then
(J 2 [(0, (AV.s x0)), (1, (AV.i .u8 x1)), (5, x5), (6, (AV.i .i64 x6)), (7, (AV.i .i64 x7)), (24, (AV.b true))] h)
else
(pIdxStr (AV.s x0) (AV.i .i64 x7) fun n8 =>
J 2 [(0, (AV.s x0)), (1, (AV.i .u8 x1)), (5, x5), (6, (AV.i .i64 x6)), (7, (AV.i .i64 x7)), (24, (AV.b (decide ((n8 : Int) = x1))))] h)))
else
(Q x5 h))
theorem G_ref06_Split.t0_eq (J : JT) (Q : AV → AHeap → Prop) (x0 : List UInt8) (x1 : Int) (x5 : AV) (x6 : Int) (x7 : Int) (h : AHeap) : G_ref06_Split.t0 J Q x0 x1 x5 x6 x7 h = atJ prog C 35 J true [1, 1, 1, 0, 1, 0] G_ref06_Split.ann G_ref06_Split.body [(0, (AV.s x0)), (1, (AV.i .u8 x1)), (5, x5), (6, (AV.i .i64 x6)), (7, (AV.i .i64 x7))] h (kFun prog Tryd.f55 Q) := by kernel_rfl
theorem G_ref06_Split.i0 {Q : AV → AHeap → Prop} {x0 : List UInt8} {x1 : Int} {x5 : AV} {x6 : Int} {x7 : Int} {h : AHeap} (H : G_ref06_Split.t0 (G_ref06_Split.J Q) Q x0 x1 x5 x6 x7 h) : G_ref06_Split.p0 Q x0 x1 x5 x6 x7 h := G_ref06_Split.goH (k := 1) (p := [1, 1, 1, 0, 1, 0]) (by kernel_rfl) ((G_ref06_Split.t0_eq (G_ref06_Split.J Q) Q x0 x1 x5 x6 x7 h).mp H)
def G_ref06_Split.t (J : JT) (Q : AV → AHeap → Prop) (x0 : List UInt8) (x1 : Int) (h : AHeap) : Prop :=
J 1 [(0, (AV.s x0)), (1, (AV.i .u8 x1)), (5, (AV.sl none 0 none)), (6, (AV.i .i64 0)), (7, (AV.i .i64 0))] h
theorem G_ref06_Split.t_eq (J : JT) (Q : AV → AHeap → Prop) (x0 : List UInt8) (x1 : Int) (h : AHeap) : G_ref06_Split.t J Q x0 x1 h = exJ prog C 35 J G_ref06_Split.ann G_ref06_Split.body (initEnv 0 [(AV.s x0), (AV.i .u8 x1)]) h (kFun prog Tryd.f55 Q) := by kernel_rfl
theorem G_ref06_Split.call {K : AV → AHeap → Prop} {x0 : List UInt8} {x1 : Int} {h : AHeap} (H : G_ref06_Split.t (G_ref06_Split.J (kRet h K)) (kRet h K) x0 x1 h) : C G_ref06_Split.id [(AV.s x0), (AV.i .u8 x1)] h K :=
  callJ (P := prog) (fn := Tryd.f55) (ann := G_ref06_Split.ann) (body := G_ref06_Split.body) Tryd.func55 G_ref06_Split.body_eq (by kernel_rfl) G_ref06_Split.dist (by kernel_rfl) ((G_ref06_Split.t_eq (G_ref06_Split.J (kRet h K)) (kRet h K) x0 x1 h).mp H)

--@@ G_ref06_Decimal
/-! ### 56: intrusion/intrusionref06.Decimal -/
noncomputable def G_ref06_Decimal.body : Code := (Tryd.f56.body).getD .skip
def G_ref06_Decimal.ann : Ann := (.seq 0 [0, 1] .leaf (.seq 0 [0, 1] (.seq 1 [0, 1, 19] .leaf (.br (.seq 0 [4] .leaf .leaf) .leaf)) (.seq 0 [0, 1, 5] .leaf (.seq 0 [1, 5] (.seq 0 [0, 1, 5, 6] .leaf (.one (.loop 2 [0, 1, 5, 6] (.seq 0 [0, 1, 5, 6] (.seq 0 [0, 1, 5, 6, 23] .leaf (.br .leaf .leaf)) (.seq 0 [0, 1, 5, 6] (.one (.seq 0 [0, 1, 5, 6] (.seq 3 [0, 1, 5, 6, 35] .leaf (.br (.seq 0 [4] .leaf .leaf) .leaf)) .leaf)) .leaf))))) (.seq 0 [5] (.seq 0 [5, 49] .leaf (.br (.seq 0 [4] .leaf .leaf) .leaf)) (.seq 0 [4] .leaf .leaf))))))
theorem G_ref06_Decimal.body_eq : Tryd.f56.body = some G_ref06_Decimal.body := by kernel_rfl
theorem G_ref06_Decimal.dist : noTwice (places G_ref06_Decimal.ann G_ref06_Decimal.body) = true := by kernel_rfl
noncomputable def G_ref06_Decimal.J (Q : AV → AHeap → Prop) : JT := funJ prog C Tryd.f56 G_ref06_Decimal.ann G_ref06_Decimal.body Q
theorem G_ref06_Decimal.goR {Q : AV → AHeap → Prop} {k : Nat} {p : List Nat} (hl : lookJ (places G_ref06_Decimal.ann G_ref06_Decimal.body) k = some (p, false)) {e : Env} {h : AHeap} (hk : atJ prog C 51 (G_ref06_Decimal.J Q) false p G_ref06_Decimal.ann G_ref06_Decimal.body e h (kFun prog Tryd.f56 Q)) : G_ref06_Decimal.J Q k e h := goJ_run (P := prog) (fn := Tryd.f56) (ann := G_ref06_Decimal.ann) (body := G_ref06_Decimal.body) (Q := Q) (k := k) (p := p) (e := e) (h := h) (acall_le X) G_ref06_Decimal.dist hl hk
theorem G_ref06_Decimal.goH {Q : AV → AHeap → Prop} {k : Nat} {p : List Nat} (hl : lookJ (places G_ref06_Decimal.ann G_ref06_Decimal.body) k = some (p, true)) {e : Env} {h : AHeap} (hk : atJ prog C 51 (G_ref06_Decimal.J Q) true p G_ref06_Decimal.ann G_ref06_Decimal.body e h (kFun prog Tryd.f56 Q)) : G_ref06_Decimal.J Q k e h := goJ_head (P := prog) (fn := Tryd.f56) (ann := G_ref06_Decimal.ann) (body := G_ref06_Decimal.body) (Q := Q) (k := k) (p := p) (e := e) (h := h) (acall_le X) G_ref06_Decimal.dist hl hk
def G_ref06_Decimal.p0 (Q : AV → AHeap → Prop) (x0 : List UInt8) (x1 : Int) (x19 : Bool) (h : AHeap) : Prop := G_ref06_Decimal.J Q 1 [(0, (AV.s x0)), (1, (AV.i .i64 x1)), (19, (AV.b x19))] h
theorem G_ref06_Decimal.j0 (Q : AV → AHeap → Prop) (x0 : List UInt8) (x1 : Int) (x19 : Bool) (h : AHeap) : G_ref06_Decimal.J Q 1 [(0, (AV.s x0)), (1, (AV.i .i64 x1)), (19, (AV.b x19))] h = G_ref06_Decimal.p0 Q x0 x1 x19 h := rfl
def G_ref06_Decimal.p2 (Q : AV → AHeap → Prop) (x0 : List UInt8) (x1 : Int) (x5 : Int) (x6 : Int) (x35 : Bool) (h : AHeap) : Prop := G_ref06_Decimal.J Q 3 [(0, (AV.s x0)), (1, (AV.i .i64 x1)), (5, (AV.i .i64 x5)), (6, (AV.i .i64 x6)), (35, (AV.b x35))] h
theorem G_ref06_Decimal.j2 (Q : AV → AHeap → Prop) (x0 : List UInt8) (x1 : Int) (x5 : Int) (x6 : Int) (x35 : Bool) (h : AHeap) : G_ref06_Decimal.J Q 3 [(0, (AV.s x0)), (1, (AV.i .i64 x1)), (5, (AV.i .i64 x5)), (6, (AV.i .i64 x6)), (35, (AV.b x35))] h = G_ref06_Decimal.p2 Q x0 x1 x5 x6 x35 h := rfl
def G_ref06_Decimal.p1 (Q : AV → AHeap → Prop) (x0 : List UInt8) (x1 : Int) (x5 : Int) (x6 : Int) (h : AHeap) : Prop := G_ref06_Decimal.J Q 2 [(0, (AV.s x0)), (1, (AV.i .i64 x1)), (5, (AV.i .i64 x5)), (6, (AV.i .i64 x6))] h
theorem G_ref06_Decimal.j1 (Q : AV → AHeap → Prop) (x0 : List UInt8) (x1 : Int) (x5 : Int) (x6 : Int) (h : AHeap) : G_ref06_Decimal.J Q 2 [(0, (AV.s x0)), (1, (AV.i .i64 x1)), (5, (AV.i .i64 x5)), (6, (AV.i .i64 x6))] h = G_ref06_Decimal.p1 Q x0 x1 x5 x6 h := rfl
def G_ref06_Decimal.t0 (J : JT) (Q : AV → AHeap → Prop) (x0 : List UInt8) (x1 : Int) (x19 : Bool) (h : AHeap) : Prop :=
(bif x19 then
(Q (AV.i .i64 (-1)) h)
else
(J 2 [(0, (AV.s x0)), (1, (AV.i .i64 x1)), (5, (AV.i .i64 0)), (6, (AV.i .i64 0))] h))
theorem G_ref06_Decimal.t0_eq (J : JT) (Q : AV → AHeap → Prop) (x0 : List UInt8) (x1 : Int) (x19 : Bool) (h : AHeap) : G_ref06_Decimal.t0 J Q x0 x1 x19 h = atJ prog C 51 J false [1, 0, 1] G_ref06_Decimal.ann G_ref06_Decimal.body [(0, (AV.s x0)), (1, (AV.i .i64 x1)), (19, (AV.b x19))] h (kFun prog Tryd.f56 Q) := by kernel_rfl
theorem G_ref06_Decimal.i0 {Q : AV → AHeap → Prop} {x0 : List UInt8} {x1 : Int} {x19 : Bool} {h : AHeap} (H : G_ref06_Decimal.t0 (G_ref06_Decimal.J Q) Q x0 x1 x19 h) : G_ref06_Decimal.p0 Q x0 x1 x19 h := G_ref06_Decimal.goR (k := 1) (p := [1, 0, 1]) (by kernel_rfl) ((G_ref06_Decimal.t0_eq (G_ref06_Decimal.J Q) Q x0 x1 x19 h).mp H)
def G_ref06_Decimal.t2 (J : JT) (Q : AV → AHeap → Prop) (x0 : List UInt8) (x1 : Int) (x5 : Int) (x6 : Int) (x35 : Bool) (h : AHeap) : Prop :=
(bif x35 then
(Q (AV.i .i64 (-1)) h)
else
(withI (IntKind.wrap .i64 (10 * x5)) fun n18 =>
pIdxStr (AV.s x0) (AV.i .i64 x6) fun n19 =>
withI (IntKind.wrap .i64 (n18 + (IntKind.wrap .i64 n19))) fun n20 =>
withI (IntKind.wrap .i64 (n20 - 48)) fun n21 =>
withI (IntKind.wrap .i64 (x1 + 1)) fun n22 =>
withI (IntKind.wrap .i64 (x6 + 1)) fun n24 =>
J 2 [(0, (AV.s x0)), (1, (AV.i .i64 x1)), (5, (AV.i .i64 (mmI false n21 n22))), (6, (AV.i .i64 n24))] h))
theorem G_ref06_Decimal.t2_eq (J : JT) (Q : AV → AHeap → Prop) (x0 : List UInt8) (x1 : Int) (x5 : Int) (x6 : Int) (x35 : Bool) (h : AHeap) : G_ref06_Decimal.t2 J Q x0 x1 x5 x6 x35 h = atJ prog C 51 J false [1, 1, 1, 0, 1, 0, 0, 1, 0, 0, 0, 1] G_ref06_Decimal.ann G_ref06_Decimal.body [(0, (AV.s x0)), (1, (AV.i .i64 x1)), (5, (AV.i .i64 x5)), (6, (AV.i .i64 x6)), (35, (AV.b x35))] h (kFun prog Tryd.f56 Q) := by kernel_rfl
theorem G_ref06_Decimal.i2 {Q : AV → AHeap → Prop} {x0 : List UInt8} {x1 : Int} {x5 : Int} {x6 : Int} {x35 : Bool} {h : AHeap} (H : G_ref06_Decimal.t2 (G_ref06_Decimal.J Q) Q x0 x1 x5 x6 x35 h) : G_ref06_Decimal.p2 Q x0 x1 x5 x6 x35 h := G_ref06_Decimal.goR (k := 3) (p := [1, 1, 1, 0, 1, 0, 0, 1, 0, 0, 0, 1]) (by kernel_rfl) ((G_ref06_Decimal.t2_eq (G_ref06_Decimal.J Q) Q x0 x1 x5 x6 x35 h).mp H)
def G_ref06_Decimal.t1 (J : JT) (Q : AV → AHeap → Prop) (x0 : List UInt8) (x1 : Int) (x5 : Int) (x6 : Int) (h : AHeap) : Prop :=
(bif (decide ((x6 : Int) < (x0.length : Int))) then
(pIdxStr (AV.s x0) (AV.i .i64 x6) fun n12 =>
(bif (decide ((n12 : Int) < 48)) then
(J 3 [(0, (AV.s x0)), (1, (AV.i .i64 x1)), (5, (AV.i .i64 x5)), (6, (AV.i .i64 x6)), (35, (AV.b true))] h)
else
(pIdxStr (AV.s x0) (AV.i .i64 x6) fun n14 =>
J 3 [(0, (AV.s x0)), (1, (AV.i .i64 x1)), (5, (AV.i .i64 x5)), (6, (AV.i .i64 x6)), (35, (AV.b (decide ((57 : Int) < n14))))] h)))
else
((bif (decide ((x1 : Int) < x5)) then
(Q (AV.i .i64 (-2)) h)
else
(Q (AV.i .i64 x5) h))))
theorem G_ref06_Decimal.t1_eq (J : JT) (Q : AV → AHeap → Prop) (x0 : List UInt8) (x1 : Int) (x5 : Int) (x6 : Int) (h : AHeap) : G_ref06_Decimal.t1 J Q x0 x1 x5 x6 h = atJ prog C 51 J true [1, 1, 1, 0, 1, 0] G_ref06_Decimal.ann G_ref06_Decimal.body [(0, (AV.s x0)), (1, (AV.i .i64 x1)), (5, (AV.i .i64 x5)), (6, (AV.i .i64 x6))] h (kFun prog Tryd.f56 Q) := by kernel_rfl
theorem G_ref06_Decimal.i1 {Q : AV → AHeap → Prop} {x0 : List UInt8} {x1 : Int} {x5 : Int} {x6 : Int} {h : AHeap} (H : G_ref06_Decimal.t1 (G_ref06_Decimal.J Q) Q x0 x1 x5 x6 h) : G_ref06_Decimal.p1 Q x0 x1 x5 x6 h := G_ref06_Decimal.goH (k := 2) (p := [1, 1, 1, 0, 1, 0]) (by kernel_rfl) ((G_ref06_Decimal.t1_eq (G_ref06_Decimal.J Q) Q x0 x1 x5 x6 h).mp H)
def G_ref06_Decimal.t (J : JT) (Q : AV → AHeap → Prop) (x0 : List UInt8) (x1 : Int) (h : AHeap) : Prop :=
(bif (decide (((x0.length : Int) : Int) = 0)) then
(J 1 [(0, (AV.s x0)), (1, (AV.i .i64 x1)), (19, (AV.b true))] h)
else
((bif (decide ((1 : Int) < (x0.length : Int))) then
(pIdxStr (AV.s x0) (AV.i .i64 0) fun n2 =>
J 1 [(0, (AV.s x0)), (1, (AV.i .i64 x1)), (19, (AV.b (decide ((n2 : Int) = 48))))] h)
else
(J 1 [(0, (AV.s x0)), (1, (AV.i .i64 x1)), (19, (AV.b false))] h))))
theorem G_ref06_Decimal.t_eq (J : JT) (Q : AV → AHeap → Prop) (x0 : List UInt8) (x1 : Int) (h : AHeap) : G_ref06_Decimal.t J Q x0 x1 h = exJ prog C 51 J G_ref06_Decimal.ann G_ref06_Decimal.body (initEnv 0 [(AV.s x0), (AV.i .i64 x1)]) h (kFun prog Tryd.f56 Q) := by kernel_rfl
theorem G_ref06_Decimal.call {K : AV → AHeap → Prop} {x0 : List UInt8} {x1 : Int} {h : AHeap} (H : G_ref06_Decimal.t (G_ref06_Decimal.J (kRet h K)) (kRet h K) x0 x1 h) : C G_ref06_Decimal.id [(AV.s x0), (AV.i .i64 x1)] h K :=
  callJ (P := prog) (fn := Tryd.f56) (ann := G_ref06_Decimal.ann) (body := G_ref06_Decimal.body) Tryd.func56 G_ref06_Decimal.body_eq (by kernel_rfl) G_ref06_Decimal.dist (by kernel_rfl) ((G_ref06_Decimal.t_eq (G_ref06_Decimal.J (kRet h K)) (kRet h K) x0 x1 h).mp H)

--@@ G_ref33_arc
/-! ### 57: intrusion/intrusionref33.arc -/
noncomputable def G_ref33_arc.body : Code := (Tryd.f57.body).getD .skip
def G_ref33_arc.ann : Ann := (.seq 0 [0] .leaf (.seq 0 [0, 3] .leaf (.seq 0 [3] (.seq 0 [0, 3] .leaf (.one (.loop 1 [0, 3] (.seq 0 [0, 3] (.seq 0 [0, 3, 11] .leaf (.br .leaf .leaf)) (.seq 0 [0, 3] (.one .leaf) .leaf))))) (.seq 0 [2] .leaf .leaf))))
theorem G_ref33_arc.body_eq : Tryd.f57.body = some G_ref33_arc.body := by kernel_rfl
theorem G_ref33_arc.dist : noTwice (places G_ref33_arc.ann G_ref33_arc.body) = true := by kernel_rfl
noncomputable def G_ref33_arc.J (Q : AV → AHeap → Prop) : JT := funJ prog C Tryd.f57 G_ref33_arc.ann G_ref33_arc.body Q
theorem G_ref33_arc.goR {Q : AV → AHeap → Prop} {k : Nat} {p : List Nat} (hl : lookJ (places G_ref33_arc.ann G_ref33_arc.body) k = some (p, false)) {e : Env} {h : AHeap} (hk : atJ prog C 23 (G_ref33_arc.J Q) false p G_ref33_arc.ann G_ref33_arc.body e h (kFun prog Tryd.f57 Q)) : G_ref33_arc.J Q k e h := goJ_run (P := prog) (fn := Tryd.f57) (ann := G_ref33_arc.ann) (body := G_ref33_arc.body) (Q := Q) (k := k) (p := p) (e := e) (h := h) (acall_le X) G_ref33_arc.dist hl hk
theorem G_ref33_arc.goH {Q : AV → AHeap → Prop} {k : Nat} {p : List Nat} (hl : lookJ (places G_ref33_arc.ann G_ref33_arc.body) k = some (p, true)) {e : Env} {h : AHeap} (hk : atJ prog C 23 (G_ref33_arc.J Q) true p G_ref33_arc.ann G_ref33_arc.body e h (kFun prog Tryd.f57 Q)) : G_ref33_arc.J Q k e h := goJ_head (P := prog) (fn := Tryd.f57) (ann := G_ref33_arc.ann) (body := G_ref33_arc.body) (Q := Q) (k := k) (p := p) (e := e) (h := h) (acall_le X) G_ref33_arc.dist hl hk
def G_ref33_arc.p0 (Q : AV → AHeap → Prop) (x0 : Int) (x3 : AV) (h : AHeap) : Prop := G_ref33_arc.J Q 1 [(0, (AV.i .i64 x0)), (3, x3)] h
theorem G_ref33_arc.j0 (Q : AV → AHeap → Prop) (x0 : Int) (x3 : AV) (h : AHeap) : G_ref33_arc.J Q 1 [(0, (AV.i .i64 x0)), (3, x3)] h = G_ref33_arc.p0 Q x0 x3 h := rfl
def G_ref33_arc.t0 (J : JT) (Q : AV → AHeap → Prop) (x0 : Int) (x3 : AV) (h : AHeap) : Prop :=
(bif (decide ((0 : Int) < x0)) then
(pRem x0 128 fun n10 =>
withI (IntKind.wrap .i64 (128 + n10)) fun n11 =>
pBuildSl 1 1 [(AV.i .u8 0)] [(0, 1, (AV.i .u8 (IntKind.wrap .u8 n11)))] h fun v12 h13 =>
pAppend 1 1 v12 x3 h13 fun v14 h15 =>
pQuo .i64 x0 128 fun n17 =>
J 1 [(0, (AV.i .i64 n17)), (3, v14)] h15)
else
(pBytesStr x3 h fun l19 =>
Q (AV.s l19) h))
theorem G_ref33_arc.t0_eq (J : JT) (Q : AV → AHeap → Prop) (x0 : Int) (x3 : AV) (h : AHeap) : G_ref33_arc.t0 J Q x0 x3 h = atJ prog C 23 J true [1, 1, 0, 1, 0] G_ref33_arc.ann G_ref33_arc.body [(0, (AV.i .i64 x0)), (3, x3)] h (kFun prog Tryd.f57 Q) := by kernel_rfl
theorem G_ref33_arc.i0 {Q : AV → AHeap → Prop} {x0 : Int} {x3 : AV} {h : AHeap} (H : G_ref33_arc.t0 (G_ref33_arc.J Q) Q x0 x3 h) : G_ref33_arc.p0 Q x0 x3 h := G_ref33_arc.goH (k := 1) (p := [1, 1, 0, 1, 0]) (by kernel_rfl) ((G_ref33_arc.t0_eq (G_ref33_arc.J Q) Q x0 x3 h).mp H)
def G_ref33_arc.t (J : JT) (Q : AV → AHeap → Prop) (x0 : Int) (h : AHeap) : Prop :=
pRem x0 128 fun n1 =>
pBuildSl 1 1 [(AV.i .u8 0)] [(0, 1, (AV.i .u8 (IntKind.wrap .u8 n1)))] h fun v2 h3 =>
pQuo .i64 x0 128 fun n5 =>
J 1 [(0, (AV.i .i64 n5)), (3, v2)] h3
theorem G_ref33_arc.t_eq (J : JT) (Q : AV → AHeap → Prop) (x0 : Int) (h : AHeap) : G_ref33_arc.t J Q x0 h = exJ prog C 23 J G_ref33_arc.ann G_ref33_arc.body (initEnv 0 [(AV.i .i64 x0)]) h (kFun prog Tryd.f57 Q) := by kernel_rfl
theorem G_ref33_arc.call {K : AV → AHeap → Prop} {x0 : Int} {h : AHeap} (H : G_ref33_arc.t (G_ref33_arc.J (kRet h K)) (kRet h K) x0 h) : C G_ref33_arc.id [(AV.i .i64 x0)] h K :=
  callJ (P := prog) (fn := Tryd.f57) (ann := G_ref33_arc.ann) (body := G_ref33_arc.body) Tryd.func57 G_ref33_arc.body_eq (by kernel_rfl) G_ref33_arc.dist (by kernel_rfl) ((G_ref33_arc.t_eq (G_ref33_arc.J (kRet h K)) (kRet h K) x0 h).mp H)

--@@ G_der_length
/-! ### 58: intrusion/der.length -/
noncomputable def G_der_length.body : Code := (Tryd.f58.body).getD .skip
def G_der_length.ann : Ann := (.seq 0 [0] .leaf (.seq 0 [0] (.seq 0 [0, 9] .leaf (.br (.seq 0 [2, 3, 4] .leaf .leaf) .leaf)) (.seq 0 [0, 5] (.ord (.neu 0 (.neu 1 (.neu 2 (.neu 3 (.neu 4 (.neu 5 (.eff 6 .done .stop)))))))) (.seq 0 [0, 5] (.seq 0 [0, 5, 16] .leaf (.br (.seq 0 [2, 3, 4] .leaf .leaf) .leaf)) (.seq 0 [0, 6] .leaf (.seq 0 [0, 6] (.one (.seq 1 [0, 6, 21] .leaf (.br (.seq 0 [2, 3, 4] .leaf .leaf) (.seq 0 [0, 6, 28] .leaf (.br (.seq 0 [2, 3, 4] .leaf .leaf) .leaf))))) (.seq 0 [0, 5, 6] .leaf (.seq 0 [0, 5, 6] (.seq 0 [0, 5, 6, 33, 34] .leaf (.one (.loop 2 [0, 5, 6, 33, 34] (.seq 0 [0, 5, 6, 33, 34, 35] .leaf (.seq 0 [0, 5, 6, 33, 34] (.br .leaf .leaf) (.seq 0 [0, 5, 6, 33, 34] (.one (.seq 0 [0, 5, 6, 7, 33, 34] .leaf .leaf)) .leaf)))))) (.seq 0 [0, 5, 6] (.seq 3 [0, 5, 6, 54] .leaf (.br (.seq 0 [2, 3, 4] .leaf .leaf) .leaf)) (.seq 0 [2, 3, 4] (.ord (.neu 0 (.neu 1 (.neu 2 (.neu 3 (.neu 4 (.neu 5 (.neu 6 .done)))))))) .leaf))))))))))
theorem G_der_length.body_eq : Tryd.f58.body = some G_der_length.body := by kernel_rfl
theorem G_der_length.dist : noTwice (places G_der_length.ann G_der_length.body) = true := by kernel_rfl
noncomputable def G_der_length.J (Q : AV → AHeap → Prop) : JT := funJ prog C Tryd.f58 G_der_length.ann G_der_length.body Q
theorem G_der_length.goR {Q : AV → AHeap → Prop} {k : Nat} {p : List Nat} (hl : lookJ (places G_der_length.ann G_der_length.body) k = some (p, false)) {e : Env} {h : AHeap} (hk : atJ prog C 59 (G_der_length.J Q) false p G_der_length.ann G_der_length.body e h (kFun prog Tryd.f58 Q)) : G_der_length.J Q k e h := goJ_run (P := prog) (fn := Tryd.f58) (ann := G_der_length.ann) (body := G_der_length.body) (Q := Q) (k := k) (p := p) (e := e) (h := h) (acall_le X) G_der_length.dist hl hk
theorem G_der_length.goH {Q : AV → AHeap → Prop} {k : Nat} {p : List Nat} (hl : lookJ (places G_der_length.ann G_der_length.body) k = some (p, true)) {e : Env} {h : AHeap} (hk : atJ prog C 59 (G_der_length.J Q) true p G_der_length.ann G_der_length.body e h (kFun prog Tryd.f58 Q)) : G_der_length.J Q k e h := goJ_head (P := prog) (fn := Tryd.f58) (ann := G_der_length.ann) (body := G_der_length.body) (Q := Q) (k := k) (p := p) (e := e) (h := h) (acall_le X) G_der_length.dist hl hk
def G_der_length.p0 (Q : AV → AHeap → Prop) (x0 : List UInt8) (x6 : Int) (x21 : Bool) (h : AHeap) : Prop := G_der_length.J Q 1 [(0, (AV.s x0)), (6, (AV.i .i64 x6)), (21, (AV.b x21))] h
theorem G_der_length.j0 (Q : AV → AHeap → Prop) (x0 : List UInt8) (x6 : Int) (x21 : Bool) (h : AHeap) : G_der_length.J Q 1 [(0, (AV.s x0)), (6, (AV.i .i64 x6)), (21, (AV.b x21))] h = G_der_length.p0 Q x0 x6 x21 h := rfl
def G_der_length.p1 (Q : AV → AHeap → Prop) (x0 : List UInt8) (x5 : Int) (x6 : Int) (x33 : Int) (x34 : Int) (h : AHeap) : Prop := G_der_length.J Q 2 [(0, (AV.s x0)), (5, (AV.i .i64 x5)), (6, (AV.i .i64 x6)), (33, (AV.i .i64 x33)), (34, (AV.i .i64 x34))] h
theorem G_der_length.j1 (Q : AV → AHeap → Prop) (x0 : List UInt8) (x5 : Int) (x6 : Int) (x33 : Int) (x34 : Int) (h : AHeap) : G_der_length.J Q 2 [(0, (AV.s x0)), (5, (AV.i .i64 x5)), (6, (AV.i .i64 x6)), (33, (AV.i .i64 x33)), (34, (AV.i .i64 x34))] h = G_der_length.p1 Q x0 x5 x6 x33 x34 h := rfl
def G_der_length.p2 (Q : AV → AHeap → Prop) (x0 : List UInt8) (x5 : Int) (x6 : Int) (x54 : Bool) (h : AHeap) : Prop := G_der_length.J Q 3 [(0, (AV.s x0)), (5, (AV.i .i64 x5)), (6, (AV.i .i64 x6)), (54, (AV.b x54))] h
theorem G_der_length.j2 (Q : AV → AHeap → Prop) (x0 : List UInt8) (x5 : Int) (x6 : Int) (x54 : Bool) (h : AHeap) : G_der_length.J Q 3 [(0, (AV.s x0)), (5, (AV.i .i64 x5)), (6, (AV.i .i64 x6)), (54, (AV.b x54))] h = G_der_length.p2 Q x0 x5 x6 x54 h := rfl
def G_der_length.t0 (J : JT) (Q : AV → AHeap → Prop) (x0 : List UInt8) (x6 : Int) (x21 : Bool) (h : AHeap) : Prop :=
(bif x21 then
(Q (AV.tu [(AV.i .i64 0), (AV.s []), (AV.i .i64 2)]) h)
else
((bif (decide (((x0.length : Int) : Int) < x6)) then
(Q (AV.tu [(AV.i .i64 0), (AV.s []), (AV.i .i64 1)]) h)
else
(J 2 [(0, (AV.s x0)), (5, (AV.i .i64 0)), (6, (AV.i .i64 x6)), (33, (AV.i .i64 x6)), (34, (AV.i .i64 0))] h))))
theorem G_der_length.t0_eq (J : JT) (Q : AV → AHeap → Prop) (x0 : List UInt8) (x6 : Int) (x21 : Bool) (h : AHeap) : G_der_length.t0 J Q x0 x6 x21 h = atJ prog C 59 J false [1, 1, 1, 1, 1, 0, 0, 1] G_der_length.ann G_der_length.body [(0, (AV.s x0)), (6, (AV.i .i64 x6)), (21, (AV.b x21))] h (kFun prog Tryd.f58 Q) := by kernel_rfl
theorem G_der_length.i0 {Q : AV → AHeap → Prop} {x0 : List UInt8} {x6 : Int} {x21 : Bool} {h : AHeap} (H : G_der_length.t0 (G_der_length.J Q) Q x0 x6 x21 h) : G_der_length.p0 Q x0 x6 x21 h := G_der_length.goR (k := 1) (p := [1, 1, 1, 1, 1, 0, 0, 1]) (by kernel_rfl) ((G_der_length.t0_eq (G_der_length.J Q) Q x0 x6 x21 h).mp H)
def G_der_length.t1 (J : JT) (Q : AV → AHeap → Prop) (x0 : List UInt8) (x5 : Int) (x6 : Int) (x33 : Int) (x34 : Int) (h : AHeap) : Prop :=
(bif (decide ((x34 : Int) < x33)) then
(pShl .i64 x5 8 fun n24 =>
pIdxStr (AV.s x0) (AV.i .i64 x34) fun n25 =>
withI (bitsOp .or .i64 n24 (IntKind.wrap .i64 n25)) fun n26 =>
withI (IntKind.wrap .i64 (x34 + 1)) fun n28 =>
J 2 [(0, (AV.s x0)), (5, (AV.i .i64 n26)), (6, (AV.i .i64 x6)), (33, (AV.i .i64 x33)), (34, (AV.i .i64 n28))] h)
else
((bif (decide ((x5 : Int) < 128)) then
(J 3 [(0, (AV.s x0)), (5, (AV.i .i64 x5)), (6, (AV.i .i64 x6)), (54, (AV.b true))] h)
else
(withI (IntKind.wrap .i64 (x6 - 1)) fun n31 =>
withI (IntKind.wrap .i64 (8 * n31)) fun n32 =>
pShr .i64 x5 n32 fun n33 =>
J 3 [(0, (AV.s x0)), (5, (AV.i .i64 x5)), (6, (AV.i .i64 x6)), (54, (AV.b (decide ((n33 : Int) = 0))))] h))))
theorem G_der_length.t1_eq (J : JT) (Q : AV → AHeap → Prop) (x0 : List UInt8) (x5 : Int) (x6 : Int) (x33 : Int) (x34 : Int) (h : AHeap) : G_der_length.t1 J Q x0 x5 x6 x33 x34 h = atJ prog C 59 J true [1, 1, 1, 1, 1, 1, 1, 0, 1, 0] G_der_length.ann G_der_length.body [(0, (AV.s x0)), (5, (AV.i .i64 x5)), (6, (AV.i .i64 x6)), (33, (AV.i .i64 x33)), (34, (AV.i .i64 x34))] h (kFun prog Tryd.f58 Q) := by kernel_rfl
theorem G_der_length.i1 {Q : AV → AHeap → Prop} {x0 : List UInt8} {x5 : Int} {x6 : Int} {x33 : Int} {x34 : Int} {h : AHeap} (H : G_der_length.t1 (G_der_length.J Q) Q x0 x5 x6 x33 x34 h) : G_der_length.p1 Q x0 x5 x6 x33 x34 h := G_der_length.goH (k := 2) (p := [1, 1, 1, 1, 1, 1, 1, 0, 1, 0]) (by kernel_rfl) ((G_der_length.t1_eq (G_der_length.J Q) Q x0 x5 x6 x33 x34 h).mp H)
def G_der_length.t2 (J : JT) (Q : AV → AHeap → Prop) (x0 : List UInt8) (x5 : Int) (x6 : Int) (x54 : Bool) (h : AHeap) : Prop :=
(bif x54 then
(Q (AV.tu [(AV.i .i64 0), (AV.s []), (AV.i .i64 2)]) h)
else
(pSliceStr (AV.s x0) (some (AV.i .i64 x6)) none fun l37 =>
Q (AV.tu [(AV.i .i64 x5), (AV.s l37), (AV.i .i64 0)]) h))
theorem G_der_length.t2_eq (J : JT) (Q : AV → AHeap → Prop) (x0 : List UInt8) (x5 : Int) (x6 : Int) (x54 : Bool) (h : AHeap) : G_der_length.t2 J Q x0 x5 x6 x54 h = atJ prog C 59 J false [1, 1, 1, 1, 1, 1, 1, 1, 0, 1] G_der_length.ann G_der_length.body [(0, (AV.s x0)), (5, (AV.i .i64 x5)), (6, (AV.i .i64 x6)), (54, (AV.b x54))] h (kFun prog Tryd.f58 Q) := by kernel_rfl
theorem G_der_length.i2 {Q : AV → AHeap → Prop} {x0 : List UInt8} {x5 : Int} {x6 : Int} {x54 : Bool} {h : AHeap} (H : G_der_length.t2 (G_der_length.J Q) Q x0 x5 x6 x54 h) : G_der_length.p2 Q x0 x5 x6 x54 h := G_der_length.goR (k := 3) (p := [1, 1, 1, 1, 1, 1, 1, 1, 0, 1]) (by kernel_rfl) ((G_der_length.t2_eq (G_der_length.J Q) Q x0 x5 x6 x54 h).mp H)
def G_der_length.t (J : JT) (Q : AV → AHeap → Prop) (x0 : List UInt8) (h : AHeap) : Prop :=
(bif (decide ((x0 : List UInt8) = [])) then
(Q (AV.tu [(AV.i .i64 0), (AV.s []), (AV.i .i64 1)]) h)
else
(pIdxStr (AV.s x0) (AV.i .i64 0) fun n4 =>
pSliceStr (AV.s x0) (some (AV.i .i64 1)) none fun l5 =>
(bif (decide (((IntKind.wrap .i64 n4) : Int) < 128)) then
(Q (AV.tu [(AV.i .i64 (IntKind.wrap .i64 n4)), (AV.s l5), (AV.i .i64 0)]) h)
else
(withI (IntKind.wrap .i64 ((IntKind.wrap .i64 n4) - 128)) fun n10 =>
(bif (decide ((n10 : Int) < 1)) then
(J 1 [(0, (AV.s l5)), (6, (AV.i .i64 n10)), (21, (AV.b true))] h)
else
(J 1 [(0, (AV.s l5)), (6, (AV.i .i64 n10)), (21, (AV.b (decide ((3 : Int) < n10))))] h))))))
theorem G_der_length.t_eq (J : JT) (Q : AV → AHeap → Prop) (x0 : List UInt8) (h : AHeap) : G_der_length.t J Q x0 h = exJ prog C 59 J G_der_length.ann G_der_length.body (initEnv 0 [(AV.s x0)]) h (kFun prog Tryd.f58 Q) := by kernel_rfl
theorem G_der_length.call {K : AV → AHeap → Prop} {x0 : List UInt8} {h : AHeap} (H : G_der_length.t (G_der_length.J (kRet h K)) (kRet h K) x0 h) : C G_der_length.id [(AV.s x0)] h K :=
  callJ (P := prog) (fn := Tryd.f58) (ann := G_der_length.ann) (body := G_der_length.body) Tryd.func58 G_der_length.body_eq (by kernel_rfl) G_der_length.dist (by kernel_rfl) ((G_der_length.t_eq (G_der_length.J (kRet h K)) (kRet h K) x0 h).mp H)

--@@ G_ref33_Scan_size
/-! ### 59: (*intrusion/intrusionref33.Scan).size -/
noncomputable def G_ref33_Scan_size.body : Code := (Tryd.f59.body).getD .skip
def G_ref33_Scan_size.ann : Ann := (.seq 0 [0, 1] .leaf (.seq 0 [0, 1] (.seq 0 [0, 1, 15] .leaf (.br (.seq 0 [4, 5] .leaf .leaf) .leaf)) (.seq 0 [0, 1, 6] (.ord (.neu 0 (.neu 1 (.neu 2 (.neu 3 (.neu 4 (.neu 5 (.neu 6 (.neu 7 (.neu 8 (.neu 9 (.neu 10 .done)))))))))))) (.seq 0 [0, 1, 6] .leaf (.seq 0 [0, 1, 6] (.seq 0 [0, 1, 6, 34] .leaf (.br (.seq 0 [4, 5] .leaf .leaf) .leaf)) (.seq 0 [0, 1, 7] .leaf (.seq 0 [0, 1, 7] (.seq 1 [0, 1, 7, 43] .leaf (.br (.seq 0 [4, 5] .leaf .leaf) .leaf)) (.seq 0 [0, 7] (.seq 0 [0, 7, 51] .leaf (.br (.seq 0 [4, 5] .leaf .leaf) .leaf)) (.seq 0 [0, 7, 8] .leaf (.seq 0 [0, 7, 8] (.seq 0 [0, 7, 8, 9] .leaf (.one (.loop 2 [0, 7, 8, 9] (.seq 0 [0, 7, 8, 9] (.seq 0 [0, 7, 8, 9, 54] .leaf (.br .leaf .leaf)) (.seq 0 [0, 7, 8, 9] (.one (.ord (.neu 0 (.neu 1 (.neu 2 (.neu 3 (.neu 4 (.neu 5 (.neu 6 (.neu 7 (.neu 8 (.neu 9 (.neu 10 (.neu 11 (.neu 12 (.neu 13 (.neu 14 (.eff 15 .done .stop)))))))))))))))))) .leaf))))) (.seq 0 [7, 8] .leaf (.seq 0 [8] (.seq 3 [8, 94] .leaf (.br (.seq 0 [4, 5] .leaf .leaf) .leaf)) (.seq 0 [4, 5] .leaf .leaf)))))))))))))
theorem G_ref33_Scan_size.body_eq : Tryd.f59.body = some G_ref33_Scan_size.body := by kernel_rfl
theorem G_ref33_Scan_size.dist : noTwice (places G_ref33_Scan_size.ann G_ref33_Scan_size.body) = true := by kernel_rfl
noncomputable def G_ref33_Scan_size.J (Q : AV → AHeap → Prop) : JT := funJ prog C Tryd.f59 G_ref33_Scan_size.ann G_ref33_Scan_size.body Q
theorem G_ref33_Scan_size.goR {Q : AV → AHeap → Prop} {k : Nat} {p : List Nat} (hl : lookJ (places G_ref33_Scan_size.ann G_ref33_Scan_size.body) k = some (p, false)) {e : Env} {h : AHeap} (hk : atJ prog C 96 (G_ref33_Scan_size.J Q) false p G_ref33_Scan_size.ann G_ref33_Scan_size.body e h (kFun prog Tryd.f59 Q)) : G_ref33_Scan_size.J Q k e h := goJ_run (P := prog) (fn := Tryd.f59) (ann := G_ref33_Scan_size.ann) (body := G_ref33_Scan_size.body) (Q := Q) (k := k) (p := p) (e := e) (h := h) (acall_le X) G_ref33_Scan_size.dist hl hk
theorem G_ref33_Scan_size.goH {Q : AV → AHeap → Prop} {k : Nat} {p : List Nat} (hl : lookJ (places G_ref33_Scan_size.ann G_ref33_Scan_size.body) k = some (p, true)) {e : Env} {h : AHeap} (hk : atJ prog C 96 (G_ref33_Scan_size.J Q) true p G_ref33_Scan_size.ann G_ref33_Scan_size.body e h (kFun prog Tryd.f59 Q)) : G_ref33_Scan_size.J Q k e h := goJ_head (P := prog) (fn := Tryd.f59) (ann := G_ref33_Scan_size.ann) (body := G_ref33_Scan_size.body) (Q := Q) (k := k) (p := p) (e := e) (h := h) (acall_le X) G_ref33_Scan_size.dist hl hk
def G_ref33_Scan_size.p0 (Q : AV → AHeap → Prop) (x0 : AV) (x1 : Int) (x7 : Int) (x43 : Bool) (h : AHeap) : Prop := G_ref33_Scan_size.J Q 1 [(0, x0), (1, (AV.i .i64 x1)), (7, (AV.i .i64 x7)), (43, (AV.b x43))] h
theorem G_ref33_Scan_size.j0 (Q : AV → AHeap → Prop) (x0 : AV) (x1 : Int) (x7 : Int) (x43 : Bool) (h : AHeap) : G_ref33_Scan_size.J Q 1 [(0, x0), (1, (AV.i .i64 x1)), (7, (AV.i .i64 x7)), (43, (AV.b x43))] h = G_ref33_Scan_size.p0 Q x0 x1 x7 x43 h := rfl
def G_ref33_Scan_size.p1 (Q : AV → AHeap → Prop) (x0 : AV) (x7 : Int) (x8 : Int) (x9 : Int) (h : AHeap) : Prop := G_ref33_Scan_size.J Q 2 [(0, x0), (7, (AV.i .i64 x7)), (8, (AV.i .i64 x8)), (9, (AV.i .i64 x9))] h
theorem G_ref33_Scan_size.j1 (Q : AV → AHeap → Prop) (x0 : AV) (x7 : Int) (x8 : Int) (x9 : Int) (h : AHeap) : G_ref33_Scan_size.J Q 2 [(0, x0), (7, (AV.i .i64 x7)), (8, (AV.i .i64 x8)), (9, (AV.i .i64 x9))] h = G_ref33_Scan_size.p1 Q x0 x7 x8 x9 h := rfl
def G_ref33_Scan_size.p2 (Q : AV → AHeap → Prop) (x8 : Int) (x94 : Bool) (h : AHeap) : Prop := G_ref33_Scan_size.J Q 3 [(8, (AV.i .i64 x8)), (94, (AV.b x94))] h
theorem G_ref33_Scan_size.j2 (Q : AV → AHeap → Prop) (x8 : Int) (x94 : Bool) (h : AHeap) : G_ref33_Scan_size.J Q 3 [(8, (AV.i .i64 x8)), (94, (AV.b x94))] h = G_ref33_Scan_size.p2 Q x8 x94 h := rfl
def G_ref33_Scan_size.t0 (J : JT) (Q : AV → AHeap → Prop) (x0 : AV) (x1 : Int) (x7 : Int) (x43 : Bool) (h : AHeap) : Prop :=
(bif x43 then
(Q (AV.tu [(AV.i .i64 0), (AV.i .i64 2)]) h)
else
(pNil x0 fun v36 =>
pFieldAddr 1 v36 fun v37 =>
pLoad1 v37 h fun v38 =>
asI .i64 v38 fun n39 =>
withI (IntKind.wrap .i64 (x1 - n39)) fun n40 =>
(bif (decide ((n40 : Int) < x7)) then
(Q (AV.tu [(AV.i .i64 0), (AV.i .i64 1)]) h)
else
(J 2 [(0, x0), (7, (AV.i .i64 x7)), (8, (AV.i .i64 0)), (9, (AV.i .i64 0))] h))))
theorem G_ref33_Scan_size.t0_eq (J : JT) (Q : AV → AHeap → Prop) (x0 : AV) (x1 : Int) (x7 : Int) (x43 : Bool) (h : AHeap) : G_ref33_Scan_size.t0 J Q x0 x1 x7 x43 h = atJ prog C 96 J false [1, 1, 1, 1, 1, 1, 0, 1] G_ref33_Scan_size.ann G_ref33_Scan_size.body [(0, x0), (1, (AV.i .i64 x1)), (7, (AV.i .i64 x7)), (43, (AV.b x43))] h (kFun prog Tryd.f59 Q) := by kernel_rfl
theorem G_ref33_Scan_size.i0 {Q : AV → AHeap → Prop} {x0 : AV} {x1 : Int} {x7 : Int} {x43 : Bool} {h : AHeap} (H : G_ref33_Scan_size.t0 (G_ref33_Scan_size.J Q) Q x0 x1 x7 x43 h) : G_ref33_Scan_size.p0 Q x0 x1 x7 x43 h := G_ref33_Scan_size.goR (k := 1) (p := [1, 1, 1, 1, 1, 1, 0, 1]) (by kernel_rfl) ((G_ref33_Scan_size.t0_eq (G_ref33_Scan_size.J Q) Q x0 x1 x7 x43 h).mp H)
def G_ref33_Scan_size.t1 (J : JT) (Q : AV → AHeap → Prop) (x0 : AV) (x7 : Int) (x8 : Int) (x9 : Int) (h : AHeap) : Prop :=
(bif (decide ((x9 : Int) < x7)) then
(pShl .i64 x8 8 fun n49 =>
pNil x0 fun v50 =>
pFieldAddr 0 v50 fun v51 =>
pLoad1 v51 h fun v52 =>
asS v52 fun l53 =>
pNil x0 fun v54 =>
pFieldAddr 1 v54 fun v55 =>
pLoad1 v55 h fun v56 =>
asI .i64 v56 fun n57 =>
withI (IntKind.wrap .i64 (n57 + x9)) fun n58 =>
pIdxStr (AV.s l53) (AV.i .i64 n58) fun n59 =>
withI (bitsOp .or .i64 n49 (IntKind.wrap .i64 n59)) fun n60 =>
withI (IntKind.wrap .i64 (x9 + 1)) fun n62 =>
J 2 [(0, x0), (7, (AV.i .i64 x7)), (8, (AV.i .i64 n60)), (9, (AV.i .i64 n62))] h)
else
(pNil x0 fun v64 =>
pFieldAddr 1 v64 fun v65 =>
pLoad1 v65 h fun v66 =>
asI .i64 v66 fun n67 =>
withI (IntKind.wrap .i64 (n67 + x7)) fun n68 =>
pNil x0 fun v69 =>
pFieldAddr 1 v69 fun v70 =>
pStore 1 v70 (AV.i .i64 n68) h fun h71 =>
(bif (decide ((x8 : Int) < 128)) then
(J 3 [(8, (AV.i .i64 x8)), (94, (AV.b true))] h71)
else
((bif (decide ((1 : Int) < x7)) then
(withI (IntKind.wrap .i64 (x7 - 1)) fun n74 =>
withI (IntKind.wrap .i64 (8 * n74)) fun n75 =>
pShl .i64 1 (IntKind.wrap .u64 n75) fun n76 =>
J 3 [(8, (AV.i .i64 x8)), (94, (AV.b (decide ((x8 : Int) < n76))))] h71)
else
(J 3 [(8, (AV.i .i64 x8)), (94, (AV.b false))] h71))))))
theorem G_ref33_Scan_size.t1_eq (J : JT) (Q : AV → AHeap → Prop) (x0 : AV) (x7 : Int) (x8 : Int) (x9 : Int) (h : AHeap) : G_ref33_Scan_size.t1 J Q x0 x7 x8 x9 h = atJ prog C 96 J true [1, 1, 1, 1, 1, 1, 1, 1, 1, 0, 1, 0] G_ref33_Scan_size.ann G_ref33_Scan_size.body [(0, x0), (7, (AV.i .i64 x7)), (8, (AV.i .i64 x8)), (9, (AV.i .i64 x9))] h (kFun prog Tryd.f59 Q) := by kernel_rfl
theorem G_ref33_Scan_size.i1 {Q : AV → AHeap → Prop} {x0 : AV} {x7 : Int} {x8 : Int} {x9 : Int} {h : AHeap} (H : G_ref33_Scan_size.t1 (G_ref33_Scan_size.J Q) Q x0 x7 x8 x9 h) : G_ref33_Scan_size.p1 Q x0 x7 x8 x9 h := G_ref33_Scan_size.goH (k := 2) (p := [1, 1, 1, 1, 1, 1, 1, 1, 1, 0, 1, 0]) (by kernel_rfl) ((G_ref33_Scan_size.t1_eq (G_ref33_Scan_size.J Q) Q x0 x7 x8 x9 h).mp H)
def G_ref33_Scan_size.t2 (J : JT) (Q : AV → AHeap → Prop) (x8 : Int) (x94 : Bool) (h : AHeap) : Prop :=
(bif x94 then
(Q (AV.tu [(AV.i .i64 0), (AV.i .i64 2)]) h)
else
(Q (AV.tu [(AV.i .i64 x8), (AV.i .i64 0)]) h))
theorem G_ref33_Scan_size.t2_eq (J : JT) (Q : AV → AHeap → Prop) (x8 : Int) (x94 : Bool) (h : AHeap) : G_ref33_Scan_size.t2 J Q x8 x94 h = atJ prog C 96 J false [1, 1, 1, 1, 1, 1, 1, 1, 1, 1, 1, 0, 1] G_ref33_Scan_size.ann G_ref33_Scan_size.body [(8, (AV.i .i64 x8)), (94, (AV.b x94))] h (kFun prog Tryd.f59 Q) := by kernel_rfl
theorem G_ref33_Scan_size.i2 {Q : AV → AHeap → Prop} {x8 : Int} {x94 : Bool} {h : AHeap} (H : G_ref33_Scan_size.t2 (G_ref33_Scan_size.J Q) Q x8 x94 h) : G_ref33_Scan_size.p2 Q x8 x94 h := G_ref33_Scan_size.goR (k := 3) (p := [1, 1, 1, 1, 1, 1, 1, 1, 1, 1, 1, 0, 1]) (by kernel_rfl) ((G_ref33_Scan_size.t2_eq (G_ref33_Scan_size.J Q) Q x8 x94 h).mp H)
def G_ref33_Scan_size.t (J : JT) (Q : AV → AHeap → Prop) (x0 : AV) (x1 : Int) (h : AHeap) : Prop :=
pNil x0 fun v1 =>
pFieldAddr 1 v1 fun v2 =>
pLoad1 v2 h fun v3 =>
asI .i64 v3 fun n4 =>
(bif (decide ((x1 : Int) ≤ n4)) then
(Q (AV.tu [(AV.i .i64 0), (AV.i .i64 1)]) h)
else
(pNil x0 fun v8 =>
pFieldAddr 0 v8 fun v9 =>
pLoad1 v9 h fun v10 =>
asS v10 fun l11 =>
pNil x0 fun v12 =>
pFieldAddr 1 v12 fun v13 =>
pLoad1 v13 h fun v14 =>
asI .i64 v14 fun n15 =>
pIdxStr (AV.s l11) (AV.i .i64 n15) fun n16 =>
pNil x0 fun v18 =>
pFieldAddr 1 v18 fun v19 =>
pLoad1 v19 h fun v20 =>
asI .i64 v20 fun n21 =>
withI (IntKind.wrap .i64 (n21 + 1)) fun n22 =>
pNil x0 fun v23 =>
pFieldAddr 1 v23 fun v24 =>
pStore 1 v24 (AV.i .i64 n22) h fun h25 =>
(bif (decide (((IntKind.wrap .i64 n16) : Int) < 128)) then
(Q (AV.tu [(AV.i .i64 (IntKind.wrap .i64 n16)), (AV.i .i64 0)]) h25)
else
(withI (IntKind.wrap .i64 ((IntKind.wrap .i64 n16) - 128)) fun n30 =>
(bif (decide ((n30 : Int) < 1)) then
(J 1 [(0, x0), (1, (AV.i .i64 x1)), (7, (AV.i .i64 n30)), (43, (AV.b true))] h25)
else
(J 1 [(0, x0), (1, (AV.i .i64 x1)), (7, (AV.i .i64 n30)), (43, (AV.b (decide ((3 : Int) < n30))))] h25))))))
theorem G_ref33_Scan_size.t_eq (J : JT) (Q : AV → AHeap → Prop) (x0 : AV) (x1 : Int) (h : AHeap) : G_ref33_Scan_size.t J Q x0 x1 h = exJ prog C 96 J G_ref33_Scan_size.ann G_ref33_Scan_size.body (initEnv 0 [x0, (AV.i .i64 x1)]) h (kFun prog Tryd.f59 Q) := by kernel_rfl
theorem G_ref33_Scan_size.call {K : AV → AHeap → Prop} {x0 : AV} {x1 : Int} {h : AHeap} (H : G_ref33_Scan_size.t (G_ref33_Scan_size.J (kRet h K)) (kRet h K) x0 x1 h) : C G_ref33_Scan_size.id [x0, (AV.i .i64 x1)] h K :=
  callJ (P := prog) (fn := Tryd.f59) (ann := G_ref33_Scan_size.ann) (body := G_ref33_Scan_size.body) Tryd.func59 G_ref33_Scan_size.body_eq (by kernel_rfl) G_ref33_Scan_size.dist (by kernel_rfl) ((G_ref33_Scan_size.t_eq (G_ref33_Scan_size.J (kRet h K)) (kRet h K) x0 x1 h).mp H)

--@@ G_der_all_api_Der_
/-! ### 60: intrusion/der.all[intrusion/api.Der] -/
noncomputable def G_der_all_api_Der_.body : Code := (Tryd.f60.body).getD .skip
def G_der_all_api_Der_.ann : Ann := (.seq 0 [0, 1] .leaf (.seq 0 [] (.seq 0 [1, 7, 8, 9] .leaf (.one (.loop 1 [1, 7, 8, 9] (.seq 0 [1, 7, 8, 9, 10] .leaf (.seq 0 [1, 7, 8, 9] (.br .leaf .leaf) (.seq 0 [1, 7, 8, 9] (.one (.seq 0 [1, 6, 7, 8, 9] .leaf (.seq 0 [1, 7, 8, 9, 16] .leaf (.br (.seq 0 [4] .leaf .leaf) .leaf)))) .leaf)))))) (.seq 0 [4] .leaf .leaf)))
theorem G_der_all_api_Der_.body_eq : Tryd.f60.body = some G_der_all_api_Der_.body := by kernel_rfl
theorem G_der_all_api_Der_.dist : noTwice (places G_der_all_api_Der_.ann G_der_all_api_Der_.body) = true := by kernel_rfl
noncomputable def G_der_all_api_Der_.J (Q : AV → AHeap → Prop) : JT := funJ prog C Tryd.f60 G_der_all_api_Der_.ann G_der_all_api_Der_.body Q
theorem G_der_all_api_Der_.goR {Q : AV → AHeap → Prop} {k : Nat} {p : List Nat} (hl : lookJ (places G_der_all_api_Der_.ann G_der_all_api_Der_.body) k = some (p, false)) {e : Env} {h : AHeap} (hk : atJ prog C 18 (G_der_all_api_Der_.J Q) false p G_der_all_api_Der_.ann G_der_all_api_Der_.body e h (kFun prog Tryd.f60 Q)) : G_der_all_api_Der_.J Q k e h := goJ_run (P := prog) (fn := Tryd.f60) (ann := G_der_all_api_Der_.ann) (body := G_der_all_api_Der_.body) (Q := Q) (k := k) (p := p) (e := e) (h := h) (acall_le X) G_der_all_api_Der_.dist hl hk
theorem G_der_all_api_Der_.goH {Q : AV → AHeap → Prop} {k : Nat} {p : List Nat} (hl : lookJ (places G_der_all_api_Der_.ann G_der_all_api_Der_.body) k = some (p, true)) {e : Env} {h : AHeap} (hk : atJ prog C 18 (G_der_all_api_Der_.J Q) true p G_der_all_api_Der_.ann G_der_all_api_Der_.body e h (kFun prog Tryd.f60 Q)) : G_der_all_api_Der_.J Q k e h := goJ_head (P := prog) (fn := Tryd.f60) (ann := G_der_all_api_Der_.ann) (body := G_der_all_api_Der_.body) (Q := Q) (k := k) (p := p) (e := e) (h := h) (acall_le X) G_der_all_api_Der_.dist hl hk
def G_der_all_api_Der_.p0 (Q : AV → AHeap → Prop) (x1 : AV) (x7 : AV) (x8 : Int) (x9 : Int) (h : AHeap) : Prop := G_der_all_api_Der_.J Q 1 [(1, x1), (7, x7), (8, (AV.i .i64 x8)), (9, (AV.i .i64 x9))] h
theorem G_der_all_api_Der_.j0 (Q : AV → AHeap → Prop) (x1 : AV) (x7 : AV) (x8 : Int) (x9 : Int) (h : AHeap) : G_der_all_api_Der_.J Q 1 [(1, x1), (7, x7), (8, (AV.i .i64 x8)), (9, (AV.i .i64 x9))] h = G_der_all_api_Der_.p0 Q x1 x7 x8 x9 h := rfl
def G_der_all_api_Der_.t0 (J : JT) (Q : AV → AHeap → Prop) (x1 : AV) (x7 : AV) (x8 : Int) (x9 : Int) (h : AHeap) : Prop :=
(bif (decide ((x9 : Int) < x8)) then
(pIdxAddrSl 5 x7 (AV.i .i64 x9) h fun v6 =>
pLoadN 5 v6 h fun v7 =>
pAlloc [(AV.i .i64 0), (AV.i .i64 0), (AV.b false), (AV.s []), (AV.sl none 0 none)] h fun v8 h9 =>
pStore 5 v8 v7 h9 fun h10 =>
pLoadN 5 v8 h10 fun v12 =>
pCallV C x1 [v12] h10 fun v13 h14 =>
asB v13 fun c15 =>
(bif (!c15) then
(Q (AV.b false) h14)
else
(withI (IntKind.wrap .i64 (x9 + 1)) fun n19 =>
J 1 [(1, x1), (7, x7), (8, (AV.i .i64 x8)), (9, (AV.i .i64 n19))] h14)))
else
(Q (AV.b true) h))
theorem G_der_all_api_Der_.t0_eq (J : JT) (Q : AV → AHeap → Prop) (x1 : AV) (x7 : AV) (x8 : Int) (x9 : Int) (h : AHeap) : G_der_all_api_Der_.t0 J Q x1 x7 x8 x9 h = atJ prog C 18 J true [1, 0, 1, 0] G_der_all_api_Der_.ann G_der_all_api_Der_.body [(1, x1), (7, x7), (8, (AV.i .i64 x8)), (9, (AV.i .i64 x9))] h (kFun prog Tryd.f60 Q) := by kernel_rfl
theorem G_der_all_api_Der_.i0 {Q : AV → AHeap → Prop} {x1 : AV} {x7 : AV} {x8 : Int} {x9 : Int} {h : AHeap} (H : G_der_all_api_Der_.t0 (G_der_all_api_Der_.J Q) Q x1 x7 x8 x9 h) : G_der_all_api_Der_.p0 Q x1 x7 x8 x9 h := G_der_all_api_Der_.goH (k := 1) (p := [1, 0, 1, 0]) (by kernel_rfl) ((G_der_all_api_Der_.t0_eq (G_der_all_api_Der_.J Q) Q x1 x7 x8 x9 h).mp H)
def G_der_all_api_Der_.t (J : JT) (Q : AV → AHeap → Prop) (x0 : AV) (x1 : AV) (h : AHeap) : Prop :=
pLenSl x0 fun n1 =>
J 1 [(1, x1), (7, x0), (8, (AV.i .i64 n1)), (9, (AV.i .i64 0))] h
theorem G_der_all_api_Der_.t_eq (J : JT) (Q : AV → AHeap → Prop) (x0 : AV) (x1 : AV) (h : AHeap) : G_der_all_api_Der_.t J Q x0 x1 h = exJ prog C 18 J G_der_all_api_Der_.ann G_der_all_api_Der_.body (initEnv 0 [x0, x1]) h (kFun prog Tryd.f60 Q) := by kernel_rfl
theorem G_der_all_api_Der_.call {K : AV → AHeap → Prop} {x0 : AV} {x1 : AV} {h : AHeap} (H : G_der_all_api_Der_.t (G_der_all_api_Der_.J (kRet h K)) (kRet h K) x0 x1 h) : C G_der_all_api_Der_.id [x0, x1] h K :=
  callJ (P := prog) (fn := Tryd.f60) (ann := G_der_all_api_Der_.ann) (body := G_der_all_api_Der_.body) Tryd.func60 G_der_all_api_Der_.body_eq (by kernel_rfl) G_der_all_api_Der_.dist (by kernel_rfl) ((G_der_all_api_Der_.t_eq (G_der_all_api_Der_.J (kRet h K)) (kRet h K) x0 x1 h).mp H)

--@@ G_der_reader_check_1
/-! ### 61: (*intrusion/der.reader).check$1 -/
noncomputable def G_der_reader_check_1.body : Code := (Tryd.f61.body).getD .skip
def G_der_reader_check_1.ann : Ann := (.seq 0 [1, 2, 3, 4] .leaf (.seq 0 [3] .leaf (.seq 0 [5] .leaf .leaf)))
theorem G_der_reader_check_1.body_eq : Tryd.f61.body = some G_der_reader_check_1.body := by kernel_rfl
theorem G_der_reader_check_1.dist : noTwice (places G_der_reader_check_1.ann G_der_reader_check_1.body) = true := by kernel_rfl
noncomputable def G_der_reader_check_1.J (Q : AV → AHeap → Prop) : JT := funJ prog C Tryd.f61 G_der_reader_check_1.ann G_der_reader_check_1.body Q
theorem G_der_reader_check_1.goR {Q : AV → AHeap → Prop} {k : Nat} {p : List Nat} (hl : lookJ (places G_der_reader_check_1.ann G_der_reader_check_1.body) k = some (p, false)) {e : Env} {h : AHeap} (hk : atJ prog C 13 (G_der_reader_check_1.J Q) false p G_der_reader_check_1.ann G_der_reader_check_1.body e h (kFun prog Tryd.f61 Q)) : G_der_reader_check_1.J Q k e h := goJ_run (P := prog) (fn := Tryd.f61) (ann := G_der_reader_check_1.ann) (body := G_der_reader_check_1.body) (Q := Q) (k := k) (p := p) (e := e) (h := h) (acall_le X) G_der_reader_check_1.dist hl hk
theorem G_der_reader_check_1.goH {Q : AV → AHeap → Prop} {k : Nat} {p : List Nat} (hl : lookJ (places G_der_reader_check_1.ann G_der_reader_check_1.body) k = some (p, true)) {e : Env} {h : AHeap} (hk : atJ prog C 13 (G_der_reader_check_1.J Q) true p G_der_reader_check_1.ann G_der_reader_check_1.body e h (kFun prog Tryd.f61 Q)) : G_der_reader_check_1.J Q k e h := goJ_head (P := prog) (fn := Tryd.f61) (ann := G_der_reader_check_1.ann) (body := G_der_reader_check_1.body) (Q := Q) (k := k) (p := p) (e := e) (h := h) (acall_le X) G_der_reader_check_1.dist hl hk
def G_der_reader_check_1.t (J : JT) (Q : AV → AHeap → Prop) (x0 : AV) (x1 : AV) (x2 : AV) (x3 : AV) (h : AHeap) : Prop :=
pBox x0 h fun v0 h1 =>
pLoad1 x1 h1 fun v3 =>
pLoadN 5 v0 h1 fun v4 =>
pLoad1 x2 h1 fun v5 =>
asI .i64 v5 fun n6 =>
withI (IntKind.wrap .i64 (n6 + 1)) fun n7 =>
C G_der_reader_check.id [v3, v4, (AV.i .i64 n7)] h1 fun v8 h9 =>
asI .i64 v8 fun n10 =>
pStore 1 x3 (AV.i .i64 n10) h9 fun h11 =>
pLoad1 x3 h11 fun v13 =>
asI .i64 v13 fun n14 =>
Q (AV.b (decide ((n14 : Int) = 0))) h11
theorem G_der_reader_check_1.t_eq (J : JT) (Q : AV → AHeap → Prop) (x0 : AV) (x1 : AV) (x2 : AV) (x3 : AV) (h : AHeap) : G_der_reader_check_1.t J Q x0 x1 x2 x3 h = exJ prog C 13 J G_der_reader_check_1.ann G_der_reader_check_1.body (initEnv 0 [x0, x1, x2, x3]) h (kFun prog Tryd.f61 Q) := by kernel_rfl
theorem G_der_reader_check_1.call {K : AV → AHeap → Prop} {x0 : AV} {x1 : AV} {x2 : AV} {x3 : AV} {h : AHeap} (H : G_der_reader_check_1.t (G_der_reader_check_1.J (kRet h K)) (kRet h K) x0 x1 x2 x3 h) : C G_der_reader_check_1.id [x0, x1, x2, x3] h K :=
  callJ (P := prog) (fn := Tryd.f61) (ann := G_der_reader_check_1.ann) (body := G_der_reader_check_1.body) Tryd.func61 G_der_reader_check_1.body_eq (by kernel_rfl) G_der_reader_check_1.dist (by kernel_rfl) ((G_der_reader_check_1.t_eq (G_der_reader_check_1.J (kRet h K)) (kRet h K) x0 x1 x2 x3 h).mp H)

--@@ G_ref33_length
/-! ### 62: intrusion/intrusionref33.length -/
noncomputable def G_ref33_length.body : Code := (Tryd.f62.body).getD .skip
def G_ref33_length.ann : Ann := (.seq 0 [0] .leaf (.seq 0 [0] (.seq 0 [0, 6] .leaf (.br (.seq 0 [2] .leaf .leaf) .leaf)) (.seq 0 [0, 3] .leaf (.seq 0 [3] (.seq 0 [3, 4] .leaf (.one (.loop 1 [3, 4] (.seq 0 [3, 4] (.seq 0 [3, 4, 13] .leaf (.br .leaf .leaf)) (.seq 0 [3, 4] (.one .leaf) .leaf))))) (.seq 0 [2] .leaf .leaf)))))
theorem G_ref33_length.body_eq : Tryd.f62.body = some G_ref33_length.body := by kernel_rfl
theorem G_ref33_length.dist : noTwice (places G_ref33_length.ann G_ref33_length.body) = true := by kernel_rfl
noncomputable def G_ref33_length.J (Q : AV → AHeap → Prop) : JT := funJ prog C Tryd.f62 G_ref33_length.ann G_ref33_length.body Q
theorem G_ref33_length.goR {Q : AV → AHeap → Prop} {k : Nat} {p : List Nat} (hl : lookJ (places G_ref33_length.ann G_ref33_length.body) k = some (p, false)) {e : Env} {h : AHeap} (hk : atJ prog C 30 (G_ref33_length.J Q) false p G_ref33_length.ann G_ref33_length.body e h (kFun prog Tryd.f62 Q)) : G_ref33_length.J Q k e h := goJ_run (P := prog) (fn := Tryd.f62) (ann := G_ref33_length.ann) (body := G_ref33_length.body) (Q := Q) (k := k) (p := p) (e := e) (h := h) (acall_le X) G_ref33_length.dist hl hk
theorem G_ref33_length.goH {Q : AV → AHeap → Prop} {k : Nat} {p : List Nat} (hl : lookJ (places G_ref33_length.ann G_ref33_length.body) k = some (p, true)) {e : Env} {h : AHeap} (hk : atJ prog C 30 (G_ref33_length.J Q) true p G_ref33_length.ann G_ref33_length.body e h (kFun prog Tryd.f62 Q)) : G_ref33_length.J Q k e h := goJ_head (P := prog) (fn := Tryd.f62) (ann := G_ref33_length.ann) (body := G_ref33_length.body) (Q := Q) (k := k) (p := p) (e := e) (h := h) (acall_le X) G_ref33_length.dist hl hk
def G_ref33_length.p0 (Q : AV → AHeap → Prop) (x3 : AV) (x4 : Int) (h : AHeap) : Prop := G_ref33_length.J Q 1 [(3, x3), (4, (AV.i .i64 x4))] h
theorem G_ref33_length.j0 (Q : AV → AHeap → Prop) (x3 : AV) (x4 : Int) (h : AHeap) : G_ref33_length.J Q 1 [(3, x3), (4, (AV.i .i64 x4))] h = G_ref33_length.p0 Q x3 x4 h := rfl
def G_ref33_length.t0 (J : JT) (Q : AV → AHeap → Prop) (x3 : AV) (x4 : Int) (h : AHeap) : Prop :=
(bif (decide ((0 : Int) < x4)) then
(pBuildSl 1 1 [(AV.i .u8 0)] [(0, 1, (AV.i .u8 (IntKind.wrap .u8 x4)))] h fun v12 h13 =>
pAppend 1 1 v12 x3 h13 fun v14 h15 =>
pShr .i64 x4 8 fun n17 =>
J 1 [(3, v14), (4, (AV.i .i64 n17))] h15)
else
(pLenSl x3 fun n19 =>
withI (IntKind.wrap .i64 (128 + n19)) fun n20 =>
pBuildSl 1 1 [(AV.i .u8 0)] [(0, 1, (AV.i .u8 (IntKind.wrap .u8 n20)))] h fun v21 h22 =>
pBytesStr v21 h22 fun l23 =>
pBytesStr x3 h22 fun l24 =>
pCat l23 l24 fun l25 =>
Q (AV.s l25) h22))
theorem G_ref33_length.t0_eq (J : JT) (Q : AV → AHeap → Prop) (x3 : AV) (x4 : Int) (h : AHeap) : G_ref33_length.t0 J Q x3 x4 h = atJ prog C 30 J true [1, 1, 1, 0, 1, 0] G_ref33_length.ann G_ref33_length.body [(3, x3), (4, (AV.i .i64 x4))] h (kFun prog Tryd.f62 Q) := by kernel_rfl
theorem G_ref33_length.i0 {Q : AV → AHeap → Prop} {x3 : AV} {x4 : Int} {h : AHeap} (H : G_ref33_length.t0 (G_ref33_length.J Q) Q x3 x4 h) : G_ref33_length.p0 Q x3 x4 h := G_ref33_length.goH (k := 1) (p := [1, 1, 1, 0, 1, 0]) (by kernel_rfl) ((G_ref33_length.t0_eq (G_ref33_length.J Q) Q x3 x4 h).mp H)
def G_ref33_length.t (J : JT) (Q : AV → AHeap → Prop) (x0 : Int) (h : AHeap) : Prop :=
(bif (decide ((x0 : Int) < 128)) then
(pBuildSl 1 1 [(AV.i .u8 0)] [(0, 1, (AV.i .u8 (IntKind.wrap .u8 x0)))] h fun v2 h3 =>
pBytesStr v2 h3 fun l4 =>
Q (AV.s l4) h3)
else
(J 1 [(3, (AV.sl none 0 none)), (4, (AV.i .i64 x0))] h))
theorem G_ref33_length.t_eq (J : JT) (Q : AV → AHeap → Prop) (x0 : Int) (h : AHeap) : G_ref33_length.t J Q x0 h = exJ prog C 30 J G_ref33_length.ann G_ref33_length.body (initEnv 0 [(AV.i .i64 x0)]) h (kFun prog Tryd.f62 Q) := by kernel_rfl
theorem G_ref33_length.call {K : AV → AHeap → Prop} {x0 : Int} {h : AHeap} (H : G_ref33_length.t (G_ref33_length.J (kRet h K)) (kRet h K) x0 h) : C G_ref33_length.id [(AV.i .i64 x0)] h K :=
  callJ (P := prog) (fn := Tryd.f62) (ann := G_ref33_length.ann) (body := G_ref33_length.body) Tryd.func62 G_ref33_length.body_eq (by kernel_rfl) G_ref33_length.dist (by kernel_rfl) ((G_ref33_length.t_eq (G_ref33_length.J (kRet h K)) (kRet h K) x0 h).mp H)

--@@ G_der_leap
/-! ### 63: intrusion/der.leap -/
noncomputable def G_der_leap.body : Code := (Tryd.f63.body).getD .skip
def G_der_leap.ann : Ann := (.seq 0 [0] .leaf (.seq 1 [2] .leaf .leaf))
theorem G_der_leap.body_eq : Tryd.f63.body = some G_der_leap.body := by kernel_rfl
theorem G_der_leap.dist : noTwice (places G_der_leap.ann G_der_leap.body) = true := by kernel_rfl
noncomputable def G_der_leap.J (Q : AV → AHeap → Prop) : JT := funJ prog C Tryd.f63 G_der_leap.ann G_der_leap.body Q
theorem G_der_leap.goR {Q : AV → AHeap → Prop} {k : Nat} {p : List Nat} (hl : lookJ (places G_der_leap.ann G_der_leap.body) k = some (p, false)) {e : Env} {h : AHeap} (hk : atJ prog C 16 (G_der_leap.J Q) false p G_der_leap.ann G_der_leap.body e h (kFun prog Tryd.f63 Q)) : G_der_leap.J Q k e h := goJ_run (P := prog) (fn := Tryd.f63) (ann := G_der_leap.ann) (body := G_der_leap.body) (Q := Q) (k := k) (p := p) (e := e) (h := h) (acall_le X) G_der_leap.dist hl hk
theorem G_der_leap.goH {Q : AV → AHeap → Prop} {k : Nat} {p : List Nat} (hl : lookJ (places G_der_leap.ann G_der_leap.body) k = some (p, true)) {e : Env} {h : AHeap} (hk : atJ prog C 16 (G_der_leap.J Q) true p G_der_leap.ann G_der_leap.body e h (kFun prog Tryd.f63 Q)) : G_der_leap.J Q k e h := goJ_head (P := prog) (fn := Tryd.f63) (ann := G_der_leap.ann) (body := G_der_leap.body) (Q := Q) (k := k) (p := p) (e := e) (h := h) (acall_le X) G_der_leap.dist hl hk
def G_der_leap.p0 (Q : AV → AHeap → Prop) (x2 : Bool) (h : AHeap) : Prop := G_der_leap.J Q 1 [(2, (AV.b x2))] h
theorem G_der_leap.j0 (Q : AV → AHeap → Prop) (x2 : Bool) (h : AHeap) : G_der_leap.J Q 1 [(2, (AV.b x2))] h = G_der_leap.p0 Q x2 h := rfl
def G_der_leap.t0 (J : JT) (Q : AV → AHeap → Prop) (x2 : Bool) (h : AHeap) : Prop :=
Q (AV.b x2) h
theorem G_der_leap.t0_eq (J : JT) (Q : AV → AHeap → Prop) (x2 : Bool) (h : AHeap) : G_der_leap.t0 J Q x2 h = atJ prog C 16 J false [1, 1] G_der_leap.ann G_der_leap.body [(2, (AV.b x2))] h (kFun prog Tryd.f63 Q) := by kernel_rfl
theorem G_der_leap.i0 {Q : AV → AHeap → Prop} {x2 : Bool} {h : AHeap} (H : G_der_leap.t0 (G_der_leap.J Q) Q x2 h) : G_der_leap.p0 Q x2 h := G_der_leap.goR (k := 1) (p := [1, 1]) (by kernel_rfl) ((G_der_leap.t0_eq (G_der_leap.J Q) Q x2 h).mp H)
def G_der_leap.t (J : JT) (Q : AV → AHeap → Prop) (x0 : Int) (h : AHeap) : Prop :=
pRem x0 4 fun n1 =>
(bif (decide ((n1 : Int) = 0)) then
(pRem x0 100 fun n2 =>
(bif (!decide ((n2 : Int) = 0)) then
(J 1 [(2, (AV.b true))] h)
else
(pRem x0 400 fun n4 =>
J 1 [(2, (AV.b (decide ((n4 : Int) = 0))))] h)))
else
(J 1 [(2, (AV.b false))] h))
theorem G_der_leap.t_eq (J : JT) (Q : AV → AHeap → Prop) (x0 : Int) (h : AHeap) : G_der_leap.t J Q x0 h = exJ prog C 16 J G_der_leap.ann G_der_leap.body (initEnv 0 [(AV.i .i64 x0)]) h (kFun prog Tryd.f63 Q) := by kernel_rfl
theorem G_der_leap.call {K : AV → AHeap → Prop} {x0 : Int} {h : AHeap} (H : G_der_leap.t (G_der_leap.J (kRet h K)) (kRet h K) x0 h) : C G_der_leap.id [(AV.i .i64 x0)] h K :=
  callJ (P := prog) (fn := Tryd.f63) (ann := G_der_leap.ann) (body := G_der_leap.body) Tryd.func63 G_der_leap.body_eq (by kernel_rfl) G_der_leap.dist (by kernel_rfl) ((G_der_leap.t_eq (G_der_leap.J (kRet h K)) (kRet h K) x0 h).mp H)

--@@ G_der_before_1
/-! ### 64: intrusion/der.before$1 -/
noncomputable def G_der_before_1.body : Code := (Tryd.f64.body).getD .skip
def G_der_before_1.ann : Ann := (.seq 0 [0] .leaf (.seq 0 [2] .leaf .leaf))
theorem G_der_before_1.body_eq : Tryd.f64.body = some G_der_before_1.body := by kernel_rfl
theorem G_der_before_1.dist : noTwice (places G_der_before_1.ann G_der_before_1.body) = true := by kernel_rfl
noncomputable def G_der_before_1.J (Q : AV → AHeap → Prop) : JT := funJ prog C Tryd.f64 G_der_before_1.ann G_der_before_1.body Q
theorem G_der_before_1.goR {Q : AV → AHeap → Prop} {k : Nat} {p : List Nat} (hl : lookJ (places G_der_before_1.ann G_der_before_1.body) k = some (p, false)) {e : Env} {h : AHeap} (hk : atJ prog C 11 (G_der_before_1.J Q) false p G_der_before_1.ann G_der_before_1.body e h (kFun prog Tryd.f64 Q)) : G_der_before_1.J Q k e h := goJ_run (P := prog) (fn := Tryd.f64) (ann := G_der_before_1.ann) (body := G_der_before_1.body) (Q := Q) (k := k) (p := p) (e := e) (h := h) (acall_le X) G_der_before_1.dist hl hk
theorem G_der_before_1.goH {Q : AV → AHeap → Prop} {k : Nat} {p : List Nat} (hl : lookJ (places G_der_before_1.ann G_der_before_1.body) k = some (p, true)) {e : Env} {h : AHeap} (hk : atJ prog C 11 (G_der_before_1.J Q) true p G_der_before_1.ann G_der_before_1.body e h (kFun prog Tryd.f64 Q)) : G_der_before_1.J Q k e h := goJ_head (P := prog) (fn := Tryd.f64) (ann := G_der_before_1.ann) (body := G_der_before_1.body) (Q := Q) (k := k) (p := p) (e := e) (h := h) (acall_le X) G_der_before_1.dist hl hk
def G_der_before_1.t (J : JT) (Q : AV → AHeap → Prop) (x0 : Int) (h : AHeap) : Prop :=
pQuo .i64 x0 4 fun n1 =>
pQuo .i64 x0 100 fun n2 =>
withI (IntKind.wrap .i64 (n1 - n2)) fun n3 =>
pQuo .i64 x0 400 fun n4 =>
withI (IntKind.wrap .i64 (n3 + n4)) fun n5 =>
Q (AV.i .i64 n5) h
theorem G_der_before_1.t_eq (J : JT) (Q : AV → AHeap → Prop) (x0 : Int) (h : AHeap) : G_der_before_1.t J Q x0 h = exJ prog C 11 J G_der_before_1.ann G_der_before_1.body (initEnv 0 [(AV.i .i64 x0)]) h (kFun prog Tryd.f64 Q) := by kernel_rfl
theorem G_der_before_1.call {K : AV → AHeap → Prop} {x0 : Int} {h : AHeap} (H : G_der_before_1.t (G_der_before_1.J (kRet h K)) (kRet h K) x0 h) : C G_der_before_1.id [(AV.i .i64 x0)] h K :=
  callJ (P := prog) (fn := Tryd.f64) (ann := G_der_before_1.ann) (body := G_der_before_1.body) Tryd.func64 G_der_before_1.body_eq (by kernel_rfl) G_der_before_1.dist (by kernel_rfl) ((G_der_before_1.t_eq (G_der_before_1.J (kRet h K)) (kRet h K) x0 h).mp H)

--@@ G_strings_genSplit
/-! ### 66: strings.genSplit -/
noncomputable def G_strings_genSplit.body : Code := (Tryd.f66.body).getD .skip
def G_strings_genSplit.ann : Ann := (.seq 0 [0, 1, 2, 3] .leaf (.seq 0 [0, 1, 2, 3] (.seq 0 [0, 1, 2, 3, 13] .leaf (.br (.seq 0 [8] .leaf .leaf) .leaf)) (.seq 0 [0, 1, 2, 3] (.seq 0 [0, 1, 2, 3, 15] .leaf (.br (.seq 0 [8] .leaf .leaf) .leaf)) (.seq 1 [0, 1, 2, 3] (.seq 0 [0, 1, 2, 3, 20] .leaf (.br .leaf .leaf)) (.seq 0 [0, 1, 2, 3] .leaf (.seq 0 [0, 1, 2, 3, 9] .leaf (.seq 0 [0, 1, 2, 3, 9] .leaf (.seq 0 [0, 1, 2, 3, 9, 10] .leaf (.seq 3 [0, 9, 10] (.one (.loop 2 [0, 1, 2, 3, 9, 10] (.seq 0 [0, 1, 2, 3, 9, 10] (.seq 0 [0, 1, 2, 3, 9, 10, 36] .leaf (.br .leaf .leaf)) (.one (.seq 0 [0, 1, 2, 3, 9, 10, 11] .leaf (.seq 0 [0, 1, 2, 3, 9, 10, 11] (.seq 0 [0, 1, 2, 3, 9, 10, 11, 41] .leaf (.br .leaf .leaf)) (.seq 0 [0, 1, 2, 3, 9, 10, 11] .leaf (.seq 0 [0, 1, 2, 3, 9, 10] .leaf .leaf)))))))) (.seq 0 [9, 10] .leaf (.seq 0 [8] .leaf .leaf)))))))))))
theorem G_strings_genSplit.body_eq : Tryd.f66.body = some G_strings_genSplit.body := by kernel_rfl
theorem G_strings_genSplit.dist : noTwice (places G_strings_genSplit.ann G_strings_genSplit.body) = true := by kernel_rfl
noncomputable def G_strings_genSplit.J (Q : AV → AHeap → Prop) : JT := funJ prog C Tryd.f66 G_strings_genSplit.ann G_strings_genSplit.body Q
theorem G_strings_genSplit.goR {Q : AV → AHeap → Prop} {k : Nat} {p : List Nat} (hl : lookJ (places G_strings_genSplit.ann G_strings_genSplit.body) k = some (p, false)) {e : Env} {h : AHeap} (hk : atJ prog C 66 (G_strings_genSplit.J Q) false p G_strings_genSplit.ann G_strings_genSplit.body e h (kFun prog Tryd.f66 Q)) : G_strings_genSplit.J Q k e h := goJ_run (P := prog) (fn := Tryd.f66) (ann := G_strings_genSplit.ann) (body := G_strings_genSplit.body) (Q := Q) (k := k) (p := p) (e := e) (h := h) (acall_le X) G_strings_genSplit.dist hl hk
theorem G_strings_genSplit.goH {Q : AV → AHeap → Prop} {k : Nat} {p : List Nat} (hl : lookJ (places G_strings_genSplit.ann G_strings_genSplit.body) k = some (p, true)) {e : Env} {h : AHeap} (hk : atJ prog C 66 (G_strings_genSplit.J Q) true p G_strings_genSplit.ann G_strings_genSplit.body e h (kFun prog Tryd.f66 Q)) : G_strings_genSplit.J Q k e h := goJ_head (P := prog) (fn := Tryd.f66) (ann := G_strings_genSplit.ann) (body := G_strings_genSplit.body) (Q := Q) (k := k) (p := p) (e := e) (h := h) (acall_le X) G_strings_genSplit.dist hl hk
def G_strings_genSplit.p1 (Q : AV → AHeap → Prop) (x0 : List UInt8) (x1 : List UInt8) (x2 : Int) (x3 : Int) (x9 : AV) (x10 : Int) (h : AHeap) : Prop := G_strings_genSplit.J Q 2 [(0, (AV.s x0)), (1, (AV.s x1)), (2, (AV.i .i64 x2)), (3, (AV.i .i64 x3)), (9, x9), (10, (AV.i .i64 x10))] h
theorem G_strings_genSplit.j1 (Q : AV → AHeap → Prop) (x0 : List UInt8) (x1 : List UInt8) (x2 : Int) (x3 : Int) (x9 : AV) (x10 : Int) (h : AHeap) : G_strings_genSplit.J Q 2 [(0, (AV.s x0)), (1, (AV.s x1)), (2, (AV.i .i64 x2)), (3, (AV.i .i64 x3)), (9, x9), (10, (AV.i .i64 x10))] h = G_strings_genSplit.p1 Q x0 x1 x2 x3 x9 x10 h := rfl
def G_strings_genSplit.p2 (Q : AV → AHeap → Prop) (x0 : List UInt8) (x9 : AV) (x10 : Int) (h : AHeap) : Prop := G_strings_genSplit.J Q 3 [(0, (AV.s x0)), (9, x9), (10, (AV.i .i64 x10))] h
theorem G_strings_genSplit.j2 (Q : AV → AHeap → Prop) (x0 : List UInt8) (x9 : AV) (x10 : Int) (h : AHeap) : G_strings_genSplit.J Q 3 [(0, (AV.s x0)), (9, x9), (10, (AV.i .i64 x10))] h = G_strings_genSplit.p2 Q x0 x9 x10 h := rfl
def G_strings_genSplit.p0 (Q : AV → AHeap → Prop) (x0 : List UInt8) (x1 : List UInt8) (x2 : Int) (x3 : Int) (h : AHeap) : Prop := G_strings_genSplit.J Q 1 [(0, (AV.s x0)), (1, (AV.s x1)), (2, (AV.i .i64 x2)), (3, (AV.i .i64 x3))] h
theorem G_strings_genSplit.j0 (Q : AV → AHeap → Prop) (x0 : List UInt8) (x1 : List UInt8) (x2 : Int) (x3 : Int) (h : AHeap) : G_strings_genSplit.J Q 1 [(0, (AV.s x0)), (1, (AV.s x1)), (2, (AV.i .i64 x2)), (3, (AV.i .i64 x3))] h = G_strings_genSplit.p0 Q x0 x1 x2 x3 h := rfl
def G_strings_genSplit.t1 (J : JT) (Q : AV → AHeap → Prop) (x0 : List UInt8) (x1 : List UInt8) (x2 : Int) (x3 : Int) (x9 : AV) (x10 : Int) (h : AHeap) : Prop :=
(bif (decide ((x10 : Int) < x3)) then
(C G_strings_Index.id [(AV.s x0), (AV.s x1)] h fun v27 h28 =>
asI .i64 v27 fun n29 =>
(bif (decide ((n29 : Int) < 0)) then
(J 3 [(0, (AV.s x0)), (9, x9), (10, (AV.i .i64 x10))] h28)
else
(withI (IntKind.wrap .i64 (n29 + x2)) fun n34 =>
pSliceStr (AV.s x0) none (some (AV.i .i64 n34)) fun l35 =>
pIdxAddrSl 1 x9 (AV.i .i64 x10) h28 fun v36 =>
pStore 1 v36 (AV.s l35) h28 fun h37 =>
withI (IntKind.wrap .i64 (n29 + (x1.length : Int))) fun n39 =>
pSliceStr (AV.s x0) (some (AV.i .i64 n39)) none fun l40 =>
withI (IntKind.wrap .i64 (x10 + 1)) fun n42 =>
J 2 [(0, (AV.s l40)), (1, (AV.s x1)), (2, (AV.i .i64 x2)), (3, (AV.i .i64 x3)), (9, x9), (10, (AV.i .i64 n42))] h37)))
else
(J 3 [(0, (AV.s x0)), (9, x9), (10, (AV.i .i64 x10))] h))
theorem G_strings_genSplit.t1_eq (J : JT) (Q : AV → AHeap → Prop) (x0 : List UInt8) (x1 : List UInt8) (x2 : Int) (x3 : Int) (x9 : AV) (x10 : Int) (h : AHeap) : G_strings_genSplit.t1 J Q x0 x1 x2 x3 x9 x10 h = atJ prog C 66 J true [1, 1, 1, 1, 1, 1, 1, 1, 0, 0] G_strings_genSplit.ann G_strings_genSplit.body [(0, (AV.s x0)), (1, (AV.s x1)), (2, (AV.i .i64 x2)), (3, (AV.i .i64 x3)), (9, x9), (10, (AV.i .i64 x10))] h (kFun prog Tryd.f66 Q) := by kernel_rfl
theorem G_strings_genSplit.i1 {Q : AV → AHeap → Prop} {x0 : List UInt8} {x1 : List UInt8} {x2 : Int} {x3 : Int} {x9 : AV} {x10 : Int} {h : AHeap} (H : G_strings_genSplit.t1 (G_strings_genSplit.J Q) Q x0 x1 x2 x3 x9 x10 h) : G_strings_genSplit.p1 Q x0 x1 x2 x3 x9 x10 h := G_strings_genSplit.goH (k := 2) (p := [1, 1, 1, 1, 1, 1, 1, 1, 0, 0]) (by kernel_rfl) ((G_strings_genSplit.t1_eq (G_strings_genSplit.J Q) Q x0 x1 x2 x3 x9 x10 h).mp H)
def G_strings_genSplit.t2 (J : JT) (Q : AV → AHeap → Prop) (x0 : List UInt8) (x9 : AV) (x10 : Int) (h : AHeap) : Prop :=
pIdxAddrSl 1 x9 (AV.i .i64 x10) h fun v44 =>
pStore 1 v44 (AV.s x0) h fun h45 =>
withI (IntKind.wrap .i64 (x10 + 1)) fun n47 =>
pSliceSl 1 x9 none (some (AV.i .i64 n47)) none h45 fun v48 =>
Q v48 h45
theorem G_strings_genSplit.t2_eq (J : JT) (Q : AV → AHeap → Prop) (x0 : List UInt8) (x9 : AV) (x10 : Int) (h : AHeap) : G_strings_genSplit.t2 J Q x0 x9 x10 h = atJ prog C 66 J false [1, 1, 1, 1, 1, 1, 1, 1, 1] G_strings_genSplit.ann G_strings_genSplit.body [(0, (AV.s x0)), (9, x9), (10, (AV.i .i64 x10))] h (kFun prog Tryd.f66 Q) := by kernel_rfl
theorem G_strings_genSplit.i2 {Q : AV → AHeap → Prop} {x0 : List UInt8} {x9 : AV} {x10 : Int} {h : AHeap} (H : G_strings_genSplit.t2 (G_strings_genSplit.J Q) Q x0 x9 x10 h) : G_strings_genSplit.p2 Q x0 x9 x10 h := G_strings_genSplit.goR (k := 3) (p := [1, 1, 1, 1, 1, 1, 1, 1, 1]) (by kernel_rfl) ((G_strings_genSplit.t2_eq (G_strings_genSplit.J Q) Q x0 x9 x10 h).mp H)
def G_strings_genSplit.t0 (J : JT) (Q : AV → AHeap → Prop) (x0 : List UInt8) (x1 : List UInt8) (x2 : Int) (x3 : Int) (h : AHeap) : Prop :=
withI (IntKind.wrap .i64 ((x0.length : Int) + 1)) fun n16 =>
pMake 1 16 [(AV.s [])] (AV.i .i64 (mmI false x3 n16)) (AV.i .i64 (mmI false x3 n16)) h fun v18 h19 =>
withI (IntKind.wrap .i64 ((mmI false x3 n16) - 1)) fun n21 =>
J 2 [(0, (AV.s x0)), (1, (AV.s x1)), (2, (AV.i .i64 x2)), (3, (AV.i .i64 n21)), (9, v18), (10, (AV.i .i64 0))] h19
theorem G_strings_genSplit.t0_eq (J : JT) (Q : AV → AHeap → Prop) (x0 : List UInt8) (x1 : List UInt8) (x2 : Int) (x3 : Int) (h : AHeap) : G_strings_genSplit.t0 J Q x0 x1 x2 x3 h = atJ prog C 66 J false [1, 1, 1, 1] G_strings_genSplit.ann G_strings_genSplit.body [(0, (AV.s x0)), (1, (AV.s x1)), (2, (AV.i .i64 x2)), (3, (AV.i .i64 x3))] h (kFun prog Tryd.f66 Q) := by kernel_rfl
theorem G_strings_genSplit.i0 {Q : AV → AHeap → Prop} {x0 : List UInt8} {x1 : List UInt8} {x2 : Int} {x3 : Int} {h : AHeap} (H : G_strings_genSplit.t0 (G_strings_genSplit.J Q) Q x0 x1 x2 x3 h) : G_strings_genSplit.p0 Q x0 x1 x2 x3 h := G_strings_genSplit.goR (k := 1) (p := [1, 1, 1, 1]) (by kernel_rfl) ((G_strings_genSplit.t0_eq (G_strings_genSplit.J Q) Q x0 x1 x2 x3 h).mp H)
def G_strings_genSplit.t (J : JT) (Q : AV → AHeap → Prop) (x0 : List UInt8) (x1 : List UInt8) (x2 : Int) (x3 : Int) (h : AHeap) : Prop :=
(bif (decide ((x3 : Int) = 0)) then
(Q (AV.sl none 0 none) h)
else
((bif (decide ((x1 : List UInt8) = [])) then
(C G_strings_explode.id [(AV.s x0), (AV.i .i64 x3)] h fun v5 h6 =>
Q v5 h6)
else
((bif (decide ((x3 : Int) < 0)) then
(C G_strings_Count.id [(AV.s x0), (AV.s x1)] h fun v10 h11 =>
asI .i64 v10 fun n12 =>
withI (IntKind.wrap .i64 (n12 + 1)) fun n13 =>
J 1 [(0, (AV.s x0)), (1, (AV.s x1)), (2, (AV.i .i64 x2)), (3, (AV.i .i64 n13))] h11)
else
(J 1 [(0, (AV.s x0)), (1, (AV.s x1)), (2, (AV.i .i64 x2)), (3, (AV.i .i64 x3))] h))))))
theorem G_strings_genSplit.t_eq (J : JT) (Q : AV → AHeap → Prop) (x0 : List UInt8) (x1 : List UInt8) (x2 : Int) (x3 : Int) (h : AHeap) : G_strings_genSplit.t J Q x0 x1 x2 x3 h = exJ prog C 66 J G_strings_genSplit.ann G_strings_genSplit.body (initEnv 0 [(AV.s x0), (AV.s x1), (AV.i .i64 x2), (AV.i .i64 x3)]) h (kFun prog Tryd.f66 Q) := by kernel_rfl
theorem G_strings_genSplit.call {K : AV → AHeap → Prop} {x0 : List UInt8} {x1 : List UInt8} {x2 : Int} {x3 : Int} {h : AHeap} (H : G_strings_genSplit.t (G_strings_genSplit.J (kRet h K)) (kRet h K) x0 x1 x2 x3 h) : C G_strings_genSplit.id [(AV.s x0), (AV.s x1), (AV.i .i64 x2), (AV.i .i64 x3)] h K :=
  callJ (P := prog) (fn := Tryd.f66) (ann := G_strings_genSplit.ann) (body := G_strings_genSplit.body) Tryd.func66 G_strings_genSplit.body_eq (by kernel_rfl) G_strings_genSplit.dist (by kernel_rfl) ((G_strings_genSplit.t_eq (G_strings_genSplit.J (kRet h K)) (kRet h K) x0 x1 x2 x3 h).mp H)


end Go.Proofs.YtffgchcidkapjaaDoor
