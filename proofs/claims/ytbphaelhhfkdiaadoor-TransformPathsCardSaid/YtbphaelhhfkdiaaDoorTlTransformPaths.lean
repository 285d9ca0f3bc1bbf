/- The law's text in the abstract machine: printed by Gen.lean, checked by Lean's kernel. -/
import Derived.Test.YtbphaelhhfkdiaaDoorTx0
set_option linter.unusedVariables false
set_option linter.unusedSectionVars false
set_option maxRecDepth 100000
namespace Go.Proofs.YtbphaelhhfkdiaaDoor
open Go.GAM
variable [XR]
--@@ G_law26_TransformPaths
/-! ### 6: intrusion/intrusionlaw26.TransformPaths -/
noncomputable def G_law26_TransformPaths.body : Code := (Tryd.f6.body).getD .skip
def G_law26_TransformPaths.ann : Ann := (.seq 0 [0, 1] .leaf (.seq 0 [0, 1] (.seq 1 [0, 1, 26] .leaf (.br (.seq 0 [4] .leaf .leaf) .leaf)) (.seq 0 [0, 1, 5, 6] .leaf (.seq 0 [5, 6] (.seq 0 [0, 1, 5, 6, 29, 30] .leaf (.one (.loop 2 [0, 1, 5, 6, 29, 30] (.seq 0 [0, 1, 5, 6, 29, 30, 31] .leaf (.seq 0 [0, 1, 5, 6, 29, 30] (.br .leaf .leaf) (.seq 6 [0, 1, 5, 6, 29, 30] (.one (.seq 0 [0, 1, 5, 6, 7, 29, 30] .leaf (.seq 0 [0, 1, 5, 6, 7, 29, 30] (.seq 3 [0, 1, 5, 6, 7, 29, 30, 45] .leaf (.br (.seq 0 [4] .leaf .leaf) .leaf)) (.seq 0 [0, 1, 5, 6, 7, 29, 30] (.seq 0 [0, 1, 5, 6, 7, 8, 29, 30] .leaf (.one (.loop 4 [0, 1, 5, 6, 7, 8, 29, 30] (.seq 0 [0, 1, 5, 6, 7, 8, 29, 30] (.seq 0 [0, 1, 5, 6, 7, 8, 29, 30, 53] .leaf (.br .leaf .leaf)) (.seq 0 [0, 1, 5, 6, 7, 8, 29, 30] (.one (.seq 5 [0, 1, 5, 6, 7, 8, 29, 30, 71] .leaf (.br (.seq 0 [4] .leaf .leaf) .leaf))) .leaf))))) (.seq 0 [0, 1, 5, 6, 7, 29, 30] .leaf (.seq 0 [0, 1, 5, 6, 7, 29, 30, 87] .leaf (.one (.seq 0 [0, 1, 5, 6, 7, 29, 30, 87, 95] .leaf (.br .leaf (.seq 0 [0, 1, 5, 6, 7, 29, 30, 87, 104] .leaf (.br .leaf (.seq 0 [0, 1, 5, 6, 7, 29, 30, 113] .leaf (.br .leaf .leaf))))))))))))) .leaf)))))) (.seq 7 [4] .leaf .leaf)))))
theorem G_law26_TransformPaths.body_eq : Tryd.f6.body = some G_law26_TransformPaths.body := by kernel_rfl
theorem G_law26_TransformPaths.dist : noTwice (places G_law26_TransformPaths.ann G_law26_TransformPaths.body) = true := by kernel_rfl
noncomputable def G_law26_TransformPaths.J (Q : AV → AHeap → Prop) : JT := funJ prog C Tryd.f6 G_law26_TransformPaths.ann G_law26_TransformPaths.body Q
theorem G_law26_TransformPaths.goR {Q : AV → AHeap → Prop} {k : Nat} {p : List Nat} (hl : lookJ (places G_law26_TransformPaths.ann G_law26_TransformPaths.body) k = some (p, false)) {e : Env} {h : AHeap} (hk : atJ prog C 136 (G_law26_TransformPaths.J Q) false p G_law26_TransformPaths.ann G_law26_TransformPaths.body e h (kFun prog Tryd.f6 Q)) : G_law26_TransformPaths.J Q k e h := goJ_run (P := prog) (fn := Tryd.f6) (ann := G_law26_TransformPaths.ann) (body := G_law26_TransformPaths.body) (Q := Q) (k := k) (p := p) (e := e) (h := h) (acall_le X) G_law26_TransformPaths.dist hl hk
theorem G_law26_TransformPaths.goH {Q : AV → AHeap → Prop} {k : Nat} {p : List Nat} (hl : lookJ (places G_law26_TransformPaths.ann G_law26_TransformPaths.body) k = some (p, true)) {e : Env} {h : AHeap} (hk : atJ prog C 136 (G_law26_TransformPaths.J Q) true p G_law26_TransformPaths.ann G_law26_TransformPaths.body e h (kFun prog Tryd.f6 Q)) : G_law26_TransformPaths.J Q k e h := goJ_head (P := prog) (fn := Tryd.f6) (ann := G_law26_TransformPaths.ann) (body := G_law26_TransformPaths.body) (Q := Q) (k := k) (p := p) (e := e) (h := h) (acall_le X) G_law26_TransformPaths.dist hl hk
def G_law26_TransformPaths.p0 (Q : AV → AHeap → Prop) (x0 : AV) (x1 : AV) (x26 : Bool) (h : AHeap) : Prop := G_law26_TransformPaths.J Q 1 [(0, x0), (1, x1), (26, (AV.b x26))] h
theorem G_law26_TransformPaths.j0 (Q : AV → AHeap → Prop) (x0 : AV) (x1 : AV) (x26 : Bool) (h : AHeap) : G_law26_TransformPaths.J Q 1 [(0, x0), (1, x1), (26, (AV.b x26))] h = G_law26_TransformPaths.p0 Q x0 x1 x26 h := rfl
def G_law26_TransformPaths.p2 (Q : AV → AHeap → Prop) (x0 : AV) (x1 : AV) (x5 : List UInt8) (x6 : List UInt8) (x7 : Int) (x29 : Int) (x30 : Int) (x45 : Bool) (h : AHeap) : Prop := G_law26_TransformPaths.J Q 3 [(0, x0), (1, x1), (5, (AV.s x5)), (6, (AV.s x6)), (7, (AV.i .i64 x7)), (29, (AV.i .i64 x29)), (30, (AV.i .i64 x30)), (45, (AV.b x45))] h
theorem G_law26_TransformPaths.j2 (Q : AV → AHeap → Prop) (x0 : AV) (x1 : AV) (x5 : List UInt8) (x6 : List UInt8) (x7 : Int) (x29 : Int) (x30 : Int) (x45 : Bool) (h : AHeap) : G_law26_TransformPaths.J Q 3 [(0, x0), (1, x1), (5, (AV.s x5)), (6, (AV.s x6)), (7, (AV.i .i64 x7)), (29, (AV.i .i64 x29)), (30, (AV.i .i64 x30)), (45, (AV.b x45))] h = G_law26_TransformPaths.p2 Q x0 x1 x5 x6 x7 x29 x30 x45 h := rfl
def G_law26_TransformPaths.p4 (Q : AV → AHeap → Prop) (x0 : AV) (x1 : AV) (x5 : List UInt8) (x6 : List UInt8) (x7 : Int) (x8 : Int) (x29 : Int) (x30 : Int) (x71 : Bool) (h : AHeap) : Prop := G_law26_TransformPaths.J Q 5 [(0, x0), (1, x1), (5, (AV.s x5)), (6, (AV.s x6)), (7, (AV.i .i64 x7)), (8, (AV.i .i64 x8)), (29, (AV.i .i64 x29)), (30, (AV.i .i64 x30)), (71, (AV.b x71))] h
theorem G_law26_TransformPaths.j4 (Q : AV → AHeap → Prop) (x0 : AV) (x1 : AV) (x5 : List UInt8) (x6 : List UInt8) (x7 : Int) (x8 : Int) (x29 : Int) (x30 : Int) (x71 : Bool) (h : AHeap) : G_law26_TransformPaths.J Q 5 [(0, x0), (1, x1), (5, (AV.s x5)), (6, (AV.s x6)), (7, (AV.i .i64 x7)), (8, (AV.i .i64 x8)), (29, (AV.i .i64 x29)), (30, (AV.i .i64 x30)), (71, (AV.b x71))] h = G_law26_TransformPaths.p4 Q x0 x1 x5 x6 x7 x8 x29 x30 x71 h := rfl
def G_law26_TransformPaths.p3 (Q : AV → AHeap → Prop) (x0 : AV) (x1 : AV) (x5 : List UInt8) (x6 : List UInt8) (x7 : Int) (x8 : Int) (x29 : Int) (x30 : Int) (h : AHeap) : Prop := G_law26_TransformPaths.J Q 4 [(0, x0), (1, x1), (5, (AV.s x5)), (6, (AV.s x6)), (7, (AV.i .i64 x7)), (8, (AV.i .i64 x8)), (29, (AV.i .i64 x29)), (30, (AV.i .i64 x30))] h
theorem G_law26_TransformPaths.j3 (Q : AV → AHeap → Prop) (x0 : AV) (x1 : AV) (x5 : List UInt8) (x6 : List UInt8) (x7 : Int) (x8 : Int) (x29 : Int) (x30 : Int) (h : AHeap) : G_law26_TransformPaths.J Q 4 [(0, x0), (1, x1), (5, (AV.s x5)), (6, (AV.s x6)), (7, (AV.i .i64 x7)), (8, (AV.i .i64 x8)), (29, (AV.i .i64 x29)), (30, (AV.i .i64 x30))] h = G_law26_TransformPaths.p3 Q x0 x1 x5 x6 x7 x8 x29 x30 h := rfl
def G_law26_TransformPaths.p5 (Q : AV → AHeap → Prop) (x0 : AV) (x1 : AV) (x5 : List UInt8) (x6 : List UInt8) (x29 : Int) (x30 : Int) (h : AHeap) : Prop := G_law26_TransformPaths.J Q 6 [(0, x0), (1, x1), (5, (AV.s x5)), (6, (AV.s x6)), (29, (AV.i .i64 x29)), (30, (AV.i .i64 x30))] h
theorem G_law26_TransformPaths.j5 (Q : AV → AHeap → Prop) (x0 : AV) (x1 : AV) (x5 : List UInt8) (x6 : List UInt8) (x29 : Int) (x30 : Int) (h : AHeap) : G_law26_TransformPaths.J Q 6 [(0, x0), (1, x1), (5, (AV.s x5)), (6, (AV.s x6)), (29, (AV.i .i64 x29)), (30, (AV.i .i64 x30))] h = G_law26_TransformPaths.p5 Q x0 x1 x5 x6 x29 x30 h := rfl
def G_law26_TransformPaths.p1 (Q : AV → AHeap → Prop) (x0 : AV) (x1 : AV) (x5 : List UInt8) (x6 : List UInt8) (x29 : Int) (x30 : Int) (h : AHeap) : Prop := G_law26_TransformPaths.J Q 2 [(0, x0), (1, x1), (5, (AV.s x5)), (6, (AV.s x6)), (29, (AV.i .i64 x29)), (30, (AV.i .i64 x30))] h
theorem G_law26_TransformPaths.j1 (Q : AV → AHeap → Prop) (x0 : AV) (x1 : AV) (x5 : List UInt8) (x6 : List UInt8) (x29 : Int) (x30 : Int) (h : AHeap) : G_law26_TransformPaths.J Q 2 [(0, x0), (1, x1), (5, (AV.s x5)), (6, (AV.s x6)), (29, (AV.i .i64 x29)), (30, (AV.i .i64 x30))] h = G_law26_TransformPaths.p1 Q x0 x1 x5 x6 x29 x30 h := rfl
def G_law26_TransformPaths.p6 (Q : AV → AHeap → Prop) (x4 : Bool) (h : AHeap) : Prop := G_law26_TransformPaths.J Q 7 [(4, (AV.b x4))] h
theorem G_law26_TransformPaths.j6 (Q : AV → AHeap → Prop) (x4 : Bool) (h : AHeap) : G_law26_TransformPaths.J Q 7 [(4, (AV.b x4))] h = G_law26_TransformPaths.p6 Q x4 h := rfl
def G_law26_TransformPaths.t0 (J : JT) (Q : AV → AHeap → Prop) (x0 : AV) (x1 : AV) (x26 : Bool) (h : AHeap) : Prop :=
(bif x26 then
(C G_law26_awake.id [] h fun v9 h10 =>
asB v9 fun c11 =>
Q (AV.b c11) h10)
else
(pLenSl x0 fun n15 =>
J 2 [(0, x0), (1, x1), (5, (AV.s [])), (6, (AV.s [])), (29, (AV.i .i64 n15)), (30, (AV.i .i64 0))] h))
theorem G_law26_TransformPaths.t0_eq (J : JT) (Q : AV → AHeap → Prop) (x0 : AV) (x1 : AV) (x26 : Bool) (h : AHeap) : G_law26_TransformPaths.t0 J Q x0 x1 x26 h = atJ prog C 136 J false [1, 0, 1] G_law26_TransformPaths.ann G_law26_TransformPaths.body [(0, x0), (1, x1), (26, (AV.b x26))] h (kFun prog Tryd.f6 Q) := by kernel_rfl
theorem G_law26_TransformPaths.i0 {Q : AV → AHeap → Prop} {x0 : AV} {x1 : AV} {x26 : Bool} {h : AHeap} (H : G_law26_TransformPaths.t0 (G_law26_TransformPaths.J Q) Q x0 x1 x26 h) : G_law26_TransformPaths.p0 Q x0 x1 x26 h := G_law26_TransformPaths.goR (k := 1) (p := [1, 0, 1]) (by kernel_rfl) ((G_law26_TransformPaths.t0_eq (G_law26_TransformPaths.J Q) Q x0 x1 x26 h).mp H)
def G_law26_TransformPaths.t2 (J : JT) (Q : AV → AHeap → Prop) (x0 : AV) (x1 : AV) (x5 : List UInt8) (x6 : List UInt8) (x7 : Int) (x29 : Int) (x30 : Int) (x45 : Bool) (h : AHeap) : Prop :=
(bif x45 then
(C G_law26_awake.id [] h fun v29 h30 =>
asB v29 fun c31 =>
Q (AV.b c31) h30)
else
(J 4 [(0, x0), (1, x1), (5, (AV.s x5)), (6, (AV.s x6)), (7, (AV.i .i64 x7)), (8, (AV.i .i64 0)), (29, (AV.i .i64 x29)), (30, (AV.i .i64 x30))] h))
theorem G_law26_TransformPaths.t2_eq (J : JT) (Q : AV → AHeap → Prop) (x0 : AV) (x1 : AV) (x5 : List UInt8) (x6 : List UInt8) (x7 : Int) (x29 : Int) (x30 : Int) (x45 : Bool) (h : AHeap) : G_law26_TransformPaths.t2 J Q x0 x1 x5 x6 x7 x29 x30 x45 h = atJ prog C 136 J false [1, 1, 1, 0, 1, 0, 0, 1, 1, 0, 0, 1, 0, 1] G_law26_TransformPaths.ann G_law26_TransformPaths.body [(0, x0), (1, x1), (5, (AV.s x5)), (6, (AV.s x6)), (7, (AV.i .i64 x7)), (29, (AV.i .i64 x29)), (30, (AV.i .i64 x30)), (45, (AV.b x45))] h (kFun prog Tryd.f6 Q) := by kernel_rfl
theorem G_law26_TransformPaths.i2 {Q : AV → AHeap → Prop} {x0 : AV} {x1 : AV} {x5 : List UInt8} {x6 : List UInt8} {x7 : Int} {x29 : Int} {x30 : Int} {x45 : Bool} {h : AHeap} (H : G_law26_TransformPaths.t2 (G_law26_TransformPaths.J Q) Q x0 x1 x5 x6 x7 x29 x30 x45 h) : G_law26_TransformPaths.p2 Q x0 x1 x5 x6 x7 x29 x30 x45 h := G_law26_TransformPaths.goR (k := 3) (p := [1, 1, 1, 0, 1, 0, 0, 1, 1, 0, 0, 1, 0, 1]) (by kernel_rfl) ((G_law26_TransformPaths.t2_eq (G_law26_TransformPaths.J Q) Q x0 x1 x5 x6 x7 x29 x30 x45 h).mp H)
def G_law26_TransformPaths.t4 (J : JT) (Q : AV → AHeap → Prop) (x0 : AV) (x1 : AV) (x5 : List UInt8) (x6 : List UInt8) (x7 : Int) (x8 : Int) (x29 : Int) (x30 : Int) (x71 : Bool) (h : AHeap) : Prop :=
(bif x71 then
(C G_law26_awake.id [] h fun v51 h52 =>
asB v51 fun c53 =>
Q (AV.b c53) h52)
else
(withI (IntKind.wrap .i64 (x8 + 1)) fun n56 =>
J 4 [(0, x0), (1, x1), (5, (AV.s x5)), (6, (AV.s x6)), (7, (AV.i .i64 x7)), (8, (AV.i .i64 n56)), (29, (AV.i .i64 x29)), (30, (AV.i .i64 x30))] h))
theorem G_law26_TransformPaths.t4_eq (J : JT) (Q : AV → AHeap → Prop) (x0 : AV) (x1 : AV) (x5 : List UInt8) (x6 : List UInt8) (x7 : Int) (x8 : Int) (x29 : Int) (x30 : Int) (x71 : Bool) (h : AHeap) : G_law26_TransformPaths.t4 J Q x0 x1 x5 x6 x7 x8 x29 x30 x71 h = atJ prog C 136 J false [1, 1, 1, 0, 1, 0, 0, 1, 1, 0, 0, 1, 1, 0, 1, 0, 0, 1, 0, 0, 1] G_law26_TransformPaths.ann G_law26_TransformPaths.body [(0, x0), (1, x1), (5, (AV.s x5)), (6, (AV.s x6)), (7, (AV.i .i64 x7)), (8, (AV.i .i64 x8)), (29, (AV.i .i64 x29)), (30, (AV.i .i64 x30)), (71, (AV.b x71))] h (kFun prog Tryd.f6 Q) := by kernel_rfl
theorem G_law26_TransformPaths.i4 {Q : AV → AHeap → Prop} {x0 : AV} {x1 : AV} {x5 : List UInt8} {x6 : List UInt8} {x7 : Int} {x8 : Int} {x29 : Int} {x30 : Int} {x71 : Bool} {h : AHeap} (H : G_law26_TransformPaths.t4 (G_law26_TransformPaths.J Q) Q x0 x1 x5 x6 x7 x8 x29 x30 x71 h) : G_law26_TransformPaths.p4 Q x0 x1 x5 x6 x7 x8 x29 x30 x71 h := G_law26_TransformPaths.goR (k := 5) (p := [1, 1, 1, 0, 1, 0, 0, 1, 1, 0, 0, 1, 1, 0, 1, 0, 0, 1, 0, 0, 1]) (by kernel_rfl) ((G_law26_TransformPaths.t4_eq (G_law26_TransformPaths.J Q) Q x0 x1 x5 x6 x7 x8 x29 x30 x71 h).mp H)
def G_law26_TransformPaths.t3 (J : JT) (Q : AV → AHeap → Prop) (x0 : AV) (x1 : AV) (x5 : List UInt8) (x6 : List UInt8) (x7 : Int) (x8 : Int) (x29 : Int) (x30 : Int) (h : AHeap) : Prop :=
pIdxAddrSl 1 x0 (AV.i .i64 x7) h fun v35 =>
pLoad1 v35 h fun v36 =>
asS v36 fun l37 =>
(bif (decide ((x8 : Int) < (l37.length : Int))) then
(pIdxAddrSl 1 x0 (AV.i .i64 x7) h fun v41 =>
pLoad1 v41 h fun v42 =>
asS v42 fun l43 =>
pIdxStr (AV.s l43) (AV.i .i64 x8) fun n44 =>
(bif (decide ((n44 : Int) < 97)) then
(J 5 [(0, x0), (1, x1), (5, (AV.s x5)), (6, (AV.s x6)), (7, (AV.i .i64 x7)), (8, (AV.i .i64 x8)), (29, (AV.i .i64 x29)), (30, (AV.i .i64 x30)), (71, (AV.b true))] h)
else
(pIdxAddrSl 1 x0 (AV.i .i64 x7) h fun v46 =>
pLoad1 v46 h fun v47 =>
asS v47 fun l48 =>
pIdxStr (AV.s l48) (AV.i .i64 x8) fun n49 =>
J 5 [(0, x0), (1, x1), (5, (AV.s x5)), (6, (AV.s x6)), (7, (AV.i .i64 x7)), (8, (AV.i .i64 x8)), (29, (AV.i .i64 x29)), (30, (AV.i .i64 x30)), (71, (AV.b (decide ((122 : Int) < n49))))] h)))
else
(pCat x5 [47] fun l58 =>
pIdxAddrSl 1 x0 (AV.i .i64 x7) h fun v59 =>
pLoad1 v59 h fun v60 =>
asS v60 fun l61 =>
pCat l58 l61 fun l62 =>
pLenSl x1 fun n64 =>
pRem x7 n64 fun n65 =>
pIdxAddrSl 1 x1 (AV.i .i64 n65) h fun v66 =>
pLoad1 v66 h fun v67 =>
asI .u8 v67 fun n68 =>
pRem n68 4 fun n69 =>
(bif (decide ((n69 : Int) = 0)) then
(pCat x6 [47, 47] fun l72 =>
pIdxAddrSl 1 x0 (AV.i .i64 x7) h fun v73 =>
pLoad1 v73 h fun v74 =>
asS v74 fun l75 =>
pCat l72 l75 fun l76 =>
J 6 [(0, x0), (1, x1), (5, (AV.s l62)), (6, (AV.s l76)), (29, (AV.i .i64 x29)), (30, (AV.i .i64 x30))] h)
else
((bif (decide ((n69 : Int) = 1)) then
(pCat x6 [47, 46, 47] fun l79 =>
pIdxAddrSl 1 x0 (AV.i .i64 x7) h fun v80 =>
pLoad1 v80 h fun v81 =>
asS v81 fun l82 =>
pCat l79 l82 fun l83 =>
J 6 [(0, x0), (1, x1), (5, (AV.s l62)), (6, (AV.s l83)), (29, (AV.i .i64 x29)), (30, (AV.i .i64 x30))] h)
else
((bif (decide ((n69 : Int) = 2)) then
(pCat x6 [47, 120, 47, 46, 46, 47] fun l86 =>
pIdxAddrSl 1 x0 (AV.i .i64 x7) h fun v87 =>
pLoad1 v87 h fun v88 =>
asS v88 fun l89 =>
pCat l86 l89 fun l90 =>
J 6 [(0, x0), (1, x1), (5, (AV.s l62)), (6, (AV.s l90)), (29, (AV.i .i64 x29)), (30, (AV.i .i64 x30))] h)
else
(pCat x6 [47] fun l92 =>
pIdxAddrSl 1 x0 (AV.i .i64 x7) h fun v93 =>
pLoad1 v93 h fun v94 =>
asS v94 fun l95 =>
pCat l92 l95 fun l96 =>
J 6 [(0, x0), (1, x1), (5, (AV.s l62)), (6, (AV.s l96)), (29, (AV.i .i64 x29)), (30, (AV.i .i64 x30))] h))))))))
theorem G_law26_TransformPaths.t3_eq (J : JT) (Q : AV → AHeap → Prop) (x0 : AV) (x1 : AV) (x5 : List UInt8) (x6 : List UInt8) (x7 : Int) (x8 : Int) (x29 : Int) (x30 : Int) (h : AHeap) : G_law26_TransformPaths.t3 J Q x0 x1 x5 x6 x7 x8 x29 x30 h = atJ prog C 136 J true [1, 1, 1, 0, 1, 0, 0, 1, 1, 0, 0, 1, 1, 0, 1, 0] G_law26_TransformPaths.ann G_law26_TransformPaths.body [(0, x0), (1, x1), (5, (AV.s x5)), (6, (AV.s x6)), (7, (AV.i .i64 x7)), (8, (AV.i .i64 x8)), (29, (AV.i .i64 x29)), (30, (AV.i .i64 x30))] h (kFun prog Tryd.f6 Q) := by kernel_rfl
theorem G_law26_TransformPaths.i3 {Q : AV → AHeap → Prop} {x0 : AV} {x1 : AV} {x5 : List UInt8} {x6 : List UInt8} {x7 : Int} {x8 : Int} {x29 : Int} {x30 : Int} {h : AHeap} (H : G_law26_TransformPaths.t3 (G_law26_TransformPaths.J Q) Q x0 x1 x5 x6 x7 x8 x29 x30 h) : G_law26_TransformPaths.p3 Q x0 x1 x5 x6 x7 x8 x29 x30 h := G_law26_TransformPaths.goH (k := 4) (p := [1, 1, 1, 0, 1, 0, 0, 1, 1, 0, 0, 1, 1, 0, 1, 0]) (by kernel_rfl) ((G_law26_TransformPaths.t3_eq (G_law26_TransformPaths.J Q) Q x0 x1 x5 x6 x7 x8 x29 x30 h).mp H)
def G_law26_TransformPaths.t5 (J : JT) (Q : AV → AHeap → Prop) (x0 : AV) (x1 : AV) (x5 : List UInt8) (x6 : List UInt8) (x29 : Int) (x30 : Int) (h : AHeap) : Prop :=
withI (IntKind.wrap .i64 (x30 + 1)) fun n98 =>
J 2 [(0, x0), (1, x1), (5, (AV.s x5)), (6, (AV.s x6)), (29, (AV.i .i64 x29)), (30, (AV.i .i64 n98))] h
theorem G_law26_TransformPaths.t5_eq (J : JT) (Q : AV → AHeap → Prop) (x0 : AV) (x1 : AV) (x5 : List UInt8) (x6 : List UInt8) (x29 : Int) (x30 : Int) (h : AHeap) : G_law26_TransformPaths.t5 J Q x0 x1 x5 x6 x29 x30 h = atJ prog C 136 J false [1, 1, 1, 0, 1, 0, 0, 1, 1, 1] G_law26_TransformPaths.ann G_law26_TransformPaths.body [(0, x0), (1, x1), (5, (AV.s x5)), (6, (AV.s x6)), (29, (AV.i .i64 x29)), (30, (AV.i .i64 x30))] h (kFun prog Tryd.f6 Q) := by kernel_rfl
theorem G_law26_TransformPaths.i5 {Q : AV → AHeap → Prop} {x0 : AV} {x1 : AV} {x5 : List UInt8} {x6 : List UInt8} {x29 : Int} {x30 : Int} {h : AHeap} (H : G_law26_TransformPaths.t5 (G_law26_TransformPaths.J Q) Q x0 x1 x5 x6 x29 x30 h) : G_law26_TransformPaths.p5 Q x0 x1 x5 x6 x29 x30 h := G_law26_TransformPaths.goR (k := 6) (p := [1, 1, 1, 0, 1, 0, 0, 1, 1, 1]) (by kernel_rfl) ((G_law26_TransformPaths.t5_eq (G_law26_TransformPaths.J Q) Q x0 x1 x5 x6 x29 x30 h).mp H)
def G_law26_TransformPaths.t1 (J : JT) (Q : AV → AHeap → Prop) (x0 : AV) (x1 : AV) (x5 : List UInt8) (x6 : List UInt8) (x29 : Int) (x30 : Int) (h : AHeap) : Prop :=
(bif (decide ((x30 : Int) < x29)) then
(pIdxAddrSl 1 x0 (AV.i .i64 x30) h fun v21 =>
pLoad1 v21 h fun v22 =>
asS v22 fun l23 =>
(bif (decide ((l23 : List UInt8) = [])) then
(J 3 [(0, x0), (1, x1), (5, (AV.s x5)), (6, (AV.s x6)), (7, (AV.i .i64 x30)), (29, (AV.i .i64 x29)), (30, (AV.i .i64 x30)), (45, (AV.b true))] h)
else
(pIdxAddrSl 1 x0 (AV.i .i64 x30) h fun v25 =>
pLoad1 v25 h fun v26 =>
asS v26 fun l27 =>
J 3 [(0, x0), (1, x1), (5, (AV.s x5)), (6, (AV.s x6)), (7, (AV.i .i64 x30)), (29, (AV.i .i64 x29)), (30, (AV.i .i64 x30)), (45, (AV.b (decide ((20 : Int) < (l27.length : Int)))))] h)))
else
(C G_transform_Apply.id [(AV.i .i64 5), (AV.s x6)] h fun v100 h101 =>
asS v100 fun l102 =>
(bif (decide ((l102 : List UInt8) = x5)) then
(C G_transform_Apply.id [(AV.i .i64 5), (AV.s x5)] h101 fun v103 h104 =>
asS v103 fun l105 =>
(bif (decide ((l105 : List UInt8) = x5)) then
(C G_law26_awake.id [] h104 fun v106 h107 =>
asB v106 fun c108 =>
J 7 [(4, (AV.b c108))] h107)
else
(J 7 [(4, (AV.b false))] h104)))
else
(J 7 [(4, (AV.b false))] h101))))
theorem G_law26_TransformPaths.t1_eq (J : JT) (Q : AV → AHeap → Prop) (x0 : AV) (x1 : AV) (x5 : List UInt8) (x6 : List UInt8) (x29 : Int) (x30 : Int) (h : AHeap) : G_law26_TransformPaths.t1 J Q x0 x1 x5 x6 x29 x30 h = atJ prog C 136 J true [1, 1, 1, 0, 1, 0] G_law26_TransformPaths.ann G_law26_TransformPaths.body [(0, x0), (1, x1), (5, (AV.s x5)), (6, (AV.s x6)), (29, (AV.i .i64 x29)), (30, (AV.i .i64 x30))] h (kFun prog Tryd.f6 Q) := by kernel_rfl
theorem G_law26_TransformPaths.i1 {Q : AV → AHeap → Prop} {x0 : AV} {x1 : AV} {x5 : List UInt8} {x6 : List UInt8} {x29 : Int} {x30 : Int} {h : AHeap} (H : G_law26_TransformPaths.t1 (G_law26_TransformPaths.J Q) Q x0 x1 x5 x6 x29 x30 h) : G_law26_TransformPaths.p1 Q x0 x1 x5 x6 x29 x30 h := G_law26_TransformPaths.goH (k := 2) (p := [1, 1, 1, 0, 1, 0]) (by kernel_rfl) ((G_law26_TransformPaths.t1_eq (G_law26_TransformPaths.J Q) Q x0 x1 x5 x6 x29 x30 h).mp H)
def G_law26_TransformPaths.t6 (J : JT) (Q : AV → AHeap → Prop) (x4 : Bool) (h : AHeap) : Prop :=
Q (AV.b x4) h
theorem G_law26_TransformPaths.t6_eq (J : JT) (Q : AV → AHeap → Prop) (x4 : Bool) (h : AHeap) : G_law26_TransformPaths.t6 J Q x4 h = atJ prog C 136 J false [1, 1, 1, 1, 1] G_law26_TransformPaths.ann G_law26_TransformPaths.body [(4, (AV.b x4))] h (kFun prog Tryd.f6 Q) := by kernel_rfl
theorem G_law26_TransformPaths.i6 {Q : AV → AHeap → Prop} {x4 : Bool} {h : AHeap} (H : G_law26_TransformPaths.t6 (G_law26_TransformPaths.J Q) Q x4 h) : G_law26_TransformPaths.p6 Q x4 h := G_law26_TransformPaths.goR (k := 7) (p := [1, 1, 1, 1, 1]) (by kernel_rfl) ((G_law26_TransformPaths.t6_eq (G_law26_TransformPaths.J Q) Q x4 h).mp H)
def G_law26_TransformPaths.t (J : JT) (Q : AV → AHeap → Prop) (x0 : AV) (x1 : AV) (h : AHeap) : Prop :=
pLenSl x0 fun n1 =>
(bif (decide ((n1 : Int) = 0)) then
(J 1 [(0, x0), (1, x1), (26, (AV.b true))] h)
else
(pLenSl x0 fun n3 =>
(bif (decide ((20 : Int) < n3)) then
(J 1 [(0, x0), (1, x1), (26, (AV.b true))] h)
else
(pLenSl x1 fun n5 =>
(bif (decide ((n5 : Int) = 0)) then
(J 1 [(0, x0), (1, x1), (26, (AV.b true))] h)
else
(pLenSl x1 fun n7 =>
J 1 [(0, x0), (1, x1), (26, (AV.b (decide ((40 : Int) < n7))))] h))))))
theorem G_law26_TransformPaths.t_eq (J : JT) (Q : AV → AHeap → Prop) (x0 : AV) (x1 : AV) (h : AHeap) : G_law26_TransformPaths.t J Q x0 x1 h = exJ prog C 136 J G_law26_TransformPaths.ann G_law26_TransformPaths.body (initEnv 0 [x0, x1]) h (kFun prog Tryd.f6 Q) := by kernel_rfl
theorem G_law26_TransformPaths.call {K : AV → AHeap → Prop} {x0 : AV} {x1 : AV} {h : AHeap} (H : G_law26_TransformPaths.t (G_law26_TransformPaths.J (kRet h K)) (kRet h K) x0 x1 h) : C G_law26_TransformPaths.id [x0, x1] h K :=
  callJ (P := prog) (fn := Tryd.f6) (ann := G_law26_TransformPaths.ann) (body := G_law26_TransformPaths.body) Tryd.func6 G_law26_TransformPaths.body_eq (by kernel_rfl) G_law26_TransformPaths.dist (by kernel_rfl) ((G_law26_TransformPaths.t_eq (G_law26_TransformPaths.J (kRet h K)) (kRet h K) x0 x1 h).mp H)


end Go.Proofs.YtbphaelhhfkdiaaDoor
