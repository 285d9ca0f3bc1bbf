/- The law's text in the abstract machine: printed by Gen.lean, checked by Lean's kernel. -/
import Derived.Test.YtffgchcidkapjaaDoorTx1
set_option linter.unusedVariables false
set_option linter.unusedSectionVars false
set_option maxRecDepth 100000
namespace Go.Proofs.YtffgchcidkapjaaDoor
open Go.GAM
variable [XR]
--@@ G_law33_DerRoundTrip
/-! ### 7: intrusion/intrusionlaw33.DerRoundTrip -/
noncomputable def G_law33_DerRoundTrip.body : Code := (Tryd.f7.body).getD .skip
def G_law33_DerRoundTrip.ann : Ann := (.seq 0 [1, 2] .leaf (.seq 0 [1, 2] (.seq 0 [1, 2, 18] .leaf (.br (.seq 0 [4] .leaf .leaf) .leaf)) (.seq 0 [1, 2] (.seq 1 [1, 2, 26] .leaf (.br (.seq 0 [4] .leaf .leaf) .leaf)) (.seq 0 [1, 2, 5, 6] .leaf (.seq 4 [1] (.seq 0 [1, 2, 5, 33] .leaf (.br (.seq 0 [1, 2, 5, 7, 8] .leaf (.seq 0 [1, 5] (.seq 2 [1, 5, 51] .leaf (.br (.seq 0 [4] .leaf .leaf) .leaf)) (.seq 0 [1, 5, 10] .leaf (.seq 0 [1, 5, 10, 12] .leaf (.seq 3 [1, 77] .leaf (.br (.seq 0 [4] .leaf .leaf) .leaf)))))) .leaf)) (.seq 0 [1, 13, 14] .leaf (.seq 0 [1, 13] (.seq 0 [1, 13, 84] .leaf (.br (.seq 5 [4] .leaf .leaf) .leaf)) (.seq 0 [1, 15, 16] .leaf (.seq 6 [4] .leaf .leaf)))))))))
theorem G_law33_DerRoundTrip.body_eq : Tryd.f7.body = some G_law33_DerRoundTrip.body := by kernel_rfl
theorem G_law33_DerRoundTrip.dist : noTwice (places G_law33_DerRoundTrip.ann G_law33_DerRoundTrip.body) = true := by kernel_rfl
noncomputable def G_law33_DerRoundTrip.J (Q : AV → AHeap → Prop) : JT := funJ prog C Tryd.f7 G_law33_DerRoundTrip.ann G_law33_DerRoundTrip.body Q
theorem G_law33_DerRoundTrip.goR {Q : AV → AHeap → Prop} {k : Nat} {p : List Nat} (hl : lookJ (places G_law33_DerRoundTrip.ann G_law33_DerRoundTrip.body) k = some (p, false)) {e : Env} {h : AHeap} (hk : atJ prog C 106 (G_law33_DerRoundTrip.J Q) false p G_law33_DerRoundTrip.ann G_law33_DerRoundTrip.body e h (kFun prog Tryd.f7 Q)) : G_law33_DerRoundTrip.J Q k e h := goJ_run (P := prog) (fn := Tryd.f7) (ann := G_law33_DerRoundTrip.ann) (body := G_law33_DerRoundTrip.body) (Q := Q) (k := k) (p := p) (e := e) (h := h) (acall_le X) G_law33_DerRoundTrip.dist hl hk
theorem G_law33_DerRoundTrip.goH {Q : AV → AHeap → Prop} {k : Nat} {p : List Nat} (hl : lookJ (places G_law33_DerRoundTrip.ann G_law33_DerRoundTrip.body) k = some (p, true)) {e : Env} {h : AHeap} (hk : atJ prog C 106 (G_law33_DerRoundTrip.J Q) true p G_law33_DerRoundTrip.ann G_law33_DerRoundTrip.body e h (kFun prog Tryd.f7 Q)) : G_law33_DerRoundTrip.J Q k e h := goJ_head (P := prog) (fn := Tryd.f7) (ann := G_law33_DerRoundTrip.ann) (body := G_law33_DerRoundTrip.body) (Q := Q) (k := k) (p := p) (e := e) (h := h) (acall_le X) G_law33_DerRoundTrip.dist hl hk
def G_law33_DerRoundTrip.p0 (Q : AV → AHeap → Prop) (x1 : List UInt8) (x2 : AV) (x26 : Bool) (h : AHeap) : Prop := G_law33_DerRoundTrip.J Q 1 [(1, (AV.s x1)), (2, x2), (26, (AV.b x26))] h
theorem G_law33_DerRoundTrip.j0 (Q : AV → AHeap → Prop) (x1 : List UInt8) (x2 : AV) (x26 : Bool) (h : AHeap) : G_law33_DerRoundTrip.J Q 1 [(1, (AV.s x1)), (2, x2), (26, (AV.b x26))] h = G_law33_DerRoundTrip.p0 Q x1 x2 x26 h := rfl
def G_law33_DerRoundTrip.p1 (Q : AV → AHeap → Prop) (x1 : List UInt8) (x5 : List UInt8) (x51 : Bool) (h : AHeap) : Prop := G_law33_DerRoundTrip.J Q 2 [(1, (AV.s x1)), (5, (AV.s x5)), (51, (AV.b x51))] h
theorem G_law33_DerRoundTrip.j1 (Q : AV → AHeap → Prop) (x1 : List UInt8) (x5 : List UInt8) (x51 : Bool) (h : AHeap) : G_law33_DerRoundTrip.J Q 2 [(1, (AV.s x1)), (5, (AV.s x5)), (51, (AV.b x51))] h = G_law33_DerRoundTrip.p1 Q x1 x5 x51 h := rfl
def G_law33_DerRoundTrip.p2 (Q : AV → AHeap → Prop) (x1 : List UInt8) (x77 : Bool) (h : AHeap) : Prop := G_law33_DerRoundTrip.J Q 3 [(1, (AV.s x1)), (77, (AV.b x77))] h
theorem G_law33_DerRoundTrip.j2 (Q : AV → AHeap → Prop) (x1 : List UInt8) (x77 : Bool) (h : AHeap) : G_law33_DerRoundTrip.J Q 3 [(1, (AV.s x1)), (77, (AV.b x77))] h = G_law33_DerRoundTrip.p2 Q x1 x77 h := rfl
def G_law33_DerRoundTrip.p4 (Q : AV → AHeap → Prop) (x4 : Bool) (h : AHeap) : Prop := G_law33_DerRoundTrip.J Q 5 [(4, (AV.b x4))] h
theorem G_law33_DerRoundTrip.j4 (Q : AV → AHeap → Prop) (x4 : Bool) (h : AHeap) : G_law33_DerRoundTrip.J Q 5 [(4, (AV.b x4))] h = G_law33_DerRoundTrip.p4 Q x4 h := rfl
def G_law33_DerRoundTrip.p5 (Q : AV → AHeap → Prop) (x4 : Bool) (h : AHeap) : Prop := G_law33_DerRoundTrip.J Q 6 [(4, (AV.b x4))] h
theorem G_law33_DerRoundTrip.j5 (Q : AV → AHeap → Prop) (x4 : Bool) (h : AHeap) : G_law33_DerRoundTrip.J Q 6 [(4, (AV.b x4))] h = G_law33_DerRoundTrip.p5 Q x4 h := rfl
def G_law33_DerRoundTrip.p3 (Q : AV → AHeap → Prop) (x1 : List UInt8) (h : AHeap) : Prop := G_law33_DerRoundTrip.J Q 4 [(1, (AV.s x1))] h
theorem G_law33_DerRoundTrip.j3 (Q : AV → AHeap → Prop) (x1 : List UInt8) (h : AHeap) : G_law33_DerRoundTrip.J Q 4 [(1, (AV.s x1))] h = G_law33_DerRoundTrip.p3 Q x1 h := rfl
def G_law33_DerRoundTrip.t0 (J : JT) (Q : AV → AHeap → Prop) (x1 : List UInt8) (x2 : AV) (x26 : Bool) (h : AHeap) : Prop :=
(bif x26 then
(Q (AV.b true) h)
else
(pLoadN 5 x2 h fun v17 =>
C G_der_Encode.id [v17] h fun v18 h19 =>
pExtract 0 v18 fun v20 =>
asS v20 fun l21 =>
pExtract 1 v18 fun v22 =>
asI .i64 v22 fun n23 =>
(bif (decide ((n23 : Int) = 0)) then
(C G_der_Decode.id [(AV.s l21)] h19 fun v26 h27 =>
pExtract 0 v26 fun v28 =>
pExtract 1 v26 fun v29 =>
asI .i64 v29 fun n30 =>
pAlloc [(AV.i .i64 0), (AV.i .i64 0), (AV.b false), (AV.s []), (AV.sl none 0 none)] h27 fun v31 h32 =>
pStore 5 v31 v28 h32 fun h33 =>
pLoadN 5 v31 h33 fun v35 =>
pLoadN 5 x2 h33 fun v36 =>
C G_ref33_Same.id [v35, v36] h33 fun v37 h38 =>
asB v37 fun c39 =>
(bif (!c39) then
(J 2 [(1, (AV.s x1)), (5, (AV.s l21)), (51, (AV.b true))] h38)
else
((bif (!decide ((n30 : Int) = 0)) then
(J 2 [(1, (AV.s x1)), (5, (AV.s l21)), (51, (AV.b true))] h38)
else
(J 2 [(1, (AV.s x1)), (5, (AV.s l21)), (51, (AV.b (decide (((l21.length : Int) : Int) < 2))))] h38)))))
else
(J 4 [(1, (AV.s x1))] h19))))
theorem G_law33_DerRoundTrip.t0_eq (J : JT) (Q : AV → AHeap → Prop) (x1 : List UInt8) (x2 : AV) (x26 : Bool) (h : AHeap) : G_law33_DerRoundTrip.t0 J Q x1 x2 x26 h = atJ prog C 106 J false [1, 1, 0, 1] G_law33_DerRoundTrip.ann G_law33_DerRoundTrip.body [(1, (AV.s x1)), (2, x2), (26, (AV.b x26))] h (kFun prog Tryd.f7 Q) := by kernel_rfl
theorem G_law33_DerRoundTrip.i0 {Q : AV → AHeap → Prop} {x1 : List UInt8} {x2 : AV} {x26 : Bool} {h : AHeap} (H : G_law33_DerRoundTrip.t0 (G_law33_DerRoundTrip.J Q) Q x1 x2 x26 h) : G_law33_DerRoundTrip.p0 Q x1 x2 x26 h := G_law33_DerRoundTrip.goR (k := 1) (p := [1, 1, 0, 1]) (by kernel_rfl) ((G_law33_DerRoundTrip.t0_eq (G_law33_DerRoundTrip.J Q) Q x1 x2 x26 h).mp H)
def G_law33_DerRoundTrip.t1 (J : JT) (Q : AV → AHeap → Prop) (x1 : List UInt8) (x5 : List UInt8) (x51 : Bool) (h : AHeap) : Prop :=
(bif x51 then
(Q (AV.b false) h)
else
(withI (IntKind.wrap .i64 ((x5.length : Int) - 1)) fun n45 =>
pSliceStr (AV.s x5) none (some (AV.i .i64 n45)) fun l46 =>
C G_der_Decode.id [(AV.s l46)] h fun v47 h48 =>
pExtract 0 v47 fun v49 =>
pExtract 1 v47 fun v50 =>
asI .i64 v50 fun n51 =>
pAlloc [(AV.i .i64 0), (AV.i .i64 0), (AV.b false), (AV.s []), (AV.sl none 0 none)] h48 fun v52 h53 =>
pStore 5 v52 v49 h53 fun h54 =>
pCat x5 [0] fun l56 =>
C G_der_Decode.id [(AV.s l56)] h54 fun v57 h58 =>
pExtract 0 v57 fun v59 =>
pExtract 1 v57 fun v60 =>
asI .i64 v60 fun n61 =>
pAlloc [(AV.i .i64 0), (AV.i .i64 0), (AV.b false), (AV.s []), (AV.sl none 0 none)] h58 fun v62 h63 =>
pStore 5 v62 v59 h63 fun h64 =>
(bif (decide ((n51 : Int) = 0)) then
(J 3 [(1, (AV.s x1)), (77, (AV.b true))] h64)
else
((bif (!decide ((n61 : Int) = 2)) then
(J 3 [(1, (AV.s x1)), (77, (AV.b (decide (((x5.length : Int) : Int) < 65535))))] h64)
else
(J 3 [(1, (AV.s x1)), (77, (AV.b false))] h64))))))
theorem G_law33_DerRoundTrip.t1_eq (J : JT) (Q : AV → AHeap → Prop) (x1 : List UInt8) (x5 : List UInt8) (x51 : Bool) (h : AHeap) : G_law33_DerRoundTrip.t1 J Q x1 x5 x51 h = atJ prog C 106 J false [1, 1, 1, 1, 0, 1, 0, 1, 0, 1] G_law33_DerRoundTrip.ann G_law33_DerRoundTrip.body [(1, (AV.s x1)), (5, (AV.s x5)), (51, (AV.b x51))] h (kFun prog Tryd.f7 Q) := by kernel_rfl
theorem G_law33_DerRoundTrip.i1 {Q : AV → AHeap → Prop} {x1 : List UInt8} {x5 : List UInt8} {x51 : Bool} {h : AHeap} (H : G_law33_DerRoundTrip.t1 (G_law33_DerRoundTrip.J Q) Q x1 x5 x51 h) : G_law33_DerRoundTrip.p1 Q x1 x5 x51 h := G_law33_DerRoundTrip.goR (k := 2) (p := [1, 1, 1, 1, 0, 1, 0, 1, 0, 1]) (by kernel_rfl) ((G_law33_DerRoundTrip.t1_eq (G_law33_DerRoundTrip.J Q) Q x1 x5 x51 h).mp H)
def G_law33_DerRoundTrip.t2 (J : JT) (Q : AV → AHeap → Prop) (x1 : List UInt8) (x77 : Bool) (h : AHeap) : Prop :=
(bif x77 then
(Q (AV.b false) h)
else
(J 4 [(1, (AV.s x1))] h))
theorem G_law33_DerRoundTrip.t2_eq (J : JT) (Q : AV → AHeap → Prop) (x1 : List UInt8) (x77 : Bool) (h : AHeap) : G_law33_DerRoundTrip.t2 J Q x1 x77 h = atJ prog C 106 J false [1, 1, 1, 1, 0, 1, 0, 1, 1, 1, 1, 1] G_law33_DerRoundTrip.ann G_law33_DerRoundTrip.body [(1, (AV.s x1)), (77, (AV.b x77))] h (kFun prog Tryd.f7 Q) := by kernel_rfl
theorem G_law33_DerRoundTrip.i2 {Q : AV → AHeap → Prop} {x1 : List UInt8} {x77 : Bool} {h : AHeap} (H : G_law33_DerRoundTrip.t2 (G_law33_DerRoundTrip.J Q) Q x1 x77 h) : G_law33_DerRoundTrip.p2 Q x1 x77 h := G_law33_DerRoundTrip.goR (k := 3) (p := [1, 1, 1, 1, 0, 1, 0, 1, 1, 1, 1, 1]) (by kernel_rfl) ((G_law33_DerRoundTrip.t2_eq (G_law33_DerRoundTrip.J Q) Q x1 x77 h).mp H)
def G_law33_DerRoundTrip.t4 (J : JT) (Q : AV → AHeap → Prop) (x4 : Bool) (h : AHeap) : Prop :=
Q (AV.b x4) h
theorem G_law33_DerRoundTrip.t4_eq (J : JT) (Q : AV → AHeap → Prop) (x4 : Bool) (h : AHeap) : G_law33_DerRoundTrip.t4 J Q x4 h = atJ prog C 106 J false [1, 1, 1, 1, 1, 1, 0, 1, 0, 1] G_law33_DerRoundTrip.ann G_law33_DerRoundTrip.body [(4, (AV.b x4))] h (kFun prog Tryd.f7 Q) := by kernel_rfl
theorem G_law33_DerRoundTrip.i4 {Q : AV → AHeap → Prop} {x4 : Bool} {h : AHeap} (H : G_law33_DerRoundTrip.t4 (G_law33_DerRoundTrip.J Q) Q x4 h) : G_law33_DerRoundTrip.p4 Q x4 h := G_law33_DerRoundTrip.goR (k := 5) (p := [1, 1, 1, 1, 1, 1, 0, 1, 0, 1]) (by kernel_rfl) ((G_law33_DerRoundTrip.t4_eq (G_law33_DerRoundTrip.J Q) Q x4 h).mp H)
def G_law33_DerRoundTrip.t5 (J : JT) (Q : AV → AHeap → Prop) (x4 : Bool) (h : AHeap) : Prop :=
Q (AV.b x4) h
theorem G_law33_DerRoundTrip.t5_eq (J : JT) (Q : AV → AHeap → Prop) (x4 : Bool) (h : AHeap) : G_law33_DerRoundTrip.t5 J Q x4 h = atJ prog C 106 J false [1, 1, 1, 1, 1, 1, 1, 1, 1] G_law33_DerRoundTrip.ann G_law33_DerRoundTrip.body [(4, (AV.b x4))] h (kFun prog Tryd.f7 Q) := by kernel_rfl
theorem G_law33_DerRoundTrip.i5 {Q : AV → AHeap → Prop} {x4 : Bool} {h : AHeap} (H : G_law33_DerRoundTrip.t5 (G_law33_DerRoundTrip.J Q) Q x4 h) : G_law33_DerRoundTrip.p5 Q x4 h := G_law33_DerRoundTrip.goR (k := 6) (p := [1, 1, 1, 1, 1, 1, 1, 1, 1]) (by kernel_rfl) ((G_law33_DerRoundTrip.t5_eq (G_law33_DerRoundTrip.J Q) Q x4 h).mp H)
def G_law33_DerRoundTrip.t3 (J : JT) (Q : AV → AHeap → Prop) (x1 : List UInt8) (h : AHeap) : Prop :=
C G_der_Decode.id [(AV.s x1)] h fun v72 h73 =>
pExtract 0 v72 fun v74 =>
pExtract 1 v72 fun v75 =>
asI .i64 v75 fun n76 =>
pAlloc [(AV.i .i64 0), (AV.i .i64 0), (AV.b false), (AV.s []), (AV.sl none 0 none)] h73 fun v77 h78 =>
pStore 5 v77 v74 h78 fun h79 =>
(bif (!decide ((n76 : Int) = 0)) then
(pFieldAddr 4 v77 fun v82 =>
pLoad1 v82 h79 fun v83 =>
pLenSl v83 fun n84 =>
(bif (decide ((n84 : Int) = 0)) then
(pFieldAddr 3 v77 fun v85 =>
pLoad1 v85 h79 fun v86 =>
asS v86 fun l87 =>
J 5 [(4, (AV.b (decide ((l87 : List UInt8) = []))))] h79)
else
(J 5 [(4, (AV.b false))] h79)))
else
(pLoadN 5 v77 h79 fun v91 =>
C G_der_Encode.id [v91] h79 fun v92 h93 =>
pExtract 0 v92 fun v94 =>
asS v94 fun l95 =>
pExtract 1 v92 fun v96 =>
asI .i64 v96 fun n97 =>
(bif (decide ((l95 : List UInt8) = x1)) then
(J 6 [(4, (AV.b (decide ((n97 : Int) = 0))))] h93)
else
(J 6 [(4, (AV.b false))] h93))))
theorem G_law33_DerRoundTrip.t3_eq (J : JT) (Q : AV → AHeap → Prop) (x1 : List UInt8) (h : AHeap) : G_law33_DerRoundTrip.t3 J Q x1 h = atJ prog C 106 J false [1, 1, 1, 1, 1] G_law33_DerRoundTrip.ann G_law33_DerRoundTrip.body [(1, (AV.s x1))] h (kFun prog Tryd.f7 Q) := by kernel_rfl
theorem G_law33_DerRoundTrip.i3 {Q : AV → AHeap → Prop} {x1 : List UInt8} {h : AHeap} (H : G_law33_DerRoundTrip.t3 (G_law33_DerRoundTrip.J Q) Q x1 h) : G_law33_DerRoundTrip.p3 Q x1 h := G_law33_DerRoundTrip.goR (k := 4) (p := [1, 1, 1, 1, 1]) (by kernel_rfl) ((G_law33_DerRoundTrip.t3_eq (G_law33_DerRoundTrip.J Q) Q x1 h).mp H)
def G_law33_DerRoundTrip.t (J : JT) (Q : AV → AHeap → Prop) (x0 : AV) (x1 : List UInt8) (h : AHeap) : Prop :=
pBox x0 h fun v0 h1 =>
C G_law33_lives.id [] h1 fun v3 h4 =>
asB v3 fun c5 =>
(bif (!c5) then
(Q (AV.b false) h4)
else
(pLoadN 5 v0 h4 fun v9 =>
C G_ref33_Few.id [v9] h4 fun v10 h11 =>
asB v10 fun c12 =>
(bif (!c12) then
(J 1 [(1, (AV.s x1)), (2, v0), (26, (AV.b true))] h11)
else
(J 1 [(1, (AV.s x1)), (2, v0), (26, (AV.b (decide ((3000 : Int) < (x1.length : Int)))))] h11))))
theorem G_law33_DerRoundTrip.t_eq (J : JT) (Q : AV → AHeap → Prop) (x0 : AV) (x1 : List UInt8) (h : AHeap) : G_law33_DerRoundTrip.t J Q x0 x1 h = exJ prog C 106 J G_law33_DerRoundTrip.ann G_law33_DerRoundTrip.body (initEnv 0 [x0, (AV.s x1)]) h (kFun prog Tryd.f7 Q) := by kernel_rfl
theorem G_law33_DerRoundTrip.call {K : AV → AHeap → Prop} {x0 : AV} {x1 : List UInt8} {h : AHeap} (H : G_law33_DerRoundTrip.t (G_law33_DerRoundTrip.J (kRet h K)) (kRet h K) x0 x1 h) : C G_law33_DerRoundTrip.id [x0, (AV.s x1)] h K :=
  callJ (P := prog) (fn := Tryd.f7) (ann := G_law33_DerRoundTrip.ann) (body := G_law33_DerRoundTrip.body) Tryd.func7 G_law33_DerRoundTrip.body_eq (by kernel_rfl) G_law33_DerRoundTrip.dist (by kernel_rfl) ((G_law33_DerRoundTrip.t_eq (G_law33_DerRoundTrip.J (kRet h K)) (kRet h K) x0 x1 h).mp H)


end Go.Proofs.YtffgchcidkapjaaDoor
