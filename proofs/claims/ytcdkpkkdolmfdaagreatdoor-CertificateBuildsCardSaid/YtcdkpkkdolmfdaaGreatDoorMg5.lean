/- Lemmas (several texts in one). -/
import Derived.Below
import Derived.ChangeArms
import Derived.ChangeSlices
import Derived.DataElems
import Derived.LaidMore
import Derived.Lib.Bytealg
import Derived.Test.YtcdkpkkdolmfdaaGreatDoorMg4
set_option linter.unusedVariables false
set_option linter.unusedSectionVars false
set_option maxRecDepth 100000
namespace Go.Proofs.YtcdkpkkdolmfdaaGreatDoor
open Go.GAM
variable [XR]
noncomputable def Y93.body:Code:=(Tryz.f84.body).getD .skip
def Y93.ann:Ann:=(sl [0,1] (sl [0,1] (sl [] (sl [4] lf))))
theorem Y93.dist:aT (places Y93.ann Y93.body)=true:=by kernel_rfl
noncomputable def Y93.J (Q:AV→aA→Prop):JT:=b4 prog C Tryz.f84 Y93.ann Y93.body Q
def Y93.t (Q:AV→aA→Prop) (x0:AV) (x1:Int) (h:aA) (J:JT):Prop:=
C Y88.id [x0] h fun v1 h2=>
cV x0 fun v4=>
aD 1 v4 fun v5=>
aC v5 h2 fun v6=>
aN 1 1 [(AV.i .u8 0)] [(0,1,(AV.i .u8 x1))] h2 fun v7 h8=>
bN (some 5) 1 1 v6 v7 h8 fun v9 h10=>
cV x0 fun v11=>
aD 1 v11 fun v12=>
aS 1 v12 v9 h10 fun h13=>
Q AV.ni h13
theorem Y93.call {K x0 x1 h} (H:Y93.t (aI h K) x0 x1 h (Y93.J (aI h K))):C Y93.id [x0,(AV.i .u8 x1)] h K:=
 gC Y93.J Tryz.func84 Y93.dist H
noncomputable def Y87.body:Code:=(Tryz.f85.body).getD .skip
def Y87.ann:Ann:=(sl [0] (sq [2] (.ord (nn 0 4 (nn 5 5 (.eff 4 (.eff 10 (.neu 11 .done) .stop) .stop)))) lf))
theorem Y87.dist:aT (places Y87.ann Y87.body)=true:=by kernel_rfl
noncomputable def Y87.J (Q:AV→aA→Prop):JT:=b4 prog C Tryz.f85 Y87.ann Y87.body Q
def Y87.t (Q:AV→aA→Prop) (x0:AV) (h:aA) (J:JT):Prop:=
cV x0 fun v1=>
aD 1 v1 fun v2=>
aC v2 h fun v3=>
cV x0 fun v4=>
aD 1 v4 fun v5=>
aC v5 h fun v6=>
bP v6 fun n7=>
j7 v3 h fun v8 h9=>
aC v5 h9 fun v10=>
(v6=v10 ∧
(nR prog v8 (AV.i .i64 n7) h9 fun v11 h12=>
asS v11 fun l13=>
aC v5 h12 fun v14=>
(v6=v14 ∧
(aC v2 h12 fun v15=>
(v3=v15 ∧
(Q (AV.s l13) h12))))))
theorem Y87.call {K x0 h} (H:Y87.t (aI h K) x0 h (Y87.J (aI h K))):C Y87.id [x0] h K:=
 gC Y87.J Tryz.func85 Y87.dist H
noncomputable def Y7.body:Code:=(Tryz.f86.body).getD .skip
def Y7.ann:Ann:=(sl [1] (sq [1] (.seq 1 [1,20] lf (.br (sl [2,3] lf) lf)) (sl [1,4] (sl [1,4,5,6] (sq [4,6] (sl [1,4,5,6,23,24] (.one (.loop 2 [1,4,5,6,23,24] (sl [1,4,5,6,23,24,25] (sq [1,4,5,6,23,24] bl (.seq 4 [1,4,5,6,23,24] (.one (sl [1,4,5,6,7,23,24] (sl [1,4,5,6,8,23,24] (sq [1,4,5,8,23,24] (.seq 3 [1,4,5,8,23,24,37] lf (.br (sl [2,3] lf) lf)) (sl [1,4,5,8,23,24] (sl [1,4,5,6,23,24] (sq [1,4,5,6,23,24] (sl [1,4,5,6,23,24,46] (.br (sl [2,3] lf) lf)) (sl [1,4,5,6,23,24,48] (.br (sl [1,4,6,23,24] lf) lf))))))))) lf)))))) (sq [4] (sl [4,54] (.br (sl [2,3] lf) lf)) (sl [4,9] (sq [4,10] (.ord (.neu 0 (nn 3 6 (.eff 1 (.neu 2 (.eff 9 (nn 10 2 .done) .stop)) .stop)))) (sq [10] (sl [10,72,73,74] (.one (.loop 5 [10,72,73,74] (sl [10,72,73,74,75] (sq [10,72,73,74] bl (sq [10,72,73,74] (.one (sl [10,12,72,73,74] lf)) lf)))))) (sl [2,3] lf))))))))))
theorem Y7.dist:aT (places Y7.ann Y7.body)=true:=by kernel_rfl
noncomputable def Y7.J (Q:AV→aA→Prop):JT:=b4 prog C Tryz.f86 Y7.ann Y7.body Q
def Y7.p0 (Q:AV→aA→Prop) (x1:AV) (x20:Bool) (h:aA):Prop:=Y7.J Q 1 [(1,x1),(20,(AV.b x20))] h
def Y7.p2 (Q:AV→aA→Prop) (x1 x4:AV) (x5 x8 x23 x24:Int) (x37:Bool) (h:aA):Prop:=Y7.J Q 3 [(1,x1),(4,x4),(5,(AV.i .i64 x5)),(8,(AV.i .i64 x8)),(23,(AV.i .i64 x23)),(24,(AV.i .i64 x24)),(37,(AV.b x37))] h
def Y7.p3 (Q:AV→aA→Prop) (x1 x4:AV) (x5:Int) (x6:Bool) (x23 x24:Int) (h:aA):Prop:=Y7.J Q 4 [(1,x1),(4,x4),(5,(AV.i .i64 x5)),(6,(AV.b x6)),(23,(AV.i .i64 x23)),(24,(AV.i .i64 x24))] h
def Y7.p1 (Q:AV→aA→Prop) (x1 x4:AV) (x5:Int) (x6:Bool) (x23 x24:Int) (h:aA):Prop:=Y7.J Q 2 [(1,x1),(4,x4),(5,(AV.i .i64 x5)),(6,(AV.b x6)),(23,(AV.i .i64 x23)),(24,(AV.i .i64 x24))] h
def Y7.p4 (Q:AV→aA→Prop) (x10:List UInt8) (x72:AV) (x73 x74:Int) (h:aA):Prop:=Y7.J Q 5 [(10,(AV.s x10)),(72,x72),(73,(AV.i .i64 x73)),(74,(AV.i .i64 x74))] h
def Y7.t0 (Q:AV→aA→Prop) (x1:AV) (x20:Bool) (h:aA) (J:JT):Prop:=
(bif x20 then
(Q (AV.tu [(AV.s []),(AV.b false)]) h)
else
(aD 3 x1 fun v16=>
aC v16 h fun v17=>
asS v17 fun l18=>
J 2 [(1,x1),(4,(AV.sl none 0 none)),(5,(AV.i .i64 0)),(6,(AV.b false)),(23,(AV.i .i64 (l18.length:Int))),(24,(AV.i .i64 0))] h))
theorem Y7.i0 {Q x1 x20 h} (H:Y7.t0 Q x1 x20 h (Y7.J Q)):Y7.p0 Q x1 x20 h:=gR Y7.J Tryz.f86 Y7.dist [1,0,1] H
def Y7.t2 (Q:AV→aA→Prop) (x1 x4:AV) (x5 x8 x23 x24:Int) (x37:Bool) (h:aA) (J:JT):Prop:=
(bif x37 then
(Q (AV.tu [(AV.s []),(AV.b false)]) h)
else
(xA .i64 x5 7 fun n33=>
aQ (cI .and .i64 x8 127) fun n34=>
aQ (cI .or .i64 n33 n34) fun n35=>
(bif (decide ((268435456:Int)≤n35)) then
(Q (AV.tu [(AV.s []),(AV.b false)]) h)
else
((bif (!(decide ((128:Int)≤x8))) then
(aN 1 1 [(AV.i .i64 0)] [(0,1,(AV.i .i64 n35))] h fun v42 h43=>
bN none 1 8 x4 v42 h43 fun v44 h45=>
J 4 [(1,x1),(4,v44),(5,(AV.i .i64 0)),(6,(AV.b (decide ((128:Int)≤x8)))),(23,(AV.i .i64 x23)),(24,(AV.i .i64 x24))] h45)
else
(J 4 [(1,x1),(4,x4),(5,(AV.i .i64 n35)),(6,(AV.b (decide ((128:Int)≤x8)))),(23,(AV.i .i64 x23)),(24,(AV.i .i64 x24))] h))))))
theorem Y7.i2 {Q x1 x4 x5 x8 x23 x24 x37 h} (H:Y7.t2 Q x1 x4 x5 x8 x23 x24 x37 h (Y7.J Q)):Y7.p2 Q x1 x4 x5 x8 x23 x24 x37 h:=gR Y7.J Tryz.f86 Y7.dist [1,1,1,1,0,1,0,0,1,1,0,0,1,1,0,1] H
def Y7.t3 (Q:AV→aA→Prop) (x1 x4:AV) (x5:Int) (x6:Bool) (x23 x24:Int) (h:aA) (J:JT):Prop:=
aQ (IntKind.wrap .i64 (x24+1)) fun n49=>
J 2 [(1,x1),(4,x4),(5,(AV.i .i64 x5)),(6,(AV.b x6)),(23,(AV.i .i64 x23)),(24,(AV.i .i64 n49))] h
theorem Y7.i3 {Q x1 x4 x5 x6 x23 x24 h} (H:Y7.t3 Q x1 x4 x5 x6 x23 x24 h (Y7.J Q)):Y7.p3 Q x1 x4 x5 x6 x23 x24 h:=gR Y7.J Tryz.f86 Y7.dist [1,1,1,1,0,1,0,0,1,1,1] H
def Y7.t1 (Q:AV→aA→Prop) (x1 x4:AV) (x5:Int) (x6:Bool) (x23 x24:Int) (h:aA) (J:JT):Prop:=
(bif (decide ((x24:Int)<x23)) then
(aD 3 x1 fun v24=>
aC v24 h fun v25=>
asS v25 fun l26=>
bT (AV.s l26) (AV.i .i64 x24) fun n27=>
(bif (!x6) then
(J 3 [(1,x1),(4,x4),(5,(AV.i .i64 x5)),(8,(AV.i .i64 (IntKind.wrap .i64 n27))),(23,(AV.i .i64 x23)),(24,(AV.i .i64 x24)),(37,(AV.b (decide (((IntKind.wrap .i64 n27):Int)=128))))] h)
else
(J 3 [(1,x1),(4,x4),(5,(AV.i .i64 x5)),(8,(AV.i .i64 (IntKind.wrap .i64 n27))),(23,(AV.i .i64 x23)),(24,(AV.i .i64 x24)),(37,(AV.b false))] h)))
else
((bif x6 then
(Q (AV.tu [(AV.s []),(AV.b false)]) h)
else
(aE 1 x4 (AV.i .i64 0) h fun v54=>
aC v54 h fun v55=>
asI .i64 v55 fun n56=>
jK .i64 n56 40 fun n57=>
aE 1 x4 (AV.i .i64 0) h fun v59=>
aC v59 h fun v60=>
asI .i64 v60 fun n61=>
aQ (IntKind.wrap .i64 (40 * (mmI false 2 n57))) fun n62=>
aQ (IntKind.wrap .i64 (n61 - n62)) fun n63=>
C Y116.id [(AV.i .i64 (mmI false 2 n57))] h fun v64 h65=>
asS v64 fun l66=>
aC v59 h65 fun v67=>
asI .i64 v67 fun n68=>
((AV.i .i64 n61)=(AV.i .i64 n68) ∧
(aE 1 x4 (AV.i .i64 0) h65 fun v69=>
(v59=v69 ∧
(eC l66 [46] fun l70=>
C Y116.id [(AV.i .i64 n63)] h65 fun v71 h72=>
asS v71 fun l73=>
aC v59 h72 fun v74=>
asI .i64 v74 fun n75=>
((AV.i .i64 n61)=(AV.i .i64 n75) ∧
(aE 1 x4 (AV.i .i64 0) h72 fun v76=>
(v59=v76 ∧
(eC l70 l73 fun l77=>
cX 1 x4 (some (AV.i .i64 1)) none none h72 fun v79=>
bP v79 fun n80=>
J 5 [(10,(AV.s l77)),(72,v79),(73,(AV.i .i64 n80)),(74,(AV.i .i64 0))] h72))))))))))))
theorem Y7.i1 {Q x1 x4 x5 x6 x23 x24 h} (H:Y7.t1 Q x1 x4 x5 x6 x23 x24 h (Y7.J Q)):Y7.p1 Q x1 x4 x5 x6 x23 x24 h:=gH Y7.J Tryz.f86 Y7.dist [1,1,1,1,0,1,0] H
def Y7.t4 (Q:AV→aA→Prop) (x10:List UInt8) (x72:AV) (x73 x74:Int) (h:aA) (J:JT):Prop:=
(bif (decide ((x74:Int)<x73)) then
(aE 1 x72 (AV.i .i64 x74) h fun v85=>
aC v85 h fun v86=>
asI .i64 v86 fun n87=>
C Y116.id [(AV.i .i64 n87)] h fun v89 h90=>
asS v89 fun l91=>
eC [46] l91 fun l92=>
eC x10 l92 fun l93=>
aQ (IntKind.wrap .i64 (x74+1)) fun n95=>
J 5 [(10,(AV.s l93)),(72,x72),(73,(AV.i .i64 x73)),(74,(AV.i .i64 n95))] h90)
else
(Q (AV.tu [(AV.s x10),(AV.b true)]) h))
theorem Y7.i4 {Q x10 x72 x73 x74 h} (H:Y7.t4 Q x10 x72 x73 x74 h (Y7.J Q)):Y7.p4 Q x10 x72 x73 x74 h:=gH Y7.J Tryz.f86 Y7.dist [1,1,1,1,1,1,1,1,0,1,0] H
def Y7.t (Q:AV→aA→Prop) (x0:AV) (h:aA) (J:JT):Prop:=
eH (some 33) x0 h fun v0 h1=>
aB 5 v0 h1 fun v3=>
C Y45.id [v3,(AV.i .i64 6)] h1 fun v4 h5=>
asB v4 fun c6=>
(bif (!c6) then
(J 1 [(1,v0),(20,(AV.b true))] h5)
else
(aD 3 v0 fun v8=>
aC v8 h5 fun v9=>
asS v9 fun l10=>
J 1 [(1,v0),(20,(AV.b (decide ((l10:List UInt8)=[]))))] h5))
theorem Y7.call {K x0 h} (H:Y7.t (aI h K) x0 h (Y7.J (aI h K))):C Y7.id [x0] h K:=
 gC Y7.J Tryz.func86 Y7.dist H
noncomputable def Y64.body:Code:=(Tryz.f87.body).getD .skip
def Y64.ann:Ann:=(sl [1] (sq [1] (.seq 1 [1,16] lf (.br (sl [2,3] lf) lf)) (sq [1] (sl [1,21] (.br (sl [2,3] lf) lf)) (sl [2,3] lf))))
theorem Y64.dist:aT (places Y64.ann Y64.body)=true:=by kernel_rfl
noncomputable def Y64.J (Q:AV→aA→Prop):JT:=b4 prog C Tryz.f87 Y64.ann Y64.body Q
def Y64.p0 (Q:AV→aA→Prop) (x1:AV) (x16:Bool) (h:aA):Prop:=Y64.J Q 1 [(1,x1),(16,(AV.b x16))] h
def Y64.t0 (Q:AV→aA→Prop) (x1:AV) (x16:Bool) (h:aA) (J:JT):Prop:=
(bif x16 then
(Q (AV.tu [(AV.s []),(AV.b false)]) h)
else
(aD 3 x1 fun v20=>
aC v20 h fun v21=>
asS v21 fun l22=>
fJ (AV.s l22) h fun v23 h24=>
C Y46.id [v23,(AV.fn (.func Y63.id) [] [])] h24 fun v25 h26=>
asB v25 fun c27=>
(bif (!c27) then
(Q (AV.tu [(AV.s []),(AV.b false)]) h26)
else
(aD 3 x1 fun v31=>
aC v31 h26 fun v32=>
asS v32 fun l33=>
Q (AV.tu [(AV.s l33),(AV.b true)]) h26))))
theorem Y64.i0 {Q x1 x16 h} (H:Y64.t0 Q x1 x16 h (Y64.J Q)):Y64.p0 Q x1 x16 h:=gR Y64.J Tryz.f87 Y64.dist [1,0,1] H
def Y64.t (Q:AV→aA→Prop) (x0:AV) (h:aA) (J:JT):Prop:=
eH (some 33) x0 h fun v0 h1=>
aB 5 v0 h1 fun v3=>
C Y45.id [v3,(AV.i .i64 12)] h1 fun v4 h5=>
asB v4 fun c6=>
(bif (!c6) then
(aB 5 v0 h5 fun v7=>
C Y45.id [v7,(AV.i .i64 19)] h5 fun v8 h9=>
asB v8 fun c10=>
(bif (!c10) then
(aB 5 v0 h9 fun v11=>
C Y45.id [v11,(AV.i .i64 22)] h9 fun v12 h13=>
asB v12 fun c14=>
J 1 [(1,v0),(16,(AV.b (!c14)))] h13)
else
(J 1 [(1,v0),(16,(AV.b false))] h9)))
else
(J 1 [(1,v0),(16,(AV.b false))] h5))
theorem Y64.call {K x0 h} (H:Y64.t (aI h K) x0 h (Y64.J (aI h K))):C Y64.id [x0] h K:=
 gC Y64.J Tryz.func87 Y64.dist H
noncomputable def Y89.body:Code:=(Tryz.f88.body).getD .skip
def Y89.ann:Ann:=(sl [0] (sq [0] (sl [0,6] bl) (sl [2] lf)))
theorem Y89.dist:aT (places Y89.ann Y89.body)=true:=by kernel_rfl
noncomputable def Y89.J (Q:AV→aA→Prop):JT:=b4 prog C Tryz.f88 Y89.ann Y89.body Q
def Y89.t (Q:AV→aA→Prop) (x0:AV) (h:aA) (J:JT):Prop:=
bP x0 fun n1=>
iJ n1 2 fun n2=>
(bif (decide ((n2:Int)=1)) then
(False)
else
(bN none 1 16 (AV.sl none 0 none) x0 h fun v5 h6=>
dO [(AV.i .u32 0),(AV.i .i32 0),(AV.i .u32 0),AV.ni,(AV.sl none 0 none)] [(4,1,v5)] fun v7=>
eH (some 149) v7 h6 fun v8 h9=>
Q v8 h9))
theorem Y89.call {K x0 h} (H:Y89.t (aI h K) x0 h (Y89.J (aI h K))):C Y89.id [x0] h K:=
 gC Y89.J Tryz.func88 Y89.dist H
noncomputable def Y96.body:Code:=(Tryz.f89.body).getD .skip
def Y96.ann:Ann:=(sl [0,1] (sl [0,1] (sl [4] lf)))
theorem Y96.dist:aT (places Y96.ann Y96.body)=true:=by kernel_rfl
noncomputable def Y96.J (Q:AV→aA→Prop):JT:=b4 prog C Tryz.f89 Y96.ann Y96.body Q
def Y96.t (Q:AV→aA→Prop) (x0:AV) (x1:List UInt8) (h:aA) (J:JT):Prop:=
cV x0 fun v1=>
aD 0 v1 fun v2=>
C Y103.id [v2,(AV.fn (.func Y92.id) [x0] [])] h fun v3 h4=>
cV x0 fun v6=>
aD 3 v6 fun v7=>
aC v7 h4 fun v8=>
oP prog C v8 "Replace" [(AV.s x1)] h4 fun v9 h10=>
asS v9 fun l11=>
Q (AV.s l11) h10
theorem Y96.call {K x0 x1 h} (H:Y96.t (aI h K) x0 x1 h (Y96.J (aI h K))):C Y96.id [x0,(AV.s x1)] h K:=
 gC Y96.J Tryz.func89 Y96.dist H
noncomputable def Y101.body:Code:=(Tryz.f91.body).getD .skip
def Y101.ann:Ann:=(sl [0,1] (sq [0,1] (sl [0,1,9] (.br (sl [4,5] lf) lf)) (sl [4,5] lf)))
theorem Y101.dist:aT (places Y101.ann Y101.body)=true:=by kernel_rfl
noncomputable def Y101.J (Q:AV→aA→Prop):JT:=b4 prog C Tryz.f91 Y101.ann Y101.body Q
def Y101.t (Q:AV→aA→Prop) (x0 x1:List UInt8) (h:aA) (J:JT):Prop:=
C Y54.id [(AV.s x0),(AV.s x1)] h fun v1 h2=>
asB v1 fun c3=>
(bif (!c3) then
(Q (AV.tu [(AV.s x0),(AV.b false)]) h2)
else
(bW (AV.s x0) (some (AV.i .i64 (x1.length:Int))) none fun l7=>
Q (AV.tu [(AV.s l7),(AV.b true)]) h2))
theorem Y101.call {K x0 x1 h} (H:Y101.t (aI h K) x0 x1 h (Y101.J (aI h K))):C Y101.id [(AV.s x0),(AV.s x1)] h K:=
 gC Y101.J Tryz.func91 Y101.dist H
noncomputable def Y31.body:Code:=(Tryz.f92.body).getD .skip
def Y31.ann:Ann:=(sl [0] (sq [0] (sl [0,9] (.br (sl [2,3,4] lf) lf)) (sq [0,5] (.ord (nn 0 6 (.eff 6 .done .stop))) (sq [0,5] (sl [0,5,16] (.br (sl [2,3,4] lf) lf)) (sl [0,6] (sq [0,6] (.one (.seq 1 [0,6,21] lf (.br (sl [2,3,4] lf) (sl [0,6,28] (.br (sl [2,3,4] lf) lf))))) (sl [0,5,6] (sq [0,5,6] (sl [0,5,6,33,34] (.one (.loop 2 [0,5,6,33,34] (sl [0,5,6,33,34,35] (sq [0,5,6,33,34] bl (sq [0,5,6,33,34] (.one (sl [0,5,6,7,33,34] lf)) lf)))))) (sq [0,5,6] (.seq 3 [0,5,6,54] lf (.br (sl [2,3,4] lf) lf)) (sq [2,3,4] (.ord (nn 0 7 .done)) lf))))))))))
theorem Y31.dist:aT (places Y31.ann Y31.body)=true:=by kernel_rfl
noncomputable def Y31.J (Q:AV→aA→Prop):JT:=b4 prog C Tryz.f92 Y31.ann Y31.body Q
def Y31.p0 (Q:AV→aA→Prop) (x0:List UInt8) (x6:Int) (x21:Bool) (h:aA):Prop:=Y31.J Q 1 [(0,(AV.s x0)),(6,(AV.i .i64 x6)),(21,(AV.b x21))] h
def Y31.p1 (Q:AV→aA→Prop) (x0:List UInt8) (x5 x6 x33 x34:Int) (h:aA):Prop:=Y31.J Q 2 [(0,(AV.s x0)),(5,(AV.i .i64 x5)),(6,(AV.i .i64 x6)),(33,(AV.i .i64 x33)),(34,(AV.i .i64 x34))] h
def Y31.p2 (Q:AV→aA→Prop) (x0:List UInt8) (x5 x6:Int) (x54:Bool) (h:aA):Prop:=Y31.J Q 3 [(0,(AV.s x0)),(5,(AV.i .i64 x5)),(6,(AV.i .i64 x6)),(54,(AV.b x54))] h
def Y31.t0 (Q:AV→aA→Prop) (x0:List UInt8) (x6:Int) (x21:Bool) (h:aA) (J:JT):Prop:=
(bif x21 then
(Q (AV.tu [(AV.i .i64 0),(AV.s []),(AV.i .i64 2)]) h)
else
((bif (decide (((x0.length:Int):Int)<x6)) then
(Q (AV.tu [(AV.i .i64 0),(AV.s []),(AV.i .i64 1)]) h)
else
(J 2 [(0,(AV.s x0)),(5,(AV.i .i64 0)),(6,(AV.i .i64 x6)),(33,(AV.i .i64 x6)),(34,(AV.i .i64 0))] h))))
theorem Y31.i0 {Q x0 x6 x21 h} (H:Y31.t0 Q x0 x6 x21 h (Y31.J Q)):Y31.p0 Q x0 x6 x21 h:=gR Y31.J Tryz.f92 Y31.dist [1,1,1,1,1,0,0,1] H
def Y31.t1 (Q:AV→aA→Prop) (x0:List UInt8) (x5 x6 x33 x34:Int) (h:aA) (J:JT):Prop:=
(bif (decide ((x34:Int)<x33)) then
(xA .i64 x5 8 fun n24=>
bT (AV.s x0) (AV.i .i64 x34) fun n25=>
aQ (cI .or .i64 n24 (IntKind.wrap .i64 n25)) fun n26=>
aQ (IntKind.wrap .i64 (x34+1)) fun n28=>
J 2 [(0,(AV.s x0)),(5,(AV.i .i64 n26)),(6,(AV.i .i64 x6)),(33,(AV.i .i64 x33)),(34,(AV.i .i64 n28))] h)
else
((bif (decide ((x5:Int)<128)) then
(J 3 [(0,(AV.s x0)),(5,(AV.i .i64 x5)),(6,(AV.i .i64 x6)),(54,(AV.b true))] h)
else
(aQ (IntKind.wrap .i64 (x6 - 1)) fun n31=>
aQ (IntKind.wrap .i64 (8 * n31)) fun n32=>
pL .i64 x5 n32 fun n33=>
J 3 [(0,(AV.s x0)),(5,(AV.i .i64 x5)),(6,(AV.i .i64 x6)),(54,(AV.b (decide ((n33:Int)=0))))] h))))
theorem Y31.i1 {Q x0 x5 x6 x33 x34 h} (H:Y31.t1 Q x0 x5 x6 x33 x34 h (Y31.J Q)):Y31.p1 Q x0 x5 x6 x33 x34 h:=gH Y31.J Tryz.f92 Y31.dist [1,1,1,1,1,1,1,0,1,0] H
def Y31.t2 (Q:AV→aA→Prop) (x0:List UInt8) (x5 x6:Int) (x54:Bool) (h:aA) (J:JT):Prop:=
(bif x54 then
(Q (AV.tu [(AV.i .i64 0),(AV.s []),(AV.i .i64 2)]) h)
else
(bW (AV.s x0) (some (AV.i .i64 x6)) none fun l37=>
Q (AV.tu [(AV.i .i64 x5),(AV.s l37),(AV.i .i64 0)]) h))
theorem Y31.i2 {Q x0 x5 x6 x54 h} (H:Y31.t2 Q x0 x5 x6 x54 h (Y31.J Q)):Y31.p2 Q x0 x5 x6 x54 h:=gR Y31.J Tryz.f92 Y31.dist [1,1,1,1,1,1,1,1,0,1] H
def Y31.t (Q:AV→aA→Prop) (x0:List UInt8) (h:aA) (J:JT):Prop:=
(bif (decide ((x0:List UInt8)=[])) then
(Q (AV.tu [(AV.i .i64 0),(AV.s []),(AV.i .i64 1)]) h)
else
(bT (AV.s x0) (AV.i .i64 0) fun n4=>
bW (AV.s x0) (some (AV.i .i64 1)) none fun l5=>
(bif (decide (((IntKind.wrap .i64 n4):Int)<128)) then
(Q (AV.tu [(AV.i .i64 (IntKind.wrap .i64 n4)),(AV.s l5),(AV.i .i64 0)]) h)
else
(aQ (IntKind.wrap .i64 ((IntKind.wrap .i64 n4) - 128)) fun n10=>
(bif (decide ((n10:Int)<1)) then
(J 1 [(0,(AV.s l5)),(6,(AV.i .i64 n10)),(21,(AV.b true))] h)
else
(J 1 [(0,(AV.s l5)),(6,(AV.i .i64 n10)),(21,(AV.b (decide ((3:Int)<n10))))] h))))))
theorem Y31.call {K x0 h} (H:Y31.t (aI h K) x0 h (Y31.J (aI h K))):C Y31.id [(AV.s x0)] h K:=
 gC Y31.J Tryz.func92 Y31.dist H
noncomputable def Y45.body:Code:=(Tryz.f93.body).getD .skip
def Y45.ann:Ann:=(sl [1,2] (.seq 1 [4] lf lf))
theorem Y45.dist:aT (places Y45.ann Y45.body)=true:=by kernel_rfl
noncomputable def Y45.J (Q:AV→aA→Prop):JT:=b4 prog C Tryz.f93 Y45.ann Y45.body Q
def Y45.p0 (Q:AV→aA→Prop) (x4:Bool) (h:aA):Prop:=Y45.J Q 1 [(4,(AV.b x4))] h
def Y45.t0 (Q:AV→aA→Prop) (x4:Bool) (h:aA) (J:JT):Prop:=
Q (AV.b x4) h
theorem Y45.i0 {Q x4 h} (H:Y45.t0 Q x4 h (Y45.J Q)):Y45.p0 Q x4 h:=gR Y45.J Tryz.f93 Y45.dist [1,1] H
def Y45.t (Q:AV→aA→Prop) (x0:AV) (x1:Int) (h:aA) (J:JT):Prop:=
eH (some 33) x0 h fun v0 h1=>
aD 0 v0 fun v3=>
aC v3 h1 fun v4=>
asI .i64 v4 fun n5=>
(bif (decide ((n5:Int)=0)) then
(aD 1 v0 fun v6=>
aC v6 h1 fun v7=>
asI .i64 v7 fun n8=>
(bif (decide ((n8:Int)=x1)) then
(aD 2 v0 fun v9=>
aC v9 h1 fun v10=>
asB v10 fun c11=>
(bif (!c11) then
(aD 4 v0 fun v12=>
aC v12 h1 fun v13=>
bP v13 fun n14=>
J 1 [(4,(AV.b (decide ((n14:Int)=0))))] h1)
else
(J 1 [(4,(AV.b false))] h1)))
else
(J 1 [(4,(AV.b false))] h1)))
else
(J 1 [(4,(AV.b false))] h1))
theorem Y45.call {K x0 x1 h} (H:Y45.t (aI h K) x0 x1 h (Y45.J (aI h K))):C Y45.id [x0,(AV.i .i64 x1)] h K:=
 gC Y45.J Tryz.func93 Y45.dist H
noncomputable def Y46.body:Code:=(Tryz.f94.body).getD .skip
def Y46.ann:Ann:=(sl [0,1] (sq [] (sl [1,7,8,9] (.one (.loop 1 [1,7,8,9] (sl [1,7,8,9,10] (sq [1,7,8,9] bl (sq [1,7,8,9] (.one (sl [1,6,7,8,9] (sl [1,7,8,9,16] (.br (sl [4] lf) lf)))) lf)))))) (sl [4] lf)))
theorem Y46.dist:aT (places Y46.ann Y46.body)=true:=by kernel_rfl
noncomputable def Y46.J (Q:AV→aA→Prop):JT:=b4 prog C Tryz.f94 Y46.ann Y46.body Q
def Y46.p0 (Q:AV→aA→Prop) (x1 x7:AV) (x8 x9:Int) (h:aA):Prop:=Y46.J Q 1 [(1,x1),(7,x7),(8,(AV.i .i64 x8)),(9,(AV.i .i64 x9))] h
def Y46.t0 (Q:AV→aA→Prop) (x1 x7:AV) (x8 x9:Int) (h:aA) (J:JT):Prop:=
(bif (decide ((x9:Int)<x8)) then
(aE 1 x7 (AV.i .i64 x9) h fun v6=>
aC v6 h fun v7=>
asI .u8 v7 fun n8=>
eF C x1 [(AV.i .u8 n8)] h fun v10 h11=>
asB v10 fun c12=>
(bif (!c12) then
(Q (AV.b false) h11)
else
(aQ (IntKind.wrap .i64 (x9+1)) fun n16=>
J 1 [(1,x1),(7,x7),(8,(AV.i .i64 x8)),(9,(AV.i .i64 n16))] h11)))
else
(Q (AV.b true) h))
theorem Y46.i0 {Q x1 x7 x8 x9 h} (H:Y46.t0 Q x1 x7 x8 x9 h (Y46.J Q)):Y46.p0 Q x1 x7 x8 x9 h:=gH Y46.J Tryz.f94 Y46.dist [1,0,1,0] H
def Y46.t (Q:AV→aA→Prop) (x0 x1:AV) (h:aA) (J:JT):Prop:=
bP x0 fun n1=>
J 1 [(1,x1),(7,x0),(8,(AV.i .i64 n1)),(9,(AV.i .i64 0))] h
theorem Y46.call {K x0 x1 h} (H:Y46.t (aI h K) x0 x1 h (Y46.J (aI h K))):C Y46.id [x0,x1] h K:=
 gC Y46.J Tryz.func94 Y46.dist H
noncomputable def Y62.body:Code:=(Tryz.f95.body).getD .skip
def Y62.ann:Ann:=(sl [0] (.seq 1 [2] lf lf))
theorem Y62.dist:aT (places Y62.ann Y62.body)=true:=by kernel_rfl
noncomputable def Y62.J (Q:AV→aA→Prop):JT:=b4 prog C Tryz.f95 Y62.ann Y62.body Q
def Y62.p0 (Q:AV→aA→Prop) (x2:Bool) (h:aA):Prop:=Y62.J Q 1 [(2,(AV.b x2))] h
def Y62.t0 (Q:AV→aA→Prop) (x2:Bool) (h:aA) (J:JT):Prop:=
Q (AV.b x2) h
theorem Y62.i0 {Q x2 h} (H:Y62.t0 Q x2 h (Y62.J Q)):Y62.p0 Q x2 h:=gR Y62.J Tryz.f95 Y62.dist [1,1] H
def Y62.t (Q:AV→aA→Prop) (x0:Int) (h:aA) (J:JT):Prop:=
(bif (decide ((48:Int)≤x0)) then
(J 1 [(2,(AV.b (decide ((x0:Int)≤57))))] h)
else
(J 1 [(2,(AV.b false))] h))
theorem Y62.call {K x0 h} (H:Y62.t (aI h K) x0 h (Y62.J (aI h K))):C Y62.id [(AV.i .u8 x0)] h K:=
 gC Y62.J Tryz.func95 Y62.dist H
noncomputable def Y54.body:Code:=(Tryz.f96.body).getD .skip
def Y54.ann:Ann:=(sl [0,1] (.seq 1 [4] lf lf))
theorem Y54.dist:aT (places Y54.ann Y54.body)=true:=by kernel_rfl
noncomputable def Y54.J (Q:AV→aA→Prop):JT:=b4 prog C Tryz.f96 Y54.ann Y54.body Q
def Y54.p0 (Q:AV→aA→Prop) (x4:Bool) (h:aA):Prop:=Y54.J Q 1 [(4,(AV.b x4))] h
def Y54.t0 (Q:AV→aA→Prop) (x4:Bool) (h:aA) (J:JT):Prop:=
Q (AV.b x4) h
theorem Y54.i0 {Q x4 h} (H:Y54.t0 Q x4 h (Y54.J Q)):Y54.p0 Q x4 h:=gR Y54.J Tryz.f96 Y54.dist [1,1] H
def Y54.t (Q:AV→aA→Prop) (x0 x1:List UInt8) (h:aA) (J:JT):Prop:=
(bif (decide (((x1.length:Int):Int)≤(x0.length:Int))) then
(bW (AV.s x0) none (some (AV.i .i64 (x1.length:Int))) fun l1=>
J 1 [(4,(AV.b (decide ((l1:List UInt8)=x1))))] h)
else
(J 1 [(4,(AV.b false))] h))
theorem Y54.call {K x0 x1 h} (H:Y54.t (aI h K) x0 x1 h (Y54.J (aI h K))):C Y54.id [(AV.s x0),(AV.s x1)] h K:=
 gC Y54.J Tryz.func96 Y54.dist H
noncomputable def Y32.body:Code:=(Tryz.f104.body).getD .skip
def Y32.ann:Ann:=(sl [0,1,2,3] (sq [0,1,2,3] (sl [0,1,2,3,13] (.br (sl [8] lf) lf)) (sq [0,1,2,3] (sl [0,1,2,3,15] (.br (sl [8] lf) lf)) (.seq 1 [0,1,2,3] (sl [0,1,2,3,20] bl) (sl [0,1,2,3] (sl [0,1,2,3,9] (sl [0,1,2,3,9] (sl [0,1,2,3,9,10] (.seq 3 [0,9,10] (.one (.loop 2 [0,1,2,3,9,10] (sq [0,1,2,3,9,10] (sl [0,1,2,3,9,10,36] bl) (.one (sl [0,1,2,3,9,10,11] (sq [0,1,2,3,9,10,11] (sl [0,1,2,3,9,10,11,41] bl) (sl [0,1,2,3,9,10,11] (sl [0,1,2,3,9,10] lf)))))))) (sl [9,10] (sl [8] lf)))))))))))
theorem Y32.dist:aT (places Y32.ann Y32.body)=true:=by kernel_rfl
noncomputable def Y32.J (Q:AV→aA→Prop):JT:=b4 prog C Tryz.f104 Y32.ann Y32.body Q
def Y32.p1 (Q:AV→aA→Prop) (x0 x1:List UInt8) (x2 x3:Int) (x9:AV) (x10:Int) (h:aA):Prop:=Y32.J Q 2 [(0,(AV.s x0)),(1,(AV.s x1)),(2,(AV.i .i64 x2)),(3,(AV.i .i64 x3)),(9,x9),(10,(AV.i .i64 x10))] h
def Y32.p2 (Q:AV→aA→Prop) (x0:List UInt8) (x9:AV) (x10:Int) (h:aA):Prop:=Y32.J Q 3 [(0,(AV.s x0)),(9,x9),(10,(AV.i .i64 x10))] h
def Y32.p0 (Q:AV→aA→Prop) (x0 x1:List UInt8) (x2 x3:Int) (h:aA):Prop:=Y32.J Q 1 [(0,(AV.s x0)),(1,(AV.s x1)),(2,(AV.i .i64 x2)),(3,(AV.i .i64 x3))] h
def Y32.t1 (Q:AV→aA→Prop) (x0 x1:List UInt8) (x2 x3:Int) (x9:AV) (x10:Int) (h:aA) (J:JT):Prop:=
(bif (decide ((x10:Int)<x3)) then
(C Y95.id [(AV.s x0),(AV.s x1)] h fun v27 h28=>
asI .i64 v27 fun n29=>
(bif (decide ((n29:Int)<0)) then
(J 3 [(0,(AV.s x0)),(9,x9),(10,(AV.i .i64 x10))] h28)
else
(aQ (IntKind.wrap .i64 (n29+x2)) fun n34=>
bW (AV.s x0) none (some (AV.i .i64 n34)) fun l35=>
aE 1 x9 (AV.i .i64 x10) h28 fun v36=>
aS 1 v36 (AV.s l35) h28 fun h37=>
aQ (IntKind.wrap .i64 (n29+(x1.length:Int))) fun n39=>
bW (AV.s x0) (some (AV.i .i64 n39)) none fun l40=>
aQ (IntKind.wrap .i64 (x10+1)) fun n42=>
J 2 [(0,(AV.s l40)),(1,(AV.s x1)),(2,(AV.i .i64 x2)),(3,(AV.i .i64 x3)),(9,x9),(10,(AV.i .i64 n42))] h37)))
else
(J 3 [(0,(AV.s x0)),(9,x9),(10,(AV.i .i64 x10))] h))
theorem Y32.i1 {Q x0 x1 x2 x3 x9 x10 h} (H:Y32.t1 Q x0 x1 x2 x3 x9 x10 h (Y32.J Q)):Y32.p1 Q x0 x1 x2 x3 x9 x10 h:=gH Y32.J Tryz.f104 Y32.dist [1,1,1,1,1,1,1,1,0,0] H
def Y32.t2 (Q:AV→aA→Prop) (x0:List UInt8) (x9:AV) (x10:Int) (h:aA) (J:JT):Prop:=
aE 1 x9 (AV.i .i64 x10) h fun v44=>
aS 1 v44 (AV.s x0) h fun h45=>
aQ (IntKind.wrap .i64 (x10+1)) fun n47=>
cX 1 x9 none (some (AV.i .i64 n47)) none h45 fun v48=>
Q v48 h45
theorem Y32.i2 {Q x0 x9 x10 h} (H:Y32.t2 Q x0 x9 x10 h (Y32.J Q)):Y32.p2 Q x0 x9 x10 h:=gR Y32.J Tryz.f104 Y32.dist [1,1,1,1,1,1,1,1,1] H
def Y32.t0 (Q:AV→aA→Prop) (x0 x1:List UInt8) (x2 x3:Int) (h:aA) (J:JT):Prop:=
aQ (IntKind.wrap .i64 ((x0.length:Int)+1)) fun n16=>
wN 1 16 [(AV.s [])] (AV.i .i64 (mmI false x3 n16)) (AV.i .i64 (mmI false x3 n16)) h fun v18 h19=>
aQ (IntKind.wrap .i64 ((mmI false x3 n16) - 1)) fun n21=>
J 2 [(0,(AV.s x0)),(1,(AV.s x1)),(2,(AV.i .i64 x2)),(3,(AV.i .i64 n21)),(9,v18),(10,(AV.i .i64 0))] h19
theorem Y32.i0 {Q x0 x1 x2 x3 h} (H:Y32.t0 Q x0 x1 x2 x3 h (Y32.J Q)):Y32.p0 Q x0 x1 x2 x3 h:=gR Y32.J Tryz.f104 Y32.dist [1,1,1,1] H
def Y32.t (Q:AV→aA→Prop) (x0 x1:List UInt8) (x2 x3:Int) (h:aA) (J:JT):Prop:=
(bif (decide ((x3:Int)=0)) then
(Q (AV.sl none 0 none) h)
else
((bif (decide ((x1:List UInt8)=[])) then
(C Y118.id [(AV.s x0),(AV.i .i64 x3)] h fun v5 h6=>
Q v5 h6)
else
((bif (decide ((x3:Int)<0)) then
(C Y74.id [(AV.s x0),(AV.s x1)] h fun v10 h11=>
asI .i64 v10 fun n12=>
aQ (IntKind.wrap .i64 (n12+1)) fun n13=>
J 1 [(0,(AV.s x0)),(1,(AV.s x1)),(2,(AV.i .i64 x2)),(3,(AV.i .i64 n13))] h11)
else
(J 1 [(0,(AV.s x0)),(1,(AV.s x1)),(2,(AV.i .i64 x2)),(3,(AV.i .i64 x3))] h))))))
theorem Y32.call {K x0 x1 x2 x3 h} (H:Y32.t (aI h K) x0 x1 x2 x3 h (Y32.J (aI h K))):C Y32.id [(AV.s x0),(AV.s x1),(AV.i .i64 x2),(AV.i .i64 x3)] h K:=
 gC Y32.J Tryz.func104 Y32.dist H
noncomputable def Y78.body:Code:=(Tryz.f105.body).getD .skip
def Y78.ann:Ann:=(sl [0,1] (sl [4] lf))
theorem Y78.dist:aT (places Y78.ann Y78.body)=true:=by kernel_rfl
noncomputable def Y78.J (Q:AV→aA→Prop):JT:=b4 prog C Tryz.f105 Y78.ann Y78.body Q
def Y78.t (Q:AV→aA→Prop) (x0:List UInt8) (x1:Int) (h:aA) (J:JT):Prop:=
C Y107.id [(AV.s x0),(AV.i .u8 x1)] h fun v1 h2=>
asI .i64 v1 fun n3=>
Q (AV.i .i64 n3) h2
theorem Y78.call {K x0 x1 h} (H:Y78.t (aI h K) x0 x1 h (Y78.J (aI h K))):C Y78.id [(AV.s x0),(AV.i .u8 x1)] h K:=
 gC Y78.J Tryz.func105 Y78.dist H
noncomputable def Y83.body:Code:=(Tryz.f106.body).getD .skip
def Y83.ann:Ann:=(sl [0] (sl [2] lf))
theorem Y83.dist:aT (places Y83.ann Y83.body)=true:=by kernel_rfl
noncomputable def Y83.J (Q:AV→aA→Prop):JT:=b4 prog C Tryz.f106 Y83.ann Y83.body Q
def Y83.t (Q:AV→aA→Prop) (x0:Int) (h:aA) (J:JT):Prop:=
jK .i64 x0 4 fun n1=>
jK .i64 x0 100 fun n2=>
aQ (IntKind.wrap .i64 (n1 - n2)) fun n3=>
jK .i64 x0 400 fun n4=>
aQ (IntKind.wrap .i64 (n3+n4)) fun n5=>
Q (AV.i .i64 n5) h
theorem Y83.call {K x0 h} (H:Y83.t (aI h K) x0 h (Y83.J (aI h K))):C Y83.id [(AV.i .i64 x0)] h K:=
 gC Y83.J Tryz.func106 Y83.dist H
noncomputable def Y61.body:Code:=(Tryz.f107.body).getD .skip
def Y61.ann:Ann:=(sl [0] (.seq 1 [2] lf lf))
theorem Y61.dist:aT (places Y61.ann Y61.body)=true:=by kernel_rfl
noncomputable def Y61.J (Q:AV→aA→Prop):JT:=b4 prog C Tryz.f107 Y61.ann Y61.body Q
def Y61.p0 (Q:AV→aA→Prop) (x2:Bool) (h:aA):Prop:=Y61.J Q 1 [(2,(AV.b x2))] h
def Y61.t0 (Q:AV→aA→Prop) (x2:Bool) (h:aA) (J:JT):Prop:=
Q (AV.b x2) h
theorem Y61.i0 {Q x2 h} (H:Y61.t0 Q x2 h (Y61.J Q)):Y61.p0 Q x2 h:=gR Y61.J Tryz.f107 Y61.dist [1,1] H
def Y61.t (Q:AV→aA→Prop) (x0:Int) (h:aA) (J:JT):Prop:=
iJ x0 4 fun n1=>
(bif (decide ((n1:Int)=0)) then
(iJ x0 100 fun n2=>
(bif (!decide ((n2:Int)=0)) then
(J 1 [(2,(AV.b true))] h)
else
(iJ x0 400 fun n4=>
J 1 [(2,(AV.b (decide ((n4:Int)=0))))] h)))
else
(J 1 [(2,(AV.b false))] h))
theorem Y61.call {K x0 h} (H:Y61.t (aI h K) x0 h (Y61.J (aI h K))):C Y61.id [(AV.i .i64 x0)] h K:=
 gC Y61.J Tryz.func107 Y61.dist H
noncomputable def Y55.body:Code:=(Tryz.f108.body).getD .skip
def Y55.ann:Ann:=(sl [0,1] (sq [] (sl [1,7,8,9] (.one (.loop 1 [1,7,8,9] (sl [1,7,8,9,10] (sq [1,7,8,9] bl (sq [1,7,8,9] (.one (sl [1,6,7,8,9] (sl [1,7,8,9,16] (.br (sl [4] lf) lf)))) lf)))))) (sl [4] lf)))
theorem Y55.dist:aT (places Y55.ann Y55.body)=true:=by kernel_rfl
noncomputable def Y55.J (Q:AV→aA→Prop):JT:=b4 prog C Tryz.f108 Y55.ann Y55.body Q
def Y55.p0 (Q:AV→aA→Prop) (x1 x7:AV) (x8 x9:Int) (h:aA):Prop:=Y55.J Q 1 [(1,x1),(7,x7),(8,(AV.i .i64 x8)),(9,(AV.i .i64 x9))] h
def Y55.t0 (Q:AV→aA→Prop) (x1 x7:AV) (x8 x9:Int) (h:aA) (J:JT):Prop:=
(bif (decide ((x9:Int)<x8)) then
(aE 5 x7 (AV.i .i64 x9) h fun v6=>
aB 5 v6 h fun v7=>
bV (some 33) [(AV.i .i64 0),(AV.i .i64 0),(AV.b false),(AV.s []),(AV.sl none 0 none)] h fun v8 h9=>
aS 5 v8 v7 h9 fun h10=>
aB 5 v8 h10 fun v12=>
eF C x1 [v12] h10 fun v13 h14=>
asB v13 fun c15=>
(bif (!c15) then
(Q (AV.b false) h14)
else
(aQ (IntKind.wrap .i64 (x9+1)) fun n19=>
J 1 [(1,x1),(7,x7),(8,(AV.i .i64 x8)),(9,(AV.i .i64 n19))] h14)))
else
(Q (AV.b true) h))
theorem Y55.i0 {Q x1 x7 x8 x9 h} (H:Y55.t0 Q x1 x7 x8 x9 h (Y55.J Q)):Y55.p0 Q x1 x7 x8 x9 h:=gH Y55.J Tryz.f108 Y55.dist [1,0,1,0] H
def Y55.t (Q:AV→aA→Prop) (x0 x1:AV) (h:aA) (J:JT):Prop:=
bP x0 fun n1=>
J 1 [(1,x1),(7,x0),(8,(AV.i .i64 n1)),(9,(AV.i .i64 0))] h
theorem Y55.call {K x0 x1 h} (H:Y55.t (aI h K) x0 x1 h (Y55.J (aI h K))):C Y55.id [x0,x1] h K:=
 gC Y55.J Tryz.func108 Y55.dist H
noncomputable def Y85.body:Code:=(Tryz.f109.body).getD .skip
def Y85.ann:Ann:=(sl [1,2,3,4] (sl [3] (sl [5] lf)))
theorem Y85.dist:aT (places Y85.ann Y85.body)=true:=by kernel_rfl
noncomputable def Y85.J (Q:AV→aA→Prop):JT:=b4 prog C Tryz.f109 Y85.ann Y85.body Q
def Y85.t (Q:AV→aA→Prop) (x0 x1 x2 x3:AV) (h:aA) (J:JT):Prop:=
eH (some 33) x0 h fun v0 h1=>
aC x1 h1 fun v3=>
aB 5 v0 h1 fun v4=>
aC x2 h1 fun v5=>
asI .i64 v5 fun n6=>
aQ (IntKind.wrap .i64 (n6+1)) fun n7=>
C Y39.id [v3,v4,(AV.i .i64 n7)] h1 fun v8 h9=>
asI .i64 v8 fun n10=>
aS 1 x3 (AV.i .i64 n10) h9 fun h11=>
aC x3 h11 fun v13=>
asI .i64 v13 fun n14=>
Q (AV.b (decide ((n14:Int)=0))) h11
theorem Y85.call {K x0 x1 x2 x3 h} (H:Y85.t (aI h K) x0 x1 x2 x3 h (Y85.J (aI h K))):C Y85.id [x0,x1,x2,x3] h K:=
 gC Y85.J Tryz.func109 Y85.dist H
noncomputable def Y66.body:Code:=(Tryz.f110.body).getD .skip
def Y66.ann:Ann:=(sl [0] (.seq 1 [2] lf lf))
theorem Y66.dist:aT (places Y66.ann Y66.body)=true:=by kernel_rfl
noncomputable def Y66.J (Q:AV→aA→Prop):JT:=b4 prog C Tryz.f110 Y66.ann Y66.body Q
def Y66.p0 (Q:AV→aA→Prop) (x2:Bool) (h:aA):Prop:=Y66.J Q 1 [(2,(AV.b x2))] h
def Y66.t0 (Q:AV→aA→Prop) (x2:Bool) (h:aA) (J:JT):Prop:=
Q (AV.b x2) h
theorem Y66.i0 {Q x2 h} (H:Y66.t0 Q x2 h (Y66.J Q)):Y66.p0 Q x2 h:=gR Y66.J Tryz.f110 Y66.dist [1,1] H
def Y66.t (Q:AV→aA→Prop) (x0:Int) (h:aA) (J:JT):Prop:=
(bif (decide ((48:Int)≤x0)) then
(J 1 [(2,(AV.b (decide ((x0:Int)≤57))))] h)
else
(J 1 [(2,(AV.b false))] h))
theorem Y66.call {K x0 h} (H:Y66.t (aI h K) x0 h (Y66.J (aI h K))):C Y66.id [(AV.i .u8 x0)] h K:=
 gC Y66.J Tryz.func110 Y66.dist H
noncomputable def Y65.body:Code:=(Tryz.f111.body).getD .skip
def Y65.ann:Ann:=(sl [0,1] (sl [0,1,5] (sq [0,1,5] (.one (.seq 1 [0,1,5,16] lf (.br (sl [4] lf) (sl [0,1,5,24] (.br (sl [4] lf) (sl [0,1,5,31] (.br (sl [4] lf) (.seq 2 [0,1,5,36] lf (.br (sl [4] lf) lf))))))))) (sl [0,1,5,6] (sl [0,1,5,6,7] (sl [0,1,5,6,7,8] (sl [0,1,5,6,7,8,9] (sl [0,1,5,6,7,8,9,10] (sq [] (.one (.loop 3 [0,1,5,6,7,8,9,10] (sq [0,1,5,6,7,8,9,10] (sl [0,1,5,6,7,8,9,10,59] bl) (.one (.seq 4 [0,1,5,6,7,8,9,10] (sl [0,1,5,6,7,8,9,10,64] (.br (sl [0,1,5,6,7,8,9,10,11] (sq [0,1,5,6,7,8,9,10,11] (sl [0,1,5,6,7,8,9,10,11,73] (.br (sl [4] lf) lf)) lf)) lf)) (sq [0,1,5,6,7,8,9,10] (.seq 5 [0,1,5,6,7,8,9,10,93] lf (.br (sl [4] lf) lf)) (sl [0,1,5,6,7,8,9,10] (sl [0,1,5,6,7,8,9,10] (.seq 6 [0,1,5,6,7,8,9,10,107] lf (.br (sl [8,12] (sq [] (sl [8,12,114] (.br (sl [4] lf) lf)) (sl [4] lf))) (.seq 7 [0,1,5,6,7,8,9,10,132] lf (.br (sl [8,13] (sq [8,13] (sl [8,13,139] (.br (sl [4] lf) lf)) (sl [4] lf))) lf)))))))))))) (sl [4] lf))))))))))
theorem Y65.dist:aT (places Y65.ann Y65.body)=true:=by kernel_rfl
noncomputable def Y65.J (Q:AV→aA→Prop):JT:=b4 prog C Tryz.f111 Y65.ann Y65.body Q
def Y65.p0 (Q:AV→aA→Prop) (x0 x1:List UInt8) (x5:Int) (x16:Bool) (h:aA):Prop:=Y65.J Q 1 [(0,(AV.s x0)),(1,(AV.s x1)),(5,(AV.i .i64 x5)),(16,(AV.b x16))] h
def Y65.t0 (Q:AV→aA→Prop) (x0 x1:List UInt8) (x5:Int) (x16:Bool) (h:aA) (J:JT):Prop:=
(bif x16 then
(Q (AV.i .i64 0) h)
else
((bif (decide ((x5:Int)=1)) then
(bT (AV.s x1) (AV.i .i64 0) fun n6=>
C Y78.id [(AV.s x0),(AV.i .u8 n6)] h fun v7 h8=>
asI .i64 v7 fun n9=>
Q (AV.i .i64 n9) h8)
else
((bif (decide (((x0.length:Int):Int)≤x5)) then
(Q (AV.i .i64 (-1)) h)
else
(aC (bG h 10) h fun v13=>
asI .i64 v13 fun n14=>
(bif (decide ((x5:Int)≤n14)) then
(J 2 [(0,(AV.s x0)),(1,(AV.s x1)),(5,(AV.i .i64 x5)),(36,(AV.b (decide (((x0.length:Int):Int)≤64))))] h)
else
(J 2 [(0,(AV.s x0)),(1,(AV.s x1)),(5,(AV.i .i64 x5)),(36,(AV.b false))] h))))))))
theorem Y65.i0 {Q x0 x1 x5 x16 h} (H:Y65.t0 Q x0 x1 x5 x16 h (Y65.J Q)):Y65.p0 Q x0 x1 x5 x16 h:=gR Y65.J Tryz.f111 Y65.dist [1,1,0,0,1] H
def Y65.t (Q:AV→aA→Prop) (x0 x1:List UInt8) (h:aA) (J:JT):Prop:=
(bif (decide (((x1.length:Int):Int)=0)) then
(J 1 [(0,(AV.s x0)),(1,(AV.s x1)),(5,(AV.i .i64 (x1.length:Int))),(16,(AV.b true))] h)
else
(J 1 [(0,(AV.s x0)),(1,(AV.s x1)),(5,(AV.i .i64 (x1.length:Int))),(16,(AV.b (decide ((x1:List UInt8)=x0))))] h))
theorem Y65.call {K x0 x1 h} (H:Y65.t (aI h K) x0 x1 h (Y65.J (aI h K))):C Y65.id [(AV.s x0),(AV.s x1)] h K:=
 gC Y65.J Tryz.func111 Y65.dist H
noncomputable def Y88.body:Code:=(Tryz.f112.body).getD .skip
def Y88.ann:Ann:=(sl [0,6] (.br lf (sl [19] bl)))
theorem Y88.dist:aT (places Y88.ann Y88.body)=true:=by kernel_rfl
noncomputable def Y88.J (Q:AV→aA→Prop):JT:=b4 prog C Tryz.f112 Y88.ann Y88.body Q
def Y88.t (Q:AV→aA→Prop) (x0:AV) (h:aA) (J:JT):Prop:=
cV x0 fun v0=>
aD 0 v0 fun v1=>
aC v1 h fun v2=>
f9 prog .eql 108 v2 (AV.p none) fun v3=>
asB v3 fun c4=>
(bif c4 then
(kJ x0 h fun v6=>
C Y111.id [v6] h fun v7 h8=>
gE prog 110 v7 h8 fun v9=>
cV x0 fun v10=>
aD 0 v10 fun v11=>
aS 1 v11 v9 h8 fun h12=>
Q (AV.tu []) h12)
else
(cV x0 fun v13=>
aD 0 v13 fun v14=>
aC v14 h fun v15=>
f9 prog .neq 108 v15 x0 fun v16=>
asB v16 fun c17=>
(bif c17 then
(False)
else
(Q (AV.tu []) h))))
theorem Y88.call {K x0 h} (H:Y88.t (aI h K) x0 h (Y88.J (aI h K))):C Y88.id [x0] h K:=
 gC Y88.J Tryz.func112 Y88.dist H
noncomputable def Y63.body:Code:=(Tryz.f114.body).getD .skip
def Y63.ann:Ann:=(sl [0] (.seq 1 [2] lf lf))
theorem Y63.dist:aT (places Y63.ann Y63.body)=true:=by kernel_rfl
noncomputable def Y63.J (Q:AV→aA→Prop):JT:=b4 prog C Tryz.f114 Y63.ann Y63.body Q
def Y63.p0 (Q:AV→aA→Prop) (x2:Bool) (h:aA):Prop:=Y63.J Q 1 [(2,(AV.b x2))] h
def Y63.t0 (Q:AV→aA→Prop) (x2:Bool) (h:aA) (J:JT):Prop:=
Q (AV.b x2) h
theorem Y63.i0 {Q x2 h} (H:Y63.t0 Q x2 h (Y63.J Q)):Y63.p0 Q x2 h:=gR Y63.J Tryz.f114 Y63.dist [1,1] H
def Y63.t (Q:AV→aA→Prop) (x0:Int) (h:aA) (J:JT):Prop:=
(bif (decide ((32:Int)≤x0)) then
(J 1 [(2,(AV.b (decide ((x0:Int)≤126))))] h)
else
(J 1 [(2,(AV.b false))] h))
theorem Y63.call {K x0 h} (H:Y63.t (aI h K) x0 h (Y63.J (aI h K))):C Y63.id [(AV.i .u8 x0)] h K:=
 gC Y63.J Tryz.func114 Y63.dist H
noncomputable def Y103.body:Code:=(Tryz.f115.body).getD .skip
def Y103.ann:Ann:=(sl [0,1,8] bl)
theorem Y103.dist:aT (places Y103.ann Y103.body)=true:=by kernel_rfl
noncomputable def Y103.J (Q:AV→aA→Prop):JT:=b4 prog C Tryz.f115 Y103.ann Y103.body Q
def Y103.t (Q:AV→aA→Prop) (x0 x1:AV) (h:aA) (J:JT):Prop:=
cV x0 fun v0=>
aD 0 v0 fun v1=>
C Y79.id [v1] h fun v2 h3=>
asB v2 fun c4=>
(bif (!c4) then
(C Y84.id [x0,x1] h3 fun v6 h7=>
Q (AV.tu []) h7)
else
(Q (AV.tu []) h3))
theorem Y103.call {K x0 x1 h} (H:Y103.t (aI h K) x0 x1 h (Y103.J (aI h K))):C Y103.id [x0,x1] h K:=
 gC Y103.J Tryz.func115 Y103.dist H
noncomputable def Y92.body:Code:=(Tryz.f116.body).getD .skip
def Y92.ann:Ann:=(sl [0] lf)
theorem Y92.dist:aT (places Y92.ann Y92.body)=true:=by kernel_rfl
noncomputable def Y92.J (Q:AV→aA→Prop):JT:=b4 prog C Tryz.f116 Y92.ann Y92.body Q
def Y92.t (Q:AV→aA→Prop) (x0:AV) (h:aA) (J:JT):Prop:=
C Y10.id [x0] h fun v0 h1=>
cV x0 fun v2=>
aD 3 v2 fun v3=>
aS 1 v3 v0 h1 fun h4=>
cV x0 fun v6=>
aD 4 v6 fun v7=>
aS 1 v7 (AV.sl none 0 none) h4 fun h8=>
Q (AV.tu []) h8
theorem Y92.call {K x0 h} (H:Y92.t (aI h K) x0 h (Y92.J (aI h K))):C Y92.id [x0] h K:=
 gC Y92.J Tryz.func116 Y92.dist H
noncomputable def Y74.body:Code:=(Tryz.f121.body).getD .skip
def Y74.ann:Ann:=(sl [0,1] (sq [0,1] (sl [0,1,9] (.br (sl [4] lf) lf)) (sq [0,1] (sl [0,1,15] (.br (sl [4] lf) lf)) (sl [0,1,5] (.one (.loop 1 [0,1,5] (.one (sl [0,1,5,6] (sq [0,1,5,6] (sl [0,1,5,6,24] (.br (sl [4] lf) lf)) (sl [0,1,5,6] lf))))))))))
theorem Y74.dist:aT (places Y74.ann Y74.body)=true:=by kernel_rfl
noncomputable def Y74.J (Q:AV→aA→Prop):JT:=b4 prog C Tryz.f121 Y74.ann Y74.body Q
def Y74.p0 (Q:AV→aA→Prop) (x0 x1:List UInt8) (x5:Int) (h:aA):Prop:=Y74.J Q 1 [(0,(AV.s x0)),(1,(AV.s x1)),(5,(AV.i .i64 x5))] h
def Y74.t (Q:AV→aA→Prop) (x0 x1:List UInt8) (h:aA) (J:JT):Prop:=
(bif (decide (((x1.length:Int):Int)=0)) then
(C Y120.id [(AV.s x0)] h fun v2 h3=>
asI .i64 v2 fun n4=>
aQ (IntKind.wrap .i64 (n4+1)) fun n5=>
Q (AV.i .i64 n5) h3)
else
((bif (decide (((x1.length:Int):Int)=1)) then
(bT (AV.s x1) (AV.i .i64 0) fun n9=>
C Y108.id [(AV.s x0),(AV.i .u8 n9)] h fun v10 h11=>
asI .i64 v10 fun n12=>
Q (AV.i .i64 n12) h11)
else
(J 1 [(0,(AV.s x0)),(1,(AV.s x1)),(5,(AV.i .i64 0))] h))))
theorem Y74.call {K x0 x1 h} (H:Y74.t (aI h K) x0 x1 h (Y74.J (aI h K))):C Y74.id [(AV.s x0),(AV.s x1)] h K:=
 gC Y74.J Tryz.func121 Y74.dist H
noncomputable def Y95.body:Code:=(Tryz.f122.body).getD .skip
def Y95.ann:Ann:=(sl [0,1] (sl [4] lf))
theorem Y95.dist:aT (places Y95.ann Y95.body)=true:=by kernel_rfl
noncomputable def Y95.J (Q:AV→aA→Prop):JT:=b4 prog C Tryz.f122 Y95.ann Y95.body Q
def Y95.t (Q:AV→aA→Prop) (x0 x1:List UInt8) (h:aA) (J:JT):Prop:=
C Y65.id [(AV.s x0),(AV.s x1)] h fun v1 h2=>
asI .i64 v1 fun n3=>
Q (AV.i .i64 n3) h2
theorem Y95.call {K x0 x1 h} (H:Y95.t (aI h K) x0 x1 h (Y95.J (aI h K))):C Y95.id [(AV.s x0),(AV.s x1)] h K:=
 gC Y95.J Tryz.func122 Y95.dist H
noncomputable def Y79.body:Code:=(Tryz.f129.body).getD .skip
def Y79.ann:Ann:=(sl [0] (sl [2] lf))
theorem Y79.dist:aT (places Y79.ann Y79.body)=true:=by kernel_rfl
noncomputable def Y79.J (Q:AV→aA→Prop):JT:=b4 prog C Tryz.f129 Y79.ann Y79.body Q
def Y79.t (Q:AV→aA→Prop) (x0:AV) (h:aA) (J:JT):Prop:=
cV x0 fun v1=>
aD 0 v1 fun v2=>
C Y114.id [v2] h fun v3 h4=>
asI .u32 v3 fun n5=>
Q (AV.b (!decide ((n5:Int)=0))) h4
theorem Y79.call {K x0 h} (H:Y79.t (aI h K) x0 h (Y79.J (aI h K))):C Y79.id [x0] h K:=
 gC Y79.J Tryz.func129 Y79.dist H
noncomputable def Y84.body:Code:=(Tryz.f130.body).getD .skip
def Y84.ann:Ann:=(sl [0,1] (sl [0,1] (sl [0,1,15] (.br (sl [1] lf) lf))))
theorem Y84.body_eq:Tryz.f130.body=some Y84.body:=by kernel_rfl
def Y84.tD (Q:AV→aA→Prop) (x0:AV) (x1:AV) (h:aA):Prop:=
cV x0 fun v0=>
aD 1 v0 fun v1=>
C Y98.id [v1] h fun v2 h3=>
cV x0 fun v5=>
aD 1 v5 fun v6=>
cV x0 fun v8=>
aD 0 v8 fun v9=>
C Y79.id [v9] h3 fun v10 h11=>
asB v10 fun c12=>
(bif (!c12) then
(cV x0 fun v14=>
aD 0 v14 fun v15=>
eF C x1 [] h11 fun v17 h18=>
aF prog C Y69.id [v15,(AV.b true)] h18 fun _ h19=>
aF prog C Y68.id [v6] h19 fun _ h20=>
Q (AV.tu []) h20)
else
(aF prog C Y68.id [v6] h11 fun _ h21=>
Q (AV.tu []) h21))
theorem Y84.tD_eq (Q:AV→aA→Prop) (x0:AV) (x1:AV) (h:aA):Y84.tD Q x0 x1 h=j8 prog C 21 Y84.ann Y84.body (eY 0 [x0,x1]) h [] (aNA prog C Tryz.f130 Q):=by kernel_rfl
theorem Y84.callD {K:AV→aA→Prop} {x0:AV} {x1:AV} {h:aA} (H:Y84.tD (aI h K) x0 x1 h):aFD prog C Y84.id [x0,x1] h K:=
 ⟨Tryz.f130,Y84.body,Y84.ann,Tryz.func130,Y84.body_eq,by kernel_rfl,Nat.le_of_ble_eq_true (by kernel_rfl),(Y84.tD_eq (aI h K) x0 x1 h).mp H⟩
noncomputable def Y10.body:Code:=(Tryz.f131.body).getD .skip
def Y10.ann:Ann:=(sl [0] (sl [3] (sq [3] (.seq 1 [3,28] lf (.br (sq [2] (.ord (nn 0 6 (.eff 6 (nn 7 2 .done) .stop))) lf) lf)) (sl [3,4] (sq [3,4] (sl [3,4,5] (.one (.loop 2 [3,4,5] (sq [3,4,5] (sl [3,4,5,40] bl) (.seq 3 [3,4,5] (.one (sq [3,4,5] (sl [3,4,5,48] (.br (sl [2] lf) lf)) (sl [3,4,5,58] bl))) lf))))) (sq [3] (sl [3,59] (.br (sl [3,6] (sq [3,6] (sl [3,6,61] (.one (.loop 4 [3,6,61] (sl [3,6,61,62] (sq [3,6,61] bl (sq [3,6,61] (.one (sl [3,6,7,61] lf)) lf)))))) (sq [6] (sl [3,6,8] (.one (.loop 5 [3,6,8] (sq [3,6,8] (sl [3,6,8,73] bl) (sq [3,6,8] (.one (sl [3,6,8,9] (sl [3,6,8,9,10] lf))) lf))))) (sl [2] lf)))) lf)) (sl [3,11] (sq [11] (sl [3,11,12] (.one (.loop 6 [3,11,12] (sq [3,11,12] (sl [3,11,12,100] bl) (sq [3,11,12] (.one (sl [3,11,12,13] (sl [3,11,12,13,14] (.seq 7 [3,11,12,13,14] (sl [3,11,12,13,14,117] bl) lf)))) lf))))) (sl [2] lf)))))))))
theorem Y10.dist:aT (places Y10.ann Y10.body)=true:=by kernel_rfl
noncomputable def Y10.J (Q:AV→aA→Prop):JT:=b4 prog C Tryz.f131 Y10.ann Y10.body Q
def Y10.p0 (Q:AV→aA→Prop) (x3:AV) (x28:Bool) (h:aA):Prop:=Y10.J Q 1 [(3,x3),(28,(AV.b x28))] h
def Y10.p2 (Q:AV→aA→Prop) (x3:AV) (x4:Bool) (x5:Int) (h:aA):Prop:=Y10.J Q 3 [(3,x3),(4,(AV.b x4)),(5,(AV.i .i64 x5))] h
def Y10.p1 (Q:AV→aA→Prop) (x3:AV) (x4:Bool) (x5:Int) (h:aA):Prop:=Y10.J Q 2 [(3,x3),(4,(AV.b x4)),(5,(AV.i .i64 x5))] h
def Y10.p6 (Q:AV→aA→Prop) (x3 x11:AV) (x12 x13:Int) (x14:List UInt8) (h:aA):Prop:=Y10.J Q 7 [(3,x3),(11,x11),(12,(AV.i .i64 x12)),(13,(AV.i .u8 x13)),(14,(AV.s x14))] h
def Y10.p5 (Q:AV→aA→Prop) (x3 x11:AV) (x12:Int) (h:aA):Prop:=Y10.J Q 6 [(3,x3),(11,x11),(12,(AV.i .i64 x12))] h
def Y10.t0 (Q:AV→aA→Prop) (x3:AV) (x28:Bool) (h:aA) (J:JT):Prop:=
(bif x28 then
(aE 1 x3 (AV.i .i64 0) h fun v11=>
aC v11 h fun v12=>
asS v12 fun l13=>
aE 1 x3 (AV.i .i64 1) h fun v14=>
aC v14 h fun v15=>
asS v15 fun l16=>
C Y122.id [(AV.s l13),(AV.s l16)] h fun v17 h18=>
aE 1 x3 (AV.i .i64 1) h18 fun v19=>
(v14=v19 ∧
(aE 1 x3 (AV.i .i64 0) h18 fun v20=>
(v11=v20 ∧
(Q (AV.ifc 169 v17) h18)))))
else
(J 2 [(3,x3),(4,(AV.b true)),(5,(AV.i .i64 0))] h))
theorem Y10.i0 {Q x3 x28 h} (H:Y10.t0 Q x3 x28 h (Y10.J Q)):Y10.p0 Q x3 x28 h:=gR Y10.J Tryz.f131 Y10.dist [1,1,0,1] H
def Y10.t2 (Q:AV→aA→Prop) (x3:AV) (x4:Bool) (x5:Int) (h:aA) (J:JT):Prop:=
aQ (IntKind.wrap .i64 (x5+2)) fun n44=>
J 2 [(3,x3),(4,(AV.b x4)),(5,(AV.i .i64 n44))] h
theorem Y10.i2 {Q x3 x4 x5 h} (H:Y10.t2 Q x3 x4 x5 h (Y10.J Q)):Y10.p2 Q x3 x4 x5 h:=gR Y10.J Tryz.f131 Y10.dist [1,1,1,1,0,1,0,0,1,1] H
def Y10.t1 (Q:AV→aA→Prop) (x3:AV) (x4:Bool) (x5:Int) (h:aA) (J:JT):Prop:=
bP x3 fun n25=>
(bif (decide ((x5:Int)<n25)) then
(aE 1 x3 (AV.i .i64 x5) h fun v29=>
aC v29 h fun v30=>
asS v30 fun l31=>
(bif (!decide (((l31.length:Int):Int)=1)) then
(C Y119.id [x3] h fun v33 h34=>
Q (AV.ifc 171 v33) h34)
else
(aQ (IntKind.wrap .i64 (x5+1)) fun n37=>
aE 1 x3 (AV.i .i64 n37) h fun v38=>
aC v38 h fun v39=>
asS v39 fun l40=>
(bif (!decide (((l40.length:Int):Int)=1)) then
(J 3 [(3,x3),(4,(AV.b false)),(5,(AV.i .i64 x5))] h)
else
(J 3 [(3,x3),(4,(AV.b x4)),(5,(AV.i .i64 x5))] h)))))
else
((bif x4 then
(bV none [(AV.i .u8 0),(AV.i .u8 0),(AV.i .u8 0),(AV.i .u8 0),(AV.i .u8 0),(AV.i .u8 0),(AV.i .u8 0),(AV.i .u8 0),(AV.i .u8 0),(AV.i .u8 0),(AV.i .u8 0),(AV.i .u8 0),(AV.i .u8 0),(AV.i .u8 0),(AV.i .u8 0),(AV.i .u8 0),(AV.i .u8 0),(AV.i .u8 0),(AV.i .u8 0),(AV.i .u8 0),(AV.i .u8 0),(AV.i .u8 0),(AV.i .u8 0),(AV.i .u8 0),(AV.i .u8 0),(AV.i .u8 0),(AV.i .u8 0),(AV.i .u8 0),(AV.i .u8 0),(AV.i .u8 0),(AV.i .u8 0),(AV.i .u8 0),(AV.i .u8 0),(AV.i .u8 0),(AV.i .u8 0),(AV.i .u8 0),(AV.i .u8 0),(AV.i .u8 0),(AV.i .u8 0),(AV.i .u8 0),(AV.i .u8 0),(AV.i .u8 0),(AV.i .u8 0),(AV.i .u8 0),(AV.i .u8 0),(AV.i .u8 0),(AV.i .u8 0),(AV.i .u8 0),(AV.i .u8 0),(AV.i .u8 0),(AV.i .u8 0),(AV.i .u8 0),(AV.i .u8 0),(AV.i .u8 0),(AV.i .u8 0),(AV.i .u8 0),(AV.i .u8 0),(AV.i .u8 0),(AV.i .u8 0),(AV.i .u8 0),(AV.i .u8 0),(AV.i .u8 0),(AV.i .u8 0),(AV.i .u8 0),(AV.i .u8 0),(AV.i .u8 0),(AV.i .u8 0),(AV.i .u8 0),(AV.i .u8 0),(AV.i .u8 0),(AV.i .u8 0),(AV.i .u8 0),(AV.i .u8 0),(AV.i .u8 0),(AV.i .u8 0),(AV.i .u8 0),(AV.i .u8 0),(AV.i .u8 0),(AV.i .u8 0),(AV.i .u8 0),(AV.i .u8 0),(AV.i .u8 0),(AV.i .u8 0),(AV.i .u8 0),(AV.i .u8 0),(AV.i .u8 0),(AV.i .u8 0),(AV.i .u8 0),(AV.i .u8 0),(AV.i .u8 0),(AV.i .u8 0),(AV.i .u8 0),(AV.i .u8 0),(AV.i .u8 0),(AV.i .u8 0),(AV.i .u8 0),(AV.i .u8 0),(AV.i .u8 0),(AV.i .u8 0),(AV.i .u8 0),(AV.i .u8 0),(AV.i .u8 0),(AV.i .u8 0),(AV.i .u8 0),(AV.i .u8 0),(AV.i .u8 0),(AV.i .u8 0),(AV.i .u8 0),(AV.i .u8 0),(AV.i .u8 0),(AV.i .u8 0),(AV.i .u8 0),(AV.i .u8 0),(AV.i .u8 0),(AV.i .u8 0),(AV.i .u8 0),(AV.i .u8 0),(AV.i .u8 0),(AV.i .u8 0),(AV.i .u8 0),(AV.i .u8 0),(AV.i .u8 0),(AV.i .u8 0),(AV.i .u8 0),(AV.i .u8 0),(AV.i .u8 0),(AV.i .u8 0),(AV.i .u8 0),(AV.i .u8 0),(AV.i .u8 0),(AV.i .u8 0),(AV.i .u8 0),(AV.i .u8 0),(AV.i .u8 0),(AV.i .u8 0),(AV.i .u8 0),(AV.i .u8 0),(AV.i .u8 0),(AV.i .u8 0),(AV.i .u8 0),(AV.i .u8 0),(AV.i .u8 0),(AV.i .u8 0),(AV.i .u8 0),(AV.i .u8 0),(AV.i .u8 0),(AV.i .u8 0),(AV.i .u8 0),(AV.i .u8 0),(AV.i .u8 0),(AV.i .u8 0),(AV.i .u8 0),(AV.i .u8 0),(AV.i .u8 0),(AV.i .u8 0),(AV.i .u8 0),(AV.i .u8 0),(AV.i .u8 0),(AV.i .u8 0),(AV.i .u8 0),(AV.i .u8 0),(AV.i .u8 0),(AV.i .u8 0),(AV.i .u8 0),(AV.i .u8 0),(AV.i .u8 0),(AV.i .u8 0),(AV.i .u8 0),(AV.i .u8 0),(AV.i .u8 0),(AV.i .u8 0),(AV.i .u8 0),(AV.i .u8 0),(AV.i .u8 0),(AV.i .u8 0),(AV.i .u8 0),(AV.i .u8 0),(AV.i .u8 0),(AV.i .u8 0),(AV.i .u8 0),(AV.i .u8 0),(AV.i .u8 0),(AV.i .u8 0),(AV.i .u8 0),(AV.i .u8 0),(AV.i .u8 0),(AV.i .u8 0),(AV.i .u8 0),(AV.i .u8 0),(AV.i .u8 0),(AV.i .u8 0),(AV.i .u8 0),(AV.i .u8 0),(AV.i .u8 0),(AV.i .u8 0),(AV.i .u8 0),(AV.i .u8 0),(AV.i .u8 0),(AV.i .u8 0),(AV.i .u8 0),(AV.i .u8 0),(AV.i .u8 0),(AV.i .u8 0),(AV.i .u8 0),(AV.i .u8 0),(AV.i .u8 0),(AV.i .u8 0),(AV.i .u8 0),(AV.i .u8 0),(AV.i .u8 0),(AV.i .u8 0),(AV.i .u8 0),(AV.i .u8 0),(AV.i .u8 0),(AV.i .u8 0),(AV.i .u8 0),(AV.i .u8 0),(AV.i .u8 0),(AV.i .u8 0),(AV.i .u8 0),(AV.i .u8 0),(AV.i .u8 0),(AV.i .u8 0),(AV.i .u8 0),(AV.i .u8 0),(AV.i .u8 0),(AV.i .u8 0),(AV.i .u8 0),(AV.i .u8 0),(AV.i .u8 0),(AV.i .u8 0),(AV.i .u8 0),(AV.i .u8 0),(AV.i .u8 0),(AV.i .u8 0),(AV.i .u8 0),(AV.i .u8 0),(AV.i .u8 0),(AV.i .u8 0),(AV.i .u8 0),(AV.i .u8 0),(AV.i .u8 0),(AV.i .u8 0),(AV.i .u8 0),(AV.i .u8 0),(AV.i .u8 0),(AV.i .u8 0),(AV.i .u8 0),(AV.i .u8 0),(AV.i .u8 0),(AV.i .u8 0),(AV.i .u8 0),(AV.i .u8 0),(AV.i .u8 0),(AV.i .u8 0),(AV.i .u8 0)] h fun v47 h48=>
aS 256 v47 (AV.ag [(AV.i .u8 0),(AV.i .u8 0),(AV.i .u8 0),(AV.i .u8 0),(AV.i .u8 0),(AV.i .u8 0),(AV.i .u8 0),(AV.i .u8 0),(AV.i .u8 0),(AV.i .u8 0),(AV.i .u8 0),(AV.i .u8 0),(AV.i .u8 0),(AV.i .u8 0),(AV.i .u8 0),(AV.i .u8 0),(AV.i .u8 0),(AV.i .u8 0),(AV.i .u8 0),(AV.i .u8 0),(AV.i .u8 0),(AV.i .u8 0),(AV.i .u8 0),(AV.i .u8 0),(AV.i .u8 0),(AV.i .u8 0),(AV.i .u8 0),(AV.i .u8 0),(AV.i .u8 0),(AV.i .u8 0),(AV.i .u8 0),(AV.i .u8 0),(AV.i .u8 0),(AV.i .u8 0),(AV.i .u8 0),(AV.i .u8 0),(AV.i .u8 0),(AV.i .u8 0),(AV.i .u8 0),(AV.i .u8 0),(AV.i .u8 0),(AV.i .u8 0),(AV.i .u8 0),(AV.i .u8 0),(AV.i .u8 0),(AV.i .u8 0),(AV.i .u8 0),(AV.i .u8 0),(AV.i .u8 0),(AV.i .u8 0),(AV.i .u8 0),(AV.i .u8 0),(AV.i .u8 0),(AV.i .u8 0),(AV.i .u8 0),(AV.i .u8 0),(AV.i .u8 0),(AV.i .u8 0),(AV.i .u8 0),(AV.i .u8 0),(AV.i .u8 0),(AV.i .u8 0),(AV.i .u8 0),(AV.i .u8 0),(AV.i .u8 0),(AV.i .u8 0),(AV.i .u8 0),(AV.i .u8 0),(AV.i .u8 0),(AV.i .u8 0),(AV.i .u8 0),(AV.i .u8 0),(AV.i .u8 0),(AV.i .u8 0),(AV.i .u8 0),(AV.i .u8 0),(AV.i .u8 0),(AV.i .u8 0),(AV.i .u8 0),(AV.i .u8 0),(AV.i .u8 0),(AV.i .u8 0),(AV.i .u8 0),(AV.i .u8 0),(AV.i .u8 0),(AV.i .u8 0),(AV.i .u8 0),(AV.i .u8 0),(AV.i .u8 0),(AV.i .u8 0),(AV.i .u8 0),(AV.i .u8 0),(AV.i .u8 0),(AV.i .u8 0),(AV.i .u8 0),(AV.i .u8 0),(AV.i .u8 0),(AV.i .u8 0),(AV.i .u8 0),(AV.i .u8 0),(AV.i .u8 0),(AV.i .u8 0),(AV.i .u8 0),(AV.i .u8 0),(AV.i .u8 0),(AV.i .u8 0),(AV.i .u8 0),(AV.i .u8 0),(AV.i .u8 0),(AV.i .u8 0),(AV.i .u8 0),(AV.i .u8 0),(AV.i .u8 0),(AV.i .u8 0),(AV.i .u8 0),(AV.i .u8 0),(AV.i .u8 0),(AV.i .u8 0),(AV.i .u8 0),(AV.i .u8 0),(AV.i .u8 0),(AV.i .u8 0),(AV.i .u8 0),(AV.i .u8 0),(AV.i .u8 0),(AV.i .u8 0),(AV.i .u8 0),(AV.i .u8 0),(AV.i .u8 0),(AV.i .u8 0),(AV.i .u8 0),(AV.i .u8 0),(AV.i .u8 0),(AV.i .u8 0),(AV.i .u8 0),(AV.i .u8 0),(AV.i .u8 0),(AV.i .u8 0),(AV.i .u8 0),(AV.i .u8 0),(AV.i .u8 0),(AV.i .u8 0),(AV.i .u8 0),(AV.i .u8 0),(AV.i .u8 0),(AV.i .u8 0),(AV.i .u8 0),(AV.i .u8 0),(AV.i .u8 0),(AV.i .u8 0),(AV.i .u8 0),(AV.i .u8 0),(AV.i .u8 0),(AV.i .u8 0),(AV.i .u8 0),(AV.i .u8 0),(AV.i .u8 0),(AV.i .u8 0),(AV.i .u8 0),(AV.i .u8 0),(AV.i .u8 0),(AV.i .u8 0),(AV.i .u8 0),(AV.i .u8 0),(AV.i .u8 0),(AV.i .u8 0),(AV.i .u8 0),(AV.i .u8 0),(AV.i .u8 0),(AV.i .u8 0),(AV.i .u8 0),(AV.i .u8 0),(AV.i .u8 0),(AV.i .u8 0),(AV.i .u8 0),(AV.i .u8 0),(AV.i .u8 0),(AV.i .u8 0),(AV.i .u8 0),(AV.i .u8 0),(AV.i .u8 0),(AV.i .u8 0),(AV.i .u8 0),(AV.i .u8 0),(AV.i .u8 0),(AV.i .u8 0),(AV.i .u8 0),(AV.i .u8 0),(AV.i .u8 0),(AV.i .u8 0),(AV.i .u8 0),(AV.i .u8 0),(AV.i .u8 0),(AV.i .u8 0),(AV.i .u8 0),(AV.i .u8 0),(AV.i .u8 0),(AV.i .u8 0),(AV.i .u8 0),(AV.i .u8 0),(AV.i .u8 0),(AV.i .u8 0),(AV.i .u8 0),(AV.i .u8 0),(AV.i .u8 0),(AV.i .u8 0),(AV.i .u8 0),(AV.i .u8 0),(AV.i .u8 0),(AV.i .u8 0),(AV.i .u8 0),(AV.i .u8 0),(AV.i .u8 0),(AV.i .u8 0),(AV.i .u8 0),(AV.i .u8 0),(AV.i .u8 0),(AV.i .u8 0),(AV.i .u8 0),(AV.i .u8 0),(AV.i .u8 0),(AV.i .u8 0),(AV.i .u8 0),(AV.i .u8 0),(AV.i .u8 0),(AV.i .u8 0),(AV.i .u8 0),(AV.i .u8 0),(AV.i .u8 0),(AV.i .u8 0),(AV.i .u8 0),(AV.i .u8 0),(AV.i .u8 0),(AV.i .u8 0),(AV.i .u8 0),(AV.i .u8 0),(AV.i .u8 0),(AV.i .u8 0),(AV.i .u8 0),(AV.i .u8 0),(AV.i .u8 0),(AV.i .u8 0),(AV.i .u8 0),(AV.i .u8 0),(AV.i .u8 0),(AV.i .u8 0),(AV.i .u8 0),(AV.i .u8 0),(AV.i .u8 0),(AV.i .u8 0),(AV.i .u8 0),(AV.i .u8 0),(AV.i .u8 0),(AV.i .u8 0),(AV.i .u8 0),(AV.i .u8 0)]) h48 fun h49=>
J 4 [(3,x3),(6,v47),(61,(AV.i .i64 0))] h49)
else
(bP x3 fun n85=>
jK .i64 n85 2 fun n86=>
wN 1 16 [(AV.s [])] (AV.i .i64 0) (AV.i .i64 n86) h fun v87 h88=>
dO [(AV.sl none 0 none),(AV.sl none 0 none),(AV.sl none 0 none),(AV.sl none 0 none),(AV.sl none 0 none),(AV.sl none 0 none),(AV.sl none 0 none),(AV.sl none 0 none),(AV.sl none 0 none),(AV.sl none 0 none),(AV.sl none 0 none),(AV.sl none 0 none),(AV.sl none 0 none),(AV.sl none 0 none),(AV.sl none 0 none),(AV.sl none 0 none),(AV.sl none 0 none),(AV.sl none 0 none),(AV.sl none 0 none),(AV.sl none 0 none),(AV.sl none 0 none),(AV.sl none 0 none),(AV.sl none 0 none),(AV.sl none 0 none),(AV.sl none 0 none),(AV.sl none 0 none),(AV.sl none 0 none),(AV.sl none 0 none),(AV.sl none 0 none),(AV.sl none 0 none),(AV.sl none 0 none),(AV.sl none 0 none),(AV.sl none 0 none),(AV.sl none 0 none),(AV.sl none 0 none),(AV.sl none 0 none),(AV.sl none 0 none),(AV.sl none 0 none),(AV.sl none 0 none),(AV.sl none 0 none),(AV.sl none 0 none),(AV.sl none 0 none),(AV.sl none 0 none),(AV.sl none 0 none),(AV.sl none 0 none),(AV.sl none 0 none),(AV.sl none 0 none),(AV.sl none 0 none),(AV.sl none 0 none),(AV.sl none 0 none),(AV.sl none 0 none),(AV.sl none 0 none),(AV.sl none 0 none),(AV.sl none 0 none),(AV.sl none 0 none),(AV.sl none 0 none),(AV.sl none 0 none),(AV.sl none 0 none),(AV.sl none 0 none),(AV.sl none 0 none),(AV.sl none 0 none),(AV.sl none 0 none),(AV.sl none 0 none),(AV.sl none 0 none),(AV.sl none 0 none),(AV.sl none 0 none),(AV.sl none 0 none),(AV.sl none 0 none),(AV.sl none 0 none),(AV.sl none 0 none),(AV.sl none 0 none),(AV.sl none 0 none),(AV.sl none 0 none),(AV.sl none 0 none),(AV.sl none 0 none),(AV.sl none 0 none),(AV.sl none 0 none),(AV.sl none 0 none),(AV.sl none 0 none),(AV.sl none 0 none),(AV.sl none 0 none),(AV.sl none 0 none),(AV.sl none 0 none),(AV.sl none 0 none),(AV.sl none 0 none),(AV.sl none 0 none),(AV.sl none 0 none),(AV.sl none 0 none),(AV.sl none 0 none),(AV.sl none 0 none),(AV.sl none 0 none),(AV.sl none 0 none),(AV.sl none 0 none),(AV.sl none 0 none),(AV.sl none 0 none),(AV.sl none 0 none),(AV.sl none 0 none),(AV.sl none 0 none),(AV.sl none 0 none),(AV.sl none 0 none),(AV.sl none 0 none),(AV.sl none 0 none),(AV.sl none 0 none),(AV.sl none 0 none),(AV.sl none 0 none),(AV.sl none 0 none),(AV.sl none 0 none),(AV.sl none 0 none),(AV.sl none 0 none),(AV.sl none 0 none),(AV.sl none 0 none),(AV.sl none 0 none),(AV.sl none 0 none),(AV.sl none 0 none),(AV.sl none 0 none),(AV.sl none 0 none),(AV.sl none 0 none),(AV.sl none 0 none),(AV.sl none 0 none),(AV.sl none 0 none),(AV.sl none 0 none),(AV.sl none 0 none),(AV.sl none 0 none),(AV.sl none 0 none),(AV.sl none 0 none),(AV.sl none 0 none),(AV.sl none 0 none),(AV.sl none 0 none),(AV.sl none 0 none),(AV.sl none 0 none),(AV.sl none 0 none),(AV.sl none 0 none),(AV.sl none 0 none),(AV.sl none 0 none),(AV.sl none 0 none),(AV.sl none 0 none),(AV.sl none 0 none),(AV.sl none 0 none),(AV.sl none 0 none),(AV.sl none 0 none),(AV.sl none 0 none),(AV.sl none 0 none),(AV.sl none 0 none),(AV.sl none 0 none),(AV.sl none 0 none),(AV.sl none 0 none),(AV.sl none 0 none),(AV.sl none 0 none),(AV.sl none 0 none),(AV.sl none 0 none),(AV.sl none 0 none),(AV.sl none 0 none),(AV.sl none 0 none),(AV.sl none 0 none),(AV.sl none 0 none),(AV.sl none 0 none),(AV.sl none 0 none),(AV.sl none 0 none),(AV.sl none 0 none),(AV.sl none 0 none),(AV.sl none 0 none),(AV.sl none 0 none),(AV.sl none 0 none),(AV.sl none 0 none),(AV.sl none 0 none),(AV.sl none 0 none),(AV.sl none 0 none),(AV.sl none 0 none),(AV.sl none 0 none),(AV.sl none 0 none),(AV.sl none 0 none),(AV.sl none 0 none),(AV.sl none 0 none),(AV.sl none 0 none),(AV.sl none 0 none),(AV.sl none 0 none),(AV.sl none 0 none),(AV.sl none 0 none),(AV.sl none 0 none),(AV.sl none 0 none),(AV.sl none 0 none),(AV.sl none 0 none),(AV.sl none 0 none),(AV.sl none 0 none),(AV.sl none 0 none),(AV.sl none 0 none),(AV.sl none 0 none),(AV.sl none 0 none),(AV.sl none 0 none),(AV.sl none 0 none),(AV.sl none 0 none),(AV.sl none 0 none),(AV.sl none 0 none),(AV.sl none 0 none),(AV.sl none 0 none),(AV.sl none 0 none),(AV.sl none 0 none),(AV.sl none 0 none),(AV.sl none 0 none),(AV.sl none 0 none),(AV.sl none 0 none),(AV.sl none 0 none),(AV.sl none 0 none),(AV.sl none 0 none),(AV.sl none 0 none),(AV.sl none 0 none),(AV.sl none 0 none),(AV.sl none 0 none),(AV.sl none 0 none),(AV.sl none 0 none),(AV.sl none 0 none),(AV.sl none 0 none),(AV.sl none 0 none),(AV.sl none 0 none),(AV.sl none 0 none),(AV.sl none 0 none),(AV.sl none 0 none),(AV.sl none 0 none),(AV.sl none 0 none),(AV.sl none 0 none),(AV.sl none 0 none),(AV.sl none 0 none),(AV.sl none 0 none),(AV.sl none 0 none),(AV.sl none 0 none),(AV.sl none 0 none),(AV.sl none 0 none),(AV.sl none 0 none),(AV.sl none 0 none),(AV.sl none 0 none),(AV.sl none 0 none),(AV.sl none 0 none),(AV.sl none 0 none),(AV.sl none 0 none),(AV.sl none 0 none),(AV.sl none 0 none),(AV.sl none 0 none),(AV.sl none 0 none),(AV.sl none 0 none),(AV.sl none 0 none),(AV.sl none 0 none),(AV.sl none 0 none),(AV.sl none 0 none),(AV.sl none 0 none),(AV.sl none 0 none),(AV.sl none 0 none),(AV.sl none 0 none),(AV.sl none 0 none),(AV.sl none 0 none),(AV.sl none 0 none),(AV.sl none 0 none),(AV.sl none 0 none),(AV.sl none 0 none),(AV.sl none 0 none),(AV.sl none 0 none),(AV.sl none 0 none),(AV.sl none 0 none)] [(256,1,v87)] fun v89=>
bV (some 178) [(AV.sl none 0 none),(AV.sl none 0 none),(AV.sl none 0 none),(AV.sl none 0 none),(AV.sl none 0 none),(AV.sl none 0 none),(AV.sl none 0 none),(AV.sl none 0 none),(AV.sl none 0 none),(AV.sl none 0 none),(AV.sl none 0 none),(AV.sl none 0 none),(AV.sl none 0 none),(AV.sl none 0 none),(AV.sl none 0 none),(AV.sl none 0 none),(AV.sl none 0 none),(AV.sl none 0 none),(AV.sl none 0 none),(AV.sl none 0 none),(AV.sl none 0 none),(AV.sl none 0 none),(AV.sl none 0 none),(AV.sl none 0 none),(AV.sl none 0 none),(AV.sl none 0 none),(AV.sl none 0 none),(AV.sl none 0 none),(AV.sl none 0 none),(AV.sl none 0 none),(AV.sl none 0 none),(AV.sl none 0 none),(AV.sl none 0 none),(AV.sl none 0 none),(AV.sl none 0 none),(AV.sl none 0 none),(AV.sl none 0 none),(AV.sl none 0 none),(AV.sl none 0 none),(AV.sl none 0 none),(AV.sl none 0 none),(AV.sl none 0 none),(AV.sl none 0 none),(AV.sl none 0 none),(AV.sl none 0 none),(AV.sl none 0 none),(AV.sl none 0 none),(AV.sl none 0 none),(AV.sl none 0 none),(AV.sl none 0 none),(AV.sl none 0 none),(AV.sl none 0 none),(AV.sl none 0 none),(AV.sl none 0 none),(AV.sl none 0 none),(AV.sl none 0 none),(AV.sl none 0 none),(AV.sl none 0 none),(AV.sl none 0 none),(AV.sl none 0 none),(AV.sl none 0 none),(AV.sl none 0 none),(AV.sl none 0 none),(AV.sl none 0 none),(AV.sl none 0 none),(AV.sl none 0 none),(AV.sl none 0 none),(AV.sl none 0 none),(AV.sl none 0 none),(AV.sl none 0 none),(AV.sl none 0 none),(AV.sl none 0 none),(AV.sl none 0 none),(AV.sl none 0 none),(AV.sl none 0 none),(AV.sl none 0 none),(AV.sl none 0 none),(AV.sl none 0 none),(AV.sl none 0 none),(AV.sl none 0 none),(AV.sl none 0 none),(AV.sl none 0 none),(AV.sl none 0 none),(AV.sl none 0 none),(AV.sl none 0 none),(AV.sl none 0 none),(AV.sl none 0 none),(AV.sl none 0 none),(AV.sl none 0 none),(AV.sl none 0 none),(AV.sl none 0 none),(AV.sl none 0 none),(AV.sl none 0 none),(AV.sl none 0 none),(AV.sl none 0 none),(AV.sl none 0 none),(AV.sl none 0 none),(AV.sl none 0 none),(AV.sl none 0 none),(AV.sl none 0 none),(AV.sl none 0 none),(AV.sl none 0 none),(AV.sl none 0 none),(AV.sl none 0 none),(AV.sl none 0 none),(AV.sl none 0 none),(AV.sl none 0 none),(AV.sl none 0 none),(AV.sl none 0 none),(AV.sl none 0 none),(AV.sl none 0 none),(AV.sl none 0 none),(AV.sl none 0 none),(AV.sl none 0 none),(AV.sl none 0 none),(AV.sl none 0 none),(AV.sl none 0 none),(AV.sl none 0 none),(AV.sl none 0 none),(AV.sl none 0 none),(AV.sl none 0 none),(AV.sl none 0 none),(AV.sl none 0 none),(AV.sl none 0 none),(AV.sl none 0 none),(AV.sl none 0 none),(AV.sl none 0 none),(AV.sl none 0 none),(AV.sl none 0 none),(AV.sl none 0 none),(AV.sl none 0 none),(AV.sl none 0 none),(AV.sl none 0 none),(AV.sl none 0 none),(AV.sl none 0 none),(AV.sl none 0 none),(AV.sl none 0 none),(AV.sl none 0 none),(AV.sl none 0 none),(AV.sl none 0 none),(AV.sl none 0 none),(AV.sl none 0 none),(AV.sl none 0 none),(AV.sl none 0 none),(AV.sl none 0 none),(AV.sl none 0 none),(AV.sl none 0 none),(AV.sl none 0 none),(AV.sl none 0 none),(AV.sl none 0 none),(AV.sl none 0 none),(AV.sl none 0 none),(AV.sl none 0 none),(AV.sl none 0 none),(AV.sl none 0 none),(AV.sl none 0 none),(AV.sl none 0 none),(AV.sl none 0 none),(AV.sl none 0 none),(AV.sl none 0 none),(AV.sl none 0 none),(AV.sl none 0 none),(AV.sl none 0 none),(AV.sl none 0 none),(AV.sl none 0 none),(AV.sl none 0 none),(AV.sl none 0 none),(AV.sl none 0 none),(AV.sl none 0 none),(AV.sl none 0 none),(AV.sl none 0 none),(AV.sl none 0 none),(AV.sl none 0 none),(AV.sl none 0 none),(AV.sl none 0 none),(AV.sl none 0 none),(AV.sl none 0 none),(AV.sl none 0 none),(AV.sl none 0 none),(AV.sl none 0 none),(AV.sl none 0 none),(AV.sl none 0 none),(AV.sl none 0 none),(AV.sl none 0 none),(AV.sl none 0 none),(AV.sl none 0 none),(AV.sl none 0 none),(AV.sl none 0 none),(AV.sl none 0 none),(AV.sl none 0 none),(AV.sl none 0 none),(AV.sl none 0 none),(AV.sl none 0 none),(AV.sl none 0 none),(AV.sl none 0 none),(AV.sl none 0 none),(AV.sl none 0 none),(AV.sl none 0 none),(AV.sl none 0 none),(AV.sl none 0 none),(AV.sl none 0 none),(AV.sl none 0 none),(AV.sl none 0 none),(AV.sl none 0 none),(AV.sl none 0 none),(AV.sl none 0 none),(AV.sl none 0 none),(AV.sl none 0 none),(AV.sl none 0 none),(AV.sl none 0 none),(AV.sl none 0 none),(AV.sl none 0 none),(AV.sl none 0 none),(AV.sl none 0 none),(AV.sl none 0 none),(AV.sl none 0 none),(AV.sl none 0 none),(AV.sl none 0 none),(AV.sl none 0 none),(AV.sl none 0 none),(AV.sl none 0 none),(AV.sl none 0 none),(AV.sl none 0 none),(AV.sl none 0 none),(AV.sl none 0 none),(AV.sl none 0 none),(AV.sl none 0 none),(AV.sl none 0 none),(AV.sl none 0 none),(AV.sl none 0 none),(AV.sl none 0 none),(AV.sl none 0 none),(AV.sl none 0 none),(AV.sl none 0 none),(AV.sl none 0 none),(AV.sl none 0 none),(AV.sl none 0 none),(AV.sl none 0 none),(AV.sl none 0 none),(AV.sl none 0 none),(AV.sl none 0 none),(AV.sl none 0 none),(AV.sl none 0 none),(AV.sl none 0 none),(AV.sl none 0 none),(AV.sl none 0 none),(AV.sl none 0 none),(AV.sl none 0 none),(AV.sl none 0 none),(AV.sl none 0 none),(AV.sl none 0 none),(AV.sl none 0 none),(AV.sl none 0 none),(AV.sl none 0 none),(AV.sl none 0 none),(AV.sl none 0 none),(AV.sl none 0 none)] h88 fun v90 h91=>
aS 257 v90 v89 h91 fun h92=>
bP x3 fun n94=>
aQ (IntKind.wrap .i64 (n94 - 2)) fun n95=>
J 6 [(3,x3),(11,v90),(12,(AV.i .i64 n95))] h92))))
theorem Y10.i1 {Q x3 x4 x5 h} (H:Y10.t1 Q x3 x4 x5 h (Y10.J Q)):Y10.p1 Q x3 x4 x5 h:=gH Y10.J Tryz.f131 Y10.dist [1,1,1,1,0,1,0] H
def Y10.t6 (Q:AV→aA→Prop) (x3 x11:AV) (x12 x13:Int) (x14:List UInt8) (h:aA) (J:JT):Prop:=
fJ (AV.s x14) h fun v129 h130=>
aD 0 x11 fun v131=>
dD 256 1 v131 (AV.i .u8 x13) fun v132=>
aS 1 v132 v129 h130 fun h133=>
aQ (IntKind.wrap .i64 (x12 - 2)) fun n135=>
J 6 [(3,x3),(11,x11),(12,(AV.i .i64 n135))] h133
theorem Y10.i6 {Q x3 x11 x12 x13 x14 h} (H:Y10.t6 Q x3 x11 x12 x13 x14 h (Y10.J Q)):Y10.p6 Q x3 x11 x12 x13 x14 h:=gR Y10.J Tryz.f131 Y10.dist [1,1,1,1,1,1,1,0,1,0,0,1,0,0,1,1,1] H
def Y10.t5 (Q:AV→aA→Prop) (x3 x11:AV) (x12:Int) (h:aA) (J:JT):Prop:=
(bif (decide ((0:Int)≤x12)) then
(aE 1 x3 (AV.i .i64 x12) h fun v100=>
aC v100 h fun v101=>
asS v101 fun l102=>
bT (AV.s l102) (AV.i .i64 0) fun n103=>
aQ (IntKind.wrap .i64 (x12+1)) fun n105=>
aE 1 x3 (AV.i .i64 n105) h fun v106=>
aC v106 h fun v107=>
asS v107 fun l108=>
aD 0 x11 fun v110=>
dD 256 1 v110 (AV.i .u8 n103) fun v111=>
aC v111 h fun v112=>
f9 prog .eql 91 v112 (AV.sl none 0 none) fun v113=>
asB v113 fun c114=>
(bif c114 then
(aD 256 x11 fun v116=>
aC v116 h fun v117=>
aN 1 1 [(AV.i .u8 0)] [(0,1,(AV.i .u8 n103))] h fun v118 h119=>
cE v118 h119 fun l120=>
aN 1 1 [(AV.s [])] [(0,1,(AV.s l120))] h119 fun v121 h122=>
bN none 1 16 v117 v121 h122 fun v123 h124=>
aD 256 x11 fun v125=>
aS 1 v125 v123 h124 fun h126=>
J 7 [(3,x3),(11,x11),(12,(AV.i .i64 x12)),(13,(AV.i .u8 n103)),(14,(AV.s l108))] h126)
else
(J 7 [(3,x3),(11,x11),(12,(AV.i .i64 x12)),(13,(AV.i .u8 n103)),(14,(AV.s l108))] h)))
else
(Q (AV.ifc 179 x11) h))
theorem Y10.i5 {Q x3 x11 x12 h} (H:Y10.t5 Q x3 x11 x12 h (Y10.J Q)):Y10.p5 Q x3 x11 x12 h:=gH Y10.J Tryz.f131 Y10.dist [1,1,1,1,1,1,1,0,1,0] H
def Y10.t (Q:AV→aA→Prop) (x0:AV) (h:aA) (J:JT):Prop:=
cV x0 fun v1=>
aD 4 v1 fun v2=>
aC v2 h fun v3=>
bP v3 fun n5=>
(bif (decide ((n5:Int)=2)) then
(aE 1 v3 (AV.i .i64 0) h fun v6=>
aC v6 h fun v7=>
asS v7 fun l8=>
J 1 [(3,v3),(28,(AV.b (decide ((1:Int)<(l8.length:Int)))))] h)
else
(J 1 [(3,v3),(28,(AV.b false))] h))
theorem Y10.call {K x0 h} (H:Y10.t (aI h K) x0 h (Y10.J (aI h K))):C Y10.id [x0] h K:=
 gC Y10.J Tryz.func131 Y10.dist H
noncomputable def Y98.body:Code:=(Tryz.f140.body).getD .skip
def Y98.ann:Ann:=lf
theorem Y98.dist:aT (places Y98.ann Y98.body)=true:=by kernel_rfl
noncomputable def Y98.J (Q:AV→aA→Prop):JT:=b4 prog C Tryz.f140 Y98.ann Y98.body Q
def Y98.t (Q:AV→aA→Prop) (x0:AV) (h:aA) (J:JT):Prop:=
cV x0 fun v0=>
aD 0 v0 fun v1=>
C Y102.id [v1] h fun v2 h3=>
Q (AV.tu []) h3
theorem Y98.call {K x0 h} (H:Y98.t (aI h K) x0 h (Y98.J (aI h K))):C Y98.id [x0] h K:=
 gC Y98.J Tryz.func140 Y98.dist H
noncomputable def Y68.body:Code:=(Tryz.f141.body).getD .skip
def Y68.ann:Ann:=lf
theorem Y68.body_eq:Tryz.f141.body=some Y68.body:=by kernel_rfl
theorem Y68.dist:aT (places Y68.ann Y68.body)=true:=by kernel_rfl
noncomputable def Y68.J (Q:AV→aA→Prop):JT:=b4 prog C Tryz.f141 Y68.ann Y68.body Q
def Y68.t (J:JT) (Q:AV→aA→Prop) (x0:AV) (h:aA):Prop:=
cV x0 fun v0=>
aD 0 v0 fun v1=>
C Y67.id [v1] h fun v2 h3=>
Q (AV.tu []) h3
theorem Y68.t_eq (J:JT) (Q:AV→aA→Prop) (x0:AV) (h:aA):Y68.t J Q x0 h=exJ prog C 6 J Y68.ann Y68.body (eY 0 [x0]) h (rG prog Tryz.f141 Q):=by kernel_rfl
theorem Y68.callF {K:AV→aA→Prop} {x0:AV} {h:aA} (H:Y68.t (Y68.J (aI h K)) (aI h K) x0 h):aF prog C Y68.id [x0] h K:=
 aOS (P:=prog) (fn:=Tryz.f141) (ann:=Y68.ann) (body:=Y68.body) Tryz.func141 Y68.body_eq (by kernel_rfl) Y68.dist (by kernel_rfl) ((Y68.t_eq (Y68.J (aI h K)) (aI h K) x0 h).mp H)
noncomputable def Y69.body:Code:=(Tryz.f142.body).getD .skip
def Y69.ann:Ann:=(.ord (nn 0 4 (.eff 4 (.eff 5 .done .stop) .stop)))
theorem Y69.body_eq:Tryz.f142.body=some Y69.body:=by kernel_rfl
theorem Y69.dist:aT (places Y69.ann Y69.body)=true:=by kernel_rfl
noncomputable def Y69.J (Q:AV→aA→Prop):JT:=b4 prog C Tryz.f142 Y69.ann Y69.body Q
def Y69.t (J:JT) (Q:AV→aA→Prop) (x0:AV) (x1:Bool) (h:aA):Prop:=
cV x0 fun v0=>
aD 0 v0 fun v1=>
C Y99.id [(AV.b x1)] h fun v2 h3=>
asI .u32 v2 fun n4=>
C Y110.id [v1,(AV.i .u32 n4)] h3 fun v5 h6=>
Q (AV.tu []) h6
theorem Y69.t_eq (J:JT) (Q:AV→aA→Prop) (x0:AV) (x1:Bool) (h:aA):Y69.t J Q x0 x1 h=exJ prog C 10 J Y69.ann Y69.body (eY 0 [x0,(AV.b x1)]) h (rG prog Tryz.f142 Q):=by kernel_rfl
theorem Y69.callF {K:AV→aA→Prop} {x0:AV} {x1:Bool} {h:aA} (H:Y69.t (Y69.J (aI h K)) (aI h K) x0 x1 h):aF prog C Y69.id [x0,(AV.b x1)] h K:=
 aOS (P:=prog) (fn:=Tryz.f142) (ann:=Y69.ann) (body:=Y69.body) Tryz.func142 Y69.body_eq (by kernel_rfl) Y69.dist (by kernel_rfl) ((Y69.t_eq (Y69.J (aI h K)) (aI h K) x0 x1 h).mp H)
noncomputable def Y102.body:Code:=(Tryz.f151.body).getD .skip
def Y102.ann:Ann:=(sl [0] (sq [0] (sl [0,6] (.br (sq [] (.br (sl [0] lf) lf) lf) lf)) lf))
theorem Y102.dist:aT (places Y102.ann Y102.body)=true:=by kernel_rfl
noncomputable def Y102.J (Q:AV→aA→Prop):JT:=b4 prog C Tryz.f151 Y102.ann Y102.body Q
def Y102.t (Q:AV→aA→Prop) (x0:AV) (h:aA) (J:JT):Prop:=
C Y105.id [] h fun v0 h1=>
cV x0 fun v3=>
aD 0 v3 fun v4=>
C Y109.id [v4,(AV.i .i32 0),(AV.i .i32 1)] h1 fun v5 h6=>
asB v5 fun c7=>
(bif c7 then
(C Y104.id [] h6 fun v9 h10=>
kJ x0 h10 fun v12=>
C Y115.id [v12] h10 fun v13 h14=>
Q (AV.tu []) h14)
else
(C Y121.id [x0] h6 fun v17 h18=>
Q (AV.tu []) h18))
theorem Y102.call {K x0 h} (H:Y102.t (aI h K) x0 h (Y102.J (aI h K))):C Y102.id [x0] h K:=
 gC Y102.J Tryz.func151 Y102.dist H
end Go.Proofs.YtcdkpkkdolmfdaaGreatDoor
namespace Go.Proofs.YtcdkpkkdolmfdaaGreatDoor
open Go.GAM
variable [XR]
noncomputable def Y67.body:Code:=(Tryz.f152.body).getD .skip
def Y67.ann:Ann:=(sq [0] (.br (sl [0] (sl [0] lf)) lf) (sl [0,2] (.seq 1 [] (sl [0,2,16] bl) lf)))
theorem Y67.dist:aT (places Y67.ann Y67.body)=true:=by kernel_rfl
noncomputable def Y67.J (Q:AV→aA→Prop):JT:=b4 prog C Tryz.f152 Y67.ann Y67.body Q
def Y67.p0 (Q:AV→aA→Prop) (h:aA):Prop:=Y67.J Q 1 [] h
def Y67.t0 (Q:AV→aA→Prop) (h:aA) (J:JT):Prop:=
C Y104.id [] h fun v23 h24=>
Q (AV.tu []) h24
theorem Y67.i0 {Q h} (H:Y67.t0 Q h (Y67.J Q)):Y67.p0 Q h:=gR Y67.J Tryz.f152 Y67.dist [1,1,1] H
def Y67.t (Q:AV→aA→Prop) (x0:AV) (h:aA) (J:JT):Prop:=
cV x0 fun v0=>
aD 0 v0 fun v1=>
aC v1 h fun v2=>
asI .i32 v2 fun n3=>
kJ x0 h fun v5=>
C Y112.id [v5] h fun v6 h7=>
C Y105.id [] h7 fun v9 h10=>
cV x0 fun v12=>
aD 0 v12 fun v13=>
C Y113.id [v13,(AV.i .i32 (-1))] h10 fun v14 h15=>
asI .i32 v14 fun n16=>
(bif (!decide ((n16:Int)=0)) then
(C Y123.id [x0,(AV.i .i32 n16)] h15 fun v19 h20=>
J 1 [] h20)
else
(J 1 [] h15))
theorem Y67.call {K x0 h} (H:Y67.t (aI h K) x0 h (Y67.J (aI h K))):C Y67.id [x0] h K:=
 gC Y67.J Tryz.func152 Y67.dist H
noncomputable def Y99.body:Code:=(Tryz.f154.body).getD .skip
def Y99.ann:Ann:=(sl [0] (sq [] (sl [3] (.br (sl [2] lf) lf)) (sl [2] lf)))
theorem Y99.dist:aT (places Y99.ann Y99.body)=true:=by kernel_rfl
noncomputable def Y99.J (Q:AV→aA→Prop):JT:=b4 prog C Tryz.f154 Y99.ann Y99.body Q
def Y99.t (Q:AV→aA→Prop) (x0:Bool) (h:aA) (J:JT):Prop:=
(bif x0 then
(Q (AV.i .u32 1) h)
else
(Q (AV.i .u32 0) h))
theorem Y99.call {K x0 h} (H:Y99.t (aI h K) x0 h (Y99.J (aI h K))):C Y99.id [(AV.b x0)] h K:=
 gC Y99.J Tryz.func154 Y99.dist H
noncomputable def Y2.body:Code:=(Tryz.f207.body).getD .skip
def Y2.ann:Ann:=(sl [0,1] (sl [0,1,5] (sl [0,1,5,6] (.seq 5 [0,1,5,6] (sl [0,1,5,6,26] (.br (sl [0,1,5,6,30,31,32] (.one (.loop 1 [0,1,5,6,30,31,32] (sl [0,1,5,6,30,31,32,33] (sq [0,1,5,6,30,31,32] bl (.seq 2 [0,1,5,6,30,31,32] (.one (sl [0,1,5,6,8,30,31,32] (sl [0,1,5,6,8,9,30,31,32] (sl [0,1,5,6,8,9,30,31,32,40] (.br (sq [0,1,5,30,31,32] (.ord (nn 0 13 (.eff 13 .done .stop))) lf) lf))))) lf)))))) (sl [0,1,5,6,10] (.one (.loop 3 [0,1,5,6,10] (sq [0,1,5,6,10] (sl [0,1,5,6,10,58] bl) (.seq 4 [0,1,5,6,10] (.one (sl [0,1,5,6,10,11] (sl [0,1,5,6,10,11,70] (.br (sl [0,1,5,10] lf) lf)))) lf))))))) (sq [0,1,5] (sl [0,1,5,82] (.br (sl [4] lf) lf)) (sl [0,1,12] (sl [0,1,12,13] (sq [12] (sl [0,1,12,13,14] (.one (.loop 6 [0,1,12,13,14] (sq [0,1,12,13,14] (sl [0,1,12,13,14,89] bl) (.seq 7 [0,1,12,13,14] (.one (sl [0,1,12,13,14,15] (sl [0,1,12,13,14,15,101] (.br (.ord (nn 0 10 (.eff 10 (.neu 11 (.eff 12 .done .stop)) .stop))) (sl [0,1,12,13,14] lf))))) lf))))) (sl [4] lf)))))))))
theorem Y2.dist:aT (places Y2.ann Y2.body)=true:=by kernel_rfl
noncomputable def Y2.J (Q:AV→aA→Prop):JT:=b4 prog C Tryz.f207 Y2.ann Y2.body Q
def Y2.p1 (Q:AV→aA→Prop) (x0:AV) (x1:List UInt8) (x5:Int) (x6:Bool) (x30:AV) (x31 x32:Int) (h:aA):Prop:=Y2.J Q 2 [(0,x0),(1,(AV.s x1)),(5,(AV.i .i64 x5)),(6,(AV.b x6)),(30,x30),(31,(AV.i .i64 x31)),(32,(AV.i .i64 x32))] h
def Y2.p0 (Q:AV→aA→Prop) (x0:AV) (x1:List UInt8) (x5:Int) (x6:Bool) (x30:AV) (x31 x32:Int) (h:aA):Prop:=Y2.J Q 1 [(0,x0),(1,(AV.s x1)),(5,(AV.i .i64 x5)),(6,(AV.b x6)),(30,x30),(31,(AV.i .i64 x31)),(32,(AV.i .i64 x32))] h
def Y2.p3 (Q:AV→aA→Prop) (x0:AV) (x1:List UInt8) (x5:Int) (x6:Bool) (x10:Int) (h:aA):Prop:=Y2.J Q 4 [(0,x0),(1,(AV.s x1)),(5,(AV.i .i64 x5)),(6,(AV.b x6)),(10,(AV.i .i64 x10))] h
def Y2.p2 (Q:AV→aA→Prop) (x0:AV) (x1:List UInt8) (x5:Int) (x6:Bool) (x10:Int) (h:aA):Prop:=Y2.J Q 3 [(0,x0),(1,(AV.s x1)),(5,(AV.i .i64 x5)),(6,(AV.b x6)),(10,(AV.i .i64 x10))] h
def Y2.p6 (Q:AV→aA→Prop) (x0:AV) (x1:List UInt8) (x12:AV) (x13 x14:Int) (h:aA):Prop:=Y2.J Q 7 [(0,x0),(1,(AV.s x1)),(12,x12),(13,(AV.i .i64 x13)),(14,(AV.i .i64 x14))] h
def Y2.p5 (Q:AV→aA→Prop) (x0:AV) (x1:List UInt8) (x12:AV) (x13 x14:Int) (h:aA):Prop:=Y2.J Q 6 [(0,x0),(1,(AV.s x1)),(12,x12),(13,(AV.i .i64 x13)),(14,(AV.i .i64 x14))] h
def Y2.p4 (Q:AV→aA→Prop) (x0:AV) (x1:List UInt8) (x5:Int) (x6:Bool) (h:aA):Prop:=Y2.J Q 5 [(0,x0),(1,(AV.s x1)),(5,(AV.i .i64 x5)),(6,(AV.b x6))] h
def Y2.t1 (Q:AV→aA→Prop) (x0:AV) (x1:List UInt8) (x5:Int) (x6:Bool) (x30:AV) (x31 x32:Int) (h:aA) (J:JT):Prop:=
aQ (IntKind.wrap .i64 (x32+1)) fun n38=>
J 1 [(0,x0),(1,(AV.s x1)),(5,(AV.i .i64 x5)),(6,(AV.b x6)),(30,x30),(31,(AV.i .i64 x31)),(32,(AV.i .i64 n38))] h
theorem Y2.i1 {Q x0 x1 x5 x6 x30 x31 x32 h} (H:Y2.t1 Q x0 x1 x5 x6 x30 x31 x32 h (Y2.J Q)):Y2.p1 Q x0 x1 x5 x6 x30 x31 x32 h:=gR Y2.J Tryz.f207 Y2.dist [1,1,1,0,1,0,1,0,0,1,1,1] H
def Y2.t0 (Q:AV→aA→Prop) (x0:AV) (x1:List UInt8) (x5:Int) (x6:Bool) (x30:AV) (x31 x32:Int) (h:aA) (J:JT):Prop:=
(bif (decide ((x32:Int)<x31)) then
(aE 1 x30 (AV.i .i64 x32) h fun v17=>
aC v17 h fun v18=>
asS v18 fun l19=>
C Y74.id [(AV.s x1),(AV.s l19)] h fun v21 h22=>
asI .i64 v21 fun n23=>
(bif (!decide ((n23:Int)=0)) then
(bT (AV.s l19) (AV.i .i64 0) fun n26=>
cV x0 fun v27=>
aD 0 v27 fun v28=>
dD 256 1 v28 (AV.i .u8 n26) fun v29=>
aC v29 h22 fun v30=>
bP v30 fun n31=>
aQ (IntKind.wrap .i64 (n31 - 1)) fun n32=>
aQ (IntKind.wrap .i64 (n23 * n32)) fun n33=>
aQ (IntKind.wrap .i64 (x5+n33)) fun n34=>
J 2 [(0,x0),(1,(AV.s x1)),(5,(AV.i .i64 n34)),(6,(AV.b true)),(30,x30),(31,(AV.i .i64 x31)),(32,(AV.i .i64 x32))] h22)
else
(J 2 [(0,x0),(1,(AV.s x1)),(5,(AV.i .i64 x5)),(6,(AV.b x6)),(30,x30),(31,(AV.i .i64 x31)),(32,(AV.i .i64 x32))] h22)))
else
(J 5 [(0,x0),(1,(AV.s x1)),(5,(AV.i .i64 x5)),(6,(AV.b x6))] h))
theorem Y2.i0 {Q x0 x1 x5 x6 x30 x31 x32 h} (H:Y2.t0 Q x0 x1 x5 x6 x30 x31 x32 h (Y2.J Q)):Y2.p0 Q x0 x1 x5 x6 x30 x31 x32 h:=gH Y2.J Tryz.f207 Y2.dist [1,1,1,0,1,0,1,0] H
def Y2.t3 (Q:AV→aA→Prop) (x0:AV) (x1:List UInt8) (x5:Int) (x6:Bool) (x10:Int) (h:aA) (J:JT):Prop:=
aQ (IntKind.wrap .i64 (x10+1)) fun n63=>
J 3 [(0,x0),(1,(AV.s x1)),(5,(AV.i .i64 x5)),(6,(AV.b x6)),(10,(AV.i .i64 n63))] h
theorem Y2.i3 {Q x0 x1 x5 x6 x10 h} (H:Y2.t3 Q x0 x1 x5 x6 x10 h (Y2.J Q)):Y2.p3 Q x0 x1 x5 x6 x10 h:=gR Y2.J Tryz.f207 Y2.dist [1,1,1,0,1,1,1,0,0,1,1] H
def Y2.t2 (Q:AV→aA→Prop) (x0:AV) (x1:List UInt8) (x5:Int) (x6:Bool) (x10:Int) (h:aA) (J:JT):Prop:=
(bif (decide ((x10:Int)<(x1.length:Int))) then
(bT (AV.s x1) (AV.i .i64 x10) fun n44=>
cV x0 fun v46=>
aD 0 v46 fun v47=>
dD 256 1 v47 (AV.i .u8 n44) fun v48=>
aC v48 h fun v49=>
f9 prog .neq 91 v49 (AV.sl none 0 none) fun v50=>
asB v50 fun c51=>
(bif c51 then
(cV x0 fun v53=>
aD 0 v53 fun v54=>
dD 256 1 v54 (AV.i .u8 n44) fun v55=>
aC v55 h fun v56=>
bP v56 fun n57=>
aQ (IntKind.wrap .i64 (n57 - 1)) fun n58=>
aQ (IntKind.wrap .i64 (x5+n58)) fun n59=>
J 4 [(0,x0),(1,(AV.s x1)),(5,(AV.i .i64 n59)),(6,(AV.b true)),(10,(AV.i .i64 x10))] h)
else
(J 4 [(0,x0),(1,(AV.s x1)),(5,(AV.i .i64 x5)),(6,(AV.b x6)),(10,(AV.i .i64 x10))] h)))
else
(J 5 [(0,x0),(1,(AV.s x1)),(5,(AV.i .i64 x5)),(6,(AV.b x6))] h))
theorem Y2.i2 {Q x0 x1 x5 x6 x10 h} (H:Y2.t2 Q x0 x1 x5 x6 x10 h (Y2.J Q)):Y2.p2 Q x0 x1 x5 x6 x10 h:=gH Y2.J Tryz.f207 Y2.dist [1,1,1,0,1,1,1,0] H
def Y2.t6 (Q:AV→aA→Prop) (x0:AV) (x1:List UInt8) (x12:AV) (x13 x14:Int) (h:aA) (J:JT):Prop:=
aQ (IntKind.wrap .i64 (x14+1)) fun n100=>
J 6 [(0,x0),(1,(AV.s x1)),(12,x12),(13,(AV.i .i64 x13)),(14,(AV.i .i64 n100))] h
theorem Y2.i6 {Q x0 x1 x12 x13 x14 h} (H:Y2.t6 Q x0 x1 x12 x13 x14 h (Y2.J Q)):Y2.p6 Q x0 x1 x12 x13 x14 h:=gR Y2.J Tryz.f207 Y2.dist [1,1,1,1,1,1,1,0,1,0,0,1,1] H
def Y2.t5 (Q:AV→aA→Prop) (x0:AV) (x1:List UInt8) (x12:AV) (x13 x14:Int) (h:aA) (J:JT):Prop:=
(bif (decide ((x14:Int)<(x1.length:Int))) then
(bT (AV.s x1) (AV.i .i64 x14) fun n76=>
cV x0 fun v78=>
aD 0 v78 fun v79=>
dD 256 1 v79 (AV.i .u8 n76) fun v80=>
aC v80 h fun v81=>
f9 prog .neq 91 v81 (AV.sl none 0 none) fun v82=>
asB v82 fun c83=>
(bif c83 then
(cX 1 x12 (some (AV.i .i64 x13)) none none h fun v85=>
cV x0 fun v86=>
aD 0 v86 fun v87=>
dD 256 1 v87 (AV.i .u8 n76) fun v88=>
aC v88 h fun v89=>
yI 1 v85 v89 h fun v90 h91=>
asI .i64 v90 fun n92=>
aQ (IntKind.wrap .i64 (x13+n92)) fun n93=>
J 7 [(0,x0),(1,(AV.s x1)),(12,x12),(13,(AV.i .i64 n93)),(14,(AV.i .i64 x14))] h91)
else
(aE 1 x12 (AV.i .i64 x13) h fun v95=>
aS 1 v95 (AV.i .u8 n76) h fun h96=>
aQ (IntKind.wrap .i64 (x13+1)) fun n98=>
J 7 [(0,x0),(1,(AV.s x1)),(12,x12),(13,(AV.i .i64 n98)),(14,(AV.i .i64 x14))] h96)))
else
(cE x12 h fun l102=>
Q (AV.s l102) h))
theorem Y2.i5 {Q x0 x1 x12 x13 x14 h} (H:Y2.t5 Q x0 x1 x12 x13 x14 h (Y2.J Q)):Y2.p5 Q x0 x1 x12 x13 x14 h:=gH Y2.J Tryz.f207 Y2.dist [1,1,1,1,1,1,1,0,1,0] H
def Y2.t4 (Q:AV→aA→Prop) (x0:AV) (x1:List UInt8) (x5:Int) (x6:Bool) (h:aA) (J:JT):Prop:=
(bif (!x6) then
(Q (AV.s x1) h)
else
(wN 1 1 [(AV.i .u8 0)] (AV.i .i64 x5) (AV.i .i64 x5) h fun v68 h69=>
J 6 [(0,x0),(1,(AV.s x1)),(12,v68),(13,(AV.i .i64 0)),(14,(AV.i .i64 0))] h69))
theorem Y2.i4 {Q x0 x1 x5 x6 h} (H:Y2.t4 Q x0 x1 x5 x6 h (Y2.J Q)):Y2.p4 Q x0 x1 x5 x6 h:=gR Y2.J Tryz.f207 Y2.dist [1,1,1,1] H
def Y2.t (Q:AV→aA→Prop) (x0:AV) (x1:List UInt8) (h:aA) (J:JT):Prop:=
cV x0 fun v3=>
aD 256 v3 fun v4=>
aC v4 h fun v5=>
bP v5 fun n6=>
aQ (IntKind.wrap .i64 (n6 * 8)) fun n7=>
(bif (decide ((n7:Int)≤(x1.length:Int))) then
(cV x0 fun v9=>
aD 256 v9 fun v10=>
aC v10 h fun v11=>
bP v11 fun n12=>
J 1 [(0,x0),(1,(AV.s x1)),(5,(AV.i .i64 (x1.length:Int))),(6,(AV.b false)),(30,v11),(31,(AV.i .i64 n12)),(32,(AV.i .i64 0))] h)
else
(J 3 [(0,x0),(1,(AV.s x1)),(5,(AV.i .i64 (x1.length:Int))),(6,(AV.b false)),(10,(AV.i .i64 0))] h))
theorem Y2.call {K x0 x1 h} (H:Y2.t (aI h K) x0 x1 h (Y2.J (aI h K))):C Y2.id [x0,(AV.s x1)] h K:=
 gC Y2.J Tryz.func207 Y2.dist H
end Go.Proofs.YtcdkpkkdolmfdaaGreatDoor
set_option linter.unusedSimpArgs false
namespace Go.GAM
variable {ty:Option TypeId}
def Ext (h0 h:aA):Prop:=h0.length≤h.length∧∀ id,id<h0.length→h[id]? = h0[id]?
theorem Ext.refl (h:aA):Ext h h:=⟨Nat.le_refl _,fun _ _=>rfl⟩
theorem Ext.trans {h1 h2 h3:aA} (a:Ext h1 h2) (b:Ext h2 h3):Ext h1 h3:=⟨Nat.le_trans a.1 b.1,fun id hi=>(b.2 id (Nat.lt_of_lt_of_le hi a.1)).trans (a.2 id hi)⟩
theorem Ext.take {h0 h:aA} (a:Ext h0 h):h.take h0.length=h0:=by
 apply List.ext_getElem?
 intro i
 rw [List.getElem?_take]
 by_cases hi:i<h0.length
 ·rw [if_pos hi,a.2 i hi]
 ·rw [if_neg hi,List.getElem?_eq_none (Nat.le_of_not_lt hi)]
def vK:AV→Bool
 | .b _ | .i _ _ | .s _ | .p none | .sl none _ _ | .nf | .ni=>true
 | _=>false
def aH1:AV→Bool
 | .ag cs | .tu cs=>cs.all vK
 | v=>vK v
theorem vD {n:Nat} {v:AV} (h:vK v=true):pP n [] v=v∧ok1 n [] v=true:=by
 unfold vK at h
 split at h <;> first | exact ⟨rfl,rfl⟩ | cases h
theorem aGR {n:Nat} {v:AV} (h:aH1 v=true):ren n [] v=v∧okR n [] v=true:=by
 have hl:∀ cs:List AV,cs.all vK=true→cs.map (pP n [])=cs∧cs.all (ok1 n [])=true:=by
  intro cs
  induction cs with
  | nil=>exact fun _=>⟨rfl,rfl⟩
  | cons c cs ih =>
   intro hc
   simp only [List.all_cons,Bool.and_eq_true] at hc
   obtain ⟨h1,h2⟩:=ih hc.2
   obtain ⟨h3,h4⟩:=vD (n:=n) hc.1
   simp [h1,h2,h3,h4]
 unfold aH1 at h
 split at h
 ·rename_i cs; obtain ⟨h1,h2⟩:=hl cs h; exact ⟨by simp [ren,h1],by simpa [okR] using h2⟩
 ·rename_i cs; obtain ⟨h1,h2⟩:=hl cs h; exact ⟨by simp [ren,h1],by simpa [okR] using h2⟩
 ·rename_i h1 h2
  obtain ⟨h3,h4⟩:=vD (n:=n) h
  constructor
  ·unfold ren; split
   ·exact absurd rfl (h1 _)
   ·exact absurd rfl (h2 _)
   ·exact h3
  ·unfold okR; split
   ·exact absurd rfl (h1 _)
   ·exact absurd rfl (h2 _)
   ·exact h4
theorem aV {h0 h:aA} {K:AV→aA→Prop} {r:AV} (hp:aH1 r=true) (hE:Ext h0 h) (hk:K r h0):aI h0 K r h:=by
 obtain ⟨h1,h2⟩:=aGR (n:=h0.length) hp
 refine .inr ⟨[],List.nodup_nil,h2,by simp,fun id hi=>.inl (hE.2 id hi),hE.1, ?_⟩
 rw [h1,hE.take]
 simpa using hk
theorem xP (l:List UInt8):(l.map byteAV).all AV.cellOK=true:=by
 rw [List.all_eq_true]; intro x hx; simp only [List.mem_map] at hx; obtain ⟨c,_,rfl⟩:=hx; rfl
theorem xS (l:List UInt8):(l.map byteAV).all pG=true:=by
 rw [List.all_eq_true]; intro x hx; simp only [List.mem_map] at hx; obtain ⟨c,_,rfl⟩:=hx; rfl
theorem xN (c:UInt8):toByte (byteAV c)=c:=by simp [toByte,byteAV]
theorem aC7 (l:List UInt8):(l.map byteAV).map toByte=l:=by
 rw [List.map_map]
 have:toByte ∘ byteAV=id:=by funext c; exact xN c
 rw [this,List.map_id]
theorem aL {n:Int} (h0 : -9223372036854775808≤n) (h1:n<9223372036854775808):IntKind.wrap .i64 n=n:=by
 have e1:(2:Int) ^ 64=18446744073709551616:=by decide
 have e2:(2:Int) ^ (64 - 1)=9223372036854775808:=by decide
 simp only [IntKind.wrap,IntKind.bits,IntKind.signed,Bool.true_and,decide_eq_true_eq,e1,e2]
 split <;> omega
theorem gO {n:Int} (h0:0≤n) (h1:n<256):IntKind.wrap .u8 n=n:=by
 simp only [IntKind.wrap,IntKind.bits,IntKind.signed,Bool.false_and,Bool.false_eq_true,if_false]
 omega
theorem getD_some {α:Type} {l:List α} {i:Nat} {c d:α} (hc:l[i]? = some c):l.getD i d=c:=by
 rw [List.getD_eq_getElem?_getD,hc] <;> rfl
theorem wF {l:List UInt8} {k:IntKind} {i:Nat} {c:UInt8} {K:Int→Prop} (hc:l[i]? = some c) (hk:K (c.toNat:Int)):bT (.s l) (.i k (i:Int)) K:=by
 obtain ⟨hlt,_⟩:=List.getElem?_eq_some_iff.1 hc
 refine ⟨by omega,by simpa using hlt, ?_⟩
 rw [Int.toNat_natCast,getD_some hc]
 exact hk
theorem aM {c:Bool} {A B:Prop} (hc:c=true) (h:A):(bif c then A else B):=by rw [hc]; exact h
theorem aK {c:Bool} {A B:Prop} (hc:c=false) (h:B):(bif c then A else B):=by rw [hc]; exact h
theorem aG {c:Bool} {A B:Prop} (h1:c=true→A) (h2:c=false→B):(bif c then A else B):=by
 cases c
 ·exact h2 rfl
 ·exact h1 rfl
theorem aJ {e n:Int} {K:Int→Prop} (h:e=n) (hk:K n):aQ e K:=by subst h; exact hk
theorem jX {e n:Bool} {K:Bool→Prop} (h:e=n) (hk:K n):aEV e K:=by subst h; exact hk
end Go.GAM
namespace Go.GAM
section
variable {P:Program}
end
end Go.GAM
namespace Go.GAM
variable {ty:Option TypeId}
def Upd (M:Nat→Prop) (h h':aA):Prop:=h.length≤h'.length∧∀ i,i<h.length→¬ M i→h'[i]? = h[i]?
theorem Upd.refl (M:Nat→Prop) (h:aA):Upd M h h:=⟨Nat.le_refl _,fun _ _ _=>rfl⟩
theorem Upd.trans {M M':Nat→Prop} {h h1 h2:aA} (a:Upd M h h1) (b:Upd M' h1 h2) (hM:∀ i,i<h.length→M' i→M i):Upd M h h2:=
 ⟨Nat.le_trans a.1 b.1,fun i hi hn=>(b.2 i (Nat.lt_of_lt_of_le hi a.1) fun hm=>hn (hM i hi hm)).trans (a.2 i hi hn)⟩
theorem Upd.mono {M M':Nat→Prop} {h h1:aA} (a:Upd M h h1) (hM:∀ i,i<h.length→M i→M' i):Upd M' h h1:=
 ⟨a.1,fun i hi hn=>a.2 i hi fun hm=>hn (hM i hi hm)⟩
theorem Upd.app (h s:aA):Upd (fun _=>False) h (h++s):=⟨by simp,fun i hi _=>by rw [List.getElem?_append_left hi]⟩
theorem Upd.set (h:aA) (id:Nat) (b:ABlk):Upd (· = id) h (h.set id b):=⟨by simp,fun i hi hn=>by rw [List.getElem?_set_ne (fun e=>hn e.symm)]⟩
theorem bM {α:Type} {l:List α} {i:Nat} {a:α} (h:l[i]? = some a):i<l.length:=(List.getElem?_eq_some_iff.1 h).1
def bE (h:aA) (id:Nat) (cs:List AV):Prop:=∃ b:ABlk,h[id]? = some b∧b.cells=cs∧b.floor≤cs.length∧b.ro=false
theorem bE.lt {h:aA} {id:Nat} {cs:List AV} (R:bE h id cs):id<h.length:=by obtain ⟨b,h1,_⟩:=R; exact bM h1
theorem bE.upd {M:Nat→Prop} {h h':aA} {id:Nat} {cs:List AV} (R:bE h id cs) (U:Upd M h h') (hM:¬ M id):bE h' id cs:=by
 have hl:=R.lt
 obtain ⟨b,h1,h2⟩:=R
 exact ⟨b,(U.2 id hl hM).trans h1,h2⟩
theorem b8 {a:AA} {K:AV→Prop} (hk:K (.p (some a))):cV (.p (some a)) K:=hk
theorem aP {id ver off o:Nat} {K:AV→Prop} (hk:K (.p (some ⟨id,ver,off+o⟩))):aD o (.p (some ⟨id,ver,off⟩)) K:=hk
theorem aH2 {k:IntKind} {a b n:Int} {K:Int→Prop} (hb:b≠0) (hn:k.wrap (a.tdiv b)=n) (hk:K n):jK k a b K:=by subst hn; exact ⟨hb,hk⟩
theorem aJY {a b n:Int} {K:Int→Prop} (hb:b≠0) (hn:a.tmod b=n) (hk:K n):iJ a b K:=by subst hn; exact ⟨hb,hk⟩
theorem aO {h:aA} {id n o:Nat} {cs:List AV} {v:AV} {K:AV→Prop} (R:bE h id cs) (hn:n=cs.length) (hc:cs[o]? = some v) (hk:K v):aC (.p (some ⟨id,n,o⟩)) h K:=by
 obtain ⟨b,h1,rfl,h3,h4⟩:=R
 subst hn
 have:=bM hc
 refine ⟨b,h1,⟨h3,Nat.le_refl _,this⟩, ?_⟩
 show K (b.cells.getD o .u)
 rw [getD_some hc]; exact hk
theorem cM {h:aA} {id n o:Nat} {cs:List AV} {v:AV} {K:aA→Prop} (R:bE h id cs) (hn:n=cs.length) (ho:o<cs.length) (hv:v.parts=[v]:=by rfl) (hs:v.sizeOK=true:=by rfl) (hc:v.cellOK=true:=by rfl)
  (hk:∀ h',h'.length=h.length→Upd (· = id) h h'→bE h' id (cs.set o v)→K h'):aS 1 (.p (some ⟨id,n,o⟩)) v h K:=by
 have hl:=R.lt
 obtain ⟨b,h1,rfl,h3,h4⟩:=R
 subst hn
 refine ⟨b,h1,h4,h3,rfl,(by show o+1≤b.cells.length; omega),hs,by rw [hv] <;> rfl,by rw [hv]; simp [hc], ?_⟩
 refine hk _ (by simp) (Upd.set _ _ _) ⟨_,List.getElem?_set_self hl, ?_, ?_,h4⟩
 ·rw [hv] <;> rfl
 ·simp
theorem b9 {cells:List AV} {h:aA} {K:AV→aA→Prop} (hk:∀ h',h'.length=h.length+1→Upd (fun _=>False) h h'→bE h' h.length cells→K (.p (some ⟨h.length,cells.length,0⟩)) h'):bV ty cells h K:=
 hk _ (by simp) (Upd.app _ _) ⟨bR cells 1 true ty,by simp,rfl,Nat.le_refl _,rfl⟩
theorem d3 {x:AV} {h:aA} {K:AV→aA→Prop} (hs:x.sizeOK=true:=by rfl) (hk:∀ h',h'.length=h.length+1→Upd (fun _=>False) h h'→bE h' h.length x.parts→K (.p (some ⟨h.length,x.parts.length,0⟩)) h'):eH ty x h K:=
 ⟨hs,hk _ (by simp) (Upd.app _ _) ⟨bR x.parts 1 true ty,by simp,rfl,Nat.le_refl _,rfl⟩⟩
theorem aCM {n:Int} {K:Int→Prop} (hk:K n):asI .i64 (.i .i64 n) K:=hk
theorem aU {k:IntKind} {n:Int} {K:Int→Prop} (hk:K n):asI k (.i k n) K:=by cases k <;> exact hk
theorem aX {n:Bool} {K:Bool→Prop} (hk:K n):asB (.b n) K:=hk
theorem aZ {n:List UInt8} {K:List UInt8→Prop} (hk:K n):asS (.s n) K:=hk
theorem aKK {a:Option AA} {n:Nat} {c:Option Nat} {K:Int→Prop} (hk:K n):bP (.sl a n c) K:=hk
theorem aK5:∀ (ws pre cs:List AV),ws.length=cs.length→wr (pre++cs) pre.length ws=pre++ws
 | [], pre, cs, h => by
  have:cs=[]:=List.eq_nil_of_length_eq_zero (by simpa using h.symm)
  subst this; simp [wr]
 | w :: ws,pre,[],h=>by simp at h
 | w :: ws, pre, c :: cs, h => by
  simp only [wr]
  have e:(pre++c :: cs).set pre.length w=(pre++[w])++cs:=by simp
  rw [e]
  have:=aK5 ws (pre++[w]) cs (by simpa using h)
  simpa using this
theorem bB {h:aA} {id n:Nat} {cs:List AV} {K:AV→Prop} (R:bE h id cs) (hn:n=cs.length) (hk:K (.ag cs)):aB n (.p (some ⟨id,n,0⟩)) h K:=by
 obtain ⟨b,h1,rfl,h3,h4⟩:=R
 subst hn
 refine ⟨b,h1,⟨h3,Nat.le_refl _,by simp⟩, ?_⟩
 simpa using hk
theorem bA {h:aA} {id n:Nat} {cs ws:List AV} {K:aA→Prop} (R:bE h id cs) (hn:n=cs.length) (hw:ws.length=n) (hc:ws.all AV.cellOK=true)
  (hk:∀ h',h'.length=h.length→Upd (· = id) h h'→bE h' id ws→K h'):aS n (.p (some ⟨id,n,0⟩)) (.ag ws) h K:=by
 have hl:=R.lt
 obtain ⟨b,h1,rfl,h3,h4⟩:=R
 subst hn
 refine ⟨b,h1,h4,h3,rfl,(by show 0+b.cells.length≤b.cells.length; omega),rfl,hw,hc, ?_⟩
 refine hk _ (by simp) (Upd.set _ _ _) ⟨_,List.getElem?_set_self hl, ?_, ?_,h4⟩
 ·exact aK5 ws [] b.cells hw
 ·rw [hw]; exact Nat.le_refl _
def bZ (v:AV) (id:Nat):Prop:=match v with
 | .sl (some a) _ _=>a.id=id
 | _=>False
def Rd (sz:Nat) (h:aA) (v:AV) (cs:List AV) (len:Nat):Prop:=
 (v = .sl none 0 none∧len=0∧cs=[])∨∃ id ver off cap b,v = .sl (some ⟨id,ver,off⟩) len cap∧h[id]? = some b∧b.sz=sz∧b.floor≤ver∧ver≤b.cells.length∧off+len * sz≤ver∧(b.cells.drop off).take (len * sz)=cs
theorem Rd.upd {sz:Nat} {M:Nat→Prop} {h h':aA} {v:AV} {cs:List AV} {len:Nat} (R:Rd sz h v cs len) (U:Upd M h h') (hM:∀ id,bZ v id→¬ M id):Rd sz h' v cs len:=by
 rcases R with h1 | ⟨id,ver,off,cap,b,rfl,h2,h3⟩
 ·exact .inl h1
 ·exact .inr ⟨id,ver,off,cap,b,rfl,(U.2 id (bM h2) (hM id rfl)).trans h2,h3⟩
theorem Rd.lt {sz:Nat} {h:aA} {v:AV} {cs:List AV} {len:Nat} (R:Rd sz h v cs len) {id:Nat} (hs:bZ v id):id<h.length:=by
 rcases R with ⟨rfl,_⟩ | ⟨id',ver,off,cap,b,rfl,h2,h3⟩
 ·exact hs.elim
 ·cases hs; exact bM h2
theorem Rd.length {sz:Nat} {h:aA} {v:AV} {cs:List AV} {len:Nat} (R:Rd sz h v cs len):cs.length=len * sz:=by
 rcases R with ⟨_,rfl,rfl⟩ | ⟨id,ver,off,cap,b,rfl,h2,h3,h4,h5,h6,rfl⟩
 ·simp
 ·simp; omega
theorem Rd.sl {sz:Nat} {h:aA} {v:AV} {cs:List AV} {len:Nat} (R:Rd sz h v cs len) {K:List AV→Prop} (hk:K cs):gS sz v h K:=by
 rcases R with ⟨rfl,rfl,rfl⟩ | ⟨id,ver,off,cap,b,rfl,h2,h3,h4,h5,h6,rfl⟩
 ·exact hk
 ·exact .inr ⟨b,h2,⟨h4,h5,h6⟩,hk⟩
theorem Rd.len {sz:Nat} {h:aA} {v:AV} {cs:List AV} {len:Nat} (R:Rd sz h v cs len) {K:Int→Prop} (hk:K len):bP v K:=by
 rcases R with ⟨rfl,rfl,rfl⟩ | ⟨id,ver,off,cap,b,rfl,h2⟩ <;> exact hk
theorem Rd.news {sz:Nat} {h:aA} {v:AV} {cs:List AV} {len:Nat} (R:Rd sz h v cs len) {K:List AV→Nat→Prop} (hk:K cs len):kY sz v h K:=by
 rcases R with ⟨rfl,rfl,rfl⟩ | ⟨id,ver,off,cap,b,rfl,h2,h3,h4,h5,h6,rfl⟩
 ·exact hk
 ·exact .inr ⟨b,h2,⟨h4,h5,h6⟩,hk⟩
structure mY (sz:Nat) (h:aA) (id ver off:Nat) (b:ABlk) (cs:List AV) (len:Nat):Prop where
 blk:h[id]? = some b
 siz:b.sz=sz
 flo:b.floor≤ver
 vle:ver≤b.cells.length
 end_:off+len * sz≤ver
 cel:(b.cells.drop off).take (len * sz)=cs
theorem mY.rd {sz:Nat} {h:aA} {id ver off:Nat} {b:ABlk} {cs:List AV} {len:Nat} (R:mY sz h id ver off b cs len) (cap:Option Nat):Rd sz h (.sl (some ⟨id,ver,off⟩) len cap) cs len:=
 .inr ⟨id,ver,off,cap,b,rfl,R.1,R.2,R.3,R.4,R.5,R.6⟩
theorem mY.upd {sz:Nat} {M:Nat→Prop} {h h':aA} {id ver off:Nat} {b:ABlk} {cs:List AV} {len:Nat} (R:mY sz h id ver off b cs len) (U:Upd M h h') (hM:¬ M id):mY sz h' id ver off b cs len:=
 ⟨(U.2 id (bM R.1) hM).trans R.1,R.2,R.3,R.4,R.5,R.6⟩
theorem mY.lt {sz:Nat} {h:aA} {id ver off:Nat} {b:ABlk} {cs:List AV} {len:Nat} (R:mY sz h id ver off b cs len):id<h.length:=bM R.1
theorem dE {sz:Nat} {h:aA} {id ver off:Nat} {b:ABlk} {cs:List AV} {len:Nat} {cap:Option Nat} {k:IntKind} {i:Nat} {K:AV→Prop} (R:mY sz h id ver off b cs len) (hi:i<len) (hk:K (.p (some ⟨id,ver,off+i * sz⟩))) :
  aE sz (.sl (some ⟨id,ver,off⟩) len cap) (.i k (i:Int)) h K:=
 ⟨by omega,by omega,⟨b,R.1,R.3,Nat.le_trans R.3 R.4⟩,by simpa using hk⟩
theorem aF6 {sz:Nat} {h:aA} {id ver off:Nat} {b:ABlk} {cs:List AV} {len i o:Nat} {c:AV} {K:AV→Prop} (R:mY sz h id ver off b cs len) (hi:i<len) (ho:o<sz) (hc:cs[i * sz+o]? = some c) (hk:K c):aC (.p (some ⟨id,ver,off+i * sz+o⟩)) h K:=by
 have h1:(i+1) * sz≤len * sz:=Nat.mul_le_mul_right _ hi
 rw [Nat.add_mul] at h1
 have h2:=R.end_
 refine ⟨b,R.1,⟨R.3,R.4,by simp only; omega⟩, ?_⟩
 have h3:=R.cel
 rw [← h3,List.getElem?_take_of_lt (by omega),List.getElem?_drop] at hc
 show K (b.cells.getD (off+i * sz+o) .u)
 rw [getD_some (show b.cells[off+i * sz+o]? = some c by rw [← hc]; congr 1; omega)]
 exact hk
def Arr (sz:Nat) (h:aA) (v:AV) (cs:List AV) (len:Nat):Prop:=
 (v = .sl none 0 none∧len=0∧cs=[])∨∃ id b,v = .sl (some ⟨id,cs.length,0⟩) len none∧h[id]? = some b∧b.cells=cs∧cs.length=len * sz∧b.sz=sz∧b.floor≤cs.length∧b.ro=false∧b.gl=false
theorem Arr.nil (sz:Nat) (h:aA):Arr sz h (.sl none 0 none) [] 0:=.inl ⟨rfl,rfl,rfl⟩
theorem Arr.rd {sz:Nat} {h:aA} {v:AV} {cs:List AV} {len:Nat} (A:Arr sz h v cs len):Rd sz h v cs len:=by
 rcases A with h1 | ⟨id,b,rfl,h2,rfl,h4,h5,h6,h7⟩
 ·exact .inl h1
 ·refine .inr ⟨id, _, 0, none, b, rfl, h2, h5, h6, Nat.le_refl _, by omega, ?_⟩
  rw [List.drop_zero, ← h4,List.take_length]
theorem Arr.upd {sz:Nat} {M:Nat→Prop} {h h':aA} {v:AV} {cs:List AV} {len:Nat} (A:Arr sz h v cs len) (U:Upd M h h') (hM:∀ id,bZ v id→¬ M id):Arr sz h' v cs len:=by
 rcases A with h1 | ⟨id,b,rfl,h2,h3⟩
 ·exact .inl h1
 ·exact .inr ⟨id,b,rfl,(U.2 id (bM h2) (hM id rfl)).trans h2,h3⟩
theorem Arr.append {sz bytes : Nat} {h : aA} {v x : AV} {cs ns : List AV} {len k : Nat} (A : Arr sz h v cs len) (hz : 0 < sz) {K : AV → aA → Prop}
  (hx:∀ K:List AV→Nat→Prop,K ns k→kY sz x h K) (hns:ns.length=k * sz) (hok:ns.all AV.cellOK=true) (hlen:(len+k) * bytes≤140737488355328) (hl2:len+k≤9223372036854775807)
  (hk:∀ v' h',Upd (bZ v) h h'→Arr sz h' v' (cs++ns) (len+k)→(∀ id,bZ v' id→bZ v id∨h.length≤id)→K v' h'):bN ty sz bytes v x h K:=by
 refine ⟨hz,hx _ ?_⟩
 rcases A with ⟨rfl,rfl,rfl⟩ | ⟨id,b,rfl,h2,rfl,h4,h5,h6,h7,h8⟩
 ·refine ⟨by simpa using hlen, by omega, ?_⟩
  split
  ·rename_i h0
   subst h0
   have:ns=[]:=List.eq_nil_of_length_eq_zero (by simpa using hns)
   subst this
   exact hk _ _ (Upd.refl _ _) (.inl ⟨rfl,rfl,rfl⟩) fun id hi=>.inl hi
  ·refine hk _ _ ((Upd.app _ _).mono fun _ _ h=>h.elim) (.inr ⟨h.length,bR ns sz false ty,by simp,by simp,rfl,by simpa using hns,rfl,Nat.le_refl _,rfl,rfl⟩) fun id hi=>.inr (by cases hi; exact Nat.le_refl _)
 ·have hid := bM h2
  refine ⟨hlen,by omega,b,h2,h5,⟨h6,Nat.le_refl _,by simp only; omega⟩, ?_⟩
  have hcells:(b.cells.drop 0).take (len * sz)=b.cells:=by rw [List.drop_zero, ← h4,List.take_length]
  by_cases ht:k=0
  ·subst ht
   have:ns=[]:=List.eq_nil_of_length_eq_zero (by simpa using hns)
   subst this
   refine .inl ⟨rfl,hk _ _ (Upd.refl _ _) ?_ fun id hi=>.inl hi⟩
   rw [List.append_nil]
   exact .inr ⟨id,b,rfl,h2,rfl,h4,h5,h6,h7,h8⟩
  ·have htp : 0 < k := Nat.pos_of_ne_zero ht
   have hmul:(len+k) * sz=len * sz+k * sz:=Nat.add_mul _ _ _
   cases hex:b.ex with
   | true =>
    have hkz:0<k * sz:=Nat.mul_pos htp hz
    refine .inr (.inl ⟨htp,.inr ⟨rfl,rfl,rfl,by simp only; omega⟩, ?_⟩)
    rw [hcells]
    refine hk _ _ ((Upd.app _ _).mono fun _ _ h=>h.elim) (.inr ⟨h.length,bR (b.cells++ns) sz false ty,rfl,by simp,rfl,by simp [bR,hns,h4,hmul],rfl,by simp [bR],rfl,rfl⟩) fun id hi=>.inr (by cases hi; exact Nat.le_refl _)
   | false =>
    refine .inr (.inr (.inr (.inl ⟨htp,h7,rfl,rfl,h4.symm,rfl,rfl,h8,hok, ?_⟩)))
    refine hk _ _ ((Upd.set _ _ _).mono fun i _ h=>h.symm) (.inr ⟨id,{ b with cells:=b.cells++ns,ty:=jU b.ty ty },rfl,by simp [hid,hex],rfl,by simp [hns,h4,hmul],h5,by simp; omega,h7,h8⟩) fun id hi=>.inl hi
theorem eO {sz len:Nat} {zeros cs:List AV} {parts:List (Nat × Nat × AV)} {h:aA} {K:AV→aA→Prop} (hf:fC zeros parts=some cs) (hl:cs.length=len * sz)
  (hk:∀ v h',h'.length=h.length+1→Upd (fun _=>False) h h'→Rd sz h' v cs len→(∀ id,bZ v id→h.length≤id)→K v h'):aN sz len zeros parts h K:=by
 unfold aN
 rw [hf]
 refine ⟨hl,hk _ _ (by simp) (Upd.app _ _) (.inr ⟨h.length,cs.length,0,none,bR cs sz true,rfl,by simp,rfl,Nat.le_refl _,Nat.le_refl _,by omega, ?_⟩) fun id hi=>by cases hi; exact Nat.le_refl _⟩
 simp [bR, ← hl]
theorem Arr.push {sz bytes:Nat} {h:aA} {v x:AV} {cs zeros:List AV} {len:Nat} (A:Arr sz h v cs len) (hz:0<sz) {K:AV→aA→Prop} (hf:fC zeros [(0,sz,x)]=some x.parts) (hxl:x.parts.length=sz) (hok:x.parts.all AV.cellOK=true)
  (hlen:(len+1) * bytes≤140737488355328) (hl2:len+1≤9223372036854775807)
  (hk:∀ v' h',Upd (bZ v) h h'→Arr sz h' v' (cs++x.parts) (len+1)→(∀ id,bZ v' id→bZ v id∨h.length≤id)→K v' h') :
  aN sz 1 zeros [(0,sz,x)] h fun y h'=>bN ty sz bytes v y h' K:=by
 refine eO hf (by omega) fun y h1 hl1 U1 R1 F1=>?_
 refine (A.upd U1 fun _ _ h=>h).append hz (ns:=x.parts) (k:=1) (fun K hK=>R1.news hK) (by omega) hok hlen hl2 fun v' h' U2 A2 F2=>hk v' h' ((U1.mono fun _ _ h=>h.elim).trans U2 fun _ _ h=>h) A2 fun id hi=>?_
 rcases F2 id hi with h | h
 ·exact .inl h
 ·exact .inr (by omega)
def Byt (h:aA) (v:AV) (l:List UInt8):Prop:=Rd 1 h v (l.map byteAV) l.length
theorem Byt.str {h:aA} {v:AV} {l:List UInt8} (B:Byt h v l) {K:List UInt8→Prop} (hk:K l):cE v h K:=by
 refine Rd.sl B ⟨xS l, ?_⟩
 rw [aC7]; exact hk
theorem iD {l:List UInt8} {lo:Nat} {K:List UInt8→Prop} (h:lo≤l.length) (hk:K (l.drop lo)):bW (.s l) (some (.i .i64 lo)) none K:=by
 refine ⟨by omega,by simpa using h,Nat.le_refl _, ?_⟩
 simpa using hk
theorem qC {l:List UInt8} {lo hi:Nat} {K:List UInt8→Prop} (h:lo≤hi) (h2:hi≤l.length) (hk:K ((l.take hi).drop lo)):bW (.s l) (some (.i .i64 lo)) (some (.i .i64 hi)) K:=by
 refine ⟨by omega,by omega,by simpa using h,by simpa using h2, ?_⟩
 simpa using hk
theorem j3 {l:List UInt8} {hi:Nat} {K:List UInt8→Prop} (h2:hi≤l.length) (hk:K (l.take hi)):bW (.s l) none (some (.i .i64 hi)) K:=by
 refine ⟨by omega,by simp,by simpa using h2, ?_⟩
 simpa using hk
end Go.GAM
namespace Go.GAM
open Go.RowKit
def tL (w : World) (szOf : Nat → Nat) : Value → AV
 | .bool x=>.b x
 | .int k n=>.i k n
 | .string s=>.s s.data.toList
 | .pointer none=>.p none
 | .pointer (some a) => match w.shape? a.block, a.spot with
  | some (_,n),none=>.p (some ⟨a.block,n,a.off⟩)
  | _,_=>.u
 | .slice none 0 0=>.sl none 0 none
 | .slice (some a) len cap => if cap = 0 then (if len = 0 then .sl (some ⟨w.heap.size, 0, 0⟩) 0 (some 0) else .u) else
  match w.shape? a.block,a.spot with
  | some (_,n),none=>if len≤cap∧a.off+cap * szOf a.block≤n then .sl (some ⟨a.block,n,a.off⟩) len (some cap) else .u
  | _,_=>.u
 | .nilFunc=>.nf
 | .nilIface=>.ni
 | .map none=>.mp none
 | _=>.u
def mG (w:World) (szOf:Nat→Nat):Value→AV
 | .agg cs=>.ag (cs.toList.map (tL w szOf))
 | .iface t v=>.ifc t (tL w szOf v)
 | v=>tL w szOf v
def qW (w:World) (szOf:Nat→Nat) (B:Nat):ABlk:=match w.heap[B]? with
 | some (.cells c _ _)=>⟨c.toList.map (mG w szOf),szOf B,c.size,false,true,true,none,none⟩
 | _=>lQ
def lC (w:World) (szOf:Nat→Nat):aA:=(List.range w.heap.size).map (qW w szOf)++[lQ]
def muC (w:World) (szOf:Nat→Nat):Mu:=fun id ver=>
 if id=w.heap.size then (if ver=0 then some ⟨0,0,0,1⟩ else none) else
 match w.shape? id with
 | some (_,n)=>if ver=n then some ⟨id,0,n,szOf id⟩ else none
 | none=>none
def aIF (w:World):Nat→Option Nat:=fun B=>if (w.shape? B).isSome then some B else none
section
variable {w:World} {szOf:Nat→Nat}
theorem wA {B:Nat} {t:TypeId} {n:Nat} (h:w.shape? B=some (t,n)):∃ c fr,w.heap[B]? = some (.cells c t fr)∧c.size=n:=by
 unfold World.shape? at h
 split at h
 ·rename_i c el fr hh
  simp only [Option.some.injEq,Prod.mk.injEq] at h
  obtain ⟨rfl,rfl⟩:=h
  exact ⟨c,fr,hh,rfl⟩
 ·cases h
theorem qH {B:Nat} {x:TypeId × Nat} (h:w.shape? B=some x):B<w.heap.size:=by
 obtain ⟨c,fr,hh,_⟩:=wA (t:=x.1) (n:=x.2) h
 exact (Array.getElem?_eq_some_iff.1 hh).1
theorem zM {B:Nat} {t:TypeId} {n:Nat} (h:w.shape? B=some (t,n)):muC w szOf B n=some ⟨B,0,n,szOf B⟩:=by
 have:=qH h
 unfold muC
 rw [if_neg (by omega),h]
 simp
theorem sR (v : Value) : bJ (muC w szOf) (tL w szOf v) v := by
  cases v <;> first | exact .u _ | exact .b _ | exact .i _ _ | exact .s _ _ rfl | exact .nf | exact .ni | skip
  case pointer a=>
    cases a with
    | none=>exact .pn
    | some a =>
      obtain ⟨B,off,spot⟩:=a
      simp only [tL]
      split
      · rename_i t n hs
        exact .p _ _ _ (zM hs) (by simp)
      · exact .u _
  case slice a len cap=>
    cases a with
    | none =>
      cases len with
      | succ l=>exact .u _
      | zero => cases cap with
        | succ c=>exact .u _
        | zero=>exact .sn
    | some a =>
      obtain ⟨B,off,spot⟩:=a
      simp only [tL]
      split
      · rename_i hc
        subst hc
        split
        · rename_i hl
          subst hl
          exact .sl _ _ _ 0 _ ⟨0,0,0,1⟩ (by unfold muC; simp) (Nat.le_refl _) (by simp) (by simp) (by simp) (by simp)
        · exact .u _
      · split
        · rename_i t n hs
          split
          · rename_i hl
            exact .sl _ _ _ cap _ _ (zM hs) hl.1 hl.2 (by simp) (by simp) (by simp)
          · exact .u _
        · exact .u _
  case map r=>cases r <;> first | exact .mpn | exact .u _
theorem uN:∀ vs:List Value,bQ (muC w szOf) (vs.map (tL w szOf)) vs
 | []=>.nil
 | v :: vs=>.cons _ _ _ _ (sR v) (uN vs)
theorem aA9 (v:Value):bJ (muC w szOf) (mG w szOf v) v:=by
 cases v <;> simp only [mG] <;> first | exact sR _ | exact .ag _ _ (uN _) | exact .ifc _ _ _ (sR _)
theorem yS:∀ vs:List Value,bQ (muC w szOf) (vs.map (mG w szOf)) vs
 | []=>.nil
 | v :: vs=>.cons _ _ _ _ (aA9 v) (yS vs)
theorem vS {B:Nat} (h:B<w.heap.size):(lC w szOf)[B]? = some (qW w szOf B):=by
 unfold lC
 rw [List.getElem?_append_left (by simpa using h)]
 simp [h]
theorem aGU:(lC w szOf).length=w.heap.size+1:=by simp [lC]
theorem aF9 (w : World) (szOf : Nat → Nat) : Rel w (fun B => B < w.heap.size) (muC w szOf) (aIF w) (lC w szOf) w where
 os:=rfl
 tape:=rfl
 output:=rfl
 size0:=Nat.le_refl _
 fz:=fun B hB=>⟨hB,rfl⟩
 ownlt:=fun B id h=>by
  unfold aIF at h
  split at h
  ·rename_i hs
   obtain ⟨x,hx⟩:=Option.isSome_iff_exists.1 hs
   exact qH hx
  ·cases h
 mulen := fun id ver l h => by
  unfold muC at h
  split at h
  ·rename_i he
   subst he
   exact ⟨lQ,by simp [lC],by simp [lQ]⟩
  ·split at h
   ·rename_i t n hs
    obtain ⟨c,fr,hh,hc⟩:=wA hs
    refine ⟨qW w szOf id,vS (qH hs),fun _=>?_⟩
    split at h
    ·rename_i hv
     unfold qW
     rw [hh]
     simp [hv,hc]
    ·cases h
   ·cases h
 blk := fun id b hb hl => by
  rcases Nat.lt_or_ge id w.heap.size with hi | hi
  ·rw [vS hi] at hb
   cases hb
   unfold qW at hl ⊢
   split at hl
   ·rename_i c el fr hh
    have hs:w.shape? id=some (el,c.size):=by unfold World.shape?; rw [hh]
    refine ⟨⟨id,0,c.size,szOf id⟩, ?_⟩
    have hlen:(c.toList.map (mG w szOf)).length=c.size:=by simp
    refine { cur:=by simp only [hlen]; exact zM hs,owned:=by simp [aIF,hs],sz:=rfl,len:=by simp,ex:=by simp,ro:=by simp,gl:=by simp,nomap:=rfl,tyok:=fun t ht=>(by cases ht),row:=⟨c,el,fr,hh,by simp⟩,free:=by simp,vers:=fun ver h1 h2 l' hl'=>?_ }
    have hv:ver=c.size:=by simp only [hlen] at h2; simp only at h1; omega
    subst hv
    rw [zM hs] at hl'
    cases hl'
    refine { own:=by simp [aIF,hs],sz:=rfl,le:=Nat.le_refl _,base:=fun _=>rfl,cells:=fun j hj=>?_ }
    refine ⟨c[j],by simp [World.cell?,hh,hj], ?_⟩
    have e:(c.toList.map (mG w szOf)).getD j .u=mG w szOf c[j]:=by simp [List.getD,hj]
    simp only [e]
    exact aA9 _
   ·exact absurd hl (by simp [lQ])
  ·exfalso
   rcases Nat.lt_or_ge id (w.heap.size+1) with h2 | h2
   ·have : id = w.heap.size := by omega
    subst this
    simp [lC] at hb
    subst hb
    simp [lQ] at hl
   ·rw [List.getElem?_eq_none (by rw [aGU]; omega)] at hb; cases hb
 maps:=fun id b es hb he=>by
  exfalso
  have hm:b∈lC w szOf:=List.mem_of_getElem? hb
  unfold lC at hm
  rcases List.mem_append.1 hm with h1 | h1
  ·obtain ⟨B, _, rfl⟩ := List.mem_map.1 h1
   unfold qW at he
   split at he <;> cases he
  ·simp at h1; subst h1; cases he
end
def Yes:AV→aA→Prop:=fun v _=>v = .b true
theorem aA6 {h0 h:aA}:aI h0 Yes (.b true) h:=.inl rfl
end Go.GAM
namespace Go.GAM
open Go.RowKit Go.ChangeShapes
section
variable {H:Type} {enc:TypeId × Value→H} {P:Program} {w:World} {szOf:Nat→Nat}
theorem wJ {a : Addr} {sz : Nat} : ∀ (rows : List (List Value)) (k : Nat), (∀ i r, rows[i]? = some r → r.length = sz ∧ ∀ j, j < sz → w.cell? (a.add ((k + i) * sz + j)) = some (r.getD j undef)) →
  ∀ i,i<rows.flatten.length→w.cell? (a.add (k * sz+i))=some (rows.flatten.getD i undef)
 | [],k,h,i,hi=>by simp at hi
 | r :: rows, k, h, i, hi => by
  obtain ⟨h1,h2⟩:=h 0 r rfl
  rw [List.flatten_cons]
  by_cases hlt:i<sz
  ·have := h2 i hlt
   rw [Nat.add_zero] at this
   rw [this,List.getD_eq_getElem?_getD,List.getD_eq_getElem?_getD,List.getElem?_append_left (by omega)]
  ·have := wJ (a := a) (sz := sz) rows (k + 1) (fun j r hj => by
    have:=h (j+1) r (by simpa using hj)
    rw [show k+1+j=k+(j+1) by omega]; exact this) (i - sz) (by simp at hi ⊢; omega)
   rw [show (k+1) * sz+(i - sz)=k * sz+i by rw [Nat.add_mul]; omega] at this
   rw [this,List.getD_eq_getElem?_getD,List.getD_eq_getElem?_getD,List.getElem?_append_right (by omega),h1]
def kW (sz:Nat) (h:aA) (v:AV) (cs:List AV) (len:Nat):Prop:=Rd sz h v cs len∨(len=0∧cs=[]∧∃ a c,v = .sl (some a) 0 c)
theorem kW.len {sz:Nat} {h:aA} {v:AV} {cs:List AV} {len:Nat} (R:kW sz h v cs len) {K:Int→Prop} (hk:K len):bP v K:=by
 rcases R with R | ⟨rfl,_,a,c,rfl⟩
 ·exact R.len hk
 ·exact hk
theorem vH {sz:Nat}:∀ rows:List (List Value),(∀ r∈rows,r.length=sz)→rows.flatten.length=rows.length * sz
 | [],_=>by simp
 | r :: rows, h => by
  rw [List.flatten_cons,List.length_append,vH rows fun r hr=>h r (by simp [hr]),h r (by simp),List.length_cons,Nat.add_mul]; omega
theorem rR {sz:Nat}:∀ (rows:List (List Value)) (n:Nat),(∀ r∈rows,r.length=sz)→rows.flatten.take (n * sz)=(rows.take n).flatten
 | [],n,_=>by simp
 | r :: rows,0,_=>by simp
 | r :: rows, n + 1, h => by
  have h1:=h r (by simp)
  rw [List.take_succ_cons,List.flatten_cons,List.flatten_cons, ← rR rows n fun r hr=>h r (by simp [hr]),List.take_append,h1]
  rw [List.take_of_length_le (by rw [h1,Nat.add_mul]; omega),show (n+1) * sz - sz=n * sz by rw [Nat.add_mul]; omega]
end
end Go.GAM
namespace Go.GAM
variable {ty:Option TypeId}
open Go.RowKit
theorem Upd.ext {h h':aA} (U:Upd (fun _=>False) h h'):Ext h h':=⟨U.1,fun i hi=>U.2 i hi fun h=>h⟩
structure fY (sz:Nat) (h0 h:aA) (v:AV) (cs:List AV) (len:Nat):Prop where
 upd:Upd (fun _=>False) h0 h
 arr:Arr sz h v cs len
 new:∀ i,bZ v i→h0.length≤i
theorem fY.start (sz:Nat) (h:aA):fY sz h h (.sl none 0 none) [] 0:=⟨Upd.refl _ _,Arr.nil _ _,fun _ h=>h.elim⟩
theorem fY.append {sz bytes:Nat} {h0 h:aA} {v x:AV} {cs ns:List AV} {len k:Nat} (A:fY sz h0 h v cs len) (hz:0<sz) {K:AV→aA→Prop}
  (hx:∀ K:List AV→Nat→Prop,K ns k→kY sz x h K) (hns:ns.length=k * sz) (hok:ns.all AV.cellOK=true) (hlen:(len+k) * bytes≤140737488355328) (hl2:len+k≤9223372036854775807)
  (hk:∀ v' h',fY sz h0 h' v' (cs++ns) (len+k)→Upd (bZ v) h h'→K v' h'):bN ty sz bytes v x h K:=
 A.arr.append hz hx hns hok hlen hl2 fun v' h' U A' F=>hk v' h' ⟨A.upd.trans U fun i hi hs=>absurd (A.new i hs) (by omega),A',fun i hi=>by
  rcases F i hi with h | h
  ·exact A.new i h
  ·exact Nat.le_trans A.upd.1 h⟩ U
theorem fY.build {sz bytes n:Nat} {h0 h:aA} {v:AV} {cs ns zeros:List AV} {parts:List (Nat × Nat × AV)} {len:Nat} (A:fY sz h0 h v cs len) (hz:0<sz) {K:AV→aA→Prop}
  (hf:fC zeros parts=some ns) (hns:ns.length=n * sz) (hok:ns.all AV.cellOK=true) (hlen:(len+n) * bytes≤140737488355328) (hl2:len+n≤9223372036854775807)
  (hk:∀ v' h',fY sz h0 h' v' (cs++ns) (len+n)→K v' h'):aN sz n zeros parts h fun y h'=>bN ty sz bytes v y h' K:=by
 refine eO hf hns fun y h1 hl1 U1 R1 F1=>?_
 have A1:fY sz h0 h1 v cs len:=⟨A.upd.trans U1 fun _ _ h=>h,A.arr.upd U1 fun _ _ h=>h,A.new⟩
 exact A1.append hz (fun K hK=>R1.news hK) hns hok hlen hl2 fun v' h' A' _=>hk v' h' A'
def Tx (h0 h:aA) (v:AV) (l:List UInt8):Prop:=fY 1 h0 h v (l.map byteAV) l.length
theorem Tx.start (h:aA):Tx h h (.sl none 0 none) []:=fY.start 1 h
theorem Tx.push {h0 h:aA} {v:AV} {l:List UInt8} (A:Tx h0 h v l) {c:UInt8} {K:AV→aA→Prop} (hlen:l.length<140737488355328) (hk:∀ v' h',Tx h0 h' v' (l++[c])→K v' h') :
  aN 1 1 [.i .u8 0] [(0,1,.i .u8 (c.toNat:Int))] h fun y h'=>bN ty 1 1 v y h' K:=by
 refine fY.build A (by decide) (ns:=[byteAV c]) rfl rfl rfl (by omega) (by omega) fun v' h' A'=>hk v' h' ?_
 unfold Tx
 rw [List.map_append,List.length_append]; exact A'
theorem Tx.push2 {h0 h:aA} {v:AV} {l:List UInt8} (A:Tx h0 h v l) {c d:UInt8} {K:AV→aA→Prop} (hlen:l.length<1000000000) (hk:∀ v' h',Tx h0 h' v' (l++[c,d])→K v' h') :
  aN 1 2 [.i .u8 0,.i .u8 0] [(0,1,.i .u8 (c.toNat:Int)),(1,1,.i .u8 (d.toNat:Int))] h fun y h'=>bN ty 1 1 v y h' K:=by
 refine fY.build A (by decide) (ns:=[byteAV c,byteAV d]) rfl rfl rfl (by omega) (by omega) fun v' h' A'=>hk v' h' ?_
 unfold Tx
 rw [List.map_append,List.length_append]; exact A'
theorem Tx.push3 {h0 h:aA} {v:AV} {l:List UInt8} (A:Tx h0 h v l) {c d e:UInt8} {K:AV→aA→Prop} (hlen:l.length<1000000000) (hk:∀ v' h',Tx h0 h' v' (l++[c,d,e])→K v' h') :
  aN 1 3 [.i .u8 0,.i .u8 0,.i .u8 0] [(0,1,.i .u8 (c.toNat:Int)),(1,1,.i .u8 (d.toNat:Int)),(2,1,.i .u8 (e.toNat:Int))] h fun y h'=>bN ty 1 1 v y h' K:=by
 refine fY.build A (by decide) (ns:=[byteAV c,byteAV d,byteAV e]) rfl rfl rfl (by omega) (by omega) fun v' h' A'=>hk v' h' ?_
 unfold Tx
 rw [List.map_append,List.length_append]; exact A'
theorem Tx.ret {h0 h:aA} {v:AV} {l:List UInt8} (A:Tx h0 h v l) {Q:AV→aA→Prop} (hq:Q (.s l) h0):cE v h fun x=>aI h0 Q (.s x) h:=
 Byt.str (l:=l) A.arr.rd (aV rfl A.upd.ext hq)
theorem Tx.str {h0 h:aA} {v:AV} {l:List UInt8} (A:Tx h0 h v l) {K:List UInt8→Prop} (hq:K l):cE v h K:=Byt.str (l:=l) A.arr.rd hq
theorem cW {l r:List UInt8} {i:Nat} {c:UInt8} {K:Int→Prop} (h:l.drop i=c :: r) (hk:K (c.toNat:Int)):bT (.s l) (.i .i64 (i:Int)) K:=by
 refine wF ?_ hk
 have:(l.drop i)[0]? = some c:=by rw [h] <;> rfl
 simpa using this
theorem cG {α:Type} {l r:List α} {i:Nat} {c:α} (h:l.drop i=c :: r):i<l.length:=by
 rcases Nat.lt_or_ge i l.length with h1 | h1
 ·exact h1
 ·rw [List.drop_eq_nil_of_le h1] at h; cases h
theorem bU {α:Type} {l r:List α} {i:Nat} {c:α} (h:l.drop i=c :: r):l.drop (i+1)=r:=by
 have:(l.drop i).drop 1=r:=by rw [h] <;> rfl
 rwa [List.drop_drop] at this
theorem cA {α:Type} {l:List α} {i:Nat} (h:l.drop i=[]):l.length≤i:=by
 have:=congrArg List.length h
 simp at this; omega
def Stk (h:aA) (v:AV) (l:List AV):Prop:=
 (v = .sl none 0 none∧l=[])∨∃ id b,v = .sl (some ⟨id,b.cells.length,0⟩) l.length none∧h[id]? = some b∧b.sz=1∧l.length≤b.cells.length∧b.cells.take l.length=l∧b.floor≤b.cells.length∧b.ro=false∧b.gl=false
theorem Stk.rd {h:aA} {v:AV} {l:List AV} (S:Stk h v l):Rd 1 h v l l.length:=by
 rcases S with ⟨rfl,rfl⟩ | ⟨id,b,rfl,h1,h2,h3,h4,h5,h6,h7⟩
 ·exact .inl ⟨rfl,rfl,rfl⟩
 ·exact .inr ⟨id,_,0,none,b,rfl,h1,h2,h5,Nat.le_refl _,by omega,by rw [List.drop_zero,Nat.mul_one]; exact h4⟩
theorem Stk.upd {M:Nat→Prop} {h h':aA} {v:AV} {l:List AV} (S:Stk h v l) (U:Upd M h h') (hM:∀ i,bZ v i→¬ M i):Stk h' v l:=by
 rcases S with h1 | ⟨id,b,rfl,h1,h2⟩
 ·exact .inl h1
 ·exact .inr ⟨id,b,rfl,(U.2 id (bM h1) (hM id rfl)).trans h1,h2⟩
theorem Stk.cut {h:aA} {v:AV} {l:List AV} (S:Stk h v l) {n:Nat} (hn:n≤l.length) {K:AV→Prop} (hk:∀ v',Stk h v' (l.take n)→(∀ i,bZ v' i→bZ v i)→K v'):cX 1 v none (some (.i .i64 n)) none h K:=by
 rcases S with ⟨rfl,rfl⟩ | ⟨id,b,rfl,h1,h2,h3,h4,h5,h6,h7⟩
 ·have : n = 0 := by simpa using hn
  subst this
  exact ⟨by simp,rfl,rfl,rfl,fun h=>by simp at h,hk _ (.inl ⟨rfl,by simp⟩) fun _ h=>h⟩
 ·refine ⟨Nat.one_pos, fun h => by simp at h, by omega, by simp, b, h1, h5, h5, .inl h2, .inl (by simpa using hn), ?_⟩
  refine hk _ (.inr ⟨id,b,by simp; omega,h1,h2,by simp; omega, ?_,h5,h6,h7⟩) fun _ h=>h
  rw [List.length_take,Nat.min_eq_left hn, ← h4,List.take_take,Nat.min_eq_left hn]
theorem Stk.push {bytes : Nat} {h : aA} {v x : AV} {l zeros : List AV} (S : Stk h v l) (hf : fC zeros [(0, 1, x)] = some [x]) (hx : x.cellOK = true) (hlen : (l.length + 1) * bytes ≤ 140737488355328) (hl2 : l.length + 1 ≤ 9223372036854775807) {K : AV → aA → Prop}
  (hk:∀ v' h',Upd (bZ v) h h'→Stk h' v' (l++[x])→(∀ i,bZ v' i→bZ v i∨h.length≤i)→K v' h'):aN 1 1 zeros [(0,1,x)] h fun y h'=>bN ty 1 bytes v y h' K:=by
 refine eO hf rfl fun y h1 hl1 U1 R1 F1=>⟨Nat.one_pos,R1.news ?_⟩
 have S1:=S.upd U1 fun _ _ h=>h
 rcases S1 with ⟨rfl,rfl⟩ | ⟨id,b,rfl,g1,g2,g3,g4,g5,g6,g7⟩
 ·refine ⟨by simpa using hlen, by omega, ?_⟩
  rw [if_neg (by decide)]
  exact hk _ _ ((U1.mono fun _ _ h=>h.elim).trans (Upd.app _ _) fun _ _ h=>h.elim) (.inr ⟨h1.length,bR [x] 1 false ty,by simp [bR],by simp,rfl,by simp [bR],by simp [bR],by simp [bR],rfl,rfl⟩) fun i hi=>.inr (by have e:h1.length=i:=hi; omega)
 ·have hid := bM g1
  have hidh:id<h.length:=Rd.lt S.rd (id:=id) rfl
  refine ⟨hlen,by omega,b,g1,g2,⟨g5,Nat.le_refl _,by simp only; omega⟩, ?_⟩
  by_cases hfull:l.length=b.cells.length
  ·cases hex : b.ex with
   | true =>
    refine .inr (.inl ⟨Nat.one_pos,.inr ⟨rfl,rfl,rfl,by simp only; omega⟩, ?_⟩)
    refine hk _ _ ((U1.mono fun _ _ h=>h.elim).trans (Upd.app _ _) fun _ _ h=>h.elim) (.inr ⟨h1.length,bR (l++[x]) 1 false ty, ?_, ?_,rfl,by simp [bR],by simp only [bR,List.length_append]; exact List.take_of_length_le (by simp),by simp [bR],rfl,rfl⟩) fun i hi=>.inr (by have e:h1.length=i:=hi; omega)
    ·simp [bR,g4,g3]
    ·simp [g4]
   | false =>
    refine .inr (.inr (.inr (.inl ⟨Nat.one_pos,g6,rfl,rfl,by omega,rfl,rfl,g7,by simp [hx], ?_⟩)))
    have hcl:b.cells=l:=by rw [hfull,List.take_length] at g4; exact g4
    refine hk _ _ ((U1.mono fun _ _ h=>h.elim).trans (Upd.set _ _ _) fun i _ h=>h.symm) (.inr ⟨id,{ b with cells:=b.cells++[x],ty:=jU b.ty ty }, ?_,by simp [hid,hex],g2,by simp; omega, ?_,by simp; omega,g6,g7⟩) fun i hi=>.inl hi
    ·simp
    ·simp only [hcl]
     rw [List.take_of_length_le (by simp)]
  ·refine .inr (.inr (.inl ⟨Nat.one_pos, g6, rfl, by simp only; omega, .inl rfl, by simp [hx], ?_⟩))
   refine hk _ _ ((U1.mono fun _ _ h=>h.elim).trans (Upd.set _ _ _) fun i _ h=>h.symm) (.inr ⟨id,{ b with cells:=wr b.cells (0+l.length * 1) [x],floor:=b.cells.length }, ?_,show (h1.set id _)[id]? = some _ from List.getElem?_set_self hid,g2, ?_, ?_, ?_,g6,g7⟩) fun i hi=>.inl hi
   ·simp [wr]
   ·simp [wr]; omega
   ·simp only [wr, Nat.zero_add, Nat.mul_one, List.length_append, List.length_cons, List.length_nil]
    apply List.ext_getElem?
    intro i
    by_cases h1:i<l.length
    ·rw [List.getElem?_take_of_lt (by omega), List.getElem?_set_ne (by omega), List.getElem?_append_left h1]
     conv=>rhs; rw [← g4]
     rw [List.getElem?_take_of_lt h1]
    ·by_cases h2 : i = l.length
     ·subst h2
      rw [List.getElem?_take_of_lt (by omega),List.getElem?_set_self (by omega),List.getElem?_append_right (by omega)]
      simp
     ·rw [List.getElem?_eq_none (by simp; omega),List.getElem?_eq_none (by simp; omega)]
   ·simp [wr]
theorem Rd.cell {sz:Nat} {h:aA} {v:AV} {cs:List AV} {len:Nat} (R:Rd sz h v cs len) {k:IntKind} {i:Nat} {c:AV} (hz:0<sz) (hi:i<len) (hc:cs[i * sz]? = some c) {K:AV→Prop} (hk:K c) :
  aE sz v (.i k (i:Int)) h fun a=>aC a h K:=by
 rcases R with ⟨rfl,rfl,rfl⟩ | ⟨id,ver,off,cap,b,rfl,h2,h3,h4,h5,h6,h7⟩
 ·omega
 ·have A : mY sz h id ver off b cs len := ⟨h2, h3, h4, h5, h6, h7⟩
  exact dE A hi (aF6 (o:=0) A hi hz (by simpa using hc) hk)
theorem Tx.load {h0 h:aA} {v:AV} {l:List UInt8} (A:Tx h0 h v l) {k:IntKind} {i:Nat} {c:UInt8} (hc:l[i]? = some c) {K:AV→Prop} (hk:K (.i .u8 (c.toNat:Int))):aE 1 v (.i k (i:Int)) h fun a=>aC a h K:=
 Rd.cell A.arr.rd Nat.one_pos (bM hc) (by rw [Nat.mul_one,List.getElem?_map,hc] <;> rfl) hk
theorem Arr.store {h:aA} {v x:AV} {cs:List AV} {len:Nat} (A:Arr 1 h v cs len) {k:IntKind} {i:Nat} (hi:i<len) (hx:x.parts=[x]) (hs:x.sizeOK=true) (hc:x.cellOK=true) {K:aA→Prop}
  (hk:∀ h',Upd (bZ v) h h'→Arr 1 h' v (cs.set i x) len→K h'):aE 1 v (.i k (i:Int)) h fun p=>aS 1 p x h K:=by
 rcases A with ⟨rfl,rfl,rfl⟩ | ⟨id,b,rfl,h2,rfl,h4,h5,h6,h7,h8⟩
 ·omega
 ·have hid := bM h2
  refine ⟨by omega,by omega,⟨b,h2,h6,h6⟩, ?_⟩
  refine ⟨b,h2,h7,h6,rfl,by simp only [Int.toNat_natCast]; omega,hs,by rw [hx] <;> rfl,by rw [hx]; simp [hc], ?_⟩
  refine hk _ ((Upd.set _ _ _).mono fun i _ h=>h.symm) (.inr ⟨id,{ b with cells:=wr b.cells (0+i * 1) x.parts,floor:=b.cells.length }, ?_, ?_, ?_, ?_,h5, ?_,h7,h8⟩)
  ·simp
  ·simp only [Int.toNat_natCast]; exact List.getElem?_set_self hid
  ·rw [hx]; simp [wr]
  ·simpa using h4
  ·simp
theorem Tx.store {h0 h:aA} {v:AV} {l:List UInt8} (A:Tx h0 h v l) {k:IntKind} {i:Nat} {c:UInt8} (hi:i<l.length) {K:aA→Prop} (hk:∀ h',Tx h0 h' v (l.set i c)→K h') :
  aE 1 v (.i k (i:Int)) h fun p=>aS 1 p (.i .u8 (c.toNat:Int)) h K:=by
 refine A.arr.store hi rfl rfl rfl fun h' U A'=>hk h' ⟨A.upd.trans U fun j hj hs=>absurd (A.new j hs) (by omega), ?_,A.new⟩
 have e:(l.map byteAV).set i (.i .u8 (c.toNat:Int))=(l.set i c).map byteAV:=by rw [List.map_set] <;> rfl
 rw [e] at A'
 rw [List.length_set]; exact A'
theorem Tx.ofStr {l:List UInt8} {h:aA} {K:AV→aA→Prop} (hk:∀ v h',Tx h h' v l→K v h'):fJ (.s l) h K:=
 hk _ _ ⟨Upd.app _ _,.inr ⟨h.length,bR (l.map byteAV) 1 false,by simp,by simp,rfl,by simp,rfl,Nat.le_refl _,rfl,rfl⟩,fun i hi=>by cases hi; exact Nat.le_refl _⟩
theorem nW {x:Nat} (h:x<2 ^ 64):(BitVec.ofInt 64 (x:Int)).toNat=x:=by
 simp [BitVec.toNat_ofInt]; omega
theorem qT {x y:Nat} (hx:x<2 ^ 62) (hy:y<2 ^ 62):cI .or .i64 x y=((x ||| y:Nat):Int):=by
 have h:x ||| y<2 ^ 62:=Nat.or_lt_two_pow hx hy
 show IntKind.wrap .i64 (((BitVec.ofInt 64 (x:Int)) ||| (BitVec.ofInt 64 (y:Int))).toNat:Int)=_
 rw [BitVec.toNat_or,nW (by omega),nW (by omega),aL (by omega) (by omega)]
theorem aIY {x y:Nat} (hx:x<2 ^ 62) (hy:y<2 ^ 62):cI .and .i64 x y=((x &&& y:Nat):Int):=by
 have h:x &&& y<2 ^ 62:=Nat.and_lt_two_pow _ hy
 show IntKind.wrap .i64 (((BitVec.ofInt 64 (x:Int)) &&& (BitVec.ofInt 64 (y:Int))).toNat:Int)=_
 rw [BitVec.toNat_and,nW (by omega),nW (by omega),aL (by omega) (by omega)]
theorem yD {x:Nat} (h:x<256):(BitVec.ofInt 8 (x:Int)).toNat=x:=by
 simp [BitVec.toNat_ofInt]; omega
theorem aGT {x y:Nat} (hx:x<256) (hy:y<256):cI .and .u8 x y=((x &&& y:Nat):Int):=by
 have h:x &&& y<2 ^ 8:=Nat.and_lt_two_pow _ hy
 show IntKind.wrap .u8 (((BitVec.ofInt 8 (x:Int)) &&& (BitVec.ofInt 8 (y:Int))).toNat:Int)=_
 rw [BitVec.toNat_and,yD (by omega),yD (by omega),gO (by omega) (by omega)]
theorem aH3 {a b:Nat} {K:Int→Prop} (hb:b≤64) (h:a * 2 ^ b<2 ^ 62) (hk:K ((a * 2 ^ b:Nat):Int)):xA .i64 a b K:=by
 refine ⟨by omega, ?_⟩
 have e:(a:Int) * 2 ^ (min (b:Int).toNat IntKind.i64.bits)=((a * 2 ^ b:Nat):Int):=by
  rw [Int.toNat_natCast,show IntKind.i64.bits=64 from rfl,Nat.min_eq_left hb]; simp
 rw [e,aL (by omega) (by omega)]; exact hk
theorem mN {a b:Nat} {k:IntKind} {K:Int→Prop} (hb:b≤k.bits) (hk:K ((a / 2 ^ b:Nat):Int)):pL k a b K:=by
 refine ⟨by omega, ?_⟩
 have e:(a:Int).fdiv (2 ^ (min (b:Int).toNat k.bits))=((a / 2 ^ b:Nat):Int):=by
  rw [Int.toNat_natCast,Nat.min_eq_left hb]
  have h2:((2:Int) ^ b)=((2 ^ b:Nat):Int):=by simp
  rw [h2,Int.fdiv_eq_ediv_of_nonneg _ (Int.natCast_nonneg (2 ^ b))] <;> rfl
 rw [e]; exact hk
theorem zI {P:Program} {f:FuncId} {cargs:List Value} {w w0:World} {Fz:Nat→Prop} {μ:Mu} {own:Nat→Option Nat} {h:aA} {K:AV→aA→Prop} {av:AV} {v:Value} (hb:kS P f=true) (R:Rel w0 Fz μ own h w)
  (hc:Calls P f cargs.toArray w fun e w'=>e = .returned v∧Below w.heap.size w w') (hv:bJ μ av v) (hk:K av h):aD9 P f cargs w (jY w0 Fz μ K):=by
 refine .inl ⟨f,cargs.toArray,pS hb _ _,hc.mono fun e w' ⟨he,hb⟩=>⟨v,he,av,μ,own,h,hk,hv, ?_,Sub.refl _⟩⟩
 exact R.same (fun B hB=>hb.block B hB) hb.size hb.os hb.tape hb.output
end Go.GAM
namespace Go.GAM
open Go.RowKit
section
variable {H:Type} {enc:TypeId × Value→H} {P:Program} {w:World} {szOf:Nat→Nat}
end
theorem kW.rd {sz:Nat} {h:aA} {v:AV} {cs:List AV} {len:Nat} (S:kW sz h v cs len) (hl:len≠0):Rd sz h v cs len:=by
 rcases S with R | ⟨h1,_⟩
 ·exact R
 ·exact absurd h1 hl
theorem Rd.str {h:aA} {v:AV} {l:List (List UInt8)} {len:Nat} (R:Rd 1 h v (l.map .s) len) {k:IntKind} {i:Nat} {x:List UInt8} (hx:l[i]? = some x) {K:List UInt8→Prop} (hk:K x) :
  aE 1 v (.i k (i:Int)) h fun a=>aC a h fun y=>asS y K:=by
 have hl:=R.length
 rw [List.length_map,Nat.mul_one] at hl
 exact R.cell Nat.one_pos (by have:=bM hx; omega) (c:=.s x) (by rw [Nat.mul_one,List.getElem?_map,hx] <;> rfl) (aZ hk)
theorem Rd.byte {h:aA} {v:AV} {l:List UInt8} {len:Nat} (R:Rd 1 h v (l.map byteAV) len) {k:IntKind} {i:Nat} {x:UInt8} (hx:l[i]? = some x) {K:Int→Prop} (hk:K (x.toNat:Int)) :
  aE 1 v (.i k (i:Int)) h fun a=>aC a h fun y=>asI .u8 y K:=by
 have hl:=R.length
 rw [List.length_map,Nat.mul_one] at hl
 exact R.cell Nat.one_pos (by have:=bM hx; omega) (c:=byteAV x) (by rw [Nat.mul_one,List.getElem?_map,hx] <;> rfl) (aU hk)
end Go.GAM
namespace Go.GAM
open Go.RowKit Go.ChangeShapes
section
variable {H:Type} {enc:TypeId × Value→H} {P:Program} {w:World} {szOf:Nat→Nat}
theorem dV {n:String} {d:DataW Unit} {l:List (String × DataW Unit)} (hm:(n,d)∈l) (hL:laidMet P l w) :
  ∃ g t cs fuel p,P.globalNamed n=some g∧(P.globals[g]?).map (·.type)=some t∧w.var? P n=some cs∧DataW.trod (fun _=>()) P w 0 (fun _=>true) false fuel t cs.toList=some (d,p):=by
 obtain ⟨ps,h,hx⟩:=hL
 clear hx
 induction l generalizing ps with
 | nil=>cases hm
 | cons x l ih =>
  obtain ⟨n',d'⟩:=x
  obtain ⟨g,t,cs,fuel,p,q,h1,h2,h3,h4,h5,h6⟩:=h
  rcases List.mem_cons.1 hm with h | h
  ·cases h; exact ⟨g,t,cs,fuel,p,h1,h2,h3,h4⟩
  ·exact ih h _ h5
theorem aHU {n:String} {g:Nat} {cs:Array Value} (hg:P.globalNamed n=some g) (hv:w.var? P n=some cs):∃ t fr,w.heap[g]? = some (.cells cs t fr):=by
 unfold World.var? at hv
 rw [hg] at hv
 simp only [Option.bind_some] at hv
 split at hv
 ·rename_i c t fr h
  cases hv
  exact ⟨t,fr,h⟩
 ·cases hv
end
end Go.GAM
namespace Go.GAM
variable {ty:Option TypeId}
open Go.RowKit
theorem inc {i:Nat} {K:Int→Prop} (h:i<9223372036854775807) (hk:K ((i+1:Nat):Int)):aQ (IntKind.wrap .i64 ((i:Int)+1)) K:=
 aJ (n:=((i+1:Nat):Int)) (by rw [aL (by omega) (by omega)]; omega) hk
theorem aNZ {i:Nat} {K:Int→Prop} (h:i≤1000000000) (hk:K ((i+2:Nat):Int)):aQ (IntKind.wrap .i64 ((i:Int)+2)) K:=
 aJ (n:=((i+2:Nat):Int)) (by rw [aL (by omega) (by omega)]; omega) hk
theorem iA (c d:UInt8):decide ((c.toNat:Int)=(d.toNat:Int))=decide (c=d):=by
 rw [decide_eq_decide]
 constructor
 ·intro h; exact UInt8.toNat_inj.1 (by omega)
 ·rintro rfl; rfl
theorem cR {α:Type} {l:List α} {i:Nat} {c:α} (hc:l[i]? = some c):l.take (i+1)=l.take i++[c]:=by
 rw [List.take_add_one,hc] <;> rfl
theorem b5 {α:Type} {l r:List α} {i:Nat} {c:α} (h:l.drop i=c :: r):l[i]? = some c:=by
 have:(l.drop i)[0]? = some c:=by rw [h] <;> rfl
 simpa using this
theorem fB {α:Type} {l:List α} {i:Nat} {c:α} (h:l[i]? = some c):l.drop i=c :: l.drop (i+1):=by
 have hi:=bM h
 rw [List.drop_eq_getElem_cons hi]
 rw [List.getElem?_eq_getElem hi] at h
 simp only [Option.some.injEq] at h
 rw [h]
theorem fW {R:bX} {f:Nat} {first cap vs:List AV} {h:aA} {K:AV→aA→Prop} (hf:Nat.blt f yid0=true) (hk:R f (first++vs++cap) h K):eF R (.fn (.func f) first cap) vs h K:=by
 unfold eF
 simp only
 unfold nL
 exact aM hf hk
structure eT (h0 h:aA) (v:AV) (l:List AV):Prop where
 upd:Upd (fun _=>False) h0 h
 stk:Stk h v l
 new:∀ i,bZ v i→h0.length≤i
theorem eT.start (h:aA):eT h h (.sl none 0 none) []:=⟨Upd.refl _ _,.inl ⟨rfl,rfl⟩,fun _ h=>h.elim⟩
theorem eT.push {bytes:Nat} {h0 h:aA} {v x:AV} {l zeros:List AV} (S:eT h0 h v l) (hf:fC zeros [(0,1,x)]=some [x]) (hx:x.cellOK=true) (hlen:(l.length+1) * bytes≤140737488355328) (hl2:l.length+1≤9223372036854775807) {K:AV→aA→Prop}
  (hk:∀ v' h',eT h0 h' v' (l++[x])→Upd (bZ v) h h'→(∀ i,bZ v' i→bZ v i∨h.length≤i)→K v' h'):aN 1 1 zeros [(0,1,x)] h fun y h'=>bN ty 1 bytes v y h' K:=
 S.stk.push hf hx hlen hl2 fun v' h' U S' F=>hk v' h' ⟨S.upd.trans U fun i hi hs=>absurd (S.new i hs) (by omega),S',fun i hi=>by
  rcases F i hi with h | h
  ·exact S.new i h
  ·exact Nat.le_trans S.upd.1 h⟩ U F
theorem eT.cut {h0 h:aA} {v:AV} {l:List AV} (S:eT h0 h v l) {n:Nat} (hn:n≤l.length) {K:AV→Prop} (hk:∀ v',eT h0 h v' (l.take n)→(∀ i,bZ v' i→bZ v i)→K v'):cX 1 v none (some (.i .i64 n)) none h K:=
 S.stk.cut hn fun v' S' F=>hk v' ⟨S.upd,S',fun i hi=>S.new i (F i hi)⟩ F
theorem Arr.stk {h:aA} {v:AV} {l:List AV} {n:Nat} (A:Arr 1 h v l n):n=l.length∧Stk h v l:=by
 rcases A with ⟨rfl,rfl,rfl⟩ | ⟨id,b,rfl,h2,rfl,h4,h5,h6,h7,h8⟩
 ·exact ⟨rfl,.inl ⟨rfl,rfl⟩⟩
 ·have : n = b.cells.length := by omega
  subst this
  exact ⟨rfl,.inr ⟨id,b,rfl,h2,h5,Nat.le_refl _,by simp,h6,h7,h8⟩⟩
theorem aCA (z:AV):∀ n,(List.replicate n [z]).flatten=List.replicate n z
 | 0=>rfl
 | n+1=>by rw [List.replicate_succ,List.flatten_cons,aCA z n,List.replicate_succ] <;> rfl
theorem aFM {bytes n:Nat} {z:AV} {h:aA} {k:IntKind} (hb:bytes * n≤281474976710656) (hn:n≤9223372036854775807) {K:AV→aA→Prop}
  (hk:∀ v h',fY 1 h h' v (List.replicate n z) n→K v h'):wN 1 bytes [z] (.i k (n:Int)) (.i k (n:Int)) h K:=by
 refine ⟨by omega,by omega,Int.natCast_mul bytes n ▸ (by omega:((bytes * n:Nat):Int)≤(281474976710656:Int)),by omega,rfl,Nat.one_pos, ?_⟩
 refine hk _ _ ⟨Upd.app _ _,.inr ⟨h.length,bR (List.replicate n z) 1 true, ?_, ?_,rfl,by simp,rfl,Nat.le_refl _,rfl,rfl⟩,fun i hi=>by cases hi; exact Nat.le_refl _⟩
 ·rw [Int.toNat_natCast,Nat.mul_one,List.length_replicate]
 ·rw [Int.toNat_natCast,aCA,List.getElem?_append_right (Nat.le_refl _),Nat.sub_self] <;> rfl
theorem Tx.one {h0 h:aA} (U:Upd (fun _=>False) h0 h) {c:UInt8} {K:AV→aA→Prop} (hk:∀ v h',Tx h0 h' v [c]→Upd (fun _=>False) h h'→K v h'):aN 1 1 [.i .u8 0] [(0,1,.i .u8 (c.toNat:Int))] h K:=by
 refine ⟨rfl,hk _ _ ⟨U.trans (Upd.app _ _) fun _ _ h=>h,.inr ⟨h.length,bR [byteAV c] 1 true,rfl,by simp [byteAV]; rfl,rfl,rfl,rfl,Nat.le_refl _,rfl,rfl⟩,fun i hi=>?_⟩ (Upd.app _ _)⟩
 cases hi; exact U.1
theorem Tx.app {h0 h:aA} {v w:AV} {l m:List UInt8} (A:Tx h0 h v l) (B:Byt h w m) (hlen:l.length+m.length<1000000000) {K:AV→aA→Prop} (hk:∀ v' h',Tx h0 h' v' (l++m)→Upd (bZ v) h h'→K v' h'):bN ty 1 1 v w h K:=by
 refine fY.append A (by decide) (ns:=m.map byteAV) (k:=m.length) (fun K hK=>Rd.news B hK) (by simp) (xP m) (by omega) (by omega) fun v' h' A' U=>hk v' h' ?_ U
 unfold Tx
 rw [List.map_append,List.length_append]; exact A'
theorem Tx.byt {h0 h:aA} {v:AV} {l:List UInt8} (A:Tx h0 h v l):Byt h v l:=A.arr.rd
theorem Tx.ext {h0 h h':aA} {v:AV} {l:List UInt8} (A:Tx h0 h v l) (U:Upd (fun _=>False) h h'):Tx h0 h' v l:=⟨A.upd.trans U fun _ _ h=>h,A.arr.upd U fun _ _ h=>h,A.new⟩
theorem bD {a:AV} {l:List AV} {K:AV→Prop} (hk:K a):aH 0 (.tu (a :: l)) K:=⟨by simp,hk⟩
theorem bC {a b:AV} {l:List AV} {K:AV→Prop} (hk:K b):aH 1 (.tu (a :: b :: l)) K:=⟨by simp,hk⟩
theorem jD {a b c:AV} {l:List AV} {K:AV→Prop} (hk:K c):aH 2 (.tu (a :: b :: c :: l)) K:=⟨by simp,hk⟩
theorem qL {x n:Nat} (hx:x<2 ^ 62) (hn:n<62):cI .and .i64 (x:Int) ((2 ^ n - 1:Nat):Int)=((x % 2 ^ n:Nat):Int):=by
 have:2 ^ n≤2 ^ 61:=Nat.pow_le_pow_right (by omega) (by omega)
 rw [aIY hx (by omega),Nat.and_two_pow_sub_one_eq_mod]
theorem vX {n:Int} (h0:0≤n) (h1:n<18446744073709551616):IntKind.wrap .u64 n=n:=by
 have:IntKind.wrap .u64 n=n % 18446744073709551616:=by
  show n.emod (2 ^ 64)=_
  rfl
 rw [this]; omega
theorem cK (x:Nat):IntKind.wrap .u8 (x:Int)=((x % 256:Nat):Int):=by
 have:IntKind.wrap .u8 (x:Int)=(x:Int) % 256:=by
  show (x:Int).emod (2 ^ 8)=_
  rfl
 rw [this] <;> rfl
theorem eN (x:Nat):((x % 256:Nat):Int)=((UInt8.ofNat x).toNat:Int):=by
 rw [UInt8.toNat_ofNat']
end Go.GAM
namespace Go.GAM
open Go.RowKit
theorem iY {a n:Int} {b:Nat} {K:Int→Prop} (hb:b≤64) (hn:a * 2 ^ b=n) (h0 : -9223372036854775808≤n) (h1:n<9223372036854775808) (hk:K n):xA .i64 a b K:=by
 refine ⟨by omega, ?_⟩
 rw [Int.toNat_natCast,show IntKind.i64.bits=64 from rfl,Nat.min_eq_left hb,hn,aL h0 h1]; exact hk
theorem aFF {a n:Int} {b:Nat} {K:Int→Prop} (hb:b≤64) (hn:a / ((2 ^ b:Nat):Int)=n) (hk:K n):pL .i64 a b K:=by
 refine ⟨by omega, ?_⟩
 have h2:((2:Int) ^ b)=((2 ^ b:Nat):Int):=by simp
 rw [Int.toNat_natCast,show IntKind.i64.bits=64 from rfl,Nat.min_eq_left hb,h2,Int.fdiv_eq_ediv_of_nonneg _ (Int.natCast_nonneg _),hn]; exact hk
theorem aEP (z:Int):IntKind.wrap .i64 ((BitVec.ofInt 64 z).toNat:Int)=IntKind.wrap .i64 z:=by
 have e1:(2:Int) ^ 64=18446744073709551616:=by decide
 have e2:(2:Int) ^ (64 - 1)=9223372036854775808:=by decide
 have e3:((2 ^ 64:Nat):Int)=18446744073709551616:=by decide
 rw [BitVec.toNat_ofInt,e3]
 simp only [IntKind.wrap,IntKind.bits,IntKind.signed,Bool.true_and,decide_eq_true_eq,e1,e2]
 rw [Int.toNat_of_nonneg (by omega),Int.emod_emod_of_dvd _ (Int.dvd_refl _)]
theorem aNO {a : Int} {c : Nat} (hc : c < 256) (h0 : -36028797018963968 ≤ a) (h1 : a < 36028797018963968) : cI .or .i64 (a * 256) (c : Int) = a * 256 + c := by
 show IntKind.wrap .i64 (((BitVec.ofInt 64 (a * 256)) ||| (BitVec.ofInt 64 (c:Int))).toNat:Int)=_
 have hX:BitVec.ofInt 64 (a * 256)=BitVec.ofInt 64 a <<< 8:=by
  rw [BitVec.ofInt_mul,BitVec.shiftLeft_eq_mul_twoPow] <;> rfl
 have hand:BitVec.ofInt 64 (a * 256) &&& BitVec.ofInt 64 (c:Int)=0#64:=by
  rw [hX]
  apply BitVec.eq_of_getLsbD_eq
  intro i hi
  rw [BitVec.getLsbD_and,BitVec.getLsbD_shiftLeft]
  by_cases h8:i<8
  ·simp [h8]
  ·have : (BitVec.ofInt 64 (c : Int)).getLsbD i = false := by
    rw [BitVec.getLsbD,nW (by omega)]
    apply Nat.testBit_lt_two_pow
    have:2 ^ 8≤2 ^ i:=Nat.pow_le_pow_right (by omega) (by omega)
    omega
   rw [this]; simp
 rw [← BitVec.add_eq_or_of_and_eq_zero _ _ hand, ← BitVec.ofInt_add,aEP,aL (by omega) (by omega)]
theorem s9 (z:Int):IntKind.wrap .u8 z=((UInt8.ofNat (z % 256).toNat).toNat:Int):=by
 rw [UInt8.toNat_ofNat']
 have:IntKind.wrap .u8 z=z % 256:=by
  show z.emod (2 ^ 8)=_
  rfl
 rw [this]; omega
theorem aMZ (c:UInt8):IntKind.wrap .i8 (c.toNat:Int)=if c.toNat<128 then (c.toNat:Int) else (c.toNat:Int) - 256:=by
 have hc:=c.toNat_lt
 have e1:(2:Int) ^ 8=256:=by decide
 have e2:(2:Int) ^ (8 - 1)=128:=by decide
 simp only [IntKind.wrap,IntKind.bits,IntKind.signed,Bool.true_and,decide_eq_true_eq,e1,e2]
 split <;> split <;> omega
end Go.GAM
namespace Go.GAM
open Go.RowKit
section
variable {P:Program} {α:Type} [DecidableEq α]
def kP (κ:α→AV) (kv:List (α × AV)):List (AV × AV):=kv.map fun p=>(κ p.1,p.2)
def lkI:List (α × AV)→α→Nat→Option (Nat × AV)
 | [],_,_=>none
 | (k,v) :: r,x,i=>if x=k then some (i,v) else lkI r x (i+1)
def lkM (kv:List (α × AV)) (x:α):Option AV:=(lkI kv x 0).map (·.2)
def upM:List (α × AV)→α→AV→List (α × AV)
 | [],x,v=>[(x,v)]
 | (k,w) :: r,x,v=>if x=k then (k,v) :: r else (k,w) :: upM r x v
theorem aE9 (x:α):∀ (kv:List (α × AV)) (i j:Nat),(lkI kv x i).map (·.2)=(lkI kv x j).map (·.2)
 | [],_,_=>rfl
 | (k, v) :: r, i, j => by
  unfold lkI
  split
  ·rfl
  ·exact aE9 x r _ _
theorem oC (k:α) (v:AV) (r:List (α × AV)) (x:α):lkM ((k,v) :: r) x=if x=k then some v else lkM r x:=by
 unfold lkM
 rw [lkI]
 split
 ·rfl
 ·exact aE9 x r _ _
theorem aKZ (x:α) (v:AV) (y:α):∀ kv:List (α × AV),lkM (upM kv x v) y=if y=x then some v else lkM kv y
 | []=>by rw [upM,oC]
 | (k, w) :: r => by
  unfold upM
  by_cases h:x=k
  ·subst h
   rw [if_pos rfl,oC,oC]
   split <;> rfl
  ·rw [if_neg h, oC, oC, aKZ x v y r]
   by_cases hy:y=k
   ·subst hy; rw [if_pos rfl,if_pos rfl,if_neg (fun e=>h e.symm)]
   ·rw [if_neg hy,if_neg hy]
def aBY (P:Program) (kt:TypeId) (κ:α→AV):Prop:=∀ a b,aEq P 64 kt (κ a) (κ b)=some (decide (a=b))
theorem vV {kt:TypeId} {κ:α→AV} (hκ:aBY P kt κ) (x:α):∀ (kv:List (α × AV)) (i:Nat),mU P kt (κ x) (kP κ kv) i=some (lkI kv x i)
 | [],_=>rfl
 | (k, v) :: r, i => by
  have e:=vV hκ x r (i+1)
  show mU P kt (κ x) ((κ k,v) :: kP κ r) i=_
  rw [mU]
  show (match aEq P 64 kt (κ x) (κ k) with
   | some true=>some (some (i,v))
   | some false=>mU P kt (κ x) (kP κ r) (i+1)
   | none=>none)=_
  rw [hκ x k,lkI]
  by_cases h:x=k
  ·rw [decide_eq_true h,if_pos h]
  ·rw [decide_eq_false h,if_neg h]; exact e
def lO (κ:α→AV) (h:aA) (id:Nat) (kv:List (α × AV)):Prop:=h[id]? = some (hH (kP κ kv))
theorem lO.lt {κ:α→AV} {h:aA} {id:Nat} {kv:List (α × AV)} (M:lO κ h id kv):id<h.length:=bM M
theorem lO.upd {κ:α→AV} {M:Nat→Prop} {h h':aA} {id:Nat} {kv:List (α × AV)} (A:lO κ h id kv) (U:Upd M h h') (hM:¬ M id):lO κ h' id kv:=(U.2 id A.lt hM).trans A
theorem aDJ (κ:α→AV) {h:aA} {K:AV→aA→Prop} (hk:∀ h',h'.length=h.length+1→Upd (fun _=>False) h h'→lO κ h' h.length []→K (.mp (some h.length)) h'):rL h K:=
 hk _ (by simp) (Upd.app _ _) (by unfold lO; simp [kP])
theorem aGG {κ:α→AV} {h:aA} {id:Nat} {kv:List (α × AV)} {kt el:TypeId} {x:α} {z:AV} {K:AV→Prop} (M:lO κ h id kv) (hκ:aBY P kt κ) (hv:aB7 P kt (κ x)=true) (hz:aCV P el=some z) (hk:K ((lkM kv x).getD z)):kE P kt el false (.mp (some id)) (κ x) h K:=by
 refine ⟨hv, ?_⟩
 have e:aFG (.mp (some id)) h=some (kP κ kv):=by show (h[id]?).bind (·.mp)=_; rw [M] <;> rfl
 rw [e]
 simp only
 rw [vV hκ]
 unfold lkM at hk
 cases hl:lkI kv x 0 with
 | none=>rw [hl] at hk; simp only; rw [hz]; exact hk
 | some p=>rw [hl] at hk; exact hk
theorem aK2 {κ : α → AV} (x : α) (v : AV) : ∀ (kv : List (α × AV)) (i : Nat), match lkI kv x i with
  | none=>upM kv x v=kv++[(x,v)]
  | some (j,_)=>i≤j∧kv[j - i]?.map (·.1)=some x∧upM kv x v=kv.set (j - i) (x,v)
 | [],i=>rfl
 | (k, w) :: r, i => by
  have ih:=aK2 (κ:=κ) x v r (i+1)
  rw [lkI]
  by_cases h:x=k
  ·subst h
   rw [if_pos rfl]
   exact ⟨Nat.le_refl _,by simp,by simp [upM]⟩
  ·rw [if_neg h]
   cases hl:lkI r x (i+1) with
   | none=>rw [hl] at ih; simp only at ih ⊢; rw [upM,if_neg h,ih] <;> rfl
   | some p =>
    obtain ⟨j,u1⟩:=p
    rw [hl] at ih
    simp only at ih ⊢
    obtain ⟨h1,h2,h3⟩:=ih
    obtain ⟨m,rfl⟩:∃ m,j=i+1+m:=⟨j - (i+1),by omega⟩
    rw [show i+1+m - (i+1)=m by omega] at h2 h3
    rw [show i+1+m - i=m+1 by omega,upM,if_neg h,h3]
    exact ⟨by omega,by simpa using h2,by simp⟩
theorem aHT {κ:α→AV} {h:aA} {id:Nat} {kv:List (α × AV)} {kt:TypeId} {x:α} {v:AV} {K:aA→Prop} (M:lO κ h id kv) (hκ:aBY P kt κ) (hv:aB7 P kt (κ x)=true) (hp:yP (κ x)=true)
  (hk:∀ h',h'.length=h.length→Upd (· = id) h h'→lO κ h' id (upM kv x v)→K h'):kA P kt (.mp (some id)) (κ x) v h K:=by
 refine ⟨hv,hp,_,_,M,rfl, ?_⟩
 rw [vV hκ]
 have hu:=aK2 (κ:=κ) x v kv 0
 have fin:∀ es,es=kP κ (upM kv x v)→K (h.set id (hH es)):=by
  rintro es rfl
  exact hk _ (by simp) (Upd.set _ _ _) (List.getElem?_set_self M.lt)
 cases hl:lkI kv x 0 with
 | none =>
  rw [hl] at hu
  exact fin _ (by simp only at hu; rw [hu]; simp [kP])
 | some p =>
  obtain ⟨j,u1⟩:=p
  rw [hl] at hu
  simp only [Nat.sub_zero] at hu
  obtain ⟨_,h2,h3⟩:=hu
  refine ⟨?_,fin _ (by rw [h3]; simp [kP,List.map_set])⟩
  obtain ⟨q,hq,hqx⟩:=Option.map_eq_some_iff.1 h2
  exact ⟨q.2,by unfold kP; rw [List.getElem?_map,hq]; simp [hqx]⟩
theorem aHP {kt:TypeId} (hu:P.underlying kt=some .string):aBY P kt (fun l:List UInt8=>.s l):=fun a b=>by
 rw [aFN (d:=63) hu]
 show some (a == b)=_
 congr 1
 rw [Bool.eq_iff_iff]; simp
end
section
variable {P:Program}
end
end Go.GAM
namespace Go.GAM
def yM (k:IntKind) (x:AV) (h:aA) (K:Int→Prop):Prop:=aC x h fun v=>asI k v K
def aFH (k:IntKind) (args:List AV) (h:aA) (K:AV→aA→Prop):Prop:=
 match args with
 | [x]=>yM k x h fun n=>K (.i k n) h
 | _=>False
def aAB (k:IntKind) (args:List AV) (h:aA) (K:AV→aA→Prop):Prop:=
 match args with
 | [x,.i k' n]=>k'=k∧aS 1 x (.i k n) h fun h'=>K (.tu []) h'
 | _=>False
def aMX (k:IntKind) (args:List AV) (h:aA) (K:AV→aA→Prop):Prop:=
 match args with
 | [x,.i k1 o,.i k2 n]=>k1=k∧k2=k∧yM k x h fun m=>m=o∧aS 1 x (.i k n) h fun h'=>K (.b true) h'
 | _=>False
def aLE (k:IntKind) (args:List AV) (h:aA) (K:AV→aA→Prop):Prop:=
 match args with
 | [x,.i k1 d]=>k1=k∧yM k x h fun m=>aS 1 x (.i k (k.wrap (m+d))) h fun h'=>K (.i k (k.wrap (m+d))) h'
 | _=>False
def aP1 (args:List AV) (h:aA) (K:AV→aA→Prop):Prop:=
 match args with
 | []=>K (.tu []) h
 | [.p (some _)]=>K (.tu []) h
 | _=>False
def aBZ (args:List AV) (h:aA) (K:AV→aA→Prop):Prop:=
 match args with
 | [x]=>K x h
 | _=>False
section
variable {P:Program} {w0:World} {Fz:Nat→Prop} {μ:Mu} {own:Nat→Option Nat} {h:aA} {w:World}
theorem aIO {f:FuncId} {fn:Func} {ex:Array Value→Sem Value} (hf:P.funcs[f]? = some fn) (hn:(fn.name == "runtime.NumGoroutine")=false) (hb:fn.body.isNone=true)
  (h1:Extern.findNext fn=none) (h2:Extern.find fn=some ex) {args:Array Value} {v:Value} {w w':World} (he:(ex args).run P w = .ok v w'):(callFunc f args).run P w = .ok (.value v) w':=by
 have hn':fn.name ≠ "runtime.NumGoroutine":=by simpa using hn
 have hb':fn.body=none:=by simpa using hb
 have hm:∀ (m:Mark) (k:Sem Unit) (w:World),Sem.run P (Sem.mark m k) w=Sem.run P k w:=fun _ _ _=>rfl
 unfold callFunc
 simp [go_sem,hf,hn',hb',h1,h2,mark,hm,he]
def nK (P : Program) (ex : Array Value → Sem Value) (X : List AV → aA → (AV → aA → Prop) → Prop) : Prop :=
 ∀ (w0 : World) (Fz : Nat → Prop) (μ : Mu) (own : Nat → Option Nat) (h : aA) (w : World) (args : List AV) (cargs : List Value) (K : AV → aA → Prop), Rel w0 Fz μ own h w → bQ μ args cargs → X args h K →
  ∃ cv w',(ex cargs.toArray).run P w = .ok cv w'∧jY w0 Fz μ K cv w'
structure aKU (P:Program) (f:FuncId) (ex:Array Value→Sem Value):Prop where
 is:∃ fn,P.funcs[f]? = some fn∧(fn.name == "runtime.NumGoroutine")=false∧fn.body.isNone=true∧Extern.findNext fn=none∧Extern.find fn=some ex
theorem aKU.sim {f:FuncId} {ex:Array Value→Sem Value} {X:List AV→aA→(AV→aA→Prop)→Prop} (A:aKU P f ex) (E:nK P ex X) (hlt:f<yid0) {μb:Mu} {args:List AV} {h:aA} {K:AV→aA→Prop} (hk:X args h K):aFV P w0 Fz μb f args h K:=by
 intro μ own w cargs hsb R hc
 rw [if_pos hlt]
 obtain ⟨fn,h1,h2,h3,h4,h5⟩:=A.is
 obtain ⟨cv,w',e1,e2⟩:=E w0 Fz μ own h w args cargs K R hc hk
 exact .inr ⟨cv,w',aIO h1 h2 h3 h4 h5 e1,e2⟩
theorem vQ (R:Rel w0 Fz μ own h w) {x:AV} {cx:Value} {k:IntKind} {n:Int} {K:aA→Prop} (hx:bJ μ x cx) (hk:aS 1 x (.i k n) h K) :
  ∃ ad h' w',cx = .pointer (some ad)∧K h'∧Rel w0 Fz μ own h' w'∧w.frozen? ad=false∧(∃ c el fr,w.heap[ad.block]? = some (.cells c el fr))∧∀ m,(store ad (.int k n) m).run P w = .ok () w':=by
 cases hx <;> first | exact hk.elim | skip
 rename_i a l o hl ho
 subst ho
 obtain ⟨b,hb,hro,hfv,hver,hoff,hso,hlen,hok,hk⟩:=hk
 have hlv:b.floor≤b.cells.length:=by omega
 rw [hver] at hl
 have hk0:=R.cur hb hlv hl
 have hroom:=R.room hk0 hro (off:=a.off) (n:=1) (by have:=hk0.len; omega)
 have hc:=hroom.1 0 (by omega)
 have hf:=hroom.2 0 (by omega)
 simp only [Nat.add_zero] at hc hf
 obtain ⟨c,el,fr,hrow,_⟩:=hk0.row
 refine ⟨_,_,w.setCell ⟨l.B,l.base+a.off,none⟩ (.int k n),rfl,hk,R.write hb hlv hk0 hro (.cons _ _ _ _ (.i k n) .nil) (off:=a.off) (by simp; omega),hf,⟨c,el,fr,hrow⟩,fun m=>?_⟩
 obtain ⟨v,hv⟩:=Option.isSome_iff_exists.1 hc
 simp [go_sem,stored,hv,hf]
theorem aDF (R : Rel w0 Fz μ own h w) {x : AV} {cx : Value} {k : IntKind} {K : Int → Prop} (hx : bJ μ x cx) (hk : yM k x h K) :
  ∃ ad n,cx = .pointer (some ad)∧K n∧w.cell? ad=some (.int k n):=by
 unfold yM at hk
 cases hx <;> first | exact hk.elim | skip
 rename_i a l o hl ho
 subst ho
 obtain ⟨b,hb,hr,hK⟩:=hk
 obtain ⟨cv,hcv,hv⟩:=R.read hb hr hl 0 (by omega)
 simp only [Nat.add_zero] at hcv hv
 generalize b.cells.getD a.off .u=v at *
 unfold asI at hK
 split at hK
 ·rename_i k' n
  cases hkk:kEq k k' with
  | false=>rw [hkk] at hK; exact hK.elim
  | true =>
   rw [hkk] at hK
   have:k=k':=by
    unfold kEq at hkk
    have:=Nat.eq_of_beq_eq_true hkk
    cases k <;> cases k' <;> first | rfl | simp [kc] at this
   subst this
   cases hv
   exact ⟨_,n,rfl,hK,hcv⟩
 ·exact hK.elim
theorem aKP (k:IntKind):nK P (Extern.Atomic.loadT (.int k)) (aFH k):=by
 intro w0 Fz μ own h w args cargs K R hc hk
 unfold aFH at hk
 split at hk
 ·rename_i x
  cases hc with | cons _ _ _ _ hx t=>
  cases t
  obtain ⟨ad,n,rfl,hK,hcell⟩:=aDF R hx hk
  refine ⟨.int k n,w, ?_,_,μ,own,h,hK,.i k n,R,Sub.refl _⟩
  have hd:Extern.Atomic.loadT (.int k) #[.pointer (some ad)]=Extern.Atomic.read (.int k) ad:=rfl
  show (Extern.Atomic.loadT (.int k) #[.pointer (some ad)]).run P w=_
  rw [hd]
  simp [Extern.Atomic.read,hcell]
 ·exact hk.elim
theorem aHL (k:IntKind):nK P Extern.Atomic.storeT (aAB k):=by
 intro w0 Fz μ own h w args cargs K R hc hk
 unfold aAB at hk
 split at hk
 ·rename_i x k' n
  obtain ⟨rfl,hk⟩:=hk
  cases hc with | cons _ _ _ _ hx t=>
  cases t with | cons _ _ _ _ hn t=>
  cases t
  cases hn
  obtain ⟨ad,h',w',rfl,hK,R',hf,_,hrun⟩:=vQ (P:=P) R hx hk
  refine ⟨.tuple #[],w', ?_,_,μ,own,h',hK,.tu [] #[] .nil,R',Sub.refl _⟩
  show (Extern.Atomic.storeT #[.pointer (some ad),.int k' n]).run P w=_
  have hd:Extern.Atomic.storeT #[.pointer (some ad),.int k' n]=(do store ad (.int k' n) .atomic; pure Extern.Atomic.none_):=rfl
  rw [hd]
  simp only [Sem.run_bind,hrun .atomic]
  rfl
 ·exact hk.elim
theorem aMQ (k : IntKind) : nK P (Extern.Atomic.casT (.int k)) (aMX k) := by
 intro w0 Fz μ own h w args cargs K R hc hk
 unfold aMX at hk
 split at hk
 ·rename_i x k1 o k2 n
  obtain ⟨rfl,rfl,hk⟩:=hk
  cases hc with | cons _ _ _ _ hx t=>
  cases t with | cons _ _ _ _ ho t=>
  cases t with | cons _ _ _ _ hn t=>
  cases t
  cases ho; cases hn
  obtain ⟨ad,m,rfl,hq,hcell⟩:=aDF R hx hk
  obtain ⟨rfl,hk2⟩:=hq
  obtain ⟨ad',h',w',he,hK,R',hf,⟨c,el,fr,hrow⟩,hrun⟩:=vQ (P:=P) R hx hk2
  cases he
  refine ⟨.bool true,w', ?_,_,μ,own,h',hK,.b true,R',Sub.refl _⟩
  show (Extern.Atomic.casT (.int k2) #[.pointer (some ad),.int k2 m,.int k2 n]).run P w=_
  have hd:Extern.Atomic.casT (.int k2) #[.pointer (some ad),.int k2 m,.int k2 n]=(do
   let a ← asAddr (.pointer (some ad))
   if ← Extern.Atomic.touchesFrozen a then unsupported (.unsafePointer "a write to bytes that a string shares")
   let eq ← match Extern.Atomic.T.int k2, ← Extern.Atomic.read (.int k2) a,Value.int k2 m with
    | _,.int _ x,.int _ y=>pure (x == y)
    | .ptr,.pointer x,.pointer y=>samePointer x y
    | .int _,.pointer (some _),.int _ 0 | .int _,.int _ 0,.pointer (some _)=>pure false
    | .int _,.pointer (some _),_ | .int _,_,.pointer (some _)=>unsupported .addressObserved
    | _,_,_=>stuck "atomic.CompareAndSwap: old is no T"
   if eq then store a (.int k2 n) .atomic
   pure (.bool eq)):=rfl
  rw [hd]
  have hsh:w.shape? ad.block=some (el,c.size):=by simp [World.shape?,hrow]
  simp [asAddr,Extern.Atomic.touchesFrozen,viewAt,hsh,hf,Extern.Atomic.read,hcell,hrun .atomic]
 ·exact hk.elim
theorem aML (k:IntKind):nK P (Extern.Atomic.update (Op.intArith .add) k true) (aLE k):=by
 intro w0 Fz μ own h w args cargs K R hc hk
 unfold aLE at hk
 split at hk
 ·rename_i x k1 d
  obtain ⟨rfl,hk⟩:=hk
  cases hc with | cons _ _ _ _ hx t=>
  cases t with | cons _ _ _ _ hn t=>
  cases t
  cases hn
  obtain ⟨ad,m,rfl,hk2,hcell⟩:=aDF R hx hk
  obtain ⟨ad',h',w',he,hK,R',hf,_,hrun⟩:=vQ (P:=P) R hx hk2
  cases he
  refine ⟨.int k1 (k1.wrap (m+d)),w', ?_,_,μ,own,h',hK,.i _ _,R',Sub.refl _⟩
  show (Extern.Atomic.update (Op.intArith .add) k1 true #[.pointer (some ad),.int k1 d]).run P w=_
  have hd:Extern.Atomic.update (Op.intArith .add) k1 true #[.pointer (some ad),.int k1 d]=(do
   let a ← asAddr (.pointer (some ad))
   let old ← Extern.Atomic.read (.int k1) a
   let new ← Op.intArith .add k1 (← asInt old) (← asInt (.int k1 d))
   store a new .atomic
   pure (if true then new else old)):=rfl
  rw [hd]
  simp [asAddr,asInt,asIntOf,Extern.Atomic.read,hcell,Op.intArith,hrun .atomic]
 ·exact hk.elim
theorem vW (m:Addr→Mark):nK P (Extern.Race.marked m) (fun args h K=>match args with | [.p (some _)]=>K (.tu []) h | _=>False):=by
 intro w0 Fz μ own h w args cargs K R hc hk
 split at hk
 ·rename_i a
  cases hc with | cons _ _ _ _ hx t=>
  cases t
  cases hx with | p _ l o hl ho=>
  exact ⟨.tuple #[],w,rfl,_,μ,own,h,hk,.tu [] #[] .nil,R,Sub.refl _⟩
 ·exact hk.elim
theorem yV (m:Mark):nK P (fun _=>do mark m; pure Extern.Race.none_) (fun args h K=>match args with | []=>K (.tu []) h | _=>False):=by
 intro w0 Fz μ own h w args cargs K R hc hk
 split at hk
 ·cases hc
  exact ⟨.tuple #[],w,rfl,_,μ,own,h,hk,.tu [] #[] .nil,R,Sub.refl _⟩
 ·exact hk.elim
theorem aH9:nK P Extern.AbiNoEscape.same aBZ:=by
 intro w0 Fz μ own h w args cargs K R hc hk
 unfold aBZ at hk
 split at hk
 ·rename_i x
  cases hc with | cons _ v _ _ hx t=>
  cases t
  exact ⟨v,w,rfl,_,μ,own,h,hk,hx,R,Sub.refl _⟩
 ·exact hk.elim
end
end Go.GAM
namespace Go.GAM
def sB (E:TypeId) (h:aA) (v:AV) (l:List UInt8):Prop:=
 (v = .sl none 0 none∧l=[])∨∃ id b,v = .sl (some ⟨id,l.length,0⟩) l.length none∧h[id]? = some b∧b.cells=l.map byteAV∧b.sz=1∧b.floor≤l.length∧b.ro=false∧b.ex=false∧b.gl=false∧b.ty=some E∧l≠[]
theorem sB.upd {E:TypeId} {M:Nat→Prop} {h h':aA} {v:AV} {l:List UInt8} (B:sB E h v l) (U:Upd M h h') (hM:∀ i,bZ v i→¬ M i):sB E h' v l:=by
 rcases B with B | ⟨id,b,rfl,h1,h2⟩
 ·exact .inl B
 ·exact .inr ⟨id,b,rfl,(U.2 id (bM h1) (hM id rfl)).trans h1,h2⟩
theorem sB.append {E:TypeId} {h:aA} {v x:AV} {l t:List UInt8} (B:sB E h v l) (hx:∀ K:List AV→Nat→Prop,K (t.map byteAV) t.length→kY 1 x h K) (hlen:l.length+t.length≤140737488355328) {K:AV→aA→Prop}
  (hk:∀ v' h',Upd (bZ v) h h'→sB E h' v' (l++t)→(∀ i,bZ v' i→bZ v i∨h.length≤i)→K v' h'):bN (some E) 1 1 v x h K:=by
 refine ⟨by decide,hx _ ?_⟩
 have hok:(t.map byteAV).all AV.cellOK=true:=by
  rw [List.all_eq_true]; intro x hx
  obtain ⟨c,_,rfl⟩:=List.mem_map.1 hx
  rfl
 rcases B with ⟨rfl,rfl⟩ | ⟨id,b,rfl,h1,h2,h3,h4,h5,h6,h7,h8,h9⟩
 ·refine ⟨by simp only [List.length_nil] at hlen; omega, by simp only [List.length_nil] at hlen; omega, ?_⟩
  by_cases ht:t=[]
  ·subst ht
   show K (.sl none 0 none) h
   exact hk _ _ (Upd.refl _ _) (.inl ⟨rfl,rfl⟩) fun i hi=>.inl hi
  ·have htl : t.length ≠ 0 := by simpa using ht
   rw [if_neg htl]
   refine hk _ _ ((Upd.app _ _).mono fun _ _ h=>h.elim) (.inr ⟨h.length,bR (t.map byteAV) 1 false (some E),by simp,by simp,rfl,rfl,by simp [bR],rfl,rfl,rfl,rfl,by simpa using ht⟩) fun i hi=>.inr ?_
   cases hi; exact Nat.le_refl _
 ·have hidl := bM h1
  have hbl:b.cells.length=l.length:=by rw [h2]; simp
  have hll:0<l.length:=List.length_pos_iff.2 h9
  refine ⟨by omega,by omega,b,h1,h3,⟨h4,by rw [hbl]; exact Nat.le_refl _,by simp⟩, ?_⟩
  by_cases ht:t=[]
  ·subst ht
   left
   exact ⟨rfl,hk _ _ (Upd.refl _ _) (.inr ⟨id,b,by simp,h1,by simpa using h2,h3,by simpa using h4,h5,h6,h7,h8,by simpa using h9⟩) fun i hi=>.inl hi⟩
  ·have htl : 0 < t.length := List.length_pos_iff.2 ht
   right; right; right; left
   refine ⟨htl,h5,hbl.symm,rfl,by rw [hbl]; simp,rfl,h6,h7,hok, ?_⟩
   have hty:jU b.ty (some E)=some E:=by rw [h8]; simp [jU]
   refine hk _ _ ((Upd.set _ _ _).mono fun i _ h=>h.symm) (.inr ⟨id,{ b with cells:=b.cells++t.map byteAV,ty:=jU b.ty (some E) },by simp [hbl],List.getElem?_set_self hidl,by simp [h2],h3,by simp; omega,h5,h6,h7,hty,by simp [h9]⟩) fun i hi=>.inl ?_
   exact hi
structure iS (P:Program) (T E:TypeId) (h:aA) (id off:Nat) (cs:List AV) (buf:AV) (l:List UInt8):Prop where
 blk:∃ b t,h[id]? = some b∧b.cells=cs∧b.floor≤cs.length∧b.ro=false∧b.ty=some t∧liesAt P P.depth t (cs.length / P.cellsOf t) off T 1=true
 room:off+1<cs.length
 addr:cs[off]? = some (.p none)∨cs[off]? = some (.p (some ⟨id,cs.length,off⟩))
 cell:cs[off+1]? = some buf
 is:sB E h buf l
 own:¬ bZ buf id
section
variable {P:Program} {T E:TypeId} {h:aA} {id off:Nat} {cs:List AV} {buf:AV} {l:List UInt8}
theorem iS.rec' (B:iS P T E h id off cs buf l):bE h id cs:=by
 obtain ⟨b,t,h1,h2,h3,h4,_⟩:=B.blk
 exact ⟨b,h1,h2,h3,h4⟩
theorem iS.lt (B:iS P T E h id off cs buf l):id<h.length:=B.rec'.lt
theorem iS.upd {M:Nat→Prop} {h':aA} (B:iS P T E h id off cs buf l) (U:Upd M h h') (h1:¬ M id) (h2:∀ i,bZ buf i→¬ M i):iS P T E h' id off cs buf l:=by
 have hl:=B.lt
 obtain ⟨b,t,g1,g2⟩:=B.blk
 exact ⟨⟨b,t,(U.2 id hl h1).trans g1,g2⟩,B.room,B.addr,B.cell,B.is.upd U h2,B.own⟩
theorem iS.store {v:AV} {o:Nat} {K:aA→Prop} (B:iS P T E h id off cs buf l) (ho:o<cs.length) (hv:v.parts=[v]) (hs:v.sizeOK=true) (hc:v.cellOK=true)
  {buf':AV} {l':List UInt8} (ha:(cs.set o v)[off]? = some (.p none)∨(cs.set o v)[off]? = some (.p (some ⟨id,cs.length,off⟩))) (hb:(cs.set o v)[off+1]? = some buf') (hi:sB E h buf' l') (hn:¬ bZ buf' id)
  (hk:∀ h',h'.length=h.length→Upd (· = id) h h'→iS P T E h' id off (cs.set o v) buf' l'→K h'):aS 1 (.p (some ⟨id,cs.length,o⟩)) v h K:=by
 have hl:=B.lt
 obtain ⟨b,t,h1,rfl,h3,h4,h5,h6⟩:=B.blk
 refine ⟨b,h1,h4,h3,rfl,(by show o+1≤b.cells.length; omega),hs,by rw [hv] <;> rfl,by rw [hv]; simp [hc], ?_⟩
 have hU:Upd (· = id) h (h.set id { b with cells:=wr b.cells o v.parts,floor:=b.cells.length }):=Upd.set _ _ _
 refine hk _ (by simp) hU ⟨⟨_,t,List.getElem?_set_self hl, ?_, ?_,h4,h5,by simpa using h6⟩,by simpa using B.room,by simpa using ha,hb,hi.upd hU fun i hi hid=>hn (hid ▸ hi),hn⟩
 ·rw [hv] <;> rfl
 ·simp
theorem iS.put {h3:aA} {v:AV} {l':List UInt8} {K:aA→Prop} (B:iS P T E h id off cs buf l) (U:Upd (bZ buf) h h3) (hi:sB E h3 v l') (hn:¬ bZ v id)
  (hk:∀ h',h'.length=h3.length→Upd (· = id) h3 h'→iS P T E h' id off (cs.set (off+1) v) v l'→K h'):aS 1 (.p (some ⟨id,cs.length,off+1⟩)) v h3 K:=by
 have hl:=B.lt
 have hr:=B.room
 have hv:v.parts=[v]∧v.sizeOK=true∧v.cellOK=true:=by
  rcases hi with ⟨rfl,_⟩ | ⟨_,_,rfl,_⟩ <;> exact ⟨rfl,rfl,rfl⟩
 obtain ⟨b,t,h1,rfl,h3',h4,h5,h6⟩:=B.blk
 have g1:h3[id]? = some b:=(U.2 id hl B.own).trans h1
 refine ⟨b,g1,h4,h3',rfl,(by show off+1+1≤b.cells.length; omega),hv.2.1,by rw [hv.1] <;> rfl,by rw [hv.1]; simp [hv.2.2], ?_⟩
 have hU:Upd (· = id) h3 (h3.set id { b with cells:=wr b.cells (off+1) v.parts,floor:=b.cells.length }):=Upd.set _ _ _
 have e:wr b.cells (off+1) v.parts=b.cells.set (off+1) v:=by rw [hv.1] <;> rfl
 refine hk _ (by simp) hU ⟨⟨_,t,List.getElem?_set_self (bM g1),e, ?_,h4,h5,by simpa using h6⟩,by simpa using hr, ?_,List.getElem?_set_self hr,hi.upd hU fun i hi hid=>hn (hid ▸ hi),hn⟩
 ·simp
 ·rw [List.getElem?_set_ne (by omega),List.length_set]; exact B.addr
theorem sT {n o:Nat} {K:AV→Prop} (R:bE h id cs) (hn:n=cs.length) (ho:o<cs.length) (hk:K (.p (some ⟨id,n,o⟩))):kJ (.p (some ⟨id,n,o⟩)) h K:=by
 obtain ⟨b,h1,rfl,h3,h4⟩:=R
 subst hn
 exact ⟨b,h1,⟨h3,Nat.le_refl _,ho⟩,hk⟩
theorem iS.fromUnsafe {K:AV→Prop} (B:iS P T E h id off cs buf l) (hk:K (.p (some ⟨id,cs.length,off⟩))):gE P T (.p (some ⟨id,cs.length,off⟩)) h K:=by
 obtain ⟨b,t,h1,rfl,h3,h4,h5,h6⟩:=B.blk
 exact ⟨b,t,h1,h5,h3,rfl,h6,hk⟩
theorem aJG {t:TypeId} {K:AV→Prop} (ht:xY P t=true) (hk:K (.b true)):f9 P .eql t (.p none) (.p none) K:=by
 simp only [f9,ht,cond_true]; exact hk
theorem aG1 {t:TypeId} {a:AA} {K:AV→Prop} (ht:xY P t=true) (hk:K (.b false)):f9 P .eql t (.p (some a)) (.p none) K:=by
 simp only [f9,ht,cond_true]; exact hk
theorem aGY {t:TypeId} {a:AA} {K:AV→Prop} (ht:aEJ P t=true) (hk:K (.b false)):f9 P .neq t (.p (some a)) (.p (some a)) K:=by
 simp only [f9,ht,Nat.beq_refl,Bool.and_self,cond_true]; exact hk
def aJA (v:AV):AV:=match v with | .sl (some a) _ _=>.p (some a) | _=>.p none
theorem sB.data {v:AV} {l:List UInt8} {K:AV→aA→Prop} (B:sB E h v l) (hk:K (aJA v) h):j7 v h K:=by
 rcases B with ⟨rfl,rfl⟩ | ⟨id,b,rfl,h1,h2,h3,h4,h5,h6,h7,h8,h9⟩
 ·exact hk
 ·exact ⟨List.length_pos_iff.2 h9,hk⟩
theorem sB.text {v : AV} {l : List UInt8} {K : AV → aA → Prop} (B : sB E h v l) (hE : P.underlying E = some (.int .u8)) (hc : P.cellsOf E = 1) (hl : l.length ≤ 9223372036854775807) (hk : ∀ h', h'.length = h.length → Upd (bZ v) h h' → K (.s l) h') :
  nR P (aJA v) (.i .i64 (l.length:Int)) h K:=by
 rcases B with ⟨rfl,rfl⟩ | ⟨id,b,rfl,h1,h2,h3,h4,h5,h6,h7,h8,h9⟩
 ·exact ⟨rfl,hk _ rfl (Upd.refl _ _)⟩
 ·have hpos := List.length_pos_iff.2 h9
  have hbl:b.cells.length=l.length:=by rw [h2]; simp
  have e:(b.cells.drop 0).take l.length=l.map byteAV:=by rw [List.drop_zero,List.take_of_length_le (by omega),h2]
  refine ⟨b,E,h1,h8,hE,hc,by omega,by omega,h5,by omega,hbl.symm,by simp [hbl], ?_, ?_⟩
  ·simp only [Int.toNat_natCast, e]
   rw [List.all_eq_true]; intro x hx
   obtain ⟨c,_,rfl⟩:=List.mem_map.1 hx
   rfl
  ·simp only [Int.toNat_natCast, e]
   have:(l.map byteAV).map toByte=l:=by
    rw [List.map_map]
    conv=>rhs; rw [← List.map_id l]
    refine List.map_congr_left fun c _=>?_
    simp [byteAV,toByte]
   rw [this]
   exact hk _ (by simp) ((Upd.set _ _ _).mono fun i _ h=>h.symm)
end
end Go.GAM
namespace Go.GAM
abbrev mP:=List AV→aA→(AV→aA→Prop)→Prop
def pH:mP:=fun args h K=>∃ (l:List UInt8) (c:UInt8),args=[.s l,.i .u8 (c.toNat:Int)]∧K (.i .i64 (Lib.indexByte l c)) h
def aDQ:mP:=fun args h K=>∃ (l:List UInt8) (c:UInt8),args=[.s l,.i .u8 (c.toNat:Int)]∧K (.i .i64 (Lib.countByte l c:Nat)) h
def vY:mP:=fun args h K=>match args with | []=>K (.tu []) h | _=>False
def wD:mP:=fun args h K=>match args with | [.p (some _)]=>K (.tu []) h | _=>False
def aI9 (T:List (FuncId × mP)):bX:=fun f args h K=>∃ X,(f,X)∈T∧X args h K
section
variable {P:Program} {w0:World} {Fz:Nat→Prop} {μ:Mu} {own:Nat→Option Nat} {h:aA} {w:World}
theorem zA {μ:Mu} {l:List UInt8} {n:Int} {cargs:List Value} (h:bQ μ [.s l,.i .u8 n] cargs):∃ x:ByteArray,x.data.toList=l∧cargs=[.string x,.int .u8 n]:=by
 cases h with
 | cons _ _ _ _ a t =>
  cases t with
  | cons _ _ _ _ b t2 =>
   cases t2; cases b
   cases a with
   | s _ x hx=>exact ⟨x,hx,rfl⟩
theorem xW:nK P Extern.BytealgIndexByte.indexByte pH:=by
 rintro w0 Fz μ own h w args cargs K R hc ⟨l,c,rfl,hk⟩
 obtain ⟨x,rfl,rfl⟩:=zA hc
 refine ⟨_,w,Lib.run_indexByteString x c.toNat w,_,μ,own,h, ?_,.i _ _,R,Sub.refl _⟩
 have:((c.toNat:Int).toNat).toUInt8=c:=by simp
 rw [this]; exact hk
theorem aGL:nK P Extern.BytealgCount.count aDQ:=by
 rintro w0 Fz μ own h w args cargs K R hc ⟨l,c,rfl,hk⟩
 obtain ⟨x,rfl,rfl⟩:=zA hc
 refine ⟨_,w,Lib.run_countString x c.toNat w,_,μ,own,h, ?_,.i _ _,R,Sub.refl _⟩
 have:((c.toNat:Int).toNat).toUInt8=c:=by simp
 rw [this]; exact hk
def aPK (P:Program) (r:FuncId × mP):Prop:=r.1<yid0∧∃ ex,aKU P r.1 ex∧nK P ex r.2
theorem aD4 {T:List (FuncId × mP)} (hT:∀ r∈T,aPK P r):qE P (aI9 T):=by
 rintro w0 Fz μb f args h K ⟨X,hm,hk⟩
 obtain ⟨hlt,ex,hA,hE⟩:=hT _ hm
 exact hA.sim hE hlt hk
theorem aIX {T:List (FuncId × mP)} {X:mP} {f:FuncId} {args:List AV} {K:AV→aA→Prop} (hm:(f,X)∈T) (hk:X args h K):aI9 T f args h K:=⟨X,hm,hk⟩
theorem aO0 {P:Program} {R:bX} {t:TypeId} {v:AV} {name:String} {f:FuncId} {args:List AV} {K:AV→aA→Prop} (hf:aJ0 P t name=some f) (hlt:Nat.blt f yid0=true) (hk:R f (v :: args) h K):oP P R (.ifc t v) name args h K:=by
 simp only [oP,hf]
 unfold nL
 rw [hlt]; exact hk
end
open Go.RowKit in
theorem aC2 {P:Program} {X:bX} (hm:P.follows .mixedOrders=true) (hsz:P.funcs.size≤yid0) {w:World} (hX:dF P w (fun B=>B<w.heap.size) (fun _ _=>none) X) {f:FuncId} (hb:kS P f=true) {szOf:Nat→Nat} {avs:List AV} {args:Array Value}
  (hv:bQ (muC w szOf) avs args.toList) (hk:gJ P X f avs (lC w szOf) Yes):Calls P f args w fun e w'=>e = .returned (.bool true)∧Below w.heap.size w w':=by
 have hlt:f<yid0:=by
  unfold kS at hb
  split at hb
  ·rename_i fn hf; exact Nat.lt_of_lt_of_le (Array.getElem?_eq_some_iff.1 hf).1 hsz
  ·cases hb
 have hs:=o5 hm hsz hX f avs _ _ hk (muC w szOf) (aIF w) w args.toList (fun _ _ _ h=>by cases h) (aF9 w szOf) hv
 rw [if_pos hlt] at hs
 have hrun:=pS hb args w
 rcases hs with ⟨g,as',h1,h2⟩ | ⟨v,w',h1,h2⟩
 ·rw [Array.toArray_toList, hrun] at h1
  cases h1
  refine h2.mono fun e w' ⟨v,he,v',μ',own',h',g1,g2,g3,g4⟩=>?_
  subst he
  have g1:v' = .b true:=g1
  subst g1
  cases g2
  exact ⟨rfl,g3.os,g3.tape,g3.output,g3.size0,fun k hk=>(g3.fz k hk).2⟩
 ·rw [Array.toArray_toList,hrun] at h1; cases h1
end Go.GAM
set_option maxRecDepth 20000
namespace Go.Proofs.YtcdkpkkdolmfdaaGreatDoor
open Go.GAM
theorem mixedOK:prog.follows .mixedOrders=true:=by kernel_rfl
theorem sizeOK:prog.funcs.size≤yid0:=Nat.le_of_ble_eq_true (by kernel_rfl)
noncomputable def uL (f:FuncId):Func:=(prog.funcs[f]?).getD default
def fU:List (FuncId × mP):=[(Y107.id,pH),(Y108.id,aDQ),(Y111.id,aBZ),(Y105.id,vY),(Y104.id,vY),(Y115.id,wD),(Y112.id,wD),(Y114.id,aFH .u32),(Y110.id,aAB .u32),(Y109.id,aMX .i32),(Y113.id,aLE .i32)]
theorem aL2:∀ r∈fU,aPK prog r:=by
 intro r hr
 simp only [fU,List.mem_cons,List.not_mem_nil,or_false] at hr
 rcases hr with rfl | rfl | rfl | rfl | rfl | rfl | rfl | rfl | rfl | rfl | rfl
 ·exact ⟨by decide,_,⟨⟨uL Y107.id,by kernel_rfl,by kernel_rfl,by kernel_rfl,by kernel_rfl,by kernel_rfl⟩⟩,xW⟩
 ·exact ⟨by decide,_,⟨⟨uL Y108.id,by kernel_rfl,by kernel_rfl,by kernel_rfl,by kernel_rfl,by kernel_rfl⟩⟩,aGL⟩
 ·exact ⟨by decide,_,⟨⟨uL Y111.id,by kernel_rfl,by kernel_rfl,by kernel_rfl,by kernel_rfl,by kernel_rfl⟩⟩,aH9⟩
 ·exact ⟨by decide,_,⟨⟨uL Y105.id,by kernel_rfl,by kernel_rfl,by kernel_rfl,by kernel_rfl,by kernel_rfl⟩⟩,yV .disable⟩
 ·exact ⟨by decide,_,⟨⟨uL Y104.id,by kernel_rfl,by kernel_rfl,by kernel_rfl,by kernel_rfl,by kernel_rfl⟩⟩,yV .enable⟩
 ·exact ⟨by decide,_,⟨⟨uL Y115.id,by kernel_rfl,by kernel_rfl,by kernel_rfl,by kernel_rfl,by kernel_rfl⟩⟩,vW .acquire⟩
 ·exact ⟨by decide,_,⟨⟨uL Y112.id,by kernel_rfl,by kernel_rfl,by kernel_rfl,by kernel_rfl,by kernel_rfl⟩⟩,vW .releaseMerge⟩
 ·exact ⟨by decide,_,⟨⟨uL Y114.id,by kernel_rfl,by kernel_rfl,by kernel_rfl,by kernel_rfl,by kernel_rfl⟩⟩,aKP .u32⟩
 ·exact ⟨by decide,_,⟨⟨uL Y110.id,by kernel_rfl,by kernel_rfl,by kernel_rfl,by kernel_rfl,by kernel_rfl⟩⟩,aHL .u32⟩
 ·exact ⟨by decide,_,⟨⟨uL Y109.id,by kernel_rfl,by kernel_rfl,by kernel_rfl,by kernel_rfl,by kernel_rfl⟩⟩,aMQ .i32⟩
 ·exact ⟨by decide,_,⟨⟨uL Y113.id,by kernel_rfl,by kernel_rfl,by kernel_rfl,by kernel_rfl,by kernel_rfl⟩⟩,aML .i32⟩
theorem uY:qE prog (aI9 fU):=aD4 aL2
theorem Y107.row:(Y107.id,pH)∈fU:=by simp only [fU,List.mem_cons,true_or,or_true]
theorem Y108.row:(Y108.id,aDQ)∈fU:=by simp only [fU,List.mem_cons,true_or,or_true]
theorem Y111.row:(Y111.id,aBZ)∈fU:=by simp only [fU,List.mem_cons,true_or,or_true]
theorem Y105.row:(Y105.id,vY)∈fU:=by simp only [fU,List.mem_cons,true_or,or_true]
theorem Y104.row:(Y104.id,vY)∈fU:=by simp only [fU,List.mem_cons,true_or,or_true]
theorem Y115.row:(Y115.id,wD)∈fU:=by simp only [fU,List.mem_cons,true_or,or_true]
theorem Y112.row:(Y112.id,wD)∈fU:=by simp only [fU,List.mem_cons,true_or,or_true]
theorem Y114.row:(Y114.id,aFH .u32)∈fU:=by simp only [fU,List.mem_cons,true_or,or_true]
theorem Y110.row:(Y110.id,aAB .u32)∈fU:=by simp only [fU,List.mem_cons,true_or,or_true]
theorem Y109.row:(Y109.id,aMX .i32)∈fU:=by simp only [fU,List.mem_cons,true_or,or_true]
theorem Y113.row:(Y113.id,aLE .i32)∈fU:=by simp only [fU,List.mem_cons,true_or,or_true]
end Go.Proofs.YtcdkpkkdolmfdaaGreatDoor
