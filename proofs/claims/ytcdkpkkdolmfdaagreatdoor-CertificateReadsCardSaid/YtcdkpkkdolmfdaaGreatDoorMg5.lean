/- Lemmas (several texts in one). -/
import Derived.Below
import Derived.ChangeArms
import Derived.ChangeSlices
import Derived.DataElems
import Derived.LaidMore
import Derived.Test.YtcdkpkkdolmfdaaGreatDoorMg4
set_option linter.unusedVariables false
set_option linter.unusedSectionVars false
set_option maxRecDepth 100000
namespace Go.Proofs.YtcdkpkkdolmfdaaGreatDoor
open Go.GAM
variable [XR]
noncomputable def Y98.body:Code:=(Tryz.f84.body).getD .skip
def Y98.ann:Ann:=(sl [0,1] (sl [0,1] (sl [] (sl [4] lf))))
theorem Y98.dist:aV (places Y98.ann Y98.body)=true:=by kernel_rfl
noncomputable def Y98.J (Q:AV→aA→Prop):JT:=bY prog C Tryz.f84 Y98.ann Y98.body Q
def Y98.t (Q:AV→aA→Prop) (x0:AV) (x1:Int) (h:aA) (J:JT):Prop:=
C Y88.id [x0] h fun v1 h2=>
cC x0 fun v4=>
aC 1 v4 fun v5=>
aE v5 h2 fun v6=>
bD 1 1 [(AV.i .u8 0)] [(0,1,(AV.i .u8 x1))] h2 fun v7 h8=>
bQ (some 5) 1 1 v6 v7 h8 fun v9 h10=>
cC x0 fun v11=>
aC 1 v11 fun v12=>
aP 1 v12 v9 h10 fun h13=>
Q AV.ni h13
theorem Y98.call {K x0 x1 h} (H:Y98.t (aL h K) x0 x1 h (Y98.J (aL h K))):C Y98.id [x0,(AV.i .u8 x1)] h K:=
 gC Y98.J Tryz.func84 Y98.dist H
noncomputable def Y91.body:Code:=(Tryz.f85.body).getD .skip
def Y91.ann:Ann:=(sl [0] (sq [2] (.ord (nn 0 4 (nn 5 5 (.eff 4 (.eff 10 (.neu 11 .done) .stop) .stop)))) lf))
theorem Y91.dist:aV (places Y91.ann Y91.body)=true:=by kernel_rfl
noncomputable def Y91.J (Q:AV→aA→Prop):JT:=bY prog C Tryz.f85 Y91.ann Y91.body Q
def Y91.t (Q:AV→aA→Prop) (x0:AV) (h:aA) (J:JT):Prop:=
cC x0 fun v1=>
aC 1 v1 fun v2=>
aE v2 h fun v3=>
cC x0 fun v4=>
aC 1 v4 fun v5=>
aE v5 h fun v6=>
bJ v6 fun n7=>
jH v3 h fun v8 h9=>
aE v5 h9 fun v10=>
(v6=v10 ∧
(nE prog v8 (AV.i .i64 n7) h9 fun v11 h12=>
asS v11 fun l13=>
aE v5 h12 fun v14=>
(v6=v14 ∧
(aE v2 h12 fun v15=>
(v3=v15 ∧
(Q (AV.s l13) h12))))))
theorem Y91.call {K x0 h} (H:Y91.t (aL h K) x0 h (Y91.J (aL h K))):C Y91.id [x0] h K:=
 gC Y91.J Tryz.func85 Y91.dist H
noncomputable def Y9.body:Code:=(Tryz.f86.body).getD .skip
def Y9.ann:Ann:=(sl [1] (sq [1] (.seq 1 [1,20] lf (.br (sl [2,3] lf) lf)) (sl [1,4] (sl [1,4,5,6] (sq [4,6] (sl [1,4,5,6,23,24] (.one (.loop 2 [1,4,5,6,23,24] (sl [1,4,5,6,23,24,25] (sq [1,4,5,6,23,24] bl (.seq 4 [1,4,5,6,23,24] (.one (sl [1,4,5,6,7,23,24] (sl [1,4,5,6,8,23,24] (sq [1,4,5,8,23,24] (.seq 3 [1,4,5,8,23,24,37] lf (.br (sl [2,3] lf) lf)) (sl [1,4,5,8,23,24] (sl [1,4,5,6,23,24] (sq [1,4,5,6,23,24] (sl [1,4,5,6,23,24,46] (.br (sl [2,3] lf) lf)) (sl [1,4,5,6,23,24,48] (.br (sl [1,4,6,23,24] lf) lf))))))))) lf)))))) (sq [4] (sl [4,54] (.br (sl [2,3] lf) lf)) (sl [4,9] (sq [4,10] (.ord (.neu 0 (nn 3 6 (.eff 1 (.neu 2 (.eff 9 (nn 10 2 .done) .stop)) .stop)))) (sq [10] (sl [10,72,73,74] (.one (.loop 5 [10,72,73,74] (sl [10,72,73,74,75] (sq [10,72,73,74] bl (sq [10,72,73,74] (.one (sl [10,12,72,73,74] lf)) lf)))))) (sl [2,3] lf))))))))))
theorem Y9.dist:aV (places Y9.ann Y9.body)=true:=by kernel_rfl
noncomputable def Y9.J (Q:AV→aA→Prop):JT:=bY prog C Tryz.f86 Y9.ann Y9.body Q
def Y9.p0 (Q:AV→aA→Prop) (x1:AV) (x20:Bool) (h:aA):Prop:=Y9.J Q 1 [(1,x1),(20,(AV.b x20))] h
def Y9.p2 (Q:AV→aA→Prop) (x1 x4:AV) (x5 x8 x23 x24:Int) (x37:Bool) (h:aA):Prop:=Y9.J Q 3 [(1,x1),(4,x4),(5,(AV.i .i64 x5)),(8,(AV.i .i64 x8)),(23,(AV.i .i64 x23)),(24,(AV.i .i64 x24)),(37,(AV.b x37))] h
def Y9.p3 (Q:AV→aA→Prop) (x1 x4:AV) (x5:Int) (x6:Bool) (x23 x24:Int) (h:aA):Prop:=Y9.J Q 4 [(1,x1),(4,x4),(5,(AV.i .i64 x5)),(6,(AV.b x6)),(23,(AV.i .i64 x23)),(24,(AV.i .i64 x24))] h
def Y9.p1 (Q:AV→aA→Prop) (x1 x4:AV) (x5:Int) (x6:Bool) (x23 x24:Int) (h:aA):Prop:=Y9.J Q 2 [(1,x1),(4,x4),(5,(AV.i .i64 x5)),(6,(AV.b x6)),(23,(AV.i .i64 x23)),(24,(AV.i .i64 x24))] h
def Y9.p4 (Q:AV→aA→Prop) (x10:List UInt8) (x72:AV) (x73 x74:Int) (h:aA):Prop:=Y9.J Q 5 [(10,(AV.s x10)),(72,x72),(73,(AV.i .i64 x73)),(74,(AV.i .i64 x74))] h
def Y9.t0 (Q:AV→aA→Prop) (x1:AV) (x20:Bool) (h:aA) (J:JT):Prop:=
(bif x20 then
(Q (AV.tu [(AV.s []),(AV.b false)]) h)
else
(aC 3 x1 fun v16=>
aE v16 h fun v17=>
asS v17 fun l18=>
J 2 [(1,x1),(4,(AV.sl none 0 none)),(5,(AV.i .i64 0)),(6,(AV.b false)),(23,(AV.i .i64 (l18.length:Int))),(24,(AV.i .i64 0))] h))
theorem Y9.i0 {Q x1 x20 h} (H:Y9.t0 Q x1 x20 h (Y9.J Q)):Y9.p0 Q x1 x20 h:=gR Y9.J Tryz.f86 Y9.dist [1,0,1] H
def Y9.t2 (Q:AV→aA→Prop) (x1 x4:AV) (x5 x8 x23 x24:Int) (x37:Bool) (h:aA) (J:JT):Prop:=
(bif x37 then
(Q (AV.tu [(AV.s []),(AV.b false)]) h)
else
(tF .i64 x5 7 fun n33=>
aR (cD .and .i64 x8 127) fun n34=>
aR (cD .or .i64 n33 n34) fun n35=>
(bif (decide ((268435456:Int)≤n35)) then
(Q (AV.tu [(AV.s []),(AV.b false)]) h)
else
((bif (!(decide ((128:Int)≤x8))) then
(bD 1 1 [(AV.i .i64 0)] [(0,1,(AV.i .i64 n35))] h fun v42 h43=>
bQ none 1 8 x4 v42 h43 fun v44 h45=>
J 4 [(1,x1),(4,v44),(5,(AV.i .i64 0)),(6,(AV.b (decide ((128:Int)≤x8)))),(23,(AV.i .i64 x23)),(24,(AV.i .i64 x24))] h45)
else
(J 4 [(1,x1),(4,x4),(5,(AV.i .i64 n35)),(6,(AV.b (decide ((128:Int)≤x8)))),(23,(AV.i .i64 x23)),(24,(AV.i .i64 x24))] h))))))
theorem Y9.i2 {Q x1 x4 x5 x8 x23 x24 x37 h} (H:Y9.t2 Q x1 x4 x5 x8 x23 x24 x37 h (Y9.J Q)):Y9.p2 Q x1 x4 x5 x8 x23 x24 x37 h:=gR Y9.J Tryz.f86 Y9.dist [1,1,1,1,0,1,0,0,1,1,0,0,1,1,0,1] H
def Y9.t3 (Q:AV→aA→Prop) (x1 x4:AV) (x5:Int) (x6:Bool) (x23 x24:Int) (h:aA) (J:JT):Prop:=
aR (IntKind.wrap .i64 (x24+1)) fun n49=>
J 2 [(1,x1),(4,x4),(5,(AV.i .i64 x5)),(6,(AV.b x6)),(23,(AV.i .i64 x23)),(24,(AV.i .i64 n49))] h
theorem Y9.i3 {Q x1 x4 x5 x6 x23 x24 h} (H:Y9.t3 Q x1 x4 x5 x6 x23 x24 h (Y9.J Q)):Y9.p3 Q x1 x4 x5 x6 x23 x24 h:=gR Y9.J Tryz.f86 Y9.dist [1,1,1,1,0,1,0,0,1,1,1] H
def Y9.t1 (Q:AV→aA→Prop) (x1 x4:AV) (x5:Int) (x6:Bool) (x23 x24:Int) (h:aA) (J:JT):Prop:=
(bif (decide ((x24:Int)<x23)) then
(aC 3 x1 fun v24=>
aE v24 h fun v25=>
asS v25 fun l26=>
bN (AV.s l26) (AV.i .i64 x24) fun n27=>
(bif (!x6) then
(J 3 [(1,x1),(4,x4),(5,(AV.i .i64 x5)),(8,(AV.i .i64 (IntKind.wrap .i64 n27))),(23,(AV.i .i64 x23)),(24,(AV.i .i64 x24)),(37,(AV.b (decide (((IntKind.wrap .i64 n27):Int)=128))))] h)
else
(J 3 [(1,x1),(4,x4),(5,(AV.i .i64 x5)),(8,(AV.i .i64 (IntKind.wrap .i64 n27))),(23,(AV.i .i64 x23)),(24,(AV.i .i64 x24)),(37,(AV.b false))] h)))
else
((bif x6 then
(Q (AV.tu [(AV.s []),(AV.b false)]) h)
else
(aB 1 x4 (AV.i .i64 0) h fun v54=>
aE v54 h fun v55=>
asI .i64 v55 fun n56=>
kS .i64 n56 40 fun n57=>
aB 1 x4 (AV.i .i64 0) h fun v59=>
aE v59 h fun v60=>
asI .i64 v60 fun n61=>
aR (IntKind.wrap .i64 (40 * (mmI false 2 n57))) fun n62=>
aR (IntKind.wrap .i64 (n61 - n62)) fun n63=>
C Y113.id [(AV.i .i64 (mmI false 2 n57))] h fun v64 h65=>
asS v64 fun l66=>
aE v59 h65 fun v67=>
asI .i64 v67 fun n68=>
((AV.i .i64 n61)=(AV.i .i64 n68) ∧
(aB 1 x4 (AV.i .i64 0) h65 fun v69=>
(v59=v69 ∧
(eI l66 [46] fun l70=>
C Y113.id [(AV.i .i64 n63)] h65 fun v71 h72=>
asS v71 fun l73=>
aE v59 h72 fun v74=>
asI .i64 v74 fun n75=>
((AV.i .i64 n61)=(AV.i .i64 n75) ∧
(aB 1 x4 (AV.i .i64 0) h72 fun v76=>
(v59=v76 ∧
(eI l70 l73 fun l77=>
cV 1 x4 (some (AV.i .i64 1)) none none h72 fun v79=>
bJ v79 fun n80=>
J 5 [(10,(AV.s l77)),(72,v79),(73,(AV.i .i64 n80)),(74,(AV.i .i64 0))] h72))))))))))))
theorem Y9.i1 {Q x1 x4 x5 x6 x23 x24 h} (H:Y9.t1 Q x1 x4 x5 x6 x23 x24 h (Y9.J Q)):Y9.p1 Q x1 x4 x5 x6 x23 x24 h:=gH Y9.J Tryz.f86 Y9.dist [1,1,1,1,0,1,0] H
def Y9.t4 (Q:AV→aA→Prop) (x10:List UInt8) (x72:AV) (x73 x74:Int) (h:aA) (J:JT):Prop:=
(bif (decide ((x74:Int)<x73)) then
(aB 1 x72 (AV.i .i64 x74) h fun v85=>
aE v85 h fun v86=>
asI .i64 v86 fun n87=>
C Y113.id [(AV.i .i64 n87)] h fun v89 h90=>
asS v89 fun l91=>
eI [46] l91 fun l92=>
eI x10 l92 fun l93=>
aR (IntKind.wrap .i64 (x74+1)) fun n95=>
J 5 [(10,(AV.s l93)),(72,x72),(73,(AV.i .i64 x73)),(74,(AV.i .i64 n95))] h90)
else
(Q (AV.tu [(AV.s x10),(AV.b true)]) h))
theorem Y9.i4 {Q x10 x72 x73 x74 h} (H:Y9.t4 Q x10 x72 x73 x74 h (Y9.J Q)):Y9.p4 Q x10 x72 x73 x74 h:=gH Y9.J Tryz.f86 Y9.dist [1,1,1,1,1,1,1,1,0,1,0] H
def Y9.t (Q:AV→aA→Prop) (x0:AV) (h:aA) (J:JT):Prop:=
dQ (some 33) x0 h fun v0 h1=>
aD 5 v0 h1 fun v3=>
C Y42.id [v3,(AV.i .i64 6)] h1 fun v4 h5=>
asB v4 fun c6=>
(bif (!c6) then
(J 1 [(1,v0),(20,(AV.b true))] h5)
else
(aC 3 v0 fun v8=>
aE v8 h5 fun v9=>
asS v9 fun l10=>
J 1 [(1,v0),(20,(AV.b (decide ((l10:List UInt8)=[]))))] h5))
theorem Y9.call {K x0 h} (H:Y9.t (aL h K) x0 h (Y9.J (aL h K))):C Y9.id [x0] h K:=
 gC Y9.J Tryz.func86 Y9.dist H
noncomputable def Y66.body:Code:=(Tryz.f87.body).getD .skip
def Y66.ann:Ann:=(sl [1] (sq [1] (.seq 1 [1,16] lf (.br (sl [2,3] lf) lf)) (sq [1] (sl [1,21] (.br (sl [2,3] lf) lf)) (sl [2,3] lf))))
theorem Y66.dist:aV (places Y66.ann Y66.body)=true:=by kernel_rfl
noncomputable def Y66.J (Q:AV→aA→Prop):JT:=bY prog C Tryz.f87 Y66.ann Y66.body Q
def Y66.p0 (Q:AV→aA→Prop) (x1:AV) (x16:Bool) (h:aA):Prop:=Y66.J Q 1 [(1,x1),(16,(AV.b x16))] h
def Y66.t0 (Q:AV→aA→Prop) (x1:AV) (x16:Bool) (h:aA) (J:JT):Prop:=
(bif x16 then
(Q (AV.tu [(AV.s []),(AV.b false)]) h)
else
(aC 3 x1 fun v20=>
aE v20 h fun v21=>
asS v21 fun l22=>
fM (AV.s l22) h fun v23 h24=>
C Y49.id [v23,(AV.fn (.func Y62.id) [] [])] h24 fun v25 h26=>
asB v25 fun c27=>
(bif (!c27) then
(Q (AV.tu [(AV.s []),(AV.b false)]) h26)
else
(aC 3 x1 fun v31=>
aE v31 h26 fun v32=>
asS v32 fun l33=>
Q (AV.tu [(AV.s l33),(AV.b true)]) h26))))
theorem Y66.i0 {Q x1 x16 h} (H:Y66.t0 Q x1 x16 h (Y66.J Q)):Y66.p0 Q x1 x16 h:=gR Y66.J Tryz.f87 Y66.dist [1,0,1] H
def Y66.t (Q:AV→aA→Prop) (x0:AV) (h:aA) (J:JT):Prop:=
dQ (some 33) x0 h fun v0 h1=>
aD 5 v0 h1 fun v3=>
C Y42.id [v3,(AV.i .i64 12)] h1 fun v4 h5=>
asB v4 fun c6=>
(bif (!c6) then
(aD 5 v0 h5 fun v7=>
C Y42.id [v7,(AV.i .i64 19)] h5 fun v8 h9=>
asB v8 fun c10=>
(bif (!c10) then
(aD 5 v0 h9 fun v11=>
C Y42.id [v11,(AV.i .i64 22)] h9 fun v12 h13=>
asB v12 fun c14=>
J 1 [(1,v0),(16,(AV.b (!c14)))] h13)
else
(J 1 [(1,v0),(16,(AV.b false))] h9)))
else
(J 1 [(1,v0),(16,(AV.b false))] h5))
theorem Y66.call {K x0 h} (H:Y66.t (aL h K) x0 h (Y66.J (aL h K))):C Y66.id [x0] h K:=
 gC Y66.J Tryz.func87 Y66.dist H
noncomputable def Y87.body:Code:=(Tryz.f88.body).getD .skip
def Y87.ann:Ann:=(sl [0] (sq [0] (sl [0,6] bl) (sl [2] lf)))
theorem Y87.dist:aV (places Y87.ann Y87.body)=true:=by kernel_rfl
noncomputable def Y87.J (Q:AV→aA→Prop):JT:=bY prog C Tryz.f88 Y87.ann Y87.body Q
def Y87.t (Q:AV→aA→Prop) (x0:AV) (h:aA) (J:JT):Prop:=
bJ x0 fun n1=>
jQ n1 2 fun n2=>
(bif (decide ((n2:Int)=1)) then
(False)
else
(bQ none 1 16 (AV.sl none 0 none) x0 h fun v5 h6=>
iC [(AV.i .u32 0),(AV.i .i32 0),(AV.i .u32 0),AV.ni,(AV.sl none 0 none)] [(4,1,v5)] fun v7=>
dQ (some 149) v7 h6 fun v8 h9=>
Q v8 h9))
theorem Y87.call {K x0 h} (H:Y87.t (aL h K) x0 h (Y87.J (aL h K))):C Y87.id [x0] h K:=
 gC Y87.J Tryz.func88 Y87.dist H
noncomputable def Y86.body:Code:=(Tryz.f89.body).getD .skip
def Y86.ann:Ann:=(sl [0,1] (sl [0,1] (sl [4] lf)))
theorem Y86.dist:aV (places Y86.ann Y86.body)=true:=by kernel_rfl
noncomputable def Y86.J (Q:AV→aA→Prop):JT:=bY prog C Tryz.f89 Y86.ann Y86.body Q
def Y86.t (Q:AV→aA→Prop) (x0:AV) (x1:List UInt8) (h:aA) (J:JT):Prop:=
cC x0 fun v1=>
aC 0 v1 fun v2=>
C Y103.id [v2,(AV.fn (.func Y92.id) [x0] [])] h fun v3 h4=>
cC x0 fun v6=>
aC 3 v6 fun v7=>
aE v7 h4 fun v8=>
oG prog C v8 "Replace" [(AV.s x1)] h4 fun v9 h10=>
asS v9 fun l11=>
Q (AV.s l11) h10
theorem Y86.call {K x0 x1 h} (H:Y86.t (aL h K) x0 x1 h (Y86.J (aL h K))):C Y86.id [x0,(AV.s x1)] h K:=
 gC Y86.J Tryz.func89 Y86.dist H
noncomputable def Y100.body:Code:=(Tryz.f91.body).getD .skip
def Y100.ann:Ann:=(sl [0,1] (sq [0,1] (sl [0,1,9] (.br (sl [4,5] lf) lf)) (sl [4,5] lf)))
theorem Y100.dist:aV (places Y100.ann Y100.body)=true:=by kernel_rfl
noncomputable def Y100.J (Q:AV→aA→Prop):JT:=bY prog C Tryz.f91 Y100.ann Y100.body Q
def Y100.t (Q:AV→aA→Prop) (x0 x1:List UInt8) (h:aA) (J:JT):Prop:=
C Y54.id [(AV.s x0),(AV.s x1)] h fun v1 h2=>
asB v1 fun c3=>
(bif (!c3) then
(Q (AV.tu [(AV.s x0),(AV.b false)]) h2)
else
(bV (AV.s x0) (some (AV.i .i64 (x1.length:Int))) none fun l7=>
Q (AV.tu [(AV.s l7),(AV.b true)]) h2))
theorem Y100.call {K x0 x1 h} (H:Y100.t (aL h K) x0 x1 h (Y100.J (aL h K))):C Y100.id [(AV.s x0),(AV.s x1)] h K:=
 gC Y100.J Tryz.func91 Y100.dist H
noncomputable def Y30.body:Code:=(Tryz.f92.body).getD .skip
def Y30.ann:Ann:=(sl [0] (sq [0] (sl [0,9] (.br (sl [2,3,4] lf) lf)) (sq [0,5] (.ord (nn 0 6 (.eff 6 .done .stop))) (sq [0,5] (sl [0,5,16] (.br (sl [2,3,4] lf) lf)) (sl [0,6] (sq [0,6] (.one (.seq 1 [0,6,21] lf (.br (sl [2,3,4] lf) (sl [0,6,28] (.br (sl [2,3,4] lf) lf))))) (sl [0,5,6] (sq [0,5,6] (sl [0,5,6,33,34] (.one (.loop 2 [0,5,6,33,34] (sl [0,5,6,33,34,35] (sq [0,5,6,33,34] bl (sq [0,5,6,33,34] (.one (sl [0,5,6,7,33,34] lf)) lf)))))) (sq [0,5,6] (.seq 3 [0,5,6,54] lf (.br (sl [2,3,4] lf) lf)) (sq [2,3,4] (.ord (nn 0 7 .done)) lf))))))))))
theorem Y30.dist:aV (places Y30.ann Y30.body)=true:=by kernel_rfl
noncomputable def Y30.J (Q:AV→aA→Prop):JT:=bY prog C Tryz.f92 Y30.ann Y30.body Q
def Y30.p0 (Q:AV→aA→Prop) (x0:List UInt8) (x6:Int) (x21:Bool) (h:aA):Prop:=Y30.J Q 1 [(0,(AV.s x0)),(6,(AV.i .i64 x6)),(21,(AV.b x21))] h
def Y30.p1 (Q:AV→aA→Prop) (x0:List UInt8) (x5 x6 x33 x34:Int) (h:aA):Prop:=Y30.J Q 2 [(0,(AV.s x0)),(5,(AV.i .i64 x5)),(6,(AV.i .i64 x6)),(33,(AV.i .i64 x33)),(34,(AV.i .i64 x34))] h
def Y30.p2 (Q:AV→aA→Prop) (x0:List UInt8) (x5 x6:Int) (x54:Bool) (h:aA):Prop:=Y30.J Q 3 [(0,(AV.s x0)),(5,(AV.i .i64 x5)),(6,(AV.i .i64 x6)),(54,(AV.b x54))] h
def Y30.t0 (Q:AV→aA→Prop) (x0:List UInt8) (x6:Int) (x21:Bool) (h:aA) (J:JT):Prop:=
(bif x21 then
(Q (AV.tu [(AV.i .i64 0),(AV.s []),(AV.i .i64 2)]) h)
else
((bif (decide (((x0.length:Int):Int)<x6)) then
(Q (AV.tu [(AV.i .i64 0),(AV.s []),(AV.i .i64 1)]) h)
else
(J 2 [(0,(AV.s x0)),(5,(AV.i .i64 0)),(6,(AV.i .i64 x6)),(33,(AV.i .i64 x6)),(34,(AV.i .i64 0))] h))))
theorem Y30.i0 {Q x0 x6 x21 h} (H:Y30.t0 Q x0 x6 x21 h (Y30.J Q)):Y30.p0 Q x0 x6 x21 h:=gR Y30.J Tryz.f92 Y30.dist [1,1,1,1,1,0,0,1] H
def Y30.t1 (Q:AV→aA→Prop) (x0:List UInt8) (x5 x6 x33 x34:Int) (h:aA) (J:JT):Prop:=
(bif (decide ((x34:Int)<x33)) then
(tF .i64 x5 8 fun n24=>
bN (AV.s x0) (AV.i .i64 x34) fun n25=>
aR (cD .or .i64 n24 (IntKind.wrap .i64 n25)) fun n26=>
aR (IntKind.wrap .i64 (x34+1)) fun n28=>
J 2 [(0,(AV.s x0)),(5,(AV.i .i64 n26)),(6,(AV.i .i64 x6)),(33,(AV.i .i64 x33)),(34,(AV.i .i64 n28))] h)
else
((bif (decide ((x5:Int)<128)) then
(J 3 [(0,(AV.s x0)),(5,(AV.i .i64 x5)),(6,(AV.i .i64 x6)),(54,(AV.b true))] h)
else
(aR (IntKind.wrap .i64 (x6 - 1)) fun n31=>
aR (IntKind.wrap .i64 (8 * n31)) fun n32=>
rE .i64 x5 n32 fun n33=>
J 3 [(0,(AV.s x0)),(5,(AV.i .i64 x5)),(6,(AV.i .i64 x6)),(54,(AV.b (decide ((n33:Int)=0))))] h))))
theorem Y30.i1 {Q x0 x5 x6 x33 x34 h} (H:Y30.t1 Q x0 x5 x6 x33 x34 h (Y30.J Q)):Y30.p1 Q x0 x5 x6 x33 x34 h:=gH Y30.J Tryz.f92 Y30.dist [1,1,1,1,1,1,1,0,1,0] H
def Y30.t2 (Q:AV→aA→Prop) (x0:List UInt8) (x5 x6:Int) (x54:Bool) (h:aA) (J:JT):Prop:=
(bif x54 then
(Q (AV.tu [(AV.i .i64 0),(AV.s []),(AV.i .i64 2)]) h)
else
(bV (AV.s x0) (some (AV.i .i64 x6)) none fun l37=>
Q (AV.tu [(AV.i .i64 x5),(AV.s l37),(AV.i .i64 0)]) h))
theorem Y30.i2 {Q x0 x5 x6 x54 h} (H:Y30.t2 Q x0 x5 x6 x54 h (Y30.J Q)):Y30.p2 Q x0 x5 x6 x54 h:=gR Y30.J Tryz.f92 Y30.dist [1,1,1,1,1,1,1,1,0,1] H
def Y30.t (Q:AV→aA→Prop) (x0:List UInt8) (h:aA) (J:JT):Prop:=
(bif (decide ((x0:List UInt8)=[])) then
(Q (AV.tu [(AV.i .i64 0),(AV.s []),(AV.i .i64 1)]) h)
else
(bN (AV.s x0) (AV.i .i64 0) fun n4=>
bV (AV.s x0) (some (AV.i .i64 1)) none fun l5=>
(bif (decide (((IntKind.wrap .i64 n4):Int)<128)) then
(Q (AV.tu [(AV.i .i64 (IntKind.wrap .i64 n4)),(AV.s l5),(AV.i .i64 0)]) h)
else
(aR (IntKind.wrap .i64 ((IntKind.wrap .i64 n4) - 128)) fun n10=>
(bif (decide ((n10:Int)<1)) then
(J 1 [(0,(AV.s l5)),(6,(AV.i .i64 n10)),(21,(AV.b true))] h)
else
(J 1 [(0,(AV.s l5)),(6,(AV.i .i64 n10)),(21,(AV.b (decide ((3:Int)<n10))))] h))))))
theorem Y30.call {K x0 h} (H:Y30.t (aL h K) x0 h (Y30.J (aL h K))):C Y30.id [(AV.s x0)] h K:=
 gC Y30.J Tryz.func92 Y30.dist H
noncomputable def Y42.body:Code:=(Tryz.f93.body).getD .skip
def Y42.ann:Ann:=(sl [1,2] (.seq 1 [4] lf lf))
theorem Y42.dist:aV (places Y42.ann Y42.body)=true:=by kernel_rfl
noncomputable def Y42.J (Q:AV→aA→Prop):JT:=bY prog C Tryz.f93 Y42.ann Y42.body Q
def Y42.p0 (Q:AV→aA→Prop) (x4:Bool) (h:aA):Prop:=Y42.J Q 1 [(4,(AV.b x4))] h
def Y42.t0 (Q:AV→aA→Prop) (x4:Bool) (h:aA) (J:JT):Prop:=
Q (AV.b x4) h
theorem Y42.i0 {Q x4 h} (H:Y42.t0 Q x4 h (Y42.J Q)):Y42.p0 Q x4 h:=gR Y42.J Tryz.f93 Y42.dist [1,1] H
def Y42.t (Q:AV→aA→Prop) (x0:AV) (x1:Int) (h:aA) (J:JT):Prop:=
dQ (some 33) x0 h fun v0 h1=>
aC 0 v0 fun v3=>
aE v3 h1 fun v4=>
asI .i64 v4 fun n5=>
(bif (decide ((n5:Int)=0)) then
(aC 1 v0 fun v6=>
aE v6 h1 fun v7=>
asI .i64 v7 fun n8=>
(bif (decide ((n8:Int)=x1)) then
(aC 2 v0 fun v9=>
aE v9 h1 fun v10=>
asB v10 fun c11=>
(bif (!c11) then
(aC 4 v0 fun v12=>
aE v12 h1 fun v13=>
bJ v13 fun n14=>
J 1 [(4,(AV.b (decide ((n14:Int)=0))))] h1)
else
(J 1 [(4,(AV.b false))] h1)))
else
(J 1 [(4,(AV.b false))] h1)))
else
(J 1 [(4,(AV.b false))] h1))
theorem Y42.call {K x0 x1 h} (H:Y42.t (aL h K) x0 x1 h (Y42.J (aL h K))):C Y42.id [x0,(AV.i .i64 x1)] h K:=
 gC Y42.J Tryz.func93 Y42.dist H
noncomputable def Y49.body:Code:=(Tryz.f94.body).getD .skip
def Y49.ann:Ann:=(sl [0,1] (sq [] (sl [1,7,8,9] (.one (.loop 1 [1,7,8,9] (sl [1,7,8,9,10] (sq [1,7,8,9] bl (sq [1,7,8,9] (.one (sl [1,6,7,8,9] (sl [1,7,8,9,16] (.br (sl [4] lf) lf)))) lf)))))) (sl [4] lf)))
theorem Y49.dist:aV (places Y49.ann Y49.body)=true:=by kernel_rfl
noncomputable def Y49.J (Q:AV→aA→Prop):JT:=bY prog C Tryz.f94 Y49.ann Y49.body Q
def Y49.p0 (Q:AV→aA→Prop) (x1 x7:AV) (x8 x9:Int) (h:aA):Prop:=Y49.J Q 1 [(1,x1),(7,x7),(8,(AV.i .i64 x8)),(9,(AV.i .i64 x9))] h
def Y49.t0 (Q:AV→aA→Prop) (x1 x7:AV) (x8 x9:Int) (h:aA) (J:JT):Prop:=
(bif (decide ((x9:Int)<x8)) then
(aB 1 x7 (AV.i .i64 x9) h fun v6=>
aE v6 h fun v7=>
asI .u8 v7 fun n8=>
eK C x1 [(AV.i .u8 n8)] h fun v10 h11=>
asB v10 fun c12=>
(bif (!c12) then
(Q (AV.b false) h11)
else
(aR (IntKind.wrap .i64 (x9+1)) fun n16=>
J 1 [(1,x1),(7,x7),(8,(AV.i .i64 x8)),(9,(AV.i .i64 n16))] h11)))
else
(Q (AV.b true) h))
theorem Y49.i0 {Q x1 x7 x8 x9 h} (H:Y49.t0 Q x1 x7 x8 x9 h (Y49.J Q)):Y49.p0 Q x1 x7 x8 x9 h:=gH Y49.J Tryz.f94 Y49.dist [1,0,1,0] H
def Y49.t (Q:AV→aA→Prop) (x0 x1:AV) (h:aA) (J:JT):Prop:=
bJ x0 fun n1=>
J 1 [(1,x1),(7,x0),(8,(AV.i .i64 n1)),(9,(AV.i .i64 0))] h
theorem Y49.call {K x0 x1 h} (H:Y49.t (aL h K) x0 x1 h (Y49.J (aL h K))):C Y49.id [x0,x1] h K:=
 gC Y49.J Tryz.func94 Y49.dist H
noncomputable def Y64.body:Code:=(Tryz.f95.body).getD .skip
def Y64.ann:Ann:=(sl [0] (.seq 1 [2] lf lf))
theorem Y64.dist:aV (places Y64.ann Y64.body)=true:=by kernel_rfl
noncomputable def Y64.J (Q:AV→aA→Prop):JT:=bY prog C Tryz.f95 Y64.ann Y64.body Q
def Y64.p0 (Q:AV→aA→Prop) (x2:Bool) (h:aA):Prop:=Y64.J Q 1 [(2,(AV.b x2))] h
def Y64.t0 (Q:AV→aA→Prop) (x2:Bool) (h:aA) (J:JT):Prop:=
Q (AV.b x2) h
theorem Y64.i0 {Q x2 h} (H:Y64.t0 Q x2 h (Y64.J Q)):Y64.p0 Q x2 h:=gR Y64.J Tryz.f95 Y64.dist [1,1] H
def Y64.t (Q:AV→aA→Prop) (x0:Int) (h:aA) (J:JT):Prop:=
(bif (decide ((48:Int)≤x0)) then
(J 1 [(2,(AV.b (decide ((x0:Int)≤57))))] h)
else
(J 1 [(2,(AV.b false))] h))
theorem Y64.call {K x0 h} (H:Y64.t (aL h K) x0 h (Y64.J (aL h K))):C Y64.id [(AV.i .u8 x0)] h K:=
 gC Y64.J Tryz.func95 Y64.dist H
noncomputable def Y54.body:Code:=(Tryz.f96.body).getD .skip
def Y54.ann:Ann:=(sl [0,1] (.seq 1 [4] lf lf))
theorem Y54.dist:aV (places Y54.ann Y54.body)=true:=by kernel_rfl
noncomputable def Y54.J (Q:AV→aA→Prop):JT:=bY prog C Tryz.f96 Y54.ann Y54.body Q
def Y54.p0 (Q:AV→aA→Prop) (x4:Bool) (h:aA):Prop:=Y54.J Q 1 [(4,(AV.b x4))] h
def Y54.t0 (Q:AV→aA→Prop) (x4:Bool) (h:aA) (J:JT):Prop:=
Q (AV.b x4) h
theorem Y54.i0 {Q x4 h} (H:Y54.t0 Q x4 h (Y54.J Q)):Y54.p0 Q x4 h:=gR Y54.J Tryz.f96 Y54.dist [1,1] H
def Y54.t (Q:AV→aA→Prop) (x0 x1:List UInt8) (h:aA) (J:JT):Prop:=
(bif (decide (((x1.length:Int):Int)≤(x0.length:Int))) then
(bV (AV.s x0) none (some (AV.i .i64 (x1.length:Int))) fun l1=>
J 1 [(4,(AV.b (decide ((l1:List UInt8)=x1))))] h)
else
(J 1 [(4,(AV.b false))] h))
theorem Y54.call {K x0 x1 h} (H:Y54.t (aL h K) x0 x1 h (Y54.J (aL h K))):C Y54.id [(AV.s x0),(AV.s x1)] h K:=
 gC Y54.J Tryz.func96 Y54.dist H
noncomputable def Y31.body:Code:=(Tryz.f97.body).getD .skip
def Y31.ann:Ann:=(sl [0,1] (sq [0,1] (sl [0,1,15] (.br (sl [4,5] lf) lf)) (sq [0,1,6] (.ord (nn 0 11 .done)) (sl [0,1,6] (sq [0,1,6] (sl [0,1,6,34] (.br (sl [4,5] lf) lf)) (sl [0,1,7] (sq [0,1,7] (.seq 1 [0,1,7,43] lf (.br (sl [4,5] lf) lf)) (sq [0,7] (sl [0,7,51] (.br (sl [4,5] lf) lf)) (sl [0,7,8] (sq [0,7,8] (sl [0,7,8,9] (.one (.loop 2 [0,7,8,9] (sq [0,7,8,9] (sl [0,7,8,9,54] bl) (sq [0,7,8,9] (.one (.ord (nn 0 15 (.eff 15 .done .stop)))) lf))))) (sl [7,8] (sq [8] (.seq 3 [8,94] lf (.br (sl [4,5] lf) lf)) (sl [4,5] lf)))))))))))))
theorem Y31.dist:aV (places Y31.ann Y31.body)=true:=by kernel_rfl
noncomputable def Y31.J (Q:AV→aA→Prop):JT:=bY prog C Tryz.f97 Y31.ann Y31.body Q
def Y31.p0 (Q:AV→aA→Prop) (x0:AV) (x1 x7:Int) (x43:Bool) (h:aA):Prop:=Y31.J Q 1 [(0,x0),(1,(AV.i .i64 x1)),(7,(AV.i .i64 x7)),(43,(AV.b x43))] h
def Y31.p1 (Q:AV→aA→Prop) (x0:AV) (x7 x8 x9:Int) (h:aA):Prop:=Y31.J Q 2 [(0,x0),(7,(AV.i .i64 x7)),(8,(AV.i .i64 x8)),(9,(AV.i .i64 x9))] h
def Y31.p2 (Q:AV→aA→Prop) (x8:Int) (x94:Bool) (h:aA):Prop:=Y31.J Q 3 [(8,(AV.i .i64 x8)),(94,(AV.b x94))] h
def Y31.t0 (Q:AV→aA→Prop) (x0:AV) (x1 x7:Int) (x43:Bool) (h:aA) (J:JT):Prop:=
(bif x43 then
(Q (AV.tu [(AV.i .i64 0),(AV.i .i64 2)]) h)
else
(cC x0 fun v36=>
aC 1 v36 fun v37=>
aE v37 h fun v38=>
asI .i64 v38 fun n39=>
aR (IntKind.wrap .i64 (x1 - n39)) fun n40=>
(bif (decide ((n40:Int)<x7)) then
(Q (AV.tu [(AV.i .i64 0),(AV.i .i64 1)]) h)
else
(J 2 [(0,x0),(7,(AV.i .i64 x7)),(8,(AV.i .i64 0)),(9,(AV.i .i64 0))] h))))
theorem Y31.i0 {Q x0 x1 x7 x43 h} (H:Y31.t0 Q x0 x1 x7 x43 h (Y31.J Q)):Y31.p0 Q x0 x1 x7 x43 h:=gR Y31.J Tryz.f97 Y31.dist [1,1,1,1,1,1,0,1] H
def Y31.t1 (Q:AV→aA→Prop) (x0:AV) (x7 x8 x9:Int) (h:aA) (J:JT):Prop:=
(bif (decide ((x9:Int)<x7)) then
(tF .i64 x8 8 fun n49=>
cC x0 fun v50=>
aC 0 v50 fun v51=>
aE v51 h fun v52=>
asS v52 fun l53=>
cC x0 fun v54=>
aC 1 v54 fun v55=>
aE v55 h fun v56=>
asI .i64 v56 fun n57=>
aR (IntKind.wrap .i64 (n57+x9)) fun n58=>
bN (AV.s l53) (AV.i .i64 n58) fun n59=>
aR (cD .or .i64 n49 (IntKind.wrap .i64 n59)) fun n60=>
aR (IntKind.wrap .i64 (x9+1)) fun n62=>
J 2 [(0,x0),(7,(AV.i .i64 x7)),(8,(AV.i .i64 n60)),(9,(AV.i .i64 n62))] h)
else
(cC x0 fun v64=>
aC 1 v64 fun v65=>
aE v65 h fun v66=>
asI .i64 v66 fun n67=>
aR (IntKind.wrap .i64 (n67+x7)) fun n68=>
cC x0 fun v69=>
aC 1 v69 fun v70=>
aP 1 v70 (AV.i .i64 n68) h fun h71=>
(bif (decide ((x8:Int)<128)) then
(J 3 [(8,(AV.i .i64 x8)),(94,(AV.b true))] h71)
else
((bif (decide ((1:Int)<x7)) then
(aR (IntKind.wrap .i64 (x7 - 1)) fun n74=>
aR (IntKind.wrap .i64 (8 * n74)) fun n75=>
tF .i64 1 (IntKind.wrap .u64 n75) fun n76=>
J 3 [(8,(AV.i .i64 x8)),(94,(AV.b (decide ((x8:Int)<n76))))] h71)
else
(J 3 [(8,(AV.i .i64 x8)),(94,(AV.b false))] h71))))))
theorem Y31.i1 {Q x0 x7 x8 x9 h} (H:Y31.t1 Q x0 x7 x8 x9 h (Y31.J Q)):Y31.p1 Q x0 x7 x8 x9 h:=gH Y31.J Tryz.f97 Y31.dist [1,1,1,1,1,1,1,1,1,0,1,0] H
def Y31.t2 (Q:AV→aA→Prop) (x8:Int) (x94:Bool) (h:aA) (J:JT):Prop:=
(bif x94 then
(Q (AV.tu [(AV.i .i64 0),(AV.i .i64 2)]) h)
else
(Q (AV.tu [(AV.i .i64 x8),(AV.i .i64 0)]) h))
theorem Y31.i2 {Q x8 x94 h} (H:Y31.t2 Q x8 x94 h (Y31.J Q)):Y31.p2 Q x8 x94 h:=gR Y31.J Tryz.f97 Y31.dist [1,1,1,1,1,1,1,1,1,1,1,0,1] H
def Y31.t (Q:AV→aA→Prop) (x0:AV) (x1:Int) (h:aA) (J:JT):Prop:=
cC x0 fun v1=>
aC 1 v1 fun v2=>
aE v2 h fun v3=>
asI .i64 v3 fun n4=>
(bif (decide ((x1:Int)≤n4)) then
(Q (AV.tu [(AV.i .i64 0),(AV.i .i64 1)]) h)
else
(cC x0 fun v8=>
aC 0 v8 fun v9=>
aE v9 h fun v10=>
asS v10 fun l11=>
cC x0 fun v12=>
aC 1 v12 fun v13=>
aE v13 h fun v14=>
asI .i64 v14 fun n15=>
bN (AV.s l11) (AV.i .i64 n15) fun n16=>
cC x0 fun v18=>
aC 1 v18 fun v19=>
aE v19 h fun v20=>
asI .i64 v20 fun n21=>
aR (IntKind.wrap .i64 (n21+1)) fun n22=>
cC x0 fun v23=>
aC 1 v23 fun v24=>
aP 1 v24 (AV.i .i64 n22) h fun h25=>
(bif (decide (((IntKind.wrap .i64 n16):Int)<128)) then
(Q (AV.tu [(AV.i .i64 (IntKind.wrap .i64 n16)),(AV.i .i64 0)]) h25)
else
(aR (IntKind.wrap .i64 ((IntKind.wrap .i64 n16) - 128)) fun n30=>
(bif (decide ((n30:Int)<1)) then
(J 1 [(0,x0),(1,(AV.i .i64 x1)),(7,(AV.i .i64 n30)),(43,(AV.b true))] h25)
else
(J 1 [(0,x0),(1,(AV.i .i64 x1)),(7,(AV.i .i64 n30)),(43,(AV.b (decide ((3:Int)<n30))))] h25))))))
theorem Y31.call {K x0 x1 h} (H:Y31.t (aL h K) x0 x1 h (Y31.J (aL h K))):C Y31.id [x0,(AV.i .i64 x1)] h K:=
 gC Y31.J Tryz.func97 Y31.dist H
noncomputable def Y96.body:Code:=(Tryz.f98.body).getD .skip
def Y96.ann:Ann:=(sl [1] (sl [4,5] (sq [4] (sl [4,12] (.br (sl [2,3] lf) lf)) (sq [] (sl [13] (.one (sl [13,14] (.br (sl [2,3] lf) (sl [13,16] (.br (sl [2,3] lf) (sl [13,18] (.br (sl [2,3] lf) (sl [20] (.br (sl [2,3] lf) lf)))))))))) (sl [2,3] lf)))))
theorem Y96.dist:aV (places Y96.ann Y96.body)=true:=by kernel_rfl
noncomputable def Y96.J (Q:AV→aA→Prop):JT:=bY prog C Tryz.f98 Y96.ann Y96.body Q
def Y96.t (Q:AV→aA→Prop) (x0:AV) (h:aA) (J:JT):Prop:=
dQ (some 33) x0 h fun v0 h1=>
aD 5 v0 h1 fun v3=>
C Y10.id [v3] h1 fun v4 h5=>
aH 0 v4 fun v6=>
asS v6 fun l7=>
aH 1 v4 fun v8=>
asB v8 fun c9=>
(bif (!c9) then
(Q (AV.tu [(AV.s []),(AV.b false)]) h5)
else
((bif (decide ((l7:List UInt8)=[50,46,53,46,52,46,51])) then
(Q (AV.tu [(AV.s [67,78]),(AV.b true)]) h5)
else
(sX (decide ((l7:List UInt8)=[50,46,53,46,52,46,49,48])) fun c17=>
(bif c17 then
(Q (AV.tu [(AV.s [79]),(AV.b true)]) h5)
else
(sX (decide ((l7:List UInt8)=[50,46,53,46,52,46,49,49])) fun c20=>
(bif c20 then
(Q (AV.tu [(AV.s [79,85]),(AV.b true)]) h5)
else
((bif (decide ((l7:List UInt8)=[50,46,53,46,52,46,54])) then
(Q (AV.tu [(AV.s [67]),(AV.b true)]) h5)
else
(Q (AV.tu [(AV.s []),(AV.b false)]) h5))))))))))
theorem Y96.call {K x0 h} (H:Y96.t (aL h K) x0 h (Y96.J (aL h K))):C Y96.id [x0] h K:=
 gC Y96.J Tryz.func98 Y96.dist H
noncomputable def Y28.body:Code:=(Tryz.f99.body).getD .skip
def Y28.ann:Ann:=(sl [1] (sq [1] (.seq 1 [1,17] lf (.br (sl [2,3] lf) lf)) (sq [1] (sl [1,4] (.one (.loop 2 [1,4] (sq [1,4] (sl [1,4,22] bl) (sq [1,4] (.one (.seq 3 [1,4,36] lf (.br (sl [2,3] lf) lf))) lf))))) (sl [2,3] lf))))
theorem Y28.dist:aV (places Y28.ann Y28.body)=true:=by kernel_rfl
noncomputable def Y28.J (Q:AV→aA→Prop):JT:=bY prog C Tryz.f99 Y28.ann Y28.body Q
def Y28.p0 (Q:AV→aA→Prop) (x1:AV) (x17:Bool) (h:aA):Prop:=Y28.J Q 1 [(1,x1),(17,(AV.b x17))] h
def Y28.p2 (Q:AV→aA→Prop) (x1:AV) (x4:Int) (x36:Bool) (h:aA):Prop:=Y28.J Q 3 [(1,x1),(4,(AV.i .i64 x4)),(36,(AV.b x36))] h
def Y28.p1 (Q:AV→aA→Prop) (x1:AV) (x4:Int) (h:aA):Prop:=Y28.J Q 2 [(1,x1),(4,(AV.i .i64 x4))] h
def Y28.t0 (Q:AV→aA→Prop) (x1:AV) (x17:Bool) (h:aA) (J:JT):Prop:=
(bif x17 then
(Q (AV.tu [(AV.s []),(AV.b false)]) h)
else
(J 2 [(1,x1),(4,(AV.i .i64 0))] h))
theorem Y28.i0 {Q x1 x17 h} (H:Y28.t0 Q x1 x17 h (Y28.J Q)):Y28.p0 Q x1 x17 h:=gR Y28.J Tryz.f99 Y28.dist [1,0,1] H
def Y28.t2 (Q:AV→aA→Prop) (x1:AV) (x4:Int) (x36:Bool) (h:aA) (J:JT):Prop:=
(bif x36 then
(Q (AV.tu [(AV.s []),(AV.b false)]) h)
else
(aR (IntKind.wrap .i64 (x4+1)) fun n39=>
J 2 [(1,x1),(4,(AV.i .i64 n39))] h))
theorem Y28.i2 {Q x1 x4 x36 h} (H:Y28.t2 Q x1 x4 x36 h (Y28.J Q)):Y28.p2 Q x1 x4 x36 h:=gR Y28.J Tryz.f99 Y28.dist [1,1,0,1,0,0,1,0,0,1] H
def Y28.t1 (Q:AV→aA→Prop) (x1:AV) (x4:Int) (h:aA) (J:JT):Prop:=
aC 3 x1 fun v21=>
aE v21 h fun v22=>
asS v22 fun l23=>
(bif (decide ((x4:Int)<(l23.length:Int))) then
(aC 3 x1 fun v27=>
aE v27 h fun v28=>
asS v28 fun l29=>
bN (AV.s l29) (AV.i .i64 x4) fun n30=>
(bif (decide ((n30:Int)<32)) then
(J 3 [(1,x1),(4,(AV.i .i64 x4)),(36,(AV.b true))] h)
else
(aC 3 x1 fun v32=>
aE v32 h fun v33=>
asS v33 fun l34=>
bN (AV.s l34) (AV.i .i64 x4) fun n35=>
J 3 [(1,x1),(4,(AV.i .i64 x4)),(36,(AV.b (decide ((126:Int)<n35))))] h)))
else
(aC 3 x1 fun v41=>
aE v41 h fun v42=>
asS v42 fun l43=>
Q (AV.tu [(AV.s l43),(AV.b true)]) h))
theorem Y28.i1 {Q x1 x4 h} (H:Y28.t1 Q x1 x4 h (Y28.J Q)):Y28.p1 Q x1 x4 h:=gH Y28.J Tryz.f99 Y28.dist [1,1,0,1,0] H
def Y28.t (Q:AV→aA→Prop) (x0:AV) (h:aA) (J:JT):Prop:=
dQ (some 33) x0 h fun v0 h1=>
aD 5 v0 h1 fun v3=>
C Y44.id [v3,(AV.i .i64 12)] h1 fun v4 h5=>
asB v4 fun c6=>
(bif (!c6) then
(aD 5 v0 h5 fun v7=>
C Y44.id [v7,(AV.i .i64 19)] h5 fun v8 h9=>
asB v8 fun c10=>
(bif (!c10) then
(aD 5 v0 h9 fun v11=>
C Y44.id [v11,(AV.i .i64 22)] h9 fun v12 h13=>
asB v12 fun c14=>
J 1 [(1,v0),(17,(AV.b (!c14)))] h13)
else
(J 1 [(1,v0),(17,(AV.b false))] h9)))
else
(J 1 [(1,v0),(17,(AV.b false))] h5))
theorem Y28.call {K x0 h} (H:Y28.t (aL h K) x0 h (Y28.J (aL h K))):C Y28.id [x0] h K:=
 gC Y28.J Tryz.func99 Y28.dist H
noncomputable def Y44.body:Code:=(Tryz.f100.body).getD .skip
def Y44.ann:Ann:=(sl [1,2] (.seq 1 [4] lf lf))
theorem Y44.dist:aV (places Y44.ann Y44.body)=true:=by kernel_rfl
noncomputable def Y44.J (Q:AV→aA→Prop):JT:=bY prog C Tryz.f100 Y44.ann Y44.body Q
def Y44.p0 (Q:AV→aA→Prop) (x4:Bool) (h:aA):Prop:=Y44.J Q 1 [(4,(AV.b x4))] h
def Y44.t0 (Q:AV→aA→Prop) (x4:Bool) (h:aA) (J:JT):Prop:=
Q (AV.b x4) h
theorem Y44.i0 {Q x4 h} (H:Y44.t0 Q x4 h (Y44.J Q)):Y44.p0 Q x4 h:=gR Y44.J Tryz.f100 Y44.dist [1,1] H
def Y44.t (Q:AV→aA→Prop) (x0:AV) (x1:Int) (h:aA) (J:JT):Prop:=
dQ (some 33) x0 h fun v0 h1=>
aC 0 v0 fun v3=>
aE v3 h1 fun v4=>
asI .i64 v4 fun n5=>
(bif (decide ((n5:Int)=0)) then
(aC 1 v0 fun v6=>
aE v6 h1 fun v7=>
asI .i64 v7 fun n8=>
(bif (decide ((n8:Int)=x1)) then
(aC 2 v0 fun v9=>
aE v9 h1 fun v10=>
asB v10 fun c11=>
(bif (!c11) then
(aC 4 v0 fun v12=>
aE v12 h1 fun v13=>
bJ v13 fun n14=>
J 1 [(4,(AV.b (decide ((n14:Int)=0))))] h1)
else
(J 1 [(4,(AV.b false))] h1)))
else
(J 1 [(4,(AV.b false))] h1)))
else
(J 1 [(4,(AV.b false))] h1))
theorem Y44.call {K x0 x1 h} (H:Y44.t (aL h K) x0 x1 h (Y44.J (aL h K))):C Y44.id [x0,(AV.i .i64 x1)] h K:=
 gC Y44.J Tryz.func100 Y44.dist H
noncomputable def Y21.body:Code:=(Tryz.f101.body).getD .skip
def Y21.ann:Ann:=(sl [0,1,2,3,4,5] (sl [0,1,2,3,4,5,13] (sq [0,1,2,3,4,5,13] (sl [0,1,2,3,4,5,13,14] (.one (.loop 1 [0,1,2,3,4,5,13,14] (sq [0,1,2,3,4,5,13,14] (sl [0,1,2,3,4,5,13,14,18] bl) (.seq 2 [0,1,2,3,4,5,13,14] (.one (sl [0,1,2,3,4,5,13,14] (sl [0,1,2,3,4,5,13,14,24] bl))) lf))))) (sq [2,3,4,5,13] (sl [0,1,2,3,4,5,13,15] (.one (.loop 3 [0,1,2,3,4,5,13,15] (sq [0,1,2,3,4,5,13,15] (sl [0,1,2,3,4,5,13,15,29] bl) (sq [0,1,2,3,4,5,13,15] (.one lf) lf))))) (sl [12] lf)))))
theorem Y21.dist:aV (places Y21.ann Y21.body)=true:=by kernel_rfl
noncomputable def Y21.J (Q:AV→aA→Prop):JT:=bY prog C Tryz.f101 Y21.ann Y21.body Q
def Y21.p1 (Q:AV→aA→Prop) (x0 x1 x2 x3 x4 x5 x13 x14:Int) (h:aA):Prop:=Y21.J Q 2 [(0,(AV.i .i64 x0)),(1,(AV.i .i64 x1)),(2,(AV.i .i64 x2)),(3,(AV.i .i64 x3)),(4,(AV.i .i64 x4)),(5,(AV.i .i64 x5)),(13,(AV.i .i64 x13)),(14,(AV.i .i64 x14))] h
def Y21.p0 (Q:AV→aA→Prop) (x0 x1 x2 x3 x4 x5 x13 x14:Int) (h:aA):Prop:=Y21.J Q 1 [(0,(AV.i .i64 x0)),(1,(AV.i .i64 x1)),(2,(AV.i .i64 x2)),(3,(AV.i .i64 x3)),(4,(AV.i .i64 x4)),(5,(AV.i .i64 x5)),(13,(AV.i .i64 x13)),(14,(AV.i .i64 x14))] h
def Y21.p2 (Q:AV→aA→Prop) (x0 x1 x2 x3 x4 x5 x13 x15:Int) (h:aA):Prop:=Y21.J Q 3 [(0,(AV.i .i64 x0)),(1,(AV.i .i64 x1)),(2,(AV.i .i64 x2)),(3,(AV.i .i64 x3)),(4,(AV.i .i64 x4)),(5,(AV.i .i64 x5)),(13,(AV.i .i64 x13)),(15,(AV.i .i64 x15))] h
def Y21.t1 (Q:AV→aA→Prop) (x0 x1 x2 x3 x4 x5 x13 x14:Int) (h:aA) (J:JT):Prop:=
aR (IntKind.wrap .i64 (x14+1)) fun n15=>
J 1 [(0,(AV.i .i64 x0)),(1,(AV.i .i64 x1)),(2,(AV.i .i64 x2)),(3,(AV.i .i64 x3)),(4,(AV.i .i64 x4)),(5,(AV.i .i64 x5)),(13,(AV.i .i64 x13)),(14,(AV.i .i64 n15))] h
theorem Y21.i1 {Q x0 x1 x2 x3 x4 x5 x13 x14 h} (H:Y21.t1 Q x0 x1 x2 x3 x4 x5 x13 x14 h (Y21.J Q)):Y21.p1 Q x0 x1 x2 x3 x4 x5 x13 x14 h:=gR Y21.J Tryz.f101 Y21.dist [1,1,0,1,0,0,1,1] H
def Y21.t0 (Q:AV→aA→Prop) (x0 x1 x2 x3 x4 x5 x13 x14:Int) (h:aA) (J:JT):Prop:=
(bif (decide ((x14:Int)<x0)) then
(aR (IntKind.wrap .i64 (x13+365)) fun n6=>
C Y61.id [(AV.i .i64 x14)] h fun v8 h9=>
asB v8 fun c10=>
(bif c10 then
(aR (IntKind.wrap .i64 (n6+1)) fun n12=>
J 2 [(0,(AV.i .i64 x0)),(1,(AV.i .i64 x1)),(2,(AV.i .i64 x2)),(3,(AV.i .i64 x3)),(4,(AV.i .i64 x4)),(5,(AV.i .i64 x5)),(13,(AV.i .i64 n12)),(14,(AV.i .i64 x14))] h9)
else
(J 2 [(0,(AV.i .i64 x0)),(1,(AV.i .i64 x1)),(2,(AV.i .i64 x2)),(3,(AV.i .i64 x3)),(4,(AV.i .i64 x4)),(5,(AV.i .i64 x5)),(13,(AV.i .i64 n6)),(14,(AV.i .i64 x14))] h9)))
else
(J 3 [(0,(AV.i .i64 x0)),(1,(AV.i .i64 x1)),(2,(AV.i .i64 x2)),(3,(AV.i .i64 x3)),(4,(AV.i .i64 x4)),(5,(AV.i .i64 x5)),(13,(AV.i .i64 x13)),(15,(AV.i .i64 1))] h))
theorem Y21.i0 {Q x0 x1 x2 x3 x4 x5 x13 x14 h} (H:Y21.t0 Q x0 x1 x2 x3 x4 x5 x13 x14 h (Y21.J Q)):Y21.p0 Q x0 x1 x2 x3 x4 x5 x13 x14 h:=gH Y21.J Tryz.f101 Y21.dist [1,1,0,1,0] H
def Y21.t2 (Q:AV→aA→Prop) (x0 x1 x2 x3 x4 x5 x13 x15:Int) (h:aA) (J:JT):Prop:=
(bif (decide ((x15:Int)<x1)) then
(C Y58.id [(AV.i .i64 x0),(AV.i .i64 x15)] h fun v21 h22=>
asI .i64 v21 fun n23=>
aR (IntKind.wrap .i64 (x13+n23)) fun n24=>
aR (IntKind.wrap .i64 (x15+1)) fun n26=>
J 3 [(0,(AV.i .i64 x0)),(1,(AV.i .i64 x1)),(2,(AV.i .i64 x2)),(3,(AV.i .i64 x3)),(4,(AV.i .i64 x4)),(5,(AV.i .i64 x5)),(13,(AV.i .i64 n24)),(15,(AV.i .i64 n26))] h22)
else
(aR (IntKind.wrap .i64 (x13+x2)) fun n28=>
aR (IntKind.wrap .i64 (n28 - 1)) fun n29=>
aR (IntKind.wrap .i64 (n29 * 86400)) fun n30=>
aR (IntKind.wrap .i64 (x3 * 3600)) fun n31=>
aR (IntKind.wrap .i64 (n30+n31)) fun n32=>
aR (IntKind.wrap .i64 (x4 * 60)) fun n33=>
aR (IntKind.wrap .i64 (n32+n33)) fun n34=>
aR (IntKind.wrap .i64 (n34+x5)) fun n35=>
Q (AV.i .i64 n35) h))
theorem Y21.i2 {Q x0 x1 x2 x3 x4 x5 x13 x15 h} (H:Y21.t2 Q x0 x1 x2 x3 x4 x5 x13 x15 h (Y21.J Q)):Y21.p2 Q x0 x1 x2 x3 x4 x5 x13 x15 h:=gH Y21.J Tryz.f101 Y21.dist [1,1,1,0,1,0] H
def Y21.t (Q:AV→aA→Prop) (x0 x1 x2 x3 x4 x5:Int) (h:aA) (J:JT):Prop:=
J 1 [(0,(AV.i .i64 x0)),(1,(AV.i .i64 x1)),(2,(AV.i .i64 x2)),(3,(AV.i .i64 x3)),(4,(AV.i .i64 x4)),(5,(AV.i .i64 x5)),(13,(AV.i .i64 0)),(14,(AV.i .i64 1970))] h
theorem Y21.call {K x0 x1 x2 x3 x4 x5 h} (H:Y21.t (aL h K) x0 x1 x2 x3 x4 x5 h (Y21.J (aL h K))):C Y21.id [(AV.i .i64 x0),(AV.i .i64 x1),(AV.i .i64 x2),(AV.i .i64 x3),(AV.i .i64 x4),(AV.i .i64 x5)] h K:=
 gC Y21.J Tryz.func101 Y21.dist H
noncomputable def Y52.body:Code:=(Tryz.f102.body).getD .skip
def Y52.ann:Ann:=(sl [1] (sl [1,5] (sq [1,5] (.seq 1 [1,5,43] lf (.br (sl [2,3,4] lf) lf)) (sl [1,5,6,7] (sq [2,3,4] (.ord (nn 0 12 .done)) lf)))))
theorem Y52.dist:aV (places Y52.ann Y52.body)=true:=by kernel_rfl
noncomputable def Y52.J (Q:AV→aA→Prop):JT:=bY prog C Tryz.f102 Y52.ann Y52.body Q
def Y52.p0 (Q:AV→aA→Prop) (x1:AV) (x5:Int) (x43:Bool) (h:aA):Prop:=Y52.J Q 1 [(1,x1),(5,(AV.i .i64 x5)),(43,(AV.b x43))] h
def Y52.t0 (Q:AV→aA→Prop) (x1:AV) (x5:Int) (x43:Bool) (h:aA) (J:JT):Prop:=
(bif x43 then
(Q (AV.tu [(AV.s []),(AV.s []),(AV.b false)]) h)
else
(aC 4 x1 fun v42=>
aE v42 h fun v43=>
aB 5 v43 (AV.i .i64 0) h fun v44=>
aD 5 v44 h fun v45=>
C Y10.id [v45] h fun v46 h47=>
aH 0 v46 fun v48=>
asS v48 fun l49=>
aH 1 v46 fun v50=>
asB v50 fun c51=>
aC 4 x1 fun v53=>
aE v53 h47 fun v54=>
aR (IntKind.wrap .i64 (x5 - 1)) fun n55=>
aB 5 v54 (AV.i .i64 n55) h47 fun v56=>
aC 3 v56 fun v57=>
aE v57 h47 fun v58=>
asS v58 fun l59=>
Q (AV.tu [(AV.s l49),(AV.s l59),(AV.b c51)]) h47))
theorem Y52.i0 {Q x1 x5 x43 h} (H:Y52.t0 Q x1 x5 x43 h (Y52.J Q)):Y52.p0 Q x1 x5 x43 h:=gR Y52.J Tryz.f102 Y52.dist [1,1,0,1] H
def Y52.t (Q:AV→aA→Prop) (x0:AV) (h:aA) (J:JT):Prop:=
dQ (some 33) x0 h fun v0 h1=>
aC 4 v0 fun v3=>
aE v3 h1 fun v4=>
bJ v4 fun n5=>
aD 5 v0 h1 fun v7=>
C Y33.id [v7,(AV.i .i64 0),(AV.i .i64 16),(AV.b true)] h1 fun v8 h9=>
asB v8 fun c10=>
(bif (!c10) then
(J 1 [(1,v0),(5,(AV.i .i64 n5)),(43,(AV.b true))] h9)
else
((bif (decide ((n5:Int)<2)) then
(J 1 [(1,v0),(5,(AV.i .i64 n5)),(43,(AV.b true))] h9)
else
((bif (decide ((3:Int)<n5)) then
(J 1 [(1,v0),(5,(AV.i .i64 n5)),(43,(AV.b true))] h9)
else
((bif (decide ((n5:Int)=3)) then
(aC 4 v0 fun v14=>
aE v14 h9 fun v15=>
aB 5 v15 (AV.i .i64 1) h9 fun v16=>
aD 5 v16 h9 fun v17=>
C Y60.id [v17] h9 fun v18 h19=>
asB v18 fun c20=>
(bif (!c20) then
(J 1 [(1,v0),(5,(AV.i .i64 n5)),(43,(AV.b true))] h19)
else
(aC 4 v0 fun v22=>
aE v22 h19 fun v23=>
aR (IntKind.wrap .i64 (n5 - 1)) fun n24=>
aB 5 v23 (AV.i .i64 n24) h19 fun v25=>
aD 5 v25 h19 fun v26=>
C Y33.id [v26,(AV.i .i64 0),(AV.i .i64 4),(AV.b false)] h19 fun v27 h28=>
asB v27 fun c29=>
J 1 [(1,v0),(5,(AV.i .i64 n5)),(43,(AV.b (!c29)))] h28)))
else
(aC 4 v0 fun v31=>
aE v31 h9 fun v32=>
aR (IntKind.wrap .i64 (n5 - 1)) fun n33=>
aB 5 v32 (AV.i .i64 n33) h9 fun v34=>
aD 5 v34 h9 fun v35=>
C Y33.id [v35,(AV.i .i64 0),(AV.i .i64 4),(AV.b false)] h9 fun v36 h37=>
asB v36 fun c38=>
J 1 [(1,v0),(5,(AV.i .i64 n5)),(43,(AV.b (!c38)))] h37))))))))
theorem Y52.call {K x0 h} (H:Y52.t (aL h K) x0 h (Y52.J (aL h K))):C Y52.id [x0] h K:=
 gC Y52.J Tryz.func102 Y52.dist H
noncomputable def Y60.body:Code:=(Tryz.f103.body).getD .skip
def Y60.ann:Ann:=(sl [1] (.seq 1 [2] lf lf))
theorem Y60.dist:aV (places Y60.ann Y60.body)=true:=by kernel_rfl
noncomputable def Y60.J (Q:AV→aA→Prop):JT:=bY prog C Tryz.f103 Y60.ann Y60.body Q
def Y60.p0 (Q:AV→aA→Prop) (x2:Bool) (h:aA):Prop:=Y60.J Q 1 [(2,(AV.b x2))] h
def Y60.t0 (Q:AV→aA→Prop) (x2:Bool) (h:aA) (J:JT):Prop:=
Q (AV.b x2) h
theorem Y60.i0 {Q x2 h} (H:Y60.t0 Q x2 h (Y60.J Q)):Y60.p0 Q x2 h:=gR Y60.J Tryz.f103 Y60.dist [1,1] H
def Y60.t (Q:AV→aA→Prop) (x0:AV) (h:aA) (J:JT):Prop:=
dQ (some 33) x0 h fun v0 h1=>
aD 5 v0 h1 fun v3=>
C Y33.id [v3,(AV.i .i64 0),(AV.i .i64 1),(AV.b false)] h1 fun v4 h5=>
asB v4 fun c6=>
(bif c6 then
(aC 3 v0 fun v7=>
aE v7 h5 fun v8=>
asS v8 fun l9=>
J 1 [(2,(AV.b (decide (((l9.length:Int):Int)=1))))] h5)
else
(J 1 [(2,(AV.b false))] h5))
theorem Y60.call {K x0 h} (H:Y60.t (aL h K) x0 h (Y60.J (aL h K))):C Y60.id [x0] h K:=
 gC Y60.J Tryz.func103 Y60.dist H
noncomputable def Y29.body:Code:=(Tryz.f104.body).getD .skip
def Y29.ann:Ann:=(sl [0,1,2,3] (sq [0,1,2,3] (sl [0,1,2,3,13] (.br (sl [8] lf) lf)) (sq [0,1,2,3] (sl [0,1,2,3,15] (.br (sl [8] lf) lf)) (.seq 1 [0,1,2,3] (sl [0,1,2,3,20] bl) (sl [0,1,2,3] (sl [0,1,2,3,9] (sl [0,1,2,3,9] (sl [0,1,2,3,9,10] (.seq 3 [0,9,10] (.one (.loop 2 [0,1,2,3,9,10] (sq [0,1,2,3,9,10] (sl [0,1,2,3,9,10,36] bl) (.one (sl [0,1,2,3,9,10,11] (sq [0,1,2,3,9,10,11] (sl [0,1,2,3,9,10,11,41] bl) (sl [0,1,2,3,9,10,11] (sl [0,1,2,3,9,10] lf)))))))) (sl [9,10] (sl [8] lf)))))))))))
theorem Y29.dist:aV (places Y29.ann Y29.body)=true:=by kernel_rfl
noncomputable def Y29.J (Q:AV→aA→Prop):JT:=bY prog C Tryz.f104 Y29.ann Y29.body Q
def Y29.p1 (Q:AV→aA→Prop) (x0 x1:List UInt8) (x2 x3:Int) (x9:AV) (x10:Int) (h:aA):Prop:=Y29.J Q 2 [(0,(AV.s x0)),(1,(AV.s x1)),(2,(AV.i .i64 x2)),(3,(AV.i .i64 x3)),(9,x9),(10,(AV.i .i64 x10))] h
def Y29.p2 (Q:AV→aA→Prop) (x0:List UInt8) (x9:AV) (x10:Int) (h:aA):Prop:=Y29.J Q 3 [(0,(AV.s x0)),(9,x9),(10,(AV.i .i64 x10))] h
def Y29.p0 (Q:AV→aA→Prop) (x0 x1:List UInt8) (x2 x3:Int) (h:aA):Prop:=Y29.J Q 1 [(0,(AV.s x0)),(1,(AV.s x1)),(2,(AV.i .i64 x2)),(3,(AV.i .i64 x3))] h
def Y29.t1 (Q:AV→aA→Prop) (x0 x1:List UInt8) (x2 x3:Int) (x9:AV) (x10:Int) (h:aA) (J:JT):Prop:=
(bif (decide ((x10:Int)<x3)) then
(C Y97.id [(AV.s x0),(AV.s x1)] h fun v27 h28=>
asI .i64 v27 fun n29=>
(bif (decide ((n29:Int)<0)) then
(J 3 [(0,(AV.s x0)),(9,x9),(10,(AV.i .i64 x10))] h28)
else
(aR (IntKind.wrap .i64 (n29+x2)) fun n34=>
bV (AV.s x0) none (some (AV.i .i64 n34)) fun l35=>
aB 1 x9 (AV.i .i64 x10) h28 fun v36=>
aP 1 v36 (AV.s l35) h28 fun h37=>
aR (IntKind.wrap .i64 (n29+(x1.length:Int))) fun n39=>
bV (AV.s x0) (some (AV.i .i64 n39)) none fun l40=>
aR (IntKind.wrap .i64 (x10+1)) fun n42=>
J 2 [(0,(AV.s l40)),(1,(AV.s x1)),(2,(AV.i .i64 x2)),(3,(AV.i .i64 x3)),(9,x9),(10,(AV.i .i64 n42))] h37)))
else
(J 3 [(0,(AV.s x0)),(9,x9),(10,(AV.i .i64 x10))] h))
theorem Y29.i1 {Q x0 x1 x2 x3 x9 x10 h} (H:Y29.t1 Q x0 x1 x2 x3 x9 x10 h (Y29.J Q)):Y29.p1 Q x0 x1 x2 x3 x9 x10 h:=gH Y29.J Tryz.f104 Y29.dist [1,1,1,1,1,1,1,1,0,0] H
def Y29.t2 (Q:AV→aA→Prop) (x0:List UInt8) (x9:AV) (x10:Int) (h:aA) (J:JT):Prop:=
aB 1 x9 (AV.i .i64 x10) h fun v44=>
aP 1 v44 (AV.s x0) h fun h45=>
aR (IntKind.wrap .i64 (x10+1)) fun n47=>
cV 1 x9 none (some (AV.i .i64 n47)) none h45 fun v48=>
Q v48 h45
theorem Y29.i2 {Q x0 x9 x10 h} (H:Y29.t2 Q x0 x9 x10 h (Y29.J Q)):Y29.p2 Q x0 x9 x10 h:=gR Y29.J Tryz.f104 Y29.dist [1,1,1,1,1,1,1,1,1] H
def Y29.t0 (Q:AV→aA→Prop) (x0 x1:List UInt8) (x2 x3:Int) (h:aA) (J:JT):Prop:=
aR (IntKind.wrap .i64 ((x0.length:Int)+1)) fun n16=>
uU 1 16 [(AV.s [])] (AV.i .i64 (mmI false x3 n16)) (AV.i .i64 (mmI false x3 n16)) h fun v18 h19=>
aR (IntKind.wrap .i64 ((mmI false x3 n16) - 1)) fun n21=>
J 2 [(0,(AV.s x0)),(1,(AV.s x1)),(2,(AV.i .i64 x2)),(3,(AV.i .i64 n21)),(9,v18),(10,(AV.i .i64 0))] h19
theorem Y29.i0 {Q x0 x1 x2 x3 h} (H:Y29.t0 Q x0 x1 x2 x3 h (Y29.J Q)):Y29.p0 Q x0 x1 x2 x3 h:=gR Y29.J Tryz.f104 Y29.dist [1,1,1,1] H
def Y29.t (Q:AV→aA→Prop) (x0 x1:List UInt8) (x2 x3:Int) (h:aA) (J:JT):Prop:=
(bif (decide ((x3:Int)=0)) then
(Q (AV.sl none 0 none) h)
else
((bif (decide ((x1:List UInt8)=[])) then
(C Y123.id [(AV.s x0),(AV.i .i64 x3)] h fun v5 h6=>
Q v5 h6)
else
((bif (decide ((x3:Int)<0)) then
(C Y73.id [(AV.s x0),(AV.s x1)] h fun v10 h11=>
asI .i64 v10 fun n12=>
aR (IntKind.wrap .i64 (n12+1)) fun n13=>
J 1 [(0,(AV.s x0)),(1,(AV.s x1)),(2,(AV.i .i64 x2)),(3,(AV.i .i64 n13))] h11)
else
(J 1 [(0,(AV.s x0)),(1,(AV.s x1)),(2,(AV.i .i64 x2)),(3,(AV.i .i64 x3))] h))))))
theorem Y29.call {K x0 x1 x2 x3 h} (H:Y29.t (aL h K) x0 x1 x2 x3 h (Y29.J (aL h K))):C Y29.id [(AV.s x0),(AV.s x1),(AV.i .i64 x2),(AV.i .i64 x3)] h K:=
 gC Y29.J Tryz.func104 Y29.dist H
noncomputable def Y81.body:Code:=(Tryz.f105.body).getD .skip
def Y81.ann:Ann:=(sl [0,1] (sl [4] lf))
theorem Y81.dist:aV (places Y81.ann Y81.body)=true:=by kernel_rfl
noncomputable def Y81.J (Q:AV→aA→Prop):JT:=bY prog C Tryz.f105 Y81.ann Y81.body Q
def Y81.t (Q:AV→aA→Prop) (x0:List UInt8) (x1:Int) (h:aA) (J:JT):Prop:=
C Y107.id [(AV.s x0),(AV.i .u8 x1)] h fun v1 h2=>
asI .i64 v1 fun n3=>
Q (AV.i .i64 n3) h2
theorem Y81.call {K x0 x1 h} (H:Y81.t (aL h K) x0 x1 h (Y81.J (aL h K))):C Y81.id [(AV.s x0),(AV.i .u8 x1)] h K:=
 gC Y81.J Tryz.func105 Y81.dist H
noncomputable def Y77.body:Code:=(Tryz.f106.body).getD .skip
def Y77.ann:Ann:=(sl [0] (sl [2] lf))
theorem Y77.dist:aV (places Y77.ann Y77.body)=true:=by kernel_rfl
noncomputable def Y77.J (Q:AV→aA→Prop):JT:=bY prog C Tryz.f106 Y77.ann Y77.body Q
def Y77.t (Q:AV→aA→Prop) (x0:Int) (h:aA) (J:JT):Prop:=
kS .i64 x0 4 fun n1=>
kS .i64 x0 100 fun n2=>
aR (IntKind.wrap .i64 (n1 - n2)) fun n3=>
kS .i64 x0 400 fun n4=>
aR (IntKind.wrap .i64 (n3+n4)) fun n5=>
Q (AV.i .i64 n5) h
theorem Y77.call {K x0 h} (H:Y77.t (aL h K) x0 h (Y77.J (aL h K))):C Y77.id [(AV.i .i64 x0)] h K:=
 gC Y77.J Tryz.func106 Y77.dist H
noncomputable def Y63.body:Code:=(Tryz.f107.body).getD .skip
def Y63.ann:Ann:=(sl [0] (.seq 1 [2] lf lf))
theorem Y63.dist:aV (places Y63.ann Y63.body)=true:=by kernel_rfl
noncomputable def Y63.J (Q:AV→aA→Prop):JT:=bY prog C Tryz.f107 Y63.ann Y63.body Q
def Y63.p0 (Q:AV→aA→Prop) (x2:Bool) (h:aA):Prop:=Y63.J Q 1 [(2,(AV.b x2))] h
def Y63.t0 (Q:AV→aA→Prop) (x2:Bool) (h:aA) (J:JT):Prop:=
Q (AV.b x2) h
theorem Y63.i0 {Q x2 h} (H:Y63.t0 Q x2 h (Y63.J Q)):Y63.p0 Q x2 h:=gR Y63.J Tryz.f107 Y63.dist [1,1] H
def Y63.t (Q:AV→aA→Prop) (x0:Int) (h:aA) (J:JT):Prop:=
jQ x0 4 fun n1=>
(bif (decide ((n1:Int)=0)) then
(jQ x0 100 fun n2=>
(bif (!decide ((n2:Int)=0)) then
(J 1 [(2,(AV.b true))] h)
else
(jQ x0 400 fun n4=>
J 1 [(2,(AV.b (decide ((n4:Int)=0))))] h)))
else
(J 1 [(2,(AV.b false))] h))
theorem Y63.call {K x0 h} (H:Y63.t (aL h K) x0 h (Y63.J (aL h K))):C Y63.id [(AV.i .i64 x0)] h K:=
 gC Y63.J Tryz.func107 Y63.dist H
noncomputable def Y55.body:Code:=(Tryz.f108.body).getD .skip
def Y55.ann:Ann:=(sl [0,1] (sq [] (sl [1,7,8,9] (.one (.loop 1 [1,7,8,9] (sl [1,7,8,9,10] (sq [1,7,8,9] bl (sq [1,7,8,9] (.one (sl [1,6,7,8,9] (sl [1,7,8,9,16] (.br (sl [4] lf) lf)))) lf)))))) (sl [4] lf)))
theorem Y55.dist:aV (places Y55.ann Y55.body)=true:=by kernel_rfl
noncomputable def Y55.J (Q:AV→aA→Prop):JT:=bY prog C Tryz.f108 Y55.ann Y55.body Q
def Y55.p0 (Q:AV→aA→Prop) (x1 x7:AV) (x8 x9:Int) (h:aA):Prop:=Y55.J Q 1 [(1,x1),(7,x7),(8,(AV.i .i64 x8)),(9,(AV.i .i64 x9))] h
def Y55.t0 (Q:AV→aA→Prop) (x1 x7:AV) (x8 x9:Int) (h:aA) (J:JT):Prop:=
(bif (decide ((x9:Int)<x8)) then
(aB 5 x7 (AV.i .i64 x9) h fun v6=>
aD 5 v6 h fun v7=>
bS (some 33) [(AV.i .i64 0),(AV.i .i64 0),(AV.b false),(AV.s []),(AV.sl none 0 none)] h fun v8 h9=>
aP 5 v8 v7 h9 fun h10=>
aD 5 v8 h10 fun v12=>
eK C x1 [v12] h10 fun v13 h14=>
asB v13 fun c15=>
(bif (!c15) then
(Q (AV.b false) h14)
else
(aR (IntKind.wrap .i64 (x9+1)) fun n19=>
J 1 [(1,x1),(7,x7),(8,(AV.i .i64 x8)),(9,(AV.i .i64 n19))] h14)))
else
(Q (AV.b true) h))
theorem Y55.i0 {Q x1 x7 x8 x9 h} (H:Y55.t0 Q x1 x7 x8 x9 h (Y55.J Q)):Y55.p0 Q x1 x7 x8 x9 h:=gH Y55.J Tryz.f108 Y55.dist [1,0,1,0] H
def Y55.t (Q:AV→aA→Prop) (x0 x1:AV) (h:aA) (J:JT):Prop:=
bJ x0 fun n1=>
J 1 [(1,x1),(7,x0),(8,(AV.i .i64 n1)),(9,(AV.i .i64 0))] h
theorem Y55.call {K x0 x1 h} (H:Y55.t (aL h K) x0 x1 h (Y55.J (aL h K))):C Y55.id [x0,x1] h K:=
 gC Y55.J Tryz.func108 Y55.dist H
noncomputable def Y83.body:Code:=(Tryz.f109.body).getD .skip
def Y83.ann:Ann:=(sl [1,2,3,4] (sl [3] (sl [5] lf)))
theorem Y83.dist:aV (places Y83.ann Y83.body)=true:=by kernel_rfl
noncomputable def Y83.J (Q:AV→aA→Prop):JT:=bY prog C Tryz.f109 Y83.ann Y83.body Q
def Y83.t (Q:AV→aA→Prop) (x0 x1 x2 x3:AV) (h:aA) (J:JT):Prop:=
dQ (some 33) x0 h fun v0 h1=>
aE x1 h1 fun v3=>
aD 5 v0 h1 fun v4=>
aE x2 h1 fun v5=>
asI .i64 v5 fun n6=>
aR (IntKind.wrap .i64 (n6+1)) fun n7=>
C Y39.id [v3,v4,(AV.i .i64 n7)] h1 fun v8 h9=>
asI .i64 v8 fun n10=>
aP 1 x3 (AV.i .i64 n10) h9 fun h11=>
aE x3 h11 fun v13=>
asI .i64 v13 fun n14=>
Q (AV.b (decide ((n14:Int)=0))) h11
theorem Y83.call {K x0 x1 x2 x3 h} (H:Y83.t (aL h K) x0 x1 x2 x3 h (Y83.J (aL h K))):C Y83.id [x0,x1,x2,x3] h K:=
 gC Y83.J Tryz.func109 Y83.dist H
noncomputable def Y65.body:Code:=(Tryz.f111.body).getD .skip
def Y65.ann:Ann:=(sl [0,1] (sl [0,1,5] (sq [0,1,5] (.one (.seq 1 [0,1,5,16] lf (.br (sl [4] lf) (sl [0,1,5,24] (.br (sl [4] lf) (sl [0,1,5,31] (.br (sl [4] lf) (.seq 2 [0,1,5,36] lf (.br (sl [4] lf) lf))))))))) (sl [0,1,5,6] (sl [0,1,5,6,7] (sl [0,1,5,6,7,8] (sl [0,1,5,6,7,8,9] (sl [0,1,5,6,7,8,9,10] (sq [] (.one (.loop 3 [0,1,5,6,7,8,9,10] (sq [0,1,5,6,7,8,9,10] (sl [0,1,5,6,7,8,9,10,59] bl) (.one (.seq 4 [0,1,5,6,7,8,9,10] (sl [0,1,5,6,7,8,9,10,64] (.br (sl [0,1,5,6,7,8,9,10,11] (sq [0,1,5,6,7,8,9,10,11] (sl [0,1,5,6,7,8,9,10,11,73] (.br (sl [4] lf) lf)) lf)) lf)) (sq [0,1,5,6,7,8,9,10] (.seq 5 [0,1,5,6,7,8,9,10,93] lf (.br (sl [4] lf) lf)) (sl [0,1,5,6,7,8,9,10] (sl [0,1,5,6,7,8,9,10] (.seq 6 [0,1,5,6,7,8,9,10,107] lf (.br (sl [8,12] (sq [] (sl [8,12,114] (.br (sl [4] lf) lf)) (sl [4] lf))) (.seq 7 [0,1,5,6,7,8,9,10,132] lf (.br (sl [8,13] (sq [8,13] (sl [8,13,139] (.br (sl [4] lf) lf)) (sl [4] lf))) lf)))))))))))) (sl [4] lf))))))))))
theorem Y65.dist:aV (places Y65.ann Y65.body)=true:=by kernel_rfl
noncomputable def Y65.J (Q:AV→aA→Prop):JT:=bY prog C Tryz.f111 Y65.ann Y65.body Q
def Y65.p0 (Q:AV→aA→Prop) (x0 x1:List UInt8) (x5:Int) (x16:Bool) (h:aA):Prop:=Y65.J Q 1 [(0,(AV.s x0)),(1,(AV.s x1)),(5,(AV.i .i64 x5)),(16,(AV.b x16))] h
def Y65.t0 (Q:AV→aA→Prop) (x0 x1:List UInt8) (x5:Int) (x16:Bool) (h:aA) (J:JT):Prop:=
(bif x16 then
(Q (AV.i .i64 0) h)
else
((bif (decide ((x5:Int)=1)) then
(bN (AV.s x1) (AV.i .i64 0) fun n6=>
C Y81.id [(AV.s x0),(AV.i .u8 n6)] h fun v7 h8=>
asI .i64 v7 fun n9=>
Q (AV.i .i64 n9) h8)
else
((bif (decide (((x0.length:Int):Int)≤x5)) then
(Q (AV.i .i64 (-1)) h)
else
(aE (bE h 10) h fun v13=>
asI .i64 v13 fun n14=>
(bif (decide ((x5:Int)≤n14)) then
(J 2 [(0,(AV.s x0)),(1,(AV.s x1)),(5,(AV.i .i64 x5)),(36,(AV.b (decide (((x0.length:Int):Int)≤64))))] h)
else
(J 2 [(0,(AV.s x0)),(1,(AV.s x1)),(5,(AV.i .i64 x5)),(36,(AV.b false))] h))))))))
theorem Y65.i0 {Q x0 x1 x5 x16 h} (H:Y65.t0 Q x0 x1 x5 x16 h (Y65.J Q)):Y65.p0 Q x0 x1 x5 x16 h:=gR Y65.J Tryz.f111 Y65.dist [1,1,0,0,1] H
def Y65.t (Q:AV→aA→Prop) (x0 x1:List UInt8) (h:aA) (J:JT):Prop:=
(bif (decide (((x1.length:Int):Int)=0)) then
(J 1 [(0,(AV.s x0)),(1,(AV.s x1)),(5,(AV.i .i64 (x1.length:Int))),(16,(AV.b true))] h)
else
(J 1 [(0,(AV.s x0)),(1,(AV.s x1)),(5,(AV.i .i64 (x1.length:Int))),(16,(AV.b (decide ((x1:List UInt8)=x0))))] h))
theorem Y65.call {K x0 x1 h} (H:Y65.t (aL h K) x0 x1 h (Y65.J (aL h K))):C Y65.id [(AV.s x0),(AV.s x1)] h K:=
 gC Y65.J Tryz.func111 Y65.dist H
noncomputable def Y88.body:Code:=(Tryz.f112.body).getD .skip
def Y88.ann:Ann:=(sl [0,6] (.br lf (sl [19] bl)))
theorem Y88.dist:aV (places Y88.ann Y88.body)=true:=by kernel_rfl
noncomputable def Y88.J (Q:AV→aA→Prop):JT:=bY prog C Tryz.f112 Y88.ann Y88.body Q
def Y88.t (Q:AV→aA→Prop) (x0:AV) (h:aA) (J:JT):Prop:=
cC x0 fun v0=>
aC 0 v0 fun v1=>
aE v1 h fun v2=>
gD prog .eql 108 v2 (AV.p none) fun v3=>
asB v3 fun c4=>
(bif c4 then
(j9 x0 h fun v6=>
C Y110.id [v6] h fun v7 h8=>
gM prog 110 v7 h8 fun v9=>
cC x0 fun v10=>
aC 0 v10 fun v11=>
aP 1 v11 v9 h8 fun h12=>
Q (AV.tu []) h12)
else
(cC x0 fun v13=>
aC 0 v13 fun v14=>
aE v14 h fun v15=>
gD prog .neq 108 v15 x0 fun v16=>
asB v16 fun c17=>
(bif c17 then
(False)
else
(Q (AV.tu []) h))))
theorem Y88.call {K x0 h} (H:Y88.t (aL h K) x0 h (Y88.J (aL h K))):C Y88.id [x0] h K:=
 gC Y88.J Tryz.func112 Y88.dist H
noncomputable def Y62.body:Code:=(Tryz.f114.body).getD .skip
def Y62.ann:Ann:=(sl [0] (.seq 1 [2] lf lf))
theorem Y62.dist:aV (places Y62.ann Y62.body)=true:=by kernel_rfl
noncomputable def Y62.J (Q:AV→aA→Prop):JT:=bY prog C Tryz.f114 Y62.ann Y62.body Q
def Y62.p0 (Q:AV→aA→Prop) (x2:Bool) (h:aA):Prop:=Y62.J Q 1 [(2,(AV.b x2))] h
def Y62.t0 (Q:AV→aA→Prop) (x2:Bool) (h:aA) (J:JT):Prop:=
Q (AV.b x2) h
theorem Y62.i0 {Q x2 h} (H:Y62.t0 Q x2 h (Y62.J Q)):Y62.p0 Q x2 h:=gR Y62.J Tryz.f114 Y62.dist [1,1] H
def Y62.t (Q:AV→aA→Prop) (x0:Int) (h:aA) (J:JT):Prop:=
(bif (decide ((32:Int)≤x0)) then
(J 1 [(2,(AV.b (decide ((x0:Int)≤126))))] h)
else
(J 1 [(2,(AV.b false))] h))
theorem Y62.call {K x0 h} (H:Y62.t (aL h K) x0 h (Y62.J (aL h K))):C Y62.id [(AV.i .u8 x0)] h K:=
 gC Y62.J Tryz.func114 Y62.dist H
noncomputable def Y103.body:Code:=(Tryz.f115.body).getD .skip
def Y103.ann:Ann:=(sl [0,1,8] bl)
theorem Y103.dist:aV (places Y103.ann Y103.body)=true:=by kernel_rfl
noncomputable def Y103.J (Q:AV→aA→Prop):JT:=bY prog C Tryz.f115 Y103.ann Y103.body Q
def Y103.t (Q:AV→aA→Prop) (x0 x1:AV) (h:aA) (J:JT):Prop:=
cC x0 fun v0=>
aC 0 v0 fun v1=>
C Y78.id [v1] h fun v2 h3=>
asB v2 fun c4=>
(bif (!c4) then
(C Y76.id [x0,x1] h3 fun v6 h7=>
Q (AV.tu []) h7)
else
(Q (AV.tu []) h3))
theorem Y103.call {K x0 x1 h} (H:Y103.t (aL h K) x0 x1 h (Y103.J (aL h K))):C Y103.id [x0,x1] h K:=
 gC Y103.J Tryz.func115 Y103.dist H
noncomputable def Y92.body:Code:=(Tryz.f116.body).getD .skip
def Y92.ann:Ann:=(sl [0] lf)
theorem Y92.dist:aV (places Y92.ann Y92.body)=true:=by kernel_rfl
noncomputable def Y92.J (Q:AV→aA→Prop):JT:=bY prog C Tryz.f116 Y92.ann Y92.body Q
def Y92.t (Q:AV→aA→Prop) (x0:AV) (h:aA) (J:JT):Prop:=
C Y11.id [x0] h fun v0 h1=>
cC x0 fun v2=>
aC 3 v2 fun v3=>
aP 1 v3 v0 h1 fun h4=>
cC x0 fun v6=>
aC 4 v6 fun v7=>
aP 1 v7 (AV.sl none 0 none) h4 fun h8=>
Q (AV.tu []) h8
theorem Y92.call {K x0 h} (H:Y92.t (aL h K) x0 h (Y92.J (aL h K))):C Y92.id [x0] h K:=
 gC Y92.J Tryz.func116 Y92.dist H
noncomputable def Y10.body:Code:=(Tryz.f119.body).getD .skip
def Y10.ann:Ann:=(sl [1] (sl [1,4] (sq [4] (.seq 1 [4,26] lf (.br (sl [2,3] lf) lf)) (sl [4,5] (sl [4,5,6] (sl [4,5,6,7] (sq [5] (sl [4,5,6,7,8] (.one (.loop 2 [4,5,6,7,8] (sq [4,5,6,7,8] (sl [4,5,6,7,8,30] bl) (.seq 5 [4,5,6,7,8] (.one (sq [4,5,6,8] (.seq 3 [4,5,6,8,40] lf (.br (sl [2,3] lf) lf)) (sl [4,5,6,7,8] (sl [4,5,6,7,8] (sq [4,5,6,7,8] (sl [4,5,6,7,8,50] (.br (sl [2,3] lf) lf)) (sq [4,5,6,8] (sl [4,5,6,7,8,54] bl) (.seq 4 [4,5,8] (sl [4,5,6,8,56] (.br (sl [4,6,8,9] lf) lf)) (sl [4,5,6,8] lf)))))))) lf))))) (sl [2,3] lf))))))))
theorem Y10.dist:aV (places Y10.ann Y10.body)=true:=by kernel_rfl
noncomputable def Y10.J (Q:AV→aA→Prop):JT:=bY prog C Tryz.f119 Y10.ann Y10.body Q
def Y10.p0 (Q:AV→aA→Prop) (x4:List UInt8) (x26:Bool) (h:aA):Prop:=Y10.J Q 1 [(4,(AV.s x4)),(26,(AV.b x26))] h
def Y10.p2 (Q:AV→aA→Prop) (x4 x5:List UInt8) (x6 x8:Int) (x40:Bool) (h:aA):Prop:=Y10.J Q 3 [(4,(AV.s x4)),(5,(AV.s x5)),(6,(AV.i .i64 x6)),(8,(AV.i .i64 x8)),(40,(AV.b x40))] h
def Y10.p3 (Q:AV→aA→Prop) (x4 x5:List UInt8) (x8:Int) (h:aA):Prop:=Y10.J Q 4 [(4,(AV.s x4)),(5,(AV.s x5)),(8,(AV.i .i64 x8))] h
def Y10.p4 (Q:AV→aA→Prop) (x4 x5:List UInt8) (x6:Int) (x7:Bool) (x8:Int) (h:aA):Prop:=Y10.J Q 5 [(4,(AV.s x4)),(5,(AV.s x5)),(6,(AV.i .i64 x6)),(7,(AV.b x7)),(8,(AV.i .i64 x8))] h
def Y10.p1 (Q:AV→aA→Prop) (x4 x5:List UInt8) (x6:Int) (x7:Bool) (x8:Int) (h:aA):Prop:=Y10.J Q 2 [(4,(AV.s x4)),(5,(AV.s x5)),(6,(AV.i .i64 x6)),(7,(AV.b x7)),(8,(AV.i .i64 x8))] h
def Y10.t0 (Q:AV→aA→Prop) (x4:List UInt8) (x26:Bool) (h:aA) (J:JT):Prop:=
(bif x26 then
(Q (AV.tu [(AV.s []),(AV.b false)]) h)
else
(J 2 [(4,(AV.s x4)),(5,(AV.s [])),(6,(AV.i .i64 0)),(7,(AV.b false)),(8,(AV.i .i64 0))] h))
theorem Y10.i0 {Q x4 x26 h} (H:Y10.t0 Q x4 x26 h (Y10.J Q)):Y10.p0 Q x4 x26 h:=gR Y10.J Tryz.f119 Y10.dist [1,1,0,1] H
def Y10.t2 (Q:AV→aA→Prop) (x4 x5:List UInt8) (x6 x8:Int) (x40:Bool) (h:aA) (J:JT):Prop:=
(bif x40 then
(Q (AV.tu [(AV.s []),(AV.b false)]) h)
else
(aR (IntKind.wrap .i64 (x6 * 128)) fun n31=>
bN (AV.s x4) (AV.i .i64 x8) fun n32=>
jQ (IntKind.wrap .i64 n32) 128 fun n33=>
aR (IntKind.wrap .i64 (n31+n33)) fun n34=>
(bif (decide ((268435456:Int)≤n34)) then
(Q (AV.tu [(AV.s []),(AV.b false)]) h)
else
(bN (AV.s x4) (AV.i .i64 x8) fun n39=>
(bif (decide ((128:Int)≤n39)) then
(J 5 [(4,(AV.s x4)),(5,(AV.s x5)),(6,(AV.i .i64 n34)),(7,(AV.b true)),(8,(AV.i .i64 x8))] h)
else
((bif (decide ((x5:List UInt8)=[])) then
(kS .i64 n34 40 fun n44=>
C Y45.id [(AV.i .i64 (mmI false n44 2))] h fun v46 h47=>
asS v46 fun l48=>
eI l48 [46] fun l49=>
aR (IntKind.wrap .i64 (40 * (mmI false n44 2))) fun n50=>
aR (IntKind.wrap .i64 (n34 - n50)) fun n51=>
C Y45.id [(AV.i .i64 n51)] h47 fun v52 h53=>
asS v52 fun l54=>
eI l49 l54 fun l55=>
J 4 [(4,(AV.s x4)),(5,(AV.s l55)),(8,(AV.i .i64 x8))] h53)
else
(C Y45.id [(AV.i .i64 n34)] h fun v57 h58=>
asS v57 fun l59=>
eI [46] l59 fun l60=>
eI x5 l60 fun l61=>
J 4 [(4,(AV.s x4)),(5,(AV.s l61)),(8,(AV.i .i64 x8))] h58))))))))
theorem Y10.i2 {Q x4 x5 x6 x8 x40 h} (H:Y10.t2 Q x4 x5 x6 x8 x40 h (Y10.J Q)):Y10.p2 Q x4 x5 x6 x8 x40 h:=gR Y10.J Tryz.f119 Y10.dist [1,1,1,1,1,1,0,1,0,0,1,0,0,0,1] H
def Y10.t3 (Q:AV→aA→Prop) (x4 x5:List UInt8) (x8:Int) (h:aA) (J:JT):Prop:=
J 5 [(4,(AV.s x4)),(5,(AV.s x5)),(6,(AV.i .i64 0)),(7,(AV.b false)),(8,(AV.i .i64 x8))] h
theorem Y10.i3 {Q x4 x5 x8 h} (H:Y10.t3 Q x4 x5 x8 h (Y10.J Q)):Y10.p3 Q x4 x5 x8 h:=gR Y10.J Tryz.f119 Y10.dist [1,1,1,1,1,1,0,1,0,0,1,0,0,1,1,1,1,1,1] H
def Y10.t4 (Q:AV→aA→Prop) (x4 x5:List UInt8) (x6:Int) (x7:Bool) (x8:Int) (h:aA) (J:JT):Prop:=
aR (IntKind.wrap .i64 (x8+1)) fun n65=>
J 2 [(4,(AV.s x4)),(5,(AV.s x5)),(6,(AV.i .i64 x6)),(7,(AV.b x7)),(8,(AV.i .i64 n65))] h
theorem Y10.i4 {Q x4 x5 x6 x7 x8 h} (H:Y10.t4 Q x4 x5 x6 x7 x8 h (Y10.J Q)):Y10.p4 Q x4 x5 x6 x7 x8 h:=gR Y10.J Tryz.f119 Y10.dist [1,1,1,1,1,1,0,1,0,0,1,1] H
def Y10.t1 (Q:AV→aA→Prop) (x4 x5:List UInt8) (x6:Int) (x7:Bool) (x8:Int) (h:aA) (J:JT):Prop:=
(bif (decide ((x8:Int)<(x4.length:Int))) then
((bif (!x7) then
(bN (AV.s x4) (AV.i .i64 x8) fun n25=>
J 3 [(4,(AV.s x4)),(5,(AV.s x5)),(6,(AV.i .i64 x6)),(8,(AV.i .i64 x8)),(40,(AV.b (decide ((n25:Int)=128))))] h)
else
(J 3 [(4,(AV.s x4)),(5,(AV.s x5)),(6,(AV.i .i64 x6)),(8,(AV.i .i64 x8)),(40,(AV.b false))] h)))
else
(Q (AV.tu [(AV.s x5),(AV.b true)]) h))
theorem Y10.i1 {Q x4 x5 x6 x7 x8 h} (H:Y10.t1 Q x4 x5 x6 x7 x8 h (Y10.J Q)):Y10.p1 Q x4 x5 x6 x7 x8 h:=gH Y10.J Tryz.f119 Y10.dist [1,1,1,1,1,1,0,1,0] H
def Y10.t (Q:AV→aA→Prop) (x0:AV) (h:aA) (J:JT):Prop:=
dQ (some 33) x0 h fun v0 h1=>
aC 3 v0 fun v3=>
aE v3 h1 fun v4=>
asS v4 fun l5=>
aD 5 v0 h1 fun v7=>
C Y44.id [v7,(AV.i .i64 6)] h1 fun v8 h9=>
asB v8 fun c10=>
(bif (!c10) then
(J 1 [(4,(AV.s l5)),(26,(AV.b true))] h9)
else
((bif (decide ((l5:List UInt8)=[])) then
(J 1 [(4,(AV.s l5)),(26,(AV.b true))] h9)
else
(aR (IntKind.wrap .i64 ((l5.length:Int) - 1)) fun n13=>
bN (AV.s l5) (AV.i .i64 n13) fun n14=>
J 1 [(4,(AV.s l5)),(26,(AV.b (decide ((128:Int)≤n14))))] h9))))
theorem Y10.call {K x0 h} (H:Y10.t (aL h K) x0 h (Y10.J (aL h K))):C Y10.id [x0] h K:=
 gC Y10.J Tryz.func119 Y10.dist H
noncomputable def Y73.body:Code:=(Tryz.f121.body).getD .skip
def Y73.ann:Ann:=(sl [0,1] (sq [0,1] (sl [0,1,9] (.br (sl [4] lf) lf)) (sq [0,1] (sl [0,1,15] (.br (sl [4] lf) lf)) (sl [0,1,5] (.one (.loop 1 [0,1,5] (.one (sl [0,1,5,6] (sq [0,1,5,6] (sl [0,1,5,6,24] (.br (sl [4] lf) lf)) (sl [0,1,5,6] lf))))))))))
theorem Y73.dist:aV (places Y73.ann Y73.body)=true:=by kernel_rfl
noncomputable def Y73.J (Q:AV→aA→Prop):JT:=bY prog C Tryz.f121 Y73.ann Y73.body Q
def Y73.p0 (Q:AV→aA→Prop) (x0 x1:List UInt8) (x5:Int) (h:aA):Prop:=Y73.J Q 1 [(0,(AV.s x0)),(1,(AV.s x1)),(5,(AV.i .i64 x5))] h
def Y73.t (Q:AV→aA→Prop) (x0 x1:List UInt8) (h:aA) (J:JT):Prop:=
(bif (decide (((x1.length:Int):Int)=0)) then
(C Y121.id [(AV.s x0)] h fun v2 h3=>
asI .i64 v2 fun n4=>
aR (IntKind.wrap .i64 (n4+1)) fun n5=>
Q (AV.i .i64 n5) h3)
else
((bif (decide (((x1.length:Int):Int)=1)) then
(bN (AV.s x1) (AV.i .i64 0) fun n9=>
C Y108.id [(AV.s x0),(AV.i .u8 n9)] h fun v10 h11=>
asI .i64 v10 fun n12=>
Q (AV.i .i64 n12) h11)
else
(J 1 [(0,(AV.s x0)),(1,(AV.s x1)),(5,(AV.i .i64 0))] h))))
theorem Y73.call {K x0 x1 h} (H:Y73.t (aL h K) x0 x1 h (Y73.J (aL h K))):C Y73.id [(AV.s x0),(AV.s x1)] h K:=
 gC Y73.J Tryz.func121 Y73.dist H
noncomputable def Y97.body:Code:=(Tryz.f122.body).getD .skip
def Y97.ann:Ann:=(sl [0,1] (sl [4] lf))
theorem Y97.dist:aV (places Y97.ann Y97.body)=true:=by kernel_rfl
noncomputable def Y97.J (Q:AV→aA→Prop):JT:=bY prog C Tryz.f122 Y97.ann Y97.body Q
def Y97.t (Q:AV→aA→Prop) (x0 x1:List UInt8) (h:aA) (J:JT):Prop:=
C Y65.id [(AV.s x0),(AV.s x1)] h fun v1 h2=>
asI .i64 v1 fun n3=>
Q (AV.i .i64 n3) h2
theorem Y97.call {K x0 x1 h} (H:Y97.t (aL h K) x0 x1 h (Y97.J (aL h K))):C Y97.id [(AV.s x0),(AV.s x1)] h K:=
 gC Y97.J Tryz.func122 Y97.dist H
noncomputable def Y78.body:Code:=(Tryz.f129.body).getD .skip
def Y78.ann:Ann:=(sl [0] (sl [2] lf))
theorem Y78.dist:aV (places Y78.ann Y78.body)=true:=by kernel_rfl
noncomputable def Y78.J (Q:AV→aA→Prop):JT:=bY prog C Tryz.f129 Y78.ann Y78.body Q
def Y78.t (Q:AV→aA→Prop) (x0:AV) (h:aA) (J:JT):Prop:=
cC x0 fun v1=>
aC 0 v1 fun v2=>
C Y112.id [v2] h fun v3 h4=>
asI .u32 v3 fun n5=>
Q (AV.b (!decide ((n5:Int)=0))) h4
theorem Y78.call {K x0 h} (H:Y78.t (aL h K) x0 h (Y78.J (aL h K))):C Y78.id [x0] h K:=
 gC Y78.J Tryz.func129 Y78.dist H
noncomputable def Y76.body:Code:=(Tryz.f130.body).getD .skip
def Y76.ann:Ann:=(sl [0,1] (sl [0,1] (sl [0,1,15] (.br (sl [1] lf) lf))))
theorem Y76.body_eq:Tryz.f130.body=some Y76.body:=by kernel_rfl
def Y76.tD (Q:AV→aA→Prop) (x0:AV) (x1:AV) (h:aA):Prop:=
cC x0 fun v0=>
aC 1 v0 fun v1=>
C Y95.id [v1] h fun v2 h3=>
cC x0 fun v5=>
aC 1 v5 fun v6=>
cC x0 fun v8=>
aC 0 v8 fun v9=>
C Y78.id [v9] h3 fun v10 h11=>
asB v10 fun c12=>
(bif (!c12) then
(cC x0 fun v14=>
aC 0 v14 fun v15=>
eK C x1 [] h11 fun v17 h18=>
aF prog C Y69.id [v15,(AV.b true)] h18 fun _ h19=>
aF prog C Y68.id [v6] h19 fun _ h20=>
Q (AV.tu []) h20)
else
(aF prog C Y68.id [v6] h11 fun _ h21=>
Q (AV.tu []) h21))
theorem Y76.tD_eq (Q:AV→aA→Prop) (x0:AV) (x1:AV) (h:aA):Y76.tD Q x0 x1 h=j7 prog C 21 Y76.ann Y76.body (fA 0 [x0,x1]) h [] (aNG prog C Tryz.f130 Q):=by kernel_rfl
theorem Y76.callD {K:AV→aA→Prop} {x0:AV} {x1:AV} {h:aA} (H:Y76.tD (aL h K) x0 x1 h):aFD prog C Y76.id [x0,x1] h K:=
 ⟨Tryz.f130,Y76.body,Y76.ann,Tryz.func130,Y76.body_eq,by kernel_rfl,Nat.le_of_ble_eq_true (by kernel_rfl),(Y76.tD_eq (aL h K) x0 x1 h).mp H⟩
noncomputable def Y11.body:Code:=(Tryz.f131.body).getD .skip
def Y11.ann:Ann:=(sl [0] (sl [3] (sq [3] (.seq 1 [3,28] lf (.br (sq [2] (.ord (nn 0 6 (.eff 6 (nn 7 2 .done) .stop))) lf) lf)) (sl [3,4] (sq [3,4] (sl [3,4,5] (.one (.loop 2 [3,4,5] (sq [3,4,5] (sl [3,4,5,40] bl) (.seq 3 [3,4,5] (.one (sq [3,4,5] (sl [3,4,5,48] (.br (sl [2] lf) lf)) (sl [3,4,5,58] bl))) lf))))) (sq [3] (sl [3,59] (.br (sl [3,6] (sq [3,6] (sl [3,6,61] (.one (.loop 4 [3,6,61] (sl [3,6,61,62] (sq [3,6,61] bl (sq [3,6,61] (.one (sl [3,6,7,61] lf)) lf)))))) (sq [6] (sl [3,6,8] (.one (.loop 5 [3,6,8] (sq [3,6,8] (sl [3,6,8,73] bl) (sq [3,6,8] (.one (sl [3,6,8,9] (sl [3,6,8,9,10] lf))) lf))))) (sl [2] lf)))) lf)) (sl [3,11] (sq [11] (sl [3,11,12] (.one (.loop 6 [3,11,12] (sq [3,11,12] (sl [3,11,12,100] bl) (sq [3,11,12] (.one (sl [3,11,12,13] (sl [3,11,12,13,14] (.seq 7 [3,11,12,13,14] (sl [3,11,12,13,14,117] bl) lf)))) lf))))) (sl [2] lf)))))))))
theorem Y11.dist:aV (places Y11.ann Y11.body)=true:=by kernel_rfl
noncomputable def Y11.J (Q:AV→aA→Prop):JT:=bY prog C Tryz.f131 Y11.ann Y11.body Q
def Y11.p0 (Q:AV→aA→Prop) (x3:AV) (x28:Bool) (h:aA):Prop:=Y11.J Q 1 [(3,x3),(28,(AV.b x28))] h
def Y11.p2 (Q:AV→aA→Prop) (x3:AV) (x4:Bool) (x5:Int) (h:aA):Prop:=Y11.J Q 3 [(3,x3),(4,(AV.b x4)),(5,(AV.i .i64 x5))] h
def Y11.p1 (Q:AV→aA→Prop) (x3:AV) (x4:Bool) (x5:Int) (h:aA):Prop:=Y11.J Q 2 [(3,x3),(4,(AV.b x4)),(5,(AV.i .i64 x5))] h
def Y11.p6 (Q:AV→aA→Prop) (x3 x11:AV) (x12 x13:Int) (x14:List UInt8) (h:aA):Prop:=Y11.J Q 7 [(3,x3),(11,x11),(12,(AV.i .i64 x12)),(13,(AV.i .u8 x13)),(14,(AV.s x14))] h
def Y11.p5 (Q:AV→aA→Prop) (x3 x11:AV) (x12:Int) (h:aA):Prop:=Y11.J Q 6 [(3,x3),(11,x11),(12,(AV.i .i64 x12))] h
def Y11.t0 (Q:AV→aA→Prop) (x3:AV) (x28:Bool) (h:aA) (J:JT):Prop:=
(bif x28 then
(aB 1 x3 (AV.i .i64 0) h fun v11=>
aE v11 h fun v12=>
asS v12 fun l13=>
aB 1 x3 (AV.i .i64 1) h fun v14=>
aE v14 h fun v15=>
asS v15 fun l16=>
C Y119.id [(AV.s l13),(AV.s l16)] h fun v17 h18=>
aB 1 x3 (AV.i .i64 1) h18 fun v19=>
(v14=v19 ∧
(aB 1 x3 (AV.i .i64 0) h18 fun v20=>
(v11=v20 ∧
(Q (AV.ifc 169 v17) h18)))))
else
(J 2 [(3,x3),(4,(AV.b true)),(5,(AV.i .i64 0))] h))
theorem Y11.i0 {Q x3 x28 h} (H:Y11.t0 Q x3 x28 h (Y11.J Q)):Y11.p0 Q x3 x28 h:=gR Y11.J Tryz.f131 Y11.dist [1,1,0,1] H
def Y11.t2 (Q:AV→aA→Prop) (x3:AV) (x4:Bool) (x5:Int) (h:aA) (J:JT):Prop:=
aR (IntKind.wrap .i64 (x5+2)) fun n44=>
J 2 [(3,x3),(4,(AV.b x4)),(5,(AV.i .i64 n44))] h
theorem Y11.i2 {Q x3 x4 x5 h} (H:Y11.t2 Q x3 x4 x5 h (Y11.J Q)):Y11.p2 Q x3 x4 x5 h:=gR Y11.J Tryz.f131 Y11.dist [1,1,1,1,0,1,0,0,1,1] H
def Y11.t1 (Q:AV→aA→Prop) (x3:AV) (x4:Bool) (x5:Int) (h:aA) (J:JT):Prop:=
bJ x3 fun n25=>
(bif (decide ((x5:Int)<n25)) then
(aB 1 x3 (AV.i .i64 x5) h fun v29=>
aE v29 h fun v30=>
asS v30 fun l31=>
(bif (!decide (((l31.length:Int):Int)=1)) then
(C Y122.id [x3] h fun v33 h34=>
Q (AV.ifc 171 v33) h34)
else
(aR (IntKind.wrap .i64 (x5+1)) fun n37=>
aB 1 x3 (AV.i .i64 n37) h fun v38=>
aE v38 h fun v39=>
asS v39 fun l40=>
(bif (!decide (((l40.length:Int):Int)=1)) then
(J 3 [(3,x3),(4,(AV.b false)),(5,(AV.i .i64 x5))] h)
else
(J 3 [(3,x3),(4,(AV.b x4)),(5,(AV.i .i64 x5))] h)))))
else
((bif x4 then
(bS none [(AV.i .u8 0),(AV.i .u8 0),(AV.i .u8 0),(AV.i .u8 0),(AV.i .u8 0),(AV.i .u8 0),(AV.i .u8 0),(AV.i .u8 0),(AV.i .u8 0),(AV.i .u8 0),(AV.i .u8 0),(AV.i .u8 0),(AV.i .u8 0),(AV.i .u8 0),(AV.i .u8 0),(AV.i .u8 0),(AV.i .u8 0),(AV.i .u8 0),(AV.i .u8 0),(AV.i .u8 0),(AV.i .u8 0),(AV.i .u8 0),(AV.i .u8 0),(AV.i .u8 0),(AV.i .u8 0),(AV.i .u8 0),(AV.i .u8 0),(AV.i .u8 0),(AV.i .u8 0),(AV.i .u8 0),(AV.i .u8 0),(AV.i .u8 0),(AV.i .u8 0),(AV.i .u8 0),(AV.i .u8 0),(AV.i .u8 0),(AV.i .u8 0),(AV.i .u8 0),(AV.i .u8 0),(AV.i .u8 0),(AV.i .u8 0),(AV.i .u8 0),(AV.i .u8 0),(AV.i .u8 0),(AV.i .u8 0),(AV.i .u8 0),(AV.i .u8 0),(AV.i .u8 0),(AV.i .u8 0),(AV.i .u8 0),(AV.i .u8 0),(AV.i .u8 0),(AV.i .u8 0),(AV.i .u8 0),(AV.i .u8 0),(AV.i .u8 0),(AV.i .u8 0),(AV.i .u8 0),(AV.i .u8 0),(AV.i .u8 0),(AV.i .u8 0),(AV.i .u8 0),(AV.i .u8 0),(AV.i .u8 0),(AV.i .u8 0),(AV.i .u8 0),(AV.i .u8 0),(AV.i .u8 0),(AV.i .u8 0),(AV.i .u8 0),(AV.i .u8 0),(AV.i .u8 0),(AV.i .u8 0),(AV.i .u8 0),(AV.i .u8 0),(AV.i .u8 0),(AV.i .u8 0),(AV.i .u8 0),(AV.i .u8 0),(AV.i .u8 0),(AV.i .u8 0),(AV.i .u8 0),(AV.i .u8 0),(AV.i .u8 0),(AV.i .u8 0),(AV.i .u8 0),(AV.i .u8 0),(AV.i .u8 0),(AV.i .u8 0),(AV.i .u8 0),(AV.i .u8 0),(AV.i .u8 0),(AV.i .u8 0),(AV.i .u8 0),(AV.i .u8 0),(AV.i .u8 0),(AV.i .u8 0),(AV.i .u8 0),(AV.i .u8 0),(AV.i .u8 0),(AV.i .u8 0),(AV.i .u8 0),(AV.i .u8 0),(AV.i .u8 0),(AV.i .u8 0),(AV.i .u8 0),(AV.i .u8 0),(AV.i .u8 0),(AV.i .u8 0),(AV.i .u8 0),(AV.i .u8 0),(AV.i .u8 0),(AV.i .u8 0),(AV.i .u8 0),(AV.i .u8 0),(AV.i .u8 0),(AV.i .u8 0),(AV.i .u8 0),(AV.i .u8 0),(AV.i .u8 0),(AV.i .u8 0),(AV.i .u8 0),(AV.i .u8 0),(AV.i .u8 0),(AV.i .u8 0),(AV.i .u8 0),(AV.i .u8 0),(AV.i .u8 0),(AV.i .u8 0),(AV.i .u8 0),(AV.i .u8 0),(AV.i .u8 0),(AV.i .u8 0),(AV.i .u8 0),(AV.i .u8 0),(AV.i .u8 0),(AV.i .u8 0),(AV.i .u8 0),(AV.i .u8 0),(AV.i .u8 0),(AV.i .u8 0),(AV.i .u8 0),(AV.i .u8 0),(AV.i .u8 0),(AV.i .u8 0),(AV.i .u8 0),(AV.i .u8 0),(AV.i .u8 0),(AV.i .u8 0),(AV.i .u8 0),(AV.i .u8 0),(AV.i .u8 0),(AV.i .u8 0),(AV.i .u8 0),(AV.i .u8 0),(AV.i .u8 0),(AV.i .u8 0),(AV.i .u8 0),(AV.i .u8 0),(AV.i .u8 0),(AV.i .u8 0),(AV.i .u8 0),(AV.i .u8 0),(AV.i .u8 0),(AV.i .u8 0),(AV.i .u8 0),(AV.i .u8 0),(AV.i .u8 0),(AV.i .u8 0),(AV.i .u8 0),(AV.i .u8 0),(AV.i .u8 0),(AV.i .u8 0),(AV.i .u8 0),(AV.i .u8 0),(AV.i .u8 0),(AV.i .u8 0),(AV.i .u8 0),(AV.i .u8 0),(AV.i .u8 0),(AV.i .u8 0),(AV.i .u8 0),(AV.i .u8 0),(AV.i .u8 0),(AV.i .u8 0),(AV.i .u8 0),(AV.i .u8 0),(AV.i .u8 0),(AV.i .u8 0),(AV.i .u8 0),(AV.i .u8 0),(AV.i .u8 0),(AV.i .u8 0),(AV.i .u8 0),(AV.i .u8 0),(AV.i .u8 0),(AV.i .u8 0),(AV.i .u8 0),(AV.i .u8 0),(AV.i .u8 0),(AV.i .u8 0),(AV.i .u8 0),(AV.i .u8 0),(AV.i .u8 0),(AV.i .u8 0),(AV.i .u8 0),(AV.i .u8 0),(AV.i .u8 0),(AV.i .u8 0),(AV.i .u8 0),(AV.i .u8 0),(AV.i .u8 0),(AV.i .u8 0),(AV.i .u8 0),(AV.i .u8 0),(AV.i .u8 0),(AV.i .u8 0),(AV.i .u8 0),(AV.i .u8 0),(AV.i .u8 0),(AV.i .u8 0),(AV.i .u8 0),(AV.i .u8 0),(AV.i .u8 0),(AV.i .u8 0),(AV.i .u8 0),(AV.i .u8 0),(AV.i .u8 0),(AV.i .u8 0),(AV.i .u8 0),(AV.i .u8 0),(AV.i .u8 0),(AV.i .u8 0),(AV.i .u8 0),(AV.i .u8 0),(AV.i .u8 0),(AV.i .u8 0),(AV.i .u8 0),(AV.i .u8 0),(AV.i .u8 0),(AV.i .u8 0),(AV.i .u8 0),(AV.i .u8 0),(AV.i .u8 0),(AV.i .u8 0),(AV.i .u8 0),(AV.i .u8 0),(AV.i .u8 0),(AV.i .u8 0),(AV.i .u8 0),(AV.i .u8 0),(AV.i .u8 0),(AV.i .u8 0),(AV.i .u8 0),(AV.i .u8 0),(AV.i .u8 0)] h fun v47 h48=>
aP 256 v47 (AV.ag [(AV.i .u8 0),(AV.i .u8 0),(AV.i .u8 0),(AV.i .u8 0),(AV.i .u8 0),(AV.i .u8 0),(AV.i .u8 0),(AV.i .u8 0),(AV.i .u8 0),(AV.i .u8 0),(AV.i .u8 0),(AV.i .u8 0),(AV.i .u8 0),(AV.i .u8 0),(AV.i .u8 0),(AV.i .u8 0),(AV.i .u8 0),(AV.i .u8 0),(AV.i .u8 0),(AV.i .u8 0),(AV.i .u8 0),(AV.i .u8 0),(AV.i .u8 0),(AV.i .u8 0),(AV.i .u8 0),(AV.i .u8 0),(AV.i .u8 0),(AV.i .u8 0),(AV.i .u8 0),(AV.i .u8 0),(AV.i .u8 0),(AV.i .u8 0),(AV.i .u8 0),(AV.i .u8 0),(AV.i .u8 0),(AV.i .u8 0),(AV.i .u8 0),(AV.i .u8 0),(AV.i .u8 0),(AV.i .u8 0),(AV.i .u8 0),(AV.i .u8 0),(AV.i .u8 0),(AV.i .u8 0),(AV.i .u8 0),(AV.i .u8 0),(AV.i .u8 0),(AV.i .u8 0),(AV.i .u8 0),(AV.i .u8 0),(AV.i .u8 0),(AV.i .u8 0),(AV.i .u8 0),(AV.i .u8 0),(AV.i .u8 0),(AV.i .u8 0),(AV.i .u8 0),(AV.i .u8 0),(AV.i .u8 0),(AV.i .u8 0),(AV.i .u8 0),(AV.i .u8 0),(AV.i .u8 0),(AV.i .u8 0),(AV.i .u8 0),(AV.i .u8 0),(AV.i .u8 0),(AV.i .u8 0),(AV.i .u8 0),(AV.i .u8 0),(AV.i .u8 0),(AV.i .u8 0),(AV.i .u8 0),(AV.i .u8 0),(AV.i .u8 0),(AV.i .u8 0),(AV.i .u8 0),(AV.i .u8 0),(AV.i .u8 0),(AV.i .u8 0),(AV.i .u8 0),(AV.i .u8 0),(AV.i .u8 0),(AV.i .u8 0),(AV.i .u8 0),(AV.i .u8 0),(AV.i .u8 0),(AV.i .u8 0),(AV.i .u8 0),(AV.i .u8 0),(AV.i .u8 0),(AV.i .u8 0),(AV.i .u8 0),(AV.i .u8 0),(AV.i .u8 0),(AV.i .u8 0),(AV.i .u8 0),(AV.i .u8 0),(AV.i .u8 0),(AV.i .u8 0),(AV.i .u8 0),(AV.i .u8 0),(AV.i .u8 0),(AV.i .u8 0),(AV.i .u8 0),(AV.i .u8 0),(AV.i .u8 0),(AV.i .u8 0),(AV.i .u8 0),(AV.i .u8 0),(AV.i .u8 0),(AV.i .u8 0),(AV.i .u8 0),(AV.i .u8 0),(AV.i .u8 0),(AV.i .u8 0),(AV.i .u8 0),(AV.i .u8 0),(AV.i .u8 0),(AV.i .u8 0),(AV.i .u8 0),(AV.i .u8 0),(AV.i .u8 0),(AV.i .u8 0),(AV.i .u8 0),(AV.i .u8 0),(AV.i .u8 0),(AV.i .u8 0),(AV.i .u8 0),(AV.i .u8 0),(AV.i .u8 0),(AV.i .u8 0),(AV.i .u8 0),(AV.i .u8 0),(AV.i .u8 0),(AV.i .u8 0),(AV.i .u8 0),(AV.i .u8 0),(AV.i .u8 0),(AV.i .u8 0),(AV.i .u8 0),(AV.i .u8 0),(AV.i .u8 0),(AV.i .u8 0),(AV.i .u8 0),(AV.i .u8 0),(AV.i .u8 0),(AV.i .u8 0),(AV.i .u8 0),(AV.i .u8 0),(AV.i .u8 0),(AV.i .u8 0),(AV.i .u8 0),(AV.i .u8 0),(AV.i .u8 0),(AV.i .u8 0),(AV.i .u8 0),(AV.i .u8 0),(AV.i .u8 0),(AV.i .u8 0),(AV.i .u8 0),(AV.i .u8 0),(AV.i .u8 0),(AV.i .u8 0),(AV.i .u8 0),(AV.i .u8 0),(AV.i .u8 0),(AV.i .u8 0),(AV.i .u8 0),(AV.i .u8 0),(AV.i .u8 0),(AV.i .u8 0),(AV.i .u8 0),(AV.i .u8 0),(AV.i .u8 0),(AV.i .u8 0),(AV.i .u8 0),(AV.i .u8 0),(AV.i .u8 0),(AV.i .u8 0),(AV.i .u8 0),(AV.i .u8 0),(AV.i .u8 0),(AV.i .u8 0),(AV.i .u8 0),(AV.i .u8 0),(AV.i .u8 0),(AV.i .u8 0),(AV.i .u8 0),(AV.i .u8 0),(AV.i .u8 0),(AV.i .u8 0),(AV.i .u8 0),(AV.i .u8 0),(AV.i .u8 0),(AV.i .u8 0),(AV.i .u8 0),(AV.i .u8 0),(AV.i .u8 0),(AV.i .u8 0),(AV.i .u8 0),(AV.i .u8 0),(AV.i .u8 0),(AV.i .u8 0),(AV.i .u8 0),(AV.i .u8 0),(AV.i .u8 0),(AV.i .u8 0),(AV.i .u8 0),(AV.i .u8 0),(AV.i .u8 0),(AV.i .u8 0),(AV.i .u8 0),(AV.i .u8 0),(AV.i .u8 0),(AV.i .u8 0),(AV.i .u8 0),(AV.i .u8 0),(AV.i .u8 0),(AV.i .u8 0),(AV.i .u8 0),(AV.i .u8 0),(AV.i .u8 0),(AV.i .u8 0),(AV.i .u8 0),(AV.i .u8 0),(AV.i .u8 0),(AV.i .u8 0),(AV.i .u8 0),(AV.i .u8 0),(AV.i .u8 0),(AV.i .u8 0),(AV.i .u8 0),(AV.i .u8 0),(AV.i .u8 0),(AV.i .u8 0),(AV.i .u8 0),(AV.i .u8 0),(AV.i .u8 0),(AV.i .u8 0),(AV.i .u8 0),(AV.i .u8 0),(AV.i .u8 0),(AV.i .u8 0),(AV.i .u8 0),(AV.i .u8 0),(AV.i .u8 0),(AV.i .u8 0),(AV.i .u8 0),(AV.i .u8 0),(AV.i .u8 0),(AV.i .u8 0),(AV.i .u8 0),(AV.i .u8 0),(AV.i .u8 0),(AV.i .u8 0)]) h48 fun h49=>
J 4 [(3,x3),(6,v47),(61,(AV.i .i64 0))] h49)
else
(bJ x3 fun n85=>
kS .i64 n85 2 fun n86=>
uU 1 16 [(AV.s [])] (AV.i .i64 0) (AV.i .i64 n86) h fun v87 h88=>
iC [(AV.sl none 0 none),(AV.sl none 0 none),(AV.sl none 0 none),(AV.sl none 0 none),(AV.sl none 0 none),(AV.sl none 0 none),(AV.sl none 0 none),(AV.sl none 0 none),(AV.sl none 0 none),(AV.sl none 0 none),(AV.sl none 0 none),(AV.sl none 0 none),(AV.sl none 0 none),(AV.sl none 0 none),(AV.sl none 0 none),(AV.sl none 0 none),(AV.sl none 0 none),(AV.sl none 0 none),(AV.sl none 0 none),(AV.sl none 0 none),(AV.sl none 0 none),(AV.sl none 0 none),(AV.sl none 0 none),(AV.sl none 0 none),(AV.sl none 0 none),(AV.sl none 0 none),(AV.sl none 0 none),(AV.sl none 0 none),(AV.sl none 0 none),(AV.sl none 0 none),(AV.sl none 0 none),(AV.sl none 0 none),(AV.sl none 0 none),(AV.sl none 0 none),(AV.sl none 0 none),(AV.sl none 0 none),(AV.sl none 0 none),(AV.sl none 0 none),(AV.sl none 0 none),(AV.sl none 0 none),(AV.sl none 0 none),(AV.sl none 0 none),(AV.sl none 0 none),(AV.sl none 0 none),(AV.sl none 0 none),(AV.sl none 0 none),(AV.sl none 0 none),(AV.sl none 0 none),(AV.sl none 0 none),(AV.sl none 0 none),(AV.sl none 0 none),(AV.sl none 0 none),(AV.sl none 0 none),(AV.sl none 0 none),(AV.sl none 0 none),(AV.sl none 0 none),(AV.sl none 0 none),(AV.sl none 0 none),(AV.sl none 0 none),(AV.sl none 0 none),(AV.sl none 0 none),(AV.sl none 0 none),(AV.sl none 0 none),(AV.sl none 0 none),(AV.sl none 0 none),(AV.sl none 0 none),(AV.sl none 0 none),(AV.sl none 0 none),(AV.sl none 0 none),(AV.sl none 0 none),(AV.sl none 0 none),(AV.sl none 0 none),(AV.sl none 0 none),(AV.sl none 0 none),(AV.sl none 0 none),(AV.sl none 0 none),(AV.sl none 0 none),(AV.sl none 0 none),(AV.sl none 0 none),(AV.sl none 0 none),(AV.sl none 0 none),(AV.sl none 0 none),(AV.sl none 0 none),(AV.sl none 0 none),(AV.sl none 0 none),(AV.sl none 0 none),(AV.sl none 0 none),(AV.sl none 0 none),(AV.sl none 0 none),(AV.sl none 0 none),(AV.sl none 0 none),(AV.sl none 0 none),(AV.sl none 0 none),(AV.sl none 0 none),(AV.sl none 0 none),(AV.sl none 0 none),(AV.sl none 0 none),(AV.sl none 0 none),(AV.sl none 0 none),(AV.sl none 0 none),(AV.sl none 0 none),(AV.sl none 0 none),(AV.sl none 0 none),(AV.sl none 0 none),(AV.sl none 0 none),(AV.sl none 0 none),(AV.sl none 0 none),(AV.sl none 0 none),(AV.sl none 0 none),(AV.sl none 0 none),(AV.sl none 0 none),(AV.sl none 0 none),(AV.sl none 0 none),(AV.sl none 0 none),(AV.sl none 0 none),(AV.sl none 0 none),(AV.sl none 0 none),(AV.sl none 0 none),(AV.sl none 0 none),(AV.sl none 0 none),(AV.sl none 0 none),(AV.sl none 0 none),(AV.sl none 0 none),(AV.sl none 0 none),(AV.sl none 0 none),(AV.sl none 0 none),(AV.sl none 0 none),(AV.sl none 0 none),(AV.sl none 0 none),(AV.sl none 0 none),(AV.sl none 0 none),(AV.sl none 0 none),(AV.sl none 0 none),(AV.sl none 0 none),(AV.sl none 0 none),(AV.sl none 0 none),(AV.sl none 0 none),(AV.sl none 0 none),(AV.sl none 0 none),(AV.sl none 0 none),(AV.sl none 0 none),(AV.sl none 0 none),(AV.sl none 0 none),(AV.sl none 0 none),(AV.sl none 0 none),(AV.sl none 0 none),(AV.sl none 0 none),(AV.sl none 0 none),(AV.sl none 0 none),(AV.sl none 0 none),(AV.sl none 0 none),(AV.sl none 0 none),(AV.sl none 0 none),(AV.sl none 0 none),(AV.sl none 0 none),(AV.sl none 0 none),(AV.sl none 0 none),(AV.sl none 0 none),(AV.sl none 0 none),(AV.sl none 0 none),(AV.sl none 0 none),(AV.sl none 0 none),(AV.sl none 0 none),(AV.sl none 0 none),(AV.sl none 0 none),(AV.sl none 0 none),(AV.sl none 0 none),(AV.sl none 0 none),(AV.sl none 0 none),(AV.sl none 0 none),(AV.sl none 0 none),(AV.sl none 0 none),(AV.sl none 0 none),(AV.sl none 0 none),(AV.sl none 0 none),(AV.sl none 0 none),(AV.sl none 0 none),(AV.sl none 0 none),(AV.sl none 0 none),(AV.sl none 0 none),(AV.sl none 0 none),(AV.sl none 0 none),(AV.sl none 0 none),(AV.sl none 0 none),(AV.sl none 0 none),(AV.sl none 0 none),(AV.sl none 0 none),(AV.sl none 0 none),(AV.sl none 0 none),(AV.sl none 0 none),(AV.sl none 0 none),(AV.sl none 0 none),(AV.sl none 0 none),(AV.sl none 0 none),(AV.sl none 0 none),(AV.sl none 0 none),(AV.sl none 0 none),(AV.sl none 0 none),(AV.sl none 0 none),(AV.sl none 0 none),(AV.sl none 0 none),(AV.sl none 0 none),(AV.sl none 0 none),(AV.sl none 0 none),(AV.sl none 0 none),(AV.sl none 0 none),(AV.sl none 0 none),(AV.sl none 0 none),(AV.sl none 0 none),(AV.sl none 0 none),(AV.sl none 0 none),(AV.sl none 0 none),(AV.sl none 0 none),(AV.sl none 0 none),(AV.sl none 0 none),(AV.sl none 0 none),(AV.sl none 0 none),(AV.sl none 0 none),(AV.sl none 0 none),(AV.sl none 0 none),(AV.sl none 0 none),(AV.sl none 0 none),(AV.sl none 0 none),(AV.sl none 0 none),(AV.sl none 0 none),(AV.sl none 0 none),(AV.sl none 0 none),(AV.sl none 0 none),(AV.sl none 0 none),(AV.sl none 0 none),(AV.sl none 0 none),(AV.sl none 0 none),(AV.sl none 0 none),(AV.sl none 0 none),(AV.sl none 0 none),(AV.sl none 0 none),(AV.sl none 0 none),(AV.sl none 0 none),(AV.sl none 0 none),(AV.sl none 0 none),(AV.sl none 0 none),(AV.sl none 0 none),(AV.sl none 0 none),(AV.sl none 0 none),(AV.sl none 0 none),(AV.sl none 0 none),(AV.sl none 0 none),(AV.sl none 0 none),(AV.sl none 0 none),(AV.sl none 0 none),(AV.sl none 0 none),(AV.sl none 0 none),(AV.sl none 0 none),(AV.sl none 0 none),(AV.sl none 0 none),(AV.sl none 0 none),(AV.sl none 0 none)] [(256,1,v87)] fun v89=>
bS (some 178) [(AV.sl none 0 none),(AV.sl none 0 none),(AV.sl none 0 none),(AV.sl none 0 none),(AV.sl none 0 none),(AV.sl none 0 none),(AV.sl none 0 none),(AV.sl none 0 none),(AV.sl none 0 none),(AV.sl none 0 none),(AV.sl none 0 none),(AV.sl none 0 none),(AV.sl none 0 none),(AV.sl none 0 none),(AV.sl none 0 none),(AV.sl none 0 none),(AV.sl none 0 none),(AV.sl none 0 none),(AV.sl none 0 none),(AV.sl none 0 none),(AV.sl none 0 none),(AV.sl none 0 none),(AV.sl none 0 none),(AV.sl none 0 none),(AV.sl none 0 none),(AV.sl none 0 none),(AV.sl none 0 none),(AV.sl none 0 none),(AV.sl none 0 none),(AV.sl none 0 none),(AV.sl none 0 none),(AV.sl none 0 none),(AV.sl none 0 none),(AV.sl none 0 none),(AV.sl none 0 none),(AV.sl none 0 none),(AV.sl none 0 none),(AV.sl none 0 none),(AV.sl none 0 none),(AV.sl none 0 none),(AV.sl none 0 none),(AV.sl none 0 none),(AV.sl none 0 none),(AV.sl none 0 none),(AV.sl none 0 none),(AV.sl none 0 none),(AV.sl none 0 none),(AV.sl none 0 none),(AV.sl none 0 none),(AV.sl none 0 none),(AV.sl none 0 none),(AV.sl none 0 none),(AV.sl none 0 none),(AV.sl none 0 none),(AV.sl none 0 none),(AV.sl none 0 none),(AV.sl none 0 none),(AV.sl none 0 none),(AV.sl none 0 none),(AV.sl none 0 none),(AV.sl none 0 none),(AV.sl none 0 none),(AV.sl none 0 none),(AV.sl none 0 none),(AV.sl none 0 none),(AV.sl none 0 none),(AV.sl none 0 none),(AV.sl none 0 none),(AV.sl none 0 none),(AV.sl none 0 none),(AV.sl none 0 none),(AV.sl none 0 none),(AV.sl none 0 none),(AV.sl none 0 none),(AV.sl none 0 none),(AV.sl none 0 none),(AV.sl none 0 none),(AV.sl none 0 none),(AV.sl none 0 none),(AV.sl none 0 none),(AV.sl none 0 none),(AV.sl none 0 none),(AV.sl none 0 none),(AV.sl none 0 none),(AV.sl none 0 none),(AV.sl none 0 none),(AV.sl none 0 none),(AV.sl none 0 none),(AV.sl none 0 none),(AV.sl none 0 none),(AV.sl none 0 none),(AV.sl none 0 none),(AV.sl none 0 none),(AV.sl none 0 none),(AV.sl none 0 none),(AV.sl none 0 none),(AV.sl none 0 none),(AV.sl none 0 none),(AV.sl none 0 none),(AV.sl none 0 none),(AV.sl none 0 none),(AV.sl none 0 none),(AV.sl none 0 none),(AV.sl none 0 none),(AV.sl none 0 none),(AV.sl none 0 none),(AV.sl none 0 none),(AV.sl none 0 none),(AV.sl none 0 none),(AV.sl none 0 none),(AV.sl none 0 none),(AV.sl none 0 none),(AV.sl none 0 none),(AV.sl none 0 none),(AV.sl none 0 none),(AV.sl none 0 none),(AV.sl none 0 none),(AV.sl none 0 none),(AV.sl none 0 none),(AV.sl none 0 none),(AV.sl none 0 none),(AV.sl none 0 none),(AV.sl none 0 none),(AV.sl none 0 none),(AV.sl none 0 none),(AV.sl none 0 none),(AV.sl none 0 none),(AV.sl none 0 none),(AV.sl none 0 none),(AV.sl none 0 none),(AV.sl none 0 none),(AV.sl none 0 none),(AV.sl none 0 none),(AV.sl none 0 none),(AV.sl none 0 none),(AV.sl none 0 none),(AV.sl none 0 none),(AV.sl none 0 none),(AV.sl none 0 none),(AV.sl none 0 none),(AV.sl none 0 none),(AV.sl none 0 none),(AV.sl none 0 none),(AV.sl none 0 none),(AV.sl none 0 none),(AV.sl none 0 none),(AV.sl none 0 none),(AV.sl none 0 none),(AV.sl none 0 none),(AV.sl none 0 none),(AV.sl none 0 none),(AV.sl none 0 none),(AV.sl none 0 none),(AV.sl none 0 none),(AV.sl none 0 none),(AV.sl none 0 none),(AV.sl none 0 none),(AV.sl none 0 none),(AV.sl none 0 none),(AV.sl none 0 none),(AV.sl none 0 none),(AV.sl none 0 none),(AV.sl none 0 none),(AV.sl none 0 none),(AV.sl none 0 none),(AV.sl none 0 none),(AV.sl none 0 none),(AV.sl none 0 none),(AV.sl none 0 none),(AV.sl none 0 none),(AV.sl none 0 none),(AV.sl none 0 none),(AV.sl none 0 none),(AV.sl none 0 none),(AV.sl none 0 none),(AV.sl none 0 none),(AV.sl none 0 none),(AV.sl none 0 none),(AV.sl none 0 none),(AV.sl none 0 none),(AV.sl none 0 none),(AV.sl none 0 none),(AV.sl none 0 none),(AV.sl none 0 none),(AV.sl none 0 none),(AV.sl none 0 none),(AV.sl none 0 none),(AV.sl none 0 none),(AV.sl none 0 none),(AV.sl none 0 none),(AV.sl none 0 none),(AV.sl none 0 none),(AV.sl none 0 none),(AV.sl none 0 none),(AV.sl none 0 none),(AV.sl none 0 none),(AV.sl none 0 none),(AV.sl none 0 none),(AV.sl none 0 none),(AV.sl none 0 none),(AV.sl none 0 none),(AV.sl none 0 none),(AV.sl none 0 none),(AV.sl none 0 none),(AV.sl none 0 none),(AV.sl none 0 none),(AV.sl none 0 none),(AV.sl none 0 none),(AV.sl none 0 none),(AV.sl none 0 none),(AV.sl none 0 none),(AV.sl none 0 none),(AV.sl none 0 none),(AV.sl none 0 none),(AV.sl none 0 none),(AV.sl none 0 none),(AV.sl none 0 none),(AV.sl none 0 none),(AV.sl none 0 none),(AV.sl none 0 none),(AV.sl none 0 none),(AV.sl none 0 none),(AV.sl none 0 none),(AV.sl none 0 none),(AV.sl none 0 none),(AV.sl none 0 none),(AV.sl none 0 none),(AV.sl none 0 none),(AV.sl none 0 none),(AV.sl none 0 none),(AV.sl none 0 none),(AV.sl none 0 none),(AV.sl none 0 none),(AV.sl none 0 none),(AV.sl none 0 none),(AV.sl none 0 none),(AV.sl none 0 none),(AV.sl none 0 none),(AV.sl none 0 none),(AV.sl none 0 none),(AV.sl none 0 none),(AV.sl none 0 none),(AV.sl none 0 none),(AV.sl none 0 none),(AV.sl none 0 none),(AV.sl none 0 none),(AV.sl none 0 none),(AV.sl none 0 none),(AV.sl none 0 none),(AV.sl none 0 none),(AV.sl none 0 none),(AV.sl none 0 none),(AV.sl none 0 none),(AV.sl none 0 none),(AV.sl none 0 none),(AV.sl none 0 none),(AV.sl none 0 none)] h88 fun v90 h91=>
aP 257 v90 v89 h91 fun h92=>
bJ x3 fun n94=>
aR (IntKind.wrap .i64 (n94 - 2)) fun n95=>
J 6 [(3,x3),(11,v90),(12,(AV.i .i64 n95))] h92))))
theorem Y11.i1 {Q x3 x4 x5 h} (H:Y11.t1 Q x3 x4 x5 h (Y11.J Q)):Y11.p1 Q x3 x4 x5 h:=gH Y11.J Tryz.f131 Y11.dist [1,1,1,1,0,1,0] H
def Y11.t6 (Q:AV→aA→Prop) (x3 x11:AV) (x12 x13:Int) (x14:List UInt8) (h:aA) (J:JT):Prop:=
fM (AV.s x14) h fun v129 h130=>
aC 0 x11 fun v131=>
dI 256 1 v131 (AV.i .u8 x13) fun v132=>
aP 1 v132 v129 h130 fun h133=>
aR (IntKind.wrap .i64 (x12 - 2)) fun n135=>
J 6 [(3,x3),(11,x11),(12,(AV.i .i64 n135))] h133
theorem Y11.i6 {Q x3 x11 x12 x13 x14 h} (H:Y11.t6 Q x3 x11 x12 x13 x14 h (Y11.J Q)):Y11.p6 Q x3 x11 x12 x13 x14 h:=gR Y11.J Tryz.f131 Y11.dist [1,1,1,1,1,1,1,0,1,0,0,1,0,0,1,1,1] H
def Y11.t5 (Q:AV→aA→Prop) (x3 x11:AV) (x12:Int) (h:aA) (J:JT):Prop:=
(bif (decide ((0:Int)≤x12)) then
(aB 1 x3 (AV.i .i64 x12) h fun v100=>
aE v100 h fun v101=>
asS v101 fun l102=>
bN (AV.s l102) (AV.i .i64 0) fun n103=>
aR (IntKind.wrap .i64 (x12+1)) fun n105=>
aB 1 x3 (AV.i .i64 n105) h fun v106=>
aE v106 h fun v107=>
asS v107 fun l108=>
aC 0 x11 fun v110=>
dI 256 1 v110 (AV.i .u8 n103) fun v111=>
aE v111 h fun v112=>
gD prog .eql 91 v112 (AV.sl none 0 none) fun v113=>
asB v113 fun c114=>
(bif c114 then
(aC 256 x11 fun v116=>
aE v116 h fun v117=>
bD 1 1 [(AV.i .u8 0)] [(0,1,(AV.i .u8 n103))] h fun v118 h119=>
cE v118 h119 fun l120=>
bD 1 1 [(AV.s [])] [(0,1,(AV.s l120))] h119 fun v121 h122=>
bQ none 1 16 v117 v121 h122 fun v123 h124=>
aC 256 x11 fun v125=>
aP 1 v125 v123 h124 fun h126=>
J 7 [(3,x3),(11,x11),(12,(AV.i .i64 x12)),(13,(AV.i .u8 n103)),(14,(AV.s l108))] h126)
else
(J 7 [(3,x3),(11,x11),(12,(AV.i .i64 x12)),(13,(AV.i .u8 n103)),(14,(AV.s l108))] h)))
else
(Q (AV.ifc 179 x11) h))
theorem Y11.i5 {Q x3 x11 x12 h} (H:Y11.t5 Q x3 x11 x12 h (Y11.J Q)):Y11.p5 Q x3 x11 x12 h:=gH Y11.J Tryz.f131 Y11.dist [1,1,1,1,1,1,1,0,1,0] H
def Y11.t (Q:AV→aA→Prop) (x0:AV) (h:aA) (J:JT):Prop:=
cC x0 fun v1=>
aC 4 v1 fun v2=>
aE v2 h fun v3=>
bJ v3 fun n5=>
(bif (decide ((n5:Int)=2)) then
(aB 1 v3 (AV.i .i64 0) h fun v6=>
aE v6 h fun v7=>
asS v7 fun l8=>
J 1 [(3,v3),(28,(AV.b (decide ((1:Int)<(l8.length:Int)))))] h)
else
(J 1 [(3,v3),(28,(AV.b false))] h))
theorem Y11.call {K x0 h} (H:Y11.t (aL h K) x0 h (Y11.J (aL h K))):C Y11.id [x0] h K:=
 gC Y11.J Tryz.func131 Y11.dist H
noncomputable def Y45.body:Code:=(Tryz.f133.body).getD .skip
def Y45.ann:Ann:=(sl [0] (sl [0,3] (sq [0,3] (.one (.loop 1 [0,3] (sq [0,3] (sl [0,3,5] bl) (.one (sl [0,3] lf))))) (sl [2] lf))))
theorem Y45.dist:aV (places Y45.ann Y45.body)=true:=by kernel_rfl
noncomputable def Y45.J (Q:AV→aA→Prop):JT:=bY prog C Tryz.f133 Y45.ann Y45.body Q
def Y45.p0 (Q:AV→aA→Prop) (x0:Int) (x3:List UInt8) (h:aA):Prop:=Y45.J Q 1 [(0,(AV.i .i64 x0)),(3,(AV.s x3))] h
def Y45.t0 (Q:AV→aA→Prop) (x0:Int) (x3:List UInt8) (h:aA) (J:JT):Prop:=
(bif (decide ((9:Int)<x0)) then
(jQ x0 10 fun n5=>
aR (IntKind.wrap .i64 (48+n5)) fun n6=>
bD 1 1 [(AV.i .u8 0)] [(0,1,(AV.i .u8 (IntKind.wrap .u8 n6)))] h fun v7 h8=>
cE v7 h8 fun l9=>
eI l9 x3 fun l10=>
kS .i64 x0 10 fun n12=>
J 1 [(0,(AV.i .i64 n12)),(3,(AV.s l10))] h8)
else
(aR (IntKind.wrap .i64 (48+x0)) fun n14=>
bD 1 1 [(AV.i .u8 0)] [(0,1,(AV.i .u8 (IntKind.wrap .u8 n14)))] h fun v15 h16=>
cE v15 h16 fun l17=>
eI l17 x3 fun l18=>
Q (AV.s l18) h16))
theorem Y45.i0 {Q x0 x3 h} (H:Y45.t0 Q x0 x3 h (Y45.J Q)):Y45.p0 Q x0 x3 h:=gH Y45.J Tryz.f133 Y45.dist [1,1,0,0] H
def Y45.t (Q:AV→aA→Prop) (x0:Int) (h:aA) (J:JT):Prop:=
J 1 [(0,(AV.i .i64 x0)),(3,(AV.s []))] h
theorem Y45.call {K x0 h} (H:Y45.t (aL h K) x0 h (Y45.J (aL h K))):C Y45.id [(AV.i .i64 x0)] h K:=
 gC Y45.J Tryz.func133 Y45.dist H
noncomputable def Y95.body:Code:=(Tryz.f140.body).getD .skip
def Y95.ann:Ann:=lf
theorem Y95.dist:aV (places Y95.ann Y95.body)=true:=by kernel_rfl
noncomputable def Y95.J (Q:AV→aA→Prop):JT:=bY prog C Tryz.f140 Y95.ann Y95.body Q
def Y95.t (Q:AV→aA→Prop) (x0:AV) (h:aA) (J:JT):Prop:=
cC x0 fun v0=>
aC 0 v0 fun v1=>
C Y102.id [v1] h fun v2 h3=>
Q (AV.tu []) h3
theorem Y95.call {K x0 h} (H:Y95.t (aL h K) x0 h (Y95.J (aL h K))):C Y95.id [x0] h K:=
 gC Y95.J Tryz.func140 Y95.dist H
noncomputable def Y68.body:Code:=(Tryz.f141.body).getD .skip
def Y68.ann:Ann:=lf
theorem Y68.body_eq:Tryz.f141.body=some Y68.body:=by kernel_rfl
theorem Y68.dist:aV (places Y68.ann Y68.body)=true:=by kernel_rfl
noncomputable def Y68.J (Q:AV→aA→Prop):JT:=bY prog C Tryz.f141 Y68.ann Y68.body Q
def Y68.t (J:JT) (Q:AV→aA→Prop) (x0:AV) (h:aA):Prop:=
cC x0 fun v0=>
aC 0 v0 fun v1=>
C Y67.id [v1] h fun v2 h3=>
Q (AV.tu []) h3
theorem Y68.t_eq (J:JT) (Q:AV→aA→Prop) (x0:AV) (h:aA):Y68.t J Q x0 h=exJ prog C 6 J Y68.ann Y68.body (fA 0 [x0]) h (pQ prog Tryz.f141 Q):=by kernel_rfl
theorem Y68.callF {K:AV→aA→Prop} {x0:AV} {h:aA} (H:Y68.t (Y68.J (aL h K)) (aL h K) x0 h):aF prog C Y68.id [x0] h K:=
 aPK (P:=prog) (fn:=Tryz.f141) (ann:=Y68.ann) (body:=Y68.body) Tryz.func141 Y68.body_eq (by kernel_rfl) Y68.dist (by kernel_rfl) ((Y68.t_eq (Y68.J (aL h K)) (aL h K) x0 h).mp H)
noncomputable def Y69.body:Code:=(Tryz.f142.body).getD .skip
def Y69.ann:Ann:=(.ord (nn 0 4 (.eff 4 (.eff 5 .done .stop) .stop)))
theorem Y69.body_eq:Tryz.f142.body=some Y69.body:=by kernel_rfl
theorem Y69.dist:aV (places Y69.ann Y69.body)=true:=by kernel_rfl
noncomputable def Y69.J (Q:AV→aA→Prop):JT:=bY prog C Tryz.f142 Y69.ann Y69.body Q
def Y69.t (J:JT) (Q:AV→aA→Prop) (x0:AV) (x1:Bool) (h:aA):Prop:=
cC x0 fun v0=>
aC 0 v0 fun v1=>
C Y101.id [(AV.b x1)] h fun v2 h3=>
asI .u32 v2 fun n4=>
C Y109.id [v1,(AV.i .u32 n4)] h3 fun v5 h6=>
Q (AV.tu []) h6
theorem Y69.t_eq (J:JT) (Q:AV→aA→Prop) (x0:AV) (x1:Bool) (h:aA):Y69.t J Q x0 x1 h=exJ prog C 10 J Y69.ann Y69.body (fA 0 [x0,(AV.b x1)]) h (pQ prog Tryz.f142 Q):=by kernel_rfl
theorem Y69.callF {K:AV→aA→Prop} {x0:AV} {x1:Bool} {h:aA} (H:Y69.t (Y69.J (aL h K)) (aL h K) x0 x1 h):aF prog C Y69.id [x0,(AV.b x1)] h K:=
 aPK (P:=prog) (fn:=Tryz.f142) (ann:=Y69.ann) (body:=Y69.body) Tryz.func142 Y69.body_eq (by kernel_rfl) Y69.dist (by kernel_rfl) ((Y69.t_eq (Y69.J (aL h K)) (aL h K) x0 x1 h).mp H)
noncomputable def Y102.body:Code:=(Tryz.f151.body).getD .skip
def Y102.ann:Ann:=(sl [0] (sq [0] (sl [0,6] (.br (sq [] (.br (sl [0] lf) lf) lf) lf)) lf))
theorem Y102.dist:aV (places Y102.ann Y102.body)=true:=by kernel_rfl
noncomputable def Y102.J (Q:AV→aA→Prop):JT:=bY prog C Tryz.f151 Y102.ann Y102.body Q
def Y102.t (Q:AV→aA→Prop) (x0:AV) (h:aA) (J:JT):Prop:=
C Y106.id [] h fun v0 h1=>
cC x0 fun v3=>
aC 0 v3 fun v4=>
C Y115.id [v4,(AV.i .i32 0),(AV.i .i32 1)] h1 fun v5 h6=>
asB v5 fun c7=>
(bif c7 then
(C Y105.id [] h6 fun v9 h10=>
j9 x0 h10 fun v12=>
C Y114.id [v12] h10 fun v13 h14=>
Q (AV.tu []) h14)
else
(C Y120.id [x0] h6 fun v17 h18=>
Q (AV.tu []) h18))
theorem Y102.call {K x0 h} (H:Y102.t (aL h K) x0 h (Y102.J (aL h K))):C Y102.id [x0] h K:=
 gC Y102.J Tryz.func151 Y102.dist H
end Go.Proofs.YtcdkpkkdolmfdaaGreatDoor
namespace Go.Proofs.YtcdkpkkdolmfdaaGreatDoor
open Go.GAM
variable [XR]
noncomputable def Y67.body:Code:=(Tryz.f152.body).getD .skip
def Y67.ann:Ann:=(sq [0] (.br (sl [0] (sl [0] lf)) lf) (sl [0,2] (.seq 1 [] (sl [0,2,16] bl) lf)))
theorem Y67.dist:aV (places Y67.ann Y67.body)=true:=by kernel_rfl
noncomputable def Y67.J (Q:AV→aA→Prop):JT:=bY prog C Tryz.f152 Y67.ann Y67.body Q
def Y67.p0 (Q:AV→aA→Prop) (h:aA):Prop:=Y67.J Q 1 [] h
def Y67.t0 (Q:AV→aA→Prop) (h:aA) (J:JT):Prop:=
C Y105.id [] h fun v23 h24=>
Q (AV.tu []) h24
theorem Y67.i0 {Q h} (H:Y67.t0 Q h (Y67.J Q)):Y67.p0 Q h:=gR Y67.J Tryz.f152 Y67.dist [1,1,1] H
def Y67.t (Q:AV→aA→Prop) (x0:AV) (h:aA) (J:JT):Prop:=
cC x0 fun v0=>
aC 0 v0 fun v1=>
aE v1 h fun v2=>
asI .i32 v2 fun n3=>
j9 x0 h fun v5=>
C Y116.id [v5] h fun v6 h7=>
C Y106.id [] h7 fun v9 h10=>
cC x0 fun v12=>
aC 0 v12 fun v13=>
C Y111.id [v13,(AV.i .i32 (-1))] h10 fun v14 h15=>
asI .i32 v14 fun n16=>
(bif (!decide ((n16:Int)=0)) then
(C Y118.id [x0,(AV.i .i32 n16)] h15 fun v19 h20=>
J 1 [] h20)
else
(J 1 [] h15))
theorem Y67.call {K x0 h} (H:Y67.t (aL h K) x0 h (Y67.J (aL h K))):C Y67.id [x0] h K:=
 gC Y67.J Tryz.func152 Y67.dist H
noncomputable def Y101.body:Code:=(Tryz.f154.body).getD .skip
def Y101.ann:Ann:=(sl [0] (sq [] (sl [3] (.br (sl [2] lf) lf)) (sl [2] lf)))
theorem Y101.dist:aV (places Y101.ann Y101.body)=true:=by kernel_rfl
noncomputable def Y101.J (Q:AV→aA→Prop):JT:=bY prog C Tryz.f154 Y101.ann Y101.body Q
def Y101.t (Q:AV→aA→Prop) (x0:Bool) (h:aA) (J:JT):Prop:=
(bif x0 then
(Q (AV.i .u32 1) h)
else
(Q (AV.i .u32 0) h))
theorem Y101.call {K x0 h} (H:Y101.t (aL h K) x0 h (Y101.J (aL h K))):C Y101.id [(AV.b x0)] h K:=
 gC Y101.J Tryz.func154 Y101.dist H
noncomputable def Y5.body:Code:=(Tryz.f207.body).getD .skip
def Y5.ann:Ann:=(sl [0,1] (sl [0,1,5] (sl [0,1,5,6] (.seq 5 [0,1,5,6] (sl [0,1,5,6,26] (.br (sl [0,1,5,6,30,31,32] (.one (.loop 1 [0,1,5,6,30,31,32] (sl [0,1,5,6,30,31,32,33] (sq [0,1,5,6,30,31,32] bl (.seq 2 [0,1,5,6,30,31,32] (.one (sl [0,1,5,6,8,30,31,32] (sl [0,1,5,6,8,9,30,31,32] (sl [0,1,5,6,8,9,30,31,32,40] (.br (sq [0,1,5,30,31,32] (.ord (nn 0 13 (.eff 13 .done .stop))) lf) lf))))) lf)))))) (sl [0,1,5,6,10] (.one (.loop 3 [0,1,5,6,10] (sq [0,1,5,6,10] (sl [0,1,5,6,10,58] bl) (.seq 4 [0,1,5,6,10] (.one (sl [0,1,5,6,10,11] (sl [0,1,5,6,10,11,70] (.br (sl [0,1,5,10] lf) lf)))) lf))))))) (sq [0,1,5] (sl [0,1,5,82] (.br (sl [4] lf) lf)) (sl [0,1,12] (sl [0,1,12,13] (sq [12] (sl [0,1,12,13,14] (.one (.loop 6 [0,1,12,13,14] (sq [0,1,12,13,14] (sl [0,1,12,13,14,89] bl) (.seq 7 [0,1,12,13,14] (.one (sl [0,1,12,13,14,15] (sl [0,1,12,13,14,15,101] (.br (.ord (nn 0 10 (.eff 10 (.neu 11 (.eff 12 .done .stop)) .stop))) (sl [0,1,12,13,14] lf))))) lf))))) (sl [4] lf)))))))))
theorem Y5.dist:aV (places Y5.ann Y5.body)=true:=by kernel_rfl
noncomputable def Y5.J (Q:AV→aA→Prop):JT:=bY prog C Tryz.f207 Y5.ann Y5.body Q
def Y5.p1 (Q:AV→aA→Prop) (x0:AV) (x1:List UInt8) (x5:Int) (x6:Bool) (x30:AV) (x31 x32:Int) (h:aA):Prop:=Y5.J Q 2 [(0,x0),(1,(AV.s x1)),(5,(AV.i .i64 x5)),(6,(AV.b x6)),(30,x30),(31,(AV.i .i64 x31)),(32,(AV.i .i64 x32))] h
def Y5.p0 (Q:AV→aA→Prop) (x0:AV) (x1:List UInt8) (x5:Int) (x6:Bool) (x30:AV) (x31 x32:Int) (h:aA):Prop:=Y5.J Q 1 [(0,x0),(1,(AV.s x1)),(5,(AV.i .i64 x5)),(6,(AV.b x6)),(30,x30),(31,(AV.i .i64 x31)),(32,(AV.i .i64 x32))] h
def Y5.p3 (Q:AV→aA→Prop) (x0:AV) (x1:List UInt8) (x5:Int) (x6:Bool) (x10:Int) (h:aA):Prop:=Y5.J Q 4 [(0,x0),(1,(AV.s x1)),(5,(AV.i .i64 x5)),(6,(AV.b x6)),(10,(AV.i .i64 x10))] h
def Y5.p2 (Q:AV→aA→Prop) (x0:AV) (x1:List UInt8) (x5:Int) (x6:Bool) (x10:Int) (h:aA):Prop:=Y5.J Q 3 [(0,x0),(1,(AV.s x1)),(5,(AV.i .i64 x5)),(6,(AV.b x6)),(10,(AV.i .i64 x10))] h
def Y5.p6 (Q:AV→aA→Prop) (x0:AV) (x1:List UInt8) (x12:AV) (x13 x14:Int) (h:aA):Prop:=Y5.J Q 7 [(0,x0),(1,(AV.s x1)),(12,x12),(13,(AV.i .i64 x13)),(14,(AV.i .i64 x14))] h
def Y5.p5 (Q:AV→aA→Prop) (x0:AV) (x1:List UInt8) (x12:AV) (x13 x14:Int) (h:aA):Prop:=Y5.J Q 6 [(0,x0),(1,(AV.s x1)),(12,x12),(13,(AV.i .i64 x13)),(14,(AV.i .i64 x14))] h
def Y5.p4 (Q:AV→aA→Prop) (x0:AV) (x1:List UInt8) (x5:Int) (x6:Bool) (h:aA):Prop:=Y5.J Q 5 [(0,x0),(1,(AV.s x1)),(5,(AV.i .i64 x5)),(6,(AV.b x6))] h
def Y5.t1 (Q:AV→aA→Prop) (x0:AV) (x1:List UInt8) (x5:Int) (x6:Bool) (x30:AV) (x31 x32:Int) (h:aA) (J:JT):Prop:=
aR (IntKind.wrap .i64 (x32+1)) fun n38=>
J 1 [(0,x0),(1,(AV.s x1)),(5,(AV.i .i64 x5)),(6,(AV.b x6)),(30,x30),(31,(AV.i .i64 x31)),(32,(AV.i .i64 n38))] h
theorem Y5.i1 {Q x0 x1 x5 x6 x30 x31 x32 h} (H:Y5.t1 Q x0 x1 x5 x6 x30 x31 x32 h (Y5.J Q)):Y5.p1 Q x0 x1 x5 x6 x30 x31 x32 h:=gR Y5.J Tryz.f207 Y5.dist [1,1,1,0,1,0,1,0,0,1,1,1] H
def Y5.t0 (Q:AV→aA→Prop) (x0:AV) (x1:List UInt8) (x5:Int) (x6:Bool) (x30:AV) (x31 x32:Int) (h:aA) (J:JT):Prop:=
(bif (decide ((x32:Int)<x31)) then
(aB 1 x30 (AV.i .i64 x32) h fun v17=>
aE v17 h fun v18=>
asS v18 fun l19=>
C Y73.id [(AV.s x1),(AV.s l19)] h fun v21 h22=>
asI .i64 v21 fun n23=>
(bif (!decide ((n23:Int)=0)) then
(bN (AV.s l19) (AV.i .i64 0) fun n26=>
cC x0 fun v27=>
aC 0 v27 fun v28=>
dI 256 1 v28 (AV.i .u8 n26) fun v29=>
aE v29 h22 fun v30=>
bJ v30 fun n31=>
aR (IntKind.wrap .i64 (n31 - 1)) fun n32=>
aR (IntKind.wrap .i64 (n23 * n32)) fun n33=>
aR (IntKind.wrap .i64 (x5+n33)) fun n34=>
J 2 [(0,x0),(1,(AV.s x1)),(5,(AV.i .i64 n34)),(6,(AV.b true)),(30,x30),(31,(AV.i .i64 x31)),(32,(AV.i .i64 x32))] h22)
else
(J 2 [(0,x0),(1,(AV.s x1)),(5,(AV.i .i64 x5)),(6,(AV.b x6)),(30,x30),(31,(AV.i .i64 x31)),(32,(AV.i .i64 x32))] h22)))
else
(J 5 [(0,x0),(1,(AV.s x1)),(5,(AV.i .i64 x5)),(6,(AV.b x6))] h))
theorem Y5.i0 {Q x0 x1 x5 x6 x30 x31 x32 h} (H:Y5.t0 Q x0 x1 x5 x6 x30 x31 x32 h (Y5.J Q)):Y5.p0 Q x0 x1 x5 x6 x30 x31 x32 h:=gH Y5.J Tryz.f207 Y5.dist [1,1,1,0,1,0,1,0] H
def Y5.t3 (Q:AV→aA→Prop) (x0:AV) (x1:List UInt8) (x5:Int) (x6:Bool) (x10:Int) (h:aA) (J:JT):Prop:=
aR (IntKind.wrap .i64 (x10+1)) fun n63=>
J 3 [(0,x0),(1,(AV.s x1)),(5,(AV.i .i64 x5)),(6,(AV.b x6)),(10,(AV.i .i64 n63))] h
theorem Y5.i3 {Q x0 x1 x5 x6 x10 h} (H:Y5.t3 Q x0 x1 x5 x6 x10 h (Y5.J Q)):Y5.p3 Q x0 x1 x5 x6 x10 h:=gR Y5.J Tryz.f207 Y5.dist [1,1,1,0,1,1,1,0,0,1,1] H
def Y5.t2 (Q:AV→aA→Prop) (x0:AV) (x1:List UInt8) (x5:Int) (x6:Bool) (x10:Int) (h:aA) (J:JT):Prop:=
(bif (decide ((x10:Int)<(x1.length:Int))) then
(bN (AV.s x1) (AV.i .i64 x10) fun n44=>
cC x0 fun v46=>
aC 0 v46 fun v47=>
dI 256 1 v47 (AV.i .u8 n44) fun v48=>
aE v48 h fun v49=>
gD prog .neq 91 v49 (AV.sl none 0 none) fun v50=>
asB v50 fun c51=>
(bif c51 then
(cC x0 fun v53=>
aC 0 v53 fun v54=>
dI 256 1 v54 (AV.i .u8 n44) fun v55=>
aE v55 h fun v56=>
bJ v56 fun n57=>
aR (IntKind.wrap .i64 (n57 - 1)) fun n58=>
aR (IntKind.wrap .i64 (x5+n58)) fun n59=>
J 4 [(0,x0),(1,(AV.s x1)),(5,(AV.i .i64 n59)),(6,(AV.b true)),(10,(AV.i .i64 x10))] h)
else
(J 4 [(0,x0),(1,(AV.s x1)),(5,(AV.i .i64 x5)),(6,(AV.b x6)),(10,(AV.i .i64 x10))] h)))
else
(J 5 [(0,x0),(1,(AV.s x1)),(5,(AV.i .i64 x5)),(6,(AV.b x6))] h))
theorem Y5.i2 {Q x0 x1 x5 x6 x10 h} (H:Y5.t2 Q x0 x1 x5 x6 x10 h (Y5.J Q)):Y5.p2 Q x0 x1 x5 x6 x10 h:=gH Y5.J Tryz.f207 Y5.dist [1,1,1,0,1,1,1,0] H
def Y5.t6 (Q:AV→aA→Prop) (x0:AV) (x1:List UInt8) (x12:AV) (x13 x14:Int) (h:aA) (J:JT):Prop:=
aR (IntKind.wrap .i64 (x14+1)) fun n100=>
J 6 [(0,x0),(1,(AV.s x1)),(12,x12),(13,(AV.i .i64 x13)),(14,(AV.i .i64 n100))] h
theorem Y5.i6 {Q x0 x1 x12 x13 x14 h} (H:Y5.t6 Q x0 x1 x12 x13 x14 h (Y5.J Q)):Y5.p6 Q x0 x1 x12 x13 x14 h:=gR Y5.J Tryz.f207 Y5.dist [1,1,1,1,1,1,1,0,1,0,0,1,1] H
def Y5.t5 (Q:AV→aA→Prop) (x0:AV) (x1:List UInt8) (x12:AV) (x13 x14:Int) (h:aA) (J:JT):Prop:=
(bif (decide ((x14:Int)<(x1.length:Int))) then
(bN (AV.s x1) (AV.i .i64 x14) fun n76=>
cC x0 fun v78=>
aC 0 v78 fun v79=>
dI 256 1 v79 (AV.i .u8 n76) fun v80=>
aE v80 h fun v81=>
gD prog .neq 91 v81 (AV.sl none 0 none) fun v82=>
asB v82 fun c83=>
(bif c83 then
(cV 1 x12 (some (AV.i .i64 x13)) none none h fun v85=>
cC x0 fun v86=>
aC 0 v86 fun v87=>
dI 256 1 v87 (AV.i .u8 n76) fun v88=>
aE v88 h fun v89=>
yQ 1 v85 v89 h fun v90 h91=>
asI .i64 v90 fun n92=>
aR (IntKind.wrap .i64 (x13+n92)) fun n93=>
J 7 [(0,x0),(1,(AV.s x1)),(12,x12),(13,(AV.i .i64 n93)),(14,(AV.i .i64 x14))] h91)
else
(aB 1 x12 (AV.i .i64 x13) h fun v95=>
aP 1 v95 (AV.i .u8 n76) h fun h96=>
aR (IntKind.wrap .i64 (x13+1)) fun n98=>
J 7 [(0,x0),(1,(AV.s x1)),(12,x12),(13,(AV.i .i64 n98)),(14,(AV.i .i64 x14))] h96)))
else
(cE x12 h fun l102=>
Q (AV.s l102) h))
theorem Y5.i5 {Q x0 x1 x12 x13 x14 h} (H:Y5.t5 Q x0 x1 x12 x13 x14 h (Y5.J Q)):Y5.p5 Q x0 x1 x12 x13 x14 h:=gH Y5.J Tryz.f207 Y5.dist [1,1,1,1,1,1,1,0,1,0] H
def Y5.t4 (Q:AV→aA→Prop) (x0:AV) (x1:List UInt8) (x5:Int) (x6:Bool) (h:aA) (J:JT):Prop:=
(bif (!x6) then
(Q (AV.s x1) h)
else
(uU 1 1 [(AV.i .u8 0)] (AV.i .i64 x5) (AV.i .i64 x5) h fun v68 h69=>
J 6 [(0,x0),(1,(AV.s x1)),(12,v68),(13,(AV.i .i64 0)),(14,(AV.i .i64 0))] h69))
theorem Y5.i4 {Q x0 x1 x5 x6 h} (H:Y5.t4 Q x0 x1 x5 x6 h (Y5.J Q)):Y5.p4 Q x0 x1 x5 x6 h:=gR Y5.J Tryz.f207 Y5.dist [1,1,1,1] H
def Y5.t (Q:AV→aA→Prop) (x0:AV) (x1:List UInt8) (h:aA) (J:JT):Prop:=
cC x0 fun v3=>
aC 256 v3 fun v4=>
aE v4 h fun v5=>
bJ v5 fun n6=>
aR (IntKind.wrap .i64 (n6 * 8)) fun n7=>
(bif (decide ((n7:Int)≤(x1.length:Int))) then
(cC x0 fun v9=>
aC 256 v9 fun v10=>
aE v10 h fun v11=>
bJ v11 fun n12=>
J 1 [(0,x0),(1,(AV.s x1)),(5,(AV.i .i64 (x1.length:Int))),(6,(AV.b false)),(30,v11),(31,(AV.i .i64 n12)),(32,(AV.i .i64 0))] h)
else
(J 3 [(0,x0),(1,(AV.s x1)),(5,(AV.i .i64 (x1.length:Int))),(6,(AV.b false)),(10,(AV.i .i64 0))] h))
theorem Y5.call {K x0 x1 h} (H:Y5.t (aL h K) x0 x1 h (Y5.J (aL h K))):C Y5.id [x0,(AV.s x1)] h K:=
 gC Y5.J Tryz.func207 Y5.dist H
end Go.Proofs.YtcdkpkkdolmfdaaGreatDoor
set_option linter.unusedSimpArgs false
namespace Go.GAM
variable {ty:Option TypeId}
def Ext (h0 h:aA):Prop:=h0.length≤h.length∧∀ id,id<h0.length→h[id]? = h0[id]?
theorem Ext.trans {h1 h2 h3:aA} (a:Ext h1 h2) (b:Ext h2 h3):Ext h1 h3:=⟨Nat.le_trans a.1 b.1,fun id hi=>(b.2 id (Nat.lt_of_lt_of_le hi a.1)).trans (a.2 id hi)⟩
theorem Ext.take {h0 h:aA} (a:Ext h0 h):h.take h0.length=h0:=by
 apply List.ext_getElem?
 intro i
 rw [List.getElem?_take]
 by_cases hi:i<h0.length
 ·rw [if_pos hi,a.2 i hi]
 ·rw [if_neg hi,List.getElem?_eq_none (Nat.le_of_not_lt hi)]
def vM:AV→Bool
 | .b _ | .i _ _ | .s _ | .p none | .sl none _ _ | .nf | .ni=>true
 | _=>false
def aIW:AV→Bool
 | .ag cs | .tu cs=>cs.all vM
 | v=>vM v
theorem vS {n:Nat} {v:AV} (h:vM v=true):o6 n [] v=v∧ok1 n [] v=true:=by
 unfold vM at h
 split at h <;> first | exact ⟨rfl,rfl⟩ | cases h
theorem aHM {n:Nat} {v:AV} (h:aIW v=true):ren n [] v=v∧okR n [] v=true:=by
 have hl:∀ cs:List AV,cs.all vM=true→cs.map (o6 n [])=cs∧cs.all (ok1 n [])=true:=by
  intro cs
  induction cs with
  | nil=>exact fun _=>⟨rfl,rfl⟩
  | cons c cs ih =>
   intro hc
   simp only [List.all_cons,Bool.and_eq_true] at hc
   obtain ⟨h1,h2⟩:=ih hc.2
   obtain ⟨h3,h4⟩:=vS (n:=n) hc.1
   simp [h1,h2,h3,h4]
 unfold aIW at h
 split at h
 ·rename_i cs; obtain ⟨h1,h2⟩:=hl cs h; exact ⟨by simp [ren,h1],by simpa [okR] using h2⟩
 ·rename_i cs; obtain ⟨h1,h2⟩:=hl cs h; exact ⟨by simp [ren,h1],by simpa [okR] using h2⟩
 ·rename_i h1 h2
  obtain ⟨h3,h4⟩:=vS (n:=n) h
  constructor
  ·unfold ren; split
   ·exact absurd rfl (h1 _)
   ·exact absurd rfl (h2 _)
   ·exact h3
  ·unfold okR; split
   ·exact absurd rfl (h1 _)
   ·exact absurd rfl (h2 _)
   ·exact h4
theorem aU {h0 h:aA} {K:AV→aA→Prop} {r:AV} (hp:aIW r=true) (hE:Ext h0 h) (hk:K r h0):aL h0 K r h:=by
 obtain ⟨h1,h2⟩:=aHM (n:=h0.length) hp
 refine .inr ⟨[],List.nodup_nil,h2,by simp,fun id hi=>.inl (hE.2 id hi),hE.1, ?_⟩
 rw [h1,hE.take]
 simpa using hk
theorem xF (l:List UInt8):(l.map byteAV).all AV.cellOK=true:=by
 rw [List.all_eq_true]; intro x hx; simp only [List.mem_map] at hx; obtain ⟨c,_,rfl⟩:=hx; rfl
theorem xP (l:List UInt8):(l.map byteAV).all pH=true:=by
 rw [List.all_eq_true]; intro x hx; simp only [List.mem_map] at hx; obtain ⟨c,_,rfl⟩:=hx; rfl
theorem xC (c:UInt8):toByte (byteAV c)=c:=by simp [toByte,byteAV]
theorem aCV (l:List UInt8):(l.map byteAV).map toByte=l:=by
 rw [List.map_map]
 have:toByte ∘ byteAV=id:=by funext c; exact xC c
 rw [this,List.map_id]
theorem aJ {n:Int} (h0 : -9223372036854775808≤n) (h1:n<9223372036854775808):IntKind.wrap .i64 n=n:=by
 have e1:(2:Int) ^ 64=18446744073709551616:=by decide
 have e2:(2:Int) ^ (64 - 1)=9223372036854775808:=by decide
 simp only [IntKind.wrap,IntKind.bits,IntKind.signed,Bool.true_and,decide_eq_true_eq,e1,e2]
 split <;> omega
theorem iJ {n:Int} (h0:0≤n) (h1:n<256):IntKind.wrap .u8 n=n:=by
 simp only [IntKind.wrap,IntKind.bits,IntKind.signed,Bool.false_and,Bool.false_eq_true,if_false]
 omega
theorem getD_some {α:Type} {l:List α} {i:Nat} {c d:α} (hc:l[i]? = some c):l.getD i d=c:=by
 rw [List.getD_eq_getElem?_getD,hc] <;> rfl
theorem kM {l:List UInt8} {k:IntKind} {i:Nat} {c:UInt8} {K:Int→Prop} (hc:l[i]? = some c) (hk:K (c.toNat:Int)):bN (.s l) (.i k (i:Int)) K:=by
 obtain ⟨hlt,_⟩:=List.getElem?_eq_some_iff.1 hc
 refine ⟨by omega,by simpa using hlt, ?_⟩
 rw [Int.toNat_natCast,getD_some hc]
 exact hk
theorem aO {c:Bool} {A B:Prop} (hc:c=true) (h:A):(bif c then A else B):=by rw [hc]; exact h
theorem aN {c:Bool} {A B:Prop} (hc:c=false) (h:B):(bif c then A else B):=by rw [hc]; exact h
theorem aG {c:Bool} {A B:Prop} (h1:c=true→A) (h2:c=false→B):(bif c then A else B):=by
 cases c
 ·exact h2 rfl
 ·exact h1 rfl
theorem aI {e n:Int} {K:Int→Prop} (h:e=n) (hk:K n):aR e K:=by subst h; exact hk
theorem dX {e n:Bool} {K:Bool→Prop} (h:e=n) (hk:K n):sX e K:=by subst h; exact hk
end Go.GAM
namespace Go.GAM
section
variable {P:Program}
end
end Go.GAM
namespace Go.GAM
variable {ty:Option TypeId}
def Upd (M:Nat→Prop) (h h':aA):Prop:=h.length≤h'.length∧∀ i,i<h.length→¬ M i→h'[i]? = h[i]?
theorem Upd.refl (M:Nat→Prop) (h:aA):Upd M h h:=⟨Nat.le_refl _,fun _ _ _=>rfl⟩
theorem Upd.trans {M M':Nat→Prop} {h h1 h2:aA} (a:Upd M h h1) (b:Upd M' h1 h2) (hM:∀ i,i<h.length→M' i→M i):Upd M h h2:=
 ⟨Nat.le_trans a.1 b.1,fun i hi hn=>(b.2 i (Nat.lt_of_lt_of_le hi a.1) fun hm=>hn (hM i hi hm)).trans (a.2 i hi hn)⟩
theorem Upd.mono {M M':Nat→Prop} {h h1:aA} (a:Upd M h h1) (hM:∀ i,i<h.length→M i→M' i):Upd M' h h1:=
 ⟨a.1,fun i hi hn=>a.2 i hi fun hm=>hn (hM i hi hm)⟩
theorem Upd.app (h s:aA):Upd (fun _=>False) h (h++s):=⟨by simp,fun i hi _=>by rw [List.getElem?_append_left hi]⟩
theorem Upd.set (h:aA) (id:Nat) (b:ABlk):Upd (· = id) h (h.set id b):=⟨by simp,fun i hi hn=>by rw [List.getElem?_set_ne (fun e=>hn e.symm)]⟩
theorem bH {α:Type} {l:List α} {i:Nat} {a:α} (h:l[i]? = some a):i<l.length:=(List.getElem?_eq_some_iff.1 h).1
def bC (h:aA) (id:Nat) (cs:List AV):Prop:=∃ b:ABlk,h[id]? = some b∧b.cells=cs∧b.floor≤cs.length∧b.ro=false
theorem bC.lt {h:aA} {id:Nat} {cs:List AV} (R:bC h id cs):id<h.length:=by obtain ⟨b,h1,_⟩:=R; exact bH h1
theorem bC.upd {M:Nat→Prop} {h h':aA} {id:Nat} {cs:List AV} (R:bC h id cs) (U:Upd M h h') (hM:¬ M id):bC h' id cs:=by
 have hl:=R.lt
 obtain ⟨b,h1,h2⟩:=R
 exact ⟨b,(U.2 id hl hM).trans h1,h2⟩
theorem bI {a:AA} {K:AV→Prop} (hk:K (.p (some a))):cC (.p (some a)) K:=hk
theorem aK {id ver off o:Nat} {K:AV→Prop} (hk:K (.p (some ⟨id,ver,off+o⟩))):aC o (.p (some ⟨id,ver,off⟩)) K:=hk
theorem zG {k:IntKind} {a b n:Int} {K:Int→Prop} (hb:b≠0) (hn:k.wrap (a.tdiv b)=n) (hk:K n):kS k a b K:=by subst hn; exact ⟨hb,hk⟩
theorem wP {a b n:Int} {K:Int→Prop} (hb:b≠0) (hn:a.tmod b=n) (hk:K n):jQ a b K:=by subst hn; exact ⟨hb,hk⟩
theorem aM {h:aA} {id n o:Nat} {cs:List AV} {v:AV} {K:AV→Prop} (R:bC h id cs) (hn:n=cs.length) (hc:cs[o]? = some v) (hk:K v):aE (.p (some ⟨id,n,o⟩)) h K:=by
 obtain ⟨b,h1,rfl,h3,h4⟩:=R
 subst hn
 have:=bH hc
 refine ⟨b,h1,⟨h3,Nat.le_refl _,this⟩, ?_⟩
 show K (b.cells.getD o .u)
 rw [getD_some hc]; exact hk
theorem b7 {h:aA} {id n o:Nat} {cs:List AV} {v:AV} {K:aA→Prop} (R:bC h id cs) (hn:n=cs.length) (ho:o<cs.length) (hv:v.parts=[v]:=by rfl) (hs:v.sizeOK=true:=by rfl) (hc:v.cellOK=true:=by rfl)
  (hk:∀ h',h'.length=h.length→Upd (· = id) h h'→bC h' id (cs.set o v)→K h'):aP 1 (.p (some ⟨id,n,o⟩)) v h K:=by
 have hl:=R.lt
 obtain ⟨b,h1,rfl,h3,h4⟩:=R
 subst hn
 refine ⟨b,h1,h4,h3,rfl,(by show o+1≤b.cells.length; omega),hs,by rw [hv] <;> rfl,by rw [hv]; simp [hc], ?_⟩
 refine hk _ (by simp) (Upd.set _ _ _) ⟨_,List.getElem?_set_self hl, ?_, ?_,h4⟩
 ·rw [hv] <;> rfl
 ·simp
theorem bR {cells:List AV} {h:aA} {K:AV→aA→Prop} (hk:∀ h',h'.length=h.length+1→Upd (fun _=>False) h h'→bC h' h.length cells→K (.p (some ⟨h.length,cells.length,0⟩)) h'):bS ty cells h K:=
 hk _ (by simp) (Upd.app _ _) ⟨bP cells 1 true ty,by simp,rfl,Nat.le_refl _,rfl⟩
theorem dP {x:AV} {h:aA} {K:AV→aA→Prop} (hs:x.sizeOK=true:=by rfl) (hk:∀ h',h'.length=h.length+1→Upd (fun _=>False) h h'→bC h' h.length x.parts→K (.p (some ⟨h.length,x.parts.length,0⟩)) h'):dQ ty x h K:=
 ⟨hs,hk _ (by simp) (Upd.app _ _) ⟨bP x.parts 1 true ty,by simp,rfl,Nat.le_refl _,rfl⟩⟩
theorem aCU {n:Int} {K:Int→Prop} (hk:K n):asI .i64 (.i .i64 n) K:=hk
theorem aQ {k:IntKind} {n:Int} {K:Int→Prop} (hk:K n):asI k (.i k n) K:=by cases k <;> exact hk
theorem aS {n:Bool} {K:Bool→Prop} (hk:K n):asB (.b n) K:=hk
theorem bA {n:List UInt8} {K:List UInt8→Prop} (hk:K n):asS (.s n) K:=hk
theorem aK6 {a:Option AA} {n:Nat} {c:Option Nat} {K:Int→Prop} (hk:K n):bJ (.sl a n c) K:=hk
theorem aJ3:∀ (ws pre cs:List AV),ws.length=cs.length→wr (pre++cs) pre.length ws=pre++ws
 | [], pre, cs, h => by
  have:cs=[]:=List.eq_nil_of_length_eq_zero (by simpa using h.symm)
  subst this; simp [wr]
 | w :: ws,pre,[],h=>by simp at h
 | w :: ws, pre, c :: cs, h => by
  simp only [wr]
  have e:(pre++c :: cs).set pre.length w=(pre++[w])++cs:=by simp
  rw [e]
  have:=aJ3 ws (pre++[w]) cs (by simpa using h)
  simpa using this
theorem aT {h:aA} {id n:Nat} {cs:List AV} {K:AV→Prop} (R:bC h id cs) (hn:n=cs.length) (hk:K (.ag cs)):aD n (.p (some ⟨id,n,0⟩)) h K:=by
 obtain ⟨b,h1,rfl,h3,h4⟩:=R
 subst hn
 refine ⟨b,h1,⟨h3,Nat.le_refl _,by simp⟩, ?_⟩
 simpa using hk
theorem aW {h:aA} {id n:Nat} {cs ws:List AV} {K:aA→Prop} (R:bC h id cs) (hn:n=cs.length) (hw:ws.length=n) (hc:ws.all AV.cellOK=true)
  (hk:∀ h',h'.length=h.length→Upd (· = id) h h'→bC h' id ws→K h'):aP n (.p (some ⟨id,n,0⟩)) (.ag ws) h K:=by
 have hl:=R.lt
 obtain ⟨b,h1,rfl,h3,h4⟩:=R
 subst hn
 refine ⟨b,h1,h4,h3,rfl,(by show 0+b.cells.length≤b.cells.length; omega),rfl,hw,hc, ?_⟩
 refine hk _ (by simp) (Upd.set _ _ _) ⟨_,List.getElem?_set_self hl, ?_, ?_,h4⟩
 ·exact aJ3 ws [] b.cells hw
 ·rw [hw]; exact Nat.le_refl _
def bU (v:AV) (id:Nat):Prop:=match v with
 | .sl (some a) _ _=>a.id=id
 | _=>False
def Rd (sz:Nat) (h:aA) (v:AV) (cs:List AV) (len:Nat):Prop:=
 (v = .sl none 0 none∧len=0∧cs=[])∨∃ id ver off cap b,v = .sl (some ⟨id,ver,off⟩) len cap∧h[id]? = some b∧(b.sz=sz∨b.sz=1)∧b.floor≤ver∧ver≤b.cells.length∧off+len * sz≤ver∧(b.cells.drop off).take (len * sz)=cs
theorem Rd.upd {sz:Nat} {M:Nat→Prop} {h h':aA} {v:AV} {cs:List AV} {len:Nat} (R:Rd sz h v cs len) (U:Upd M h h') (hM:∀ id,bU v id→¬ M id):Rd sz h' v cs len:=by
 rcases R with h1 | ⟨id,ver,off,cap,b,rfl,h2,h3⟩
 ·exact .inl h1
 ·exact .inr ⟨id,ver,off,cap,b,rfl,(U.2 id (bH h2) (hM id rfl)).trans h2,h3⟩
theorem Rd.lt {sz:Nat} {h:aA} {v:AV} {cs:List AV} {len:Nat} (R:Rd sz h v cs len) {id:Nat} (hs:bU v id):id<h.length:=by
 rcases R with ⟨rfl,_⟩ | ⟨id',ver,off,cap,b,rfl,h2,h3⟩
 ·exact hs.elim
 ·cases hs; exact bH h2
theorem Rd.length {sz:Nat} {h:aA} {v:AV} {cs:List AV} {len:Nat} (R:Rd sz h v cs len):cs.length=len * sz:=by
 rcases R with ⟨_,rfl,rfl⟩ | ⟨id,ver,off,cap,b,rfl,h2,h3,h4,h5,h6,rfl⟩
 ·simp
 ·simp; omega
theorem Rd.sl {sz:Nat} {h:aA} {v:AV} {cs:List AV} {len:Nat} (R:Rd sz h v cs len) {K:List AV→Prop} (hk:K cs):gQ sz v h K:=by
 rcases R with ⟨rfl,rfl,rfl⟩ | ⟨id,ver,off,cap,b,rfl,h2,h3,h4,h5,h6,rfl⟩
 ·exact hk
 ·exact .inr ⟨b,h2,⟨h4,h5,h6⟩,hk⟩
theorem Rd.len {sz:Nat} {h:aA} {v:AV} {cs:List AV} {len:Nat} (R:Rd sz h v cs len) {K:Int→Prop} (hk:K len):bJ v K:=by
 rcases R with ⟨rfl,rfl,rfl⟩ | ⟨id,ver,off,cap,b,rfl,h2⟩ <;> exact hk
theorem Rd.news {sz:Nat} {h:aA} {v:AV} {cs:List AV} {len:Nat} (R:Rd sz h v cs len) {K:List AV→Nat→Prop} (hk:K cs len):kO sz v h K:=by
 rcases R with ⟨rfl,rfl,rfl⟩ | ⟨id,ver,off,cap,b,rfl,h2,h3,h4,h5,h6,rfl⟩
 ·exact hk
 ·exact .inr ⟨b,h2,⟨h4,h5,h6⟩,hk⟩
structure lP (sz:Nat) (h:aA) (id ver off:Nat) (b:ABlk) (cs:List AV) (len:Nat):Prop where
 blk:h[id]? = some b
 siz:b.sz=sz∨b.sz=1
 flo:b.floor≤ver
 vle:ver≤b.cells.length
 end_:off+len * sz≤ver
 cel:(b.cells.drop off).take (len * sz)=cs
theorem lP.rd {sz:Nat} {h:aA} {id ver off:Nat} {b:ABlk} {cs:List AV} {len:Nat} (R:lP sz h id ver off b cs len) (cap:Option Nat):Rd sz h (.sl (some ⟨id,ver,off⟩) len cap) cs len:=
 .inr ⟨id,ver,off,cap,b,rfl,R.1,R.2,R.3,R.4,R.5,R.6⟩
theorem lP.upd {sz:Nat} {M:Nat→Prop} {h h':aA} {id ver off:Nat} {b:ABlk} {cs:List AV} {len:Nat} (R:lP sz h id ver off b cs len) (U:Upd M h h') (hM:¬ M id):lP sz h' id ver off b cs len:=
 ⟨(U.2 id (bH R.1) hM).trans R.1,R.2,R.3,R.4,R.5,R.6⟩
theorem lP.lt {sz:Nat} {h:aA} {id ver off:Nat} {b:ABlk} {cs:List AV} {len:Nat} (R:lP sz h id ver off b cs len):id<h.length:=bH R.1
theorem b9 {sz:Nat} {h:aA} {id ver off:Nat} {b:ABlk} {cs:List AV} {len:Nat} {cap:Option Nat} {k:IntKind} {i:Nat} {K:AV→Prop} (R:lP sz h id ver off b cs len) (hi:i<len) (hk:K (.p (some ⟨id,ver,off+i * sz⟩))) :
  aB sz (.sl (some ⟨id,ver,off⟩) len cap) (.i k (i:Int)) h K:=
 ⟨by omega,by omega,⟨b,R.1,R.3,Nat.le_trans R.3 R.4⟩,by simpa using hk⟩
theorem aFS {sz:Nat} {h:aA} {id ver off:Nat} {b:ABlk} {cs:List AV} {len i o:Nat} {c:AV} {K:AV→Prop} (R:lP sz h id ver off b cs len) (hi:i<len) (ho:o<sz) (hc:cs[i * sz+o]? = some c) (hk:K c):aE (.p (some ⟨id,ver,off+i * sz+o⟩)) h K:=by
 have h1:(i+1) * sz≤len * sz:=Nat.mul_le_mul_right _ hi
 rw [Nat.add_mul] at h1
 have h2:=R.end_
 refine ⟨b,R.1,⟨R.3,R.4,by simp only; omega⟩, ?_⟩
 have h3:=R.cel
 rw [← h3,List.getElem?_take_of_lt (by omega),List.getElem?_drop] at hc
 show K (b.cells.getD (off+i * sz+o) .u)
 rw [getD_some (show b.cells[off+i * sz+o]? = some c by rw [← hc]; congr 1; omega)]
 exact hk
def Arr (sz:Nat) (h:aA) (v:AV) (cs:List AV) (len:Nat):Prop:=
 (v = .sl none 0 none∧len=0∧cs=[])∨∃ id b,v = .sl (some ⟨id,cs.length,0⟩) len none∧h[id]? = some b∧b.cells=cs∧cs.length=len * sz∧b.sz=sz∧b.floor≤cs.length∧b.ro=false∧b.gl=false
theorem Arr.nil (sz:Nat) (h:aA):Arr sz h (.sl none 0 none) [] 0:=.inl ⟨rfl,rfl,rfl⟩
theorem Arr.rd {sz:Nat} {h:aA} {v:AV} {cs:List AV} {len:Nat} (A:Arr sz h v cs len):Rd sz h v cs len:=by
 rcases A with h1 | ⟨id,b,rfl,h2,rfl,h4,h5,h6,h7⟩
 ·exact .inl h1
 ·refine .inr ⟨id, _, 0, none, b, rfl, h2, .inl h5, h6, Nat.le_refl _, by omega, ?_⟩
  rw [List.drop_zero, ← h4,List.take_length]
theorem Arr.upd {sz:Nat} {M:Nat→Prop} {h h':aA} {v:AV} {cs:List AV} {len:Nat} (A:Arr sz h v cs len) (U:Upd M h h') (hM:∀ id,bU v id→¬ M id):Arr sz h' v cs len:=by
 rcases A with h1 | ⟨id,b,rfl,h2,h3⟩
 ·exact .inl h1
 ·exact .inr ⟨id,b,rfl,(U.2 id (bH h2) (hM id rfl)).trans h2,h3⟩
theorem Arr.append {sz bytes : Nat} {h : aA} {v x : AV} {cs ns : List AV} {len k : Nat} (A : Arr sz h v cs len) (hz : 0 < sz) {K : AV → aA → Prop}
  (hx:∀ K:List AV→Nat→Prop,K ns k→kO sz x h K) (hns:ns.length=k * sz) (hok:ns.all AV.cellOK=true) (hlen:(len+k) * bytes≤140737488355328) (hl2:len+k≤9223372036854775807)
  (hk:∀ v' h',Upd (bU v) h h'→Arr sz h' v' (cs++ns) (len+k)→(∀ id,bU v' id→bU v id∨h.length≤id)→K v' h'):bQ ty sz bytes v x h K:=by
 refine ⟨hz,hx _ ?_⟩
 rcases A with ⟨rfl,rfl,rfl⟩ | ⟨id,b,rfl,h2,rfl,h4,h5,h6,h7,h8⟩
 ·refine ⟨by simpa using hlen, by omega, ?_⟩
  split
  ·rename_i h0
   subst h0
   have:ns=[]:=List.eq_nil_of_length_eq_zero (by simpa using hns)
   subst this
   exact hk _ _ (Upd.refl _ _) (.inl ⟨rfl,rfl,rfl⟩) fun id hi=>.inl hi
  ·refine hk _ _ ((Upd.app _ _).mono fun _ _ h=>h.elim) (.inr ⟨h.length,bP ns sz false ty,by simp,by simp,rfl,by simpa using hns,rfl,Nat.le_refl _,rfl,rfl⟩) fun id hi=>.inr (by cases hi; exact Nat.le_refl _)
 ·have hid := bH h2
  refine ⟨hlen,by omega,b,h2,h5,⟨h6,Nat.le_refl _,by simp only; omega⟩, ?_⟩
  have hcells:(b.cells.drop 0).take (len * sz)=b.cells:=by rw [List.drop_zero, ← h4,List.take_length]
  by_cases ht:k=0
  ·subst ht
   have:ns=[]:=List.eq_nil_of_length_eq_zero (by simpa using hns)
   subst this
   refine .inl ⟨rfl,hk _ _ (Upd.refl _ _) ?_ fun id hi=>.inl hi⟩
   rw [List.append_nil]
   exact .inr ⟨id,b,rfl,h2,rfl,h4,h5,h6,h7,h8⟩
  ·have htp : 0 < k := Nat.pos_of_ne_zero ht
   have hmul:(len+k) * sz=len * sz+k * sz:=Nat.add_mul _ _ _
   cases hex:b.ex with
   | true =>
    have hkz:0<k * sz:=Nat.mul_pos htp hz
    refine .inr (.inl ⟨htp,.inr ⟨rfl,rfl,rfl,by simp only; omega⟩, ?_⟩)
    rw [hcells]
    refine hk _ _ ((Upd.app _ _).mono fun _ _ h=>h.elim) (.inr ⟨h.length,bP (b.cells++ns) sz false ty,rfl,by simp,rfl,by simp [bP,hns,h4,hmul],rfl,by simp [bP],rfl,rfl⟩) fun id hi=>.inr (by cases hi; exact Nat.le_refl _)
   | false =>
    refine .inr (.inr (.inr (.inl ⟨htp,h7,rfl,rfl,h4.symm,rfl,rfl,h8,hok, ?_⟩)))
    refine hk _ _ ((Upd.set _ _ _).mono fun i _ h=>h.symm) (.inr ⟨id,{ b with cells:=b.cells++ns,ty:=jO b.ty ty },rfl,by simp [hid,hex],rfl,by simp [hns,h4,hmul],h5,by simp; omega,h7,h8⟩) fun id hi=>.inl hi
theorem eQ {sz len:Nat} {zeros cs:List AV} {parts:List (Nat × Nat × AV)} {h:aA} {K:AV→aA→Prop} (hf:fJ zeros parts=some cs) (hl:cs.length=len * sz)
  (hk:∀ v h',h'.length=h.length+1→Upd (fun _=>False) h h'→Rd sz h' v cs len→(∀ id,bU v id→h.length≤id)→K v h'):bD sz len zeros parts h K:=by
 unfold bD
 rw [hf]
 refine ⟨hl,hk _ _ (by simp) (Upd.app _ _) (.inr ⟨h.length,cs.length,0,none,bP cs sz true,rfl,by simp,.inl rfl,Nat.le_refl _,Nat.le_refl _,by omega, ?_⟩) fun id hi=>by cases hi; exact Nat.le_refl _⟩
 simp [bP, ← hl]
theorem Arr.push {sz bytes:Nat} {h:aA} {v x:AV} {cs zeros:List AV} {len:Nat} (A:Arr sz h v cs len) (hz:0<sz) {K:AV→aA→Prop} (hf:fJ zeros [(0,sz,x)]=some x.parts) (hxl:x.parts.length=sz) (hok:x.parts.all AV.cellOK=true)
  (hlen:(len+1) * bytes≤140737488355328) (hl2:len+1≤9223372036854775807)
  (hk:∀ v' h',Upd (bU v) h h'→Arr sz h' v' (cs++x.parts) (len+1)→(∀ id,bU v' id→bU v id∨h.length≤id)→K v' h') :
  bD sz 1 zeros [(0,sz,x)] h fun y h'=>bQ ty sz bytes v y h' K:=by
 refine eQ hf (by omega) fun y h1 hl1 U1 R1 F1=>?_
 refine (A.upd U1 fun _ _ h=>h).append hz (ns:=x.parts) (k:=1) (fun K hK=>R1.news hK) (by omega) hok hlen hl2 fun v' h' U2 A2 F2=>hk v' h' ((U1.mono fun _ _ h=>h.elim).trans U2 fun _ _ h=>h) A2 fun id hi=>?_
 rcases F2 id hi with h | h
 ·exact .inl h
 ·exact .inr (by omega)
def Byt (h:aA) (v:AV) (l:List UInt8):Prop:=Rd 1 h v (l.map byteAV) l.length
theorem Byt.str {h:aA} {v:AV} {l:List UInt8} (B:Byt h v l) {K:List UInt8→Prop} (hk:K l):cE v h K:=by
 refine Rd.sl B ⟨xP l, ?_⟩
 rw [aCV]; exact hk
theorem gY {l:List UInt8} {lo:Nat} {K:List UInt8→Prop} (h:lo≤l.length) (hk:K (l.drop lo)):bV (.s l) (some (.i .i64 lo)) none K:=by
 refine ⟨by omega,by simpa using h,Nat.le_refl _, ?_⟩
 simpa using hk
theorem wT {l:List UInt8} {lo hi:Nat} {K:List UInt8→Prop} (h:lo≤hi) (h2:hi≤l.length) (hk:K ((l.take hi).drop lo)):bV (.s l) (some (.i .i64 lo)) (some (.i .i64 hi)) K:=by
 refine ⟨by omega,by omega,by simpa using h,by simpa using h2, ?_⟩
 simpa using hk
theorem kW {l:List UInt8} {hi:Nat} {K:List UInt8→Prop} (h2:hi≤l.length) (hk:K (l.take hi)):bV (.s l) none (some (.i .i64 hi)) K:=by
 refine ⟨by omega,by simp,by simpa using h2, ?_⟩
 simpa using hk
end Go.GAM
namespace Go.GAM
open Go.RowKit
def oY (w : World) (szOf : Nat → Nat) : Value → AV
 | .bool x=>.b x
 | .int k n=>.i k n
 | .string s=>.s s.data.toList
 | .pointer none=>.p none
 | .pointer (some a) => match w.shape? a.block, a.spot with
  | some (_,n),none=>.p (some ⟨a.block,n,a.off⟩)
  | _,_=>.u
 | .slice none 0 0=>.sl none 0 none
 | .slice (some a) len cap => if cap = 0 then (if len = 0 then .sl (some ⟨w.heap.size, 0, 0⟩) 0 (some 0) else .u) else
  match w.shape? a.block,a.spot with
  | some (_,n),none=>if len≤cap∧a.off+cap * szOf a.block≤n then .sl (some ⟨a.block,n,a.off⟩) len (some cap) else .u
  | _,_=>.u
 | .nilFunc=>.nf
 | .nilIface=>.ni
 | .map none=>.mp none
 | _=>.u
def iY (w:World) (szOf:Nat→Nat):Value→AV
 | .agg cs=>.ag (cs.toList.map (oY w szOf))
 | .iface t v=>.ifc t (oY w szOf v)
 | v=>oY w szOf v
def lJ (w:World) (szOf:Nat→Nat) (B:Nat):ABlk:=match w.heap[B]? with
 | some (.cells c _ _)=>⟨c.toList.map (iY w szOf),szOf B,c.size,false,true,true,none,none⟩
 | _=>lN
def kD (w:World) (szOf:Nat→Nat):aA:=(List.range w.heap.size).map (lJ w szOf)++[lN]
def muC (w:World) (szOf:Nat→Nat):Mu:=fun id ver=>
 if id=w.heap.size then (if ver=0 then some ⟨0,0,0,1⟩ else none) else
 match w.shape? id with
 | some (_,n)=>if ver=n then some ⟨id,0,n,szOf id⟩ else none
 | none=>none
def aKU (w:World):Nat→Option Nat:=fun B=>if (w.shape? B).isSome then some B else none
section
variable {w:World} {szOf:Nat→Nat}
theorem wB {B:Nat} {t:TypeId} {n:Nat} (h:w.shape? B=some (t,n)):∃ c fr,w.heap[B]? = some (.cells c t fr)∧c.size=n:=by
 unfold World.shape? at h
 split at h
 ·rename_i c el fr hh
  simp only [Option.some.injEq,Prod.mk.injEq] at h
  obtain ⟨rfl,rfl⟩:=h
  exact ⟨c,fr,hh,rfl⟩
 ·cases h
theorem nA {B:Nat} {x:TypeId × Nat} (h:w.shape? B=some x):B<w.heap.size:=by
 obtain ⟨c,fr,hh,_⟩:=wB (t:=x.1) (n:=x.2) h
 exact (Array.getElem?_eq_some_iff.1 hh).1
theorem zT {B:Nat} {t:TypeId} {n:Nat} (h:w.shape? B=some (t,n)):muC w szOf B n=some ⟨B,0,n,szOf B⟩:=by
 have:=nA h
 unfold muC
 rw [if_neg (by omega),h]
 simp
theorem rS (v : Value) : bG (muC w szOf) (oY w szOf v) v := by
  cases v <;> first | exact .u _ | exact .b _ | exact .i _ _ | exact .s _ _ rfl | exact .nf | exact .ni | skip
  case pointer a=>
    cases a with
    | none=>exact .pn
    | some a =>
      obtain ⟨B,off,spot⟩:=a
      simp only [oY]
      split
      · rename_i t n hs
        exact .p _ _ _ (zT hs) (by simp)
      · exact .u _
  case slice a len cap=>
    cases a with
    | none =>
      cases len with
      | succ l=>exact .u _
      | zero => cases cap with
        | succ c=>exact .u _
        | zero=>exact .sn
    | some a =>
      obtain ⟨B,off,spot⟩:=a
      simp only [oY]
      split
      · rename_i hc
        subst hc
        split
        · rename_i hl
          subst hl
          exact .sl _ _ _ 0 _ ⟨0,0,0,1⟩ (by unfold muC; simp) (Nat.le_refl _) (by simp) (by simp) (by simp) (by simp)
        · exact .u _
      · split
        · rename_i t n hs
          split
          · rename_i hl
            exact .sl _ _ _ cap _ _ (zT hs) hl.1 hl.2 (by simp) (by simp) (by simp)
          · exact .u _
        · exact .u _
  case map r=>cases r <;> first | exact .mpn | exact .u _
theorem vY:∀ vs:List Value,bO (muC w szOf) (vs.map (oY w szOf)) vs
 | []=>.nil
 | v :: vs=>.cons _ _ _ _ (rS v) (vY vs)
theorem aBD (v:Value):bG (muC w szOf) (iY w szOf v) v:=by
 cases v <;> simp only [iY] <;> first | exact rS _ | exact .ag _ _ (vY _) | exact .ifc _ _ _ (rS _)
theorem yX:∀ vs:List Value,bO (muC w szOf) (vs.map (iY w szOf)) vs
 | []=>.nil
 | v :: vs=>.cons _ _ _ _ (aBD v) (yX vs)
theorem pM {B:Nat} (h:B<w.heap.size):(kD w szOf)[B]? = some (lJ w szOf B):=by
 unfold kD
 rw [List.getElem?_append_left (by simpa using h)]
 simp [h]
theorem kX:(kD w szOf).length=w.heap.size+1:=by simp [kD]
theorem aH9 (w : World) (szOf : Nat → Nat) : Rel w (fun B => B < w.heap.size) (muC w szOf) (aKU w) (kD w szOf) w where
 os:=rfl
 tape:=rfl
 output:=rfl
 size0:=Nat.le_refl _
 fz:=fun B hB=>⟨hB,rfl⟩
 ownlt:=fun B id h=>by
  unfold aKU at h
  split at h
  ·rename_i hs
   obtain ⟨x,hx⟩:=Option.isSome_iff_exists.1 hs
   exact nA hx
  ·cases h
 mulen := fun id ver l h => by
  unfold muC at h
  split at h
  ·rename_i he
   subst he
   exact ⟨lN,by simp [kD],by simp [lN]⟩
  ·split at h
   ·rename_i t n hs
    obtain ⟨c,fr,hh,hc⟩:=wB hs
    refine ⟨lJ w szOf id,pM (nA hs),fun _=>?_⟩
    split at h
    ·rename_i hv
     unfold lJ
     rw [hh]
     simp [hv,hc]
    ·cases h
   ·cases h
 blk := fun id b hb hl => by
  rcases Nat.lt_or_ge id w.heap.size with hi | hi
  ·rw [pM hi] at hb
   cases hb
   unfold lJ at hl ⊢
   split at hl
   ·rename_i c el fr hh
    have hs:w.shape? id=some (el,c.size):=by unfold World.shape?; rw [hh]
    refine ⟨⟨id,0,c.size,szOf id⟩, ?_⟩
    have hlen:(c.toList.map (iY w szOf)).length=c.size:=by simp
    refine { cur:=by simp only [hlen]; exact zT hs,owned:=by simp [aKU,hs],sz:=rfl,len:=by simp,ex:=by simp,ro:=by simp,gl:=by simp,nomap:=rfl,tyok:=fun t ht=>(by cases ht),row:=⟨c,el,fr,hh,by simp⟩,free:=by simp,vers:=fun ver h1 h2 l' hl'=>?_ }
    have hv:ver=c.size:=by simp only [hlen] at h2; simp only at h1; omega
    subst hv
    rw [zT hs] at hl'
    cases hl'
    refine { own:=by simp [aKU,hs],sz:=rfl,le:=Nat.le_refl _,base:=fun _=>rfl,cells:=fun j hj=>?_ }
    refine ⟨c[j],by simp [World.cell?,hh,hj], ?_⟩
    have e:(c.toList.map (iY w szOf)).getD j .u=iY w szOf c[j]:=by simp [List.getD,hj]
    simp only [e]
    exact aBD _
   ·exact absurd hl (by simp [lN])
  ·exfalso
   rcases Nat.lt_or_ge id (w.heap.size+1) with h2 | h2
   ·have : id = w.heap.size := by omega
    subst this
    simp [kD] at hb
    subst hb
    simp [lN] at hl
   ·rw [List.getElem?_eq_none (by rw [kX]; omega)] at hb; cases hb
 maps:=fun id b es hb he=>by
  exfalso
  have hm:b∈kD w szOf:=List.mem_of_getElem? hb
  unfold kD at hm
  rcases List.mem_append.1 hm with h1 | h1
  ·obtain ⟨B, _, rfl⟩ := List.mem_map.1 h1
   unfold lJ at he
   split at he <;> cases he
  ·simp at h1; subst h1; cases he
theorem aA9 {x : Addr} {len cap sz : Nat} {vs : List Value} (hl : len ≤ cap) (hc0 : cap ≠ 0) (hz : 0 < sz) (hs : szOf x.block = sz ∨ szOf x.block = 1) (hlen : vs.length = cap * sz) (hv : ∀ i, i < vs.length → w.cell? (x.add i) = some (vs.getD i undef)) :
  ∃ ver b,iY w szOf (.slice (some x) len cap) = .sl (some ⟨x.block,ver,x.off⟩) len (some cap)∧lP sz (kD w szOf) x.block ver x.off b ((vs.take (len * sz)).map (iY w szOf)) len∧b.ro=true:=by
 obtain ⟨B,off,spot⟩:=x
 simp only at hs ⊢
 have hpos:0<vs.length:=by rw [hlen]; exact Nat.mul_pos (by omega) hz
 have cellAdd:∀ i v,spot=none→w.cell? ((⟨B,off,spot⟩:Addr).add i)=some v→∃ c el fr,w.heap[B]? = some (.cells c el fr)∧c[off+i]? = some v:=by
  intro i v hs h
  subst hs
  have e:(⟨B,off,none⟩:Addr).add i=⟨B,off+i,none⟩:=by
   unfold Addr.add
   by_cases hi:i=0
   ·subst hi; simp
   ·simp [hi]
  rw [e] at h
  unfold World.cell? at h
  split at h
  ·rename_i c el fr hh
   exact ⟨c,el,fr,hh,by simpa using h⟩
  ·cases h
 have hsp:spot=none:=by
  have h0:=hv 0 hpos
  unfold World.cell? at h0
  split at h0
  ·cases spot with
   | none=>rfl
   | some s=>simp [Addr.add] at h0
  ·cases h0
 subst hsp
 obtain ⟨c,el,fr,hh,_⟩:=cellAdd 0 _ rfl (hv 0 hpos)
 ·have hcell : ∀ i, i < vs.length → c[off + i]? = some (vs.getD i undef) := fun i hi => by
   obtain ⟨c',el',fr',h1,h2⟩:=cellAdd i _ rfl (hv i hi)
   rw [hh] at h1; cases h1; exact h2
  have hsize:off+cap * sz≤c.size:=by
   have:=hcell (vs.length - 1) (by omega)
   have:=(Array.getElem?_eq_some_iff.1 this).1
   omega
  have hshape:w.shape? B=some (el,c.size):=by unfold World.shape?; rw [hh]
  have hlc:len * sz≤cap * sz:=Nat.mul_le_mul_right _ hl
  refine ⟨c.size,lJ w szOf B, ?_,⟨pM (nA hshape), ?_, ?_, ?_,by omega, ?_⟩, ?_⟩
  ·simp only [iY, oY]
   rw [if_neg hc0,hshape]
   simp only
   rw [if_pos ⟨hl, by
    rcases hs with hs | hs
    ·rw [hs]; exact hsize
    ·have := Nat.le_mul_of_pos_right cap hz
     rw [hs]; omega⟩]
  ·unfold lJ; rw [hh]; exact hs
  ·unfold lJ; rw [hh]; exact Nat.le_refl _
  ·unfold lJ; rw [hh]; simp
  ·unfold lJ; rw [hh]
   simp only
   apply List.ext_getElem?
   intro i
   by_cases hi:i<len * sz
   ·rw [List.getElem?_take_of_lt hi, List.getElem?_drop, List.getElem?_map, Array.getElem?_toList, hcell i (by omega), List.getElem?_map, List.getElem?_take_of_lt hi]
    rw [List.getD_eq_getElem?_getD,List.getElem?_eq_getElem (by omega:i<vs.length)]
    first | done | rfl
   ·rw [List.getElem?_eq_none (by simp; omega),List.getElem?_eq_none (by simp; omega)]
  ·unfold lJ; rw [hh]
end
def Yes:AV→aA→Prop:=fun v _=>v = .b true
theorem vI {h0 h:aA}:aL h0 Yes (.b true) h:=.inl rfl
end Go.GAM
namespace Go.GAM
open Go.RowKit Go.ChangeShapes
section
variable {H:Type} {enc:TypeId × Value→H} {P:Program} {w:World} {szOf:Nat→Nat}
theorem pE {a : Addr} {sz : Nat} : ∀ (rows : List (List Value)) (k : Nat), (∀ i r, rows[i]? = some r → r.length = sz ∧ ∀ j, j < sz → w.cell? (a.add ((k + i) * sz + j)) = some (r.getD j undef)) →
  ∀ i,i<rows.flatten.length→w.cell? (a.add (k * sz+i))=some (rows.flatten.getD i undef)
 | [],k,h,i,hi=>by simp at hi
 | r :: rows, k, h, i, hi => by
  obtain ⟨h1,h2⟩:=h 0 r rfl
  rw [List.flatten_cons]
  by_cases hlt:i<sz
  ·have := h2 i hlt
   rw [Nat.add_zero] at this
   rw [this,List.getD_eq_getElem?_getD,List.getD_eq_getElem?_getD,List.getElem?_append_left (by omega)]
  ·have := pE (a := a) (sz := sz) rows (k + 1) (fun j r hj => by
    have:=h (j+1) r (by simpa using hj)
    rw [show k+1+j=k+(j+1) by omega]; exact this) (i - sz) (by simp at hi ⊢; omega)
   rw [show (k+1) * sz+(i - sz)=k * sz+i by rw [Nat.add_mul]; omega] at this
   rw [this,List.getD_eq_getElem?_getD,List.getD_eq_getElem?_getD,List.getElem?_append_right (by omega),h1]
def kL (sz:Nat) (h:aA) (v:AV) (cs:List AV) (len:Nat):Prop:=Rd sz h v cs len∨(len=0∧cs=[]∧∃ a c,v = .sl (some a) 0 c)
theorem kL.len {sz:Nat} {h:aA} {v:AV} {cs:List AV} {len:Nat} (R:kL sz h v cs len) {K:Int→Prop} (hk:K len):bJ v K:=by
 rcases R with R | ⟨rfl,_,a,c,rfl⟩
 ·exact R.len hk
 ·exact hk
theorem wC {sz:Nat}:∀ rows:List (List Value),(∀ r∈rows,r.length=sz)→rows.flatten.length=rows.length * sz
 | [],_=>by simp
 | r :: rows, h => by
  rw [List.flatten_cons,List.length_append,wC rows fun r hr=>h r (by simp [hr]),h r (by simp),List.length_cons,Nat.add_mul]; omega
theorem rT {sz:Nat}:∀ (rows:List (List Value)) (n:Nat),(∀ r∈rows,r.length=sz)→rows.flatten.take (n * sz)=(rows.take n).flatten
 | [],n,_=>by simp
 | r :: rows,0,_=>by simp
 | r :: rows, n + 1, h => by
  have h1:=h r (by simp)
  rw [List.take_succ_cons,List.flatten_cons,List.flatten_cons, ← rT rows n fun r hr=>h r (by simp [hr]),List.take_append,h1]
  rw [List.take_of_length_le (by rw [h1,Nat.add_mul]; omega),show (n+1) * sz - sz=n * sz by rw [Nat.add_mul]; omega]
end
end Go.GAM
namespace Go.GAM
variable {ty:Option TypeId}
open Go.RowKit
theorem Upd.ext {h h':aA} (U:Upd (fun _=>False) h h'):Ext h h':=⟨U.1,fun i hi=>U.2 i hi fun h=>h⟩
structure eX (sz:Nat) (h0 h:aA) (v:AV) (cs:List AV) (len:Nat):Prop where
 upd:Upd (fun _=>False) h0 h
 arr:Arr sz h v cs len
 new:∀ i,bU v i→h0.length≤i
theorem eX.start (sz:Nat) (h:aA):eX sz h h (.sl none 0 none) [] 0:=⟨Upd.refl _ _,Arr.nil _ _,fun _ h=>h.elim⟩
theorem eX.append {sz bytes:Nat} {h0 h:aA} {v x:AV} {cs ns:List AV} {len k:Nat} (A:eX sz h0 h v cs len) (hz:0<sz) {K:AV→aA→Prop}
  (hx:∀ K:List AV→Nat→Prop,K ns k→kO sz x h K) (hns:ns.length=k * sz) (hok:ns.all AV.cellOK=true) (hlen:(len+k) * bytes≤140737488355328) (hl2:len+k≤9223372036854775807)
  (hk:∀ v' h',eX sz h0 h' v' (cs++ns) (len+k)→Upd (bU v) h h'→K v' h'):bQ ty sz bytes v x h K:=
 A.arr.append hz hx hns hok hlen hl2 fun v' h' U A' F=>hk v' h' ⟨A.upd.trans U fun i hi hs=>absurd (A.new i hs) (by omega),A',fun i hi=>by
  rcases F i hi with h | h
  ·exact A.new i h
  ·exact Nat.le_trans A.upd.1 h⟩ U
theorem eX.build {sz bytes n:Nat} {h0 h:aA} {v:AV} {cs ns zeros:List AV} {parts:List (Nat × Nat × AV)} {len:Nat} (A:eX sz h0 h v cs len) (hz:0<sz) {K:AV→aA→Prop}
  (hf:fJ zeros parts=some ns) (hns:ns.length=n * sz) (hok:ns.all AV.cellOK=true) (hlen:(len+n) * bytes≤140737488355328) (hl2:len+n≤9223372036854775807)
  (hk:∀ v' h',eX sz h0 h' v' (cs++ns) (len+n)→K v' h'):bD sz n zeros parts h fun y h'=>bQ ty sz bytes v y h' K:=by
 refine eQ hf hns fun y h1 hl1 U1 R1 F1=>?_
 have A1:eX sz h0 h1 v cs len:=⟨A.upd.trans U1 fun _ _ h=>h,A.arr.upd U1 fun _ _ h=>h,A.new⟩
 exact A1.append hz (fun K hK=>R1.news hK) hns hok hlen hl2 fun v' h' A' _=>hk v' h' A'
def Tx (h0 h:aA) (v:AV) (l:List UInt8):Prop:=eX 1 h0 h v (l.map byteAV) l.length
theorem Tx.start (h:aA):Tx h h (.sl none 0 none) []:=eX.start 1 h
theorem Tx.push {h0 h:aA} {v:AV} {l:List UInt8} (A:Tx h0 h v l) {c:UInt8} {K:AV→aA→Prop} (hlen:l.length<140737488355328) (hk:∀ v' h',Tx h0 h' v' (l++[c])→K v' h') :
  bD 1 1 [.i .u8 0] [(0,1,.i .u8 (c.toNat:Int))] h fun y h'=>bQ ty 1 1 v y h' K:=by
 refine eX.build A (by decide) (ns:=[byteAV c]) rfl rfl rfl (by omega) (by omega) fun v' h' A'=>hk v' h' ?_
 unfold Tx
 rw [List.map_append,List.length_append]; exact A'
theorem Tx.push2 {h0 h:aA} {v:AV} {l:List UInt8} (A:Tx h0 h v l) {c d:UInt8} {K:AV→aA→Prop} (hlen:l.length<1000000000) (hk:∀ v' h',Tx h0 h' v' (l++[c,d])→K v' h') :
  bD 1 2 [.i .u8 0,.i .u8 0] [(0,1,.i .u8 (c.toNat:Int)),(1,1,.i .u8 (d.toNat:Int))] h fun y h'=>bQ ty 1 1 v y h' K:=by
 refine eX.build A (by decide) (ns:=[byteAV c,byteAV d]) rfl rfl rfl (by omega) (by omega) fun v' h' A'=>hk v' h' ?_
 unfold Tx
 rw [List.map_append,List.length_append]; exact A'
theorem Tx.push3 {h0 h:aA} {v:AV} {l:List UInt8} (A:Tx h0 h v l) {c d e:UInt8} {K:AV→aA→Prop} (hlen:l.length<1000000000) (hk:∀ v' h',Tx h0 h' v' (l++[c,d,e])→K v' h') :
  bD 1 3 [.i .u8 0,.i .u8 0,.i .u8 0] [(0,1,.i .u8 (c.toNat:Int)),(1,1,.i .u8 (d.toNat:Int)),(2,1,.i .u8 (e.toNat:Int))] h fun y h'=>bQ ty 1 1 v y h' K:=by
 refine eX.build A (by decide) (ns:=[byteAV c,byteAV d,byteAV e]) rfl rfl rfl (by omega) (by omega) fun v' h' A'=>hk v' h' ?_
 unfold Tx
 rw [List.map_append,List.length_append]; exact A'
theorem Tx.ret {h0 h:aA} {v:AV} {l:List UInt8} (A:Tx h0 h v l) {Q:AV→aA→Prop} (hq:Q (.s l) h0):cE v h fun x=>aL h0 Q (.s x) h:=
 Byt.str (l:=l) A.arr.rd (aU rfl A.upd.ext hq)
theorem Tx.str {h0 h:aA} {v:AV} {l:List UInt8} (A:Tx h0 h v l) {K:List UInt8→Prop} (hq:K l):cE v h K:=Byt.str (l:=l) A.arr.rd hq
theorem cS {l r:List UInt8} {i:Nat} {c:UInt8} {K:Int→Prop} (h:l.drop i=c :: r) (hk:K (c.toNat:Int)):bN (.s l) (.i .i64 (i:Int)) K:=by
 refine kM ?_ hk
 have:(l.drop i)[0]? = some c:=by rw [h] <;> rfl
 simpa using this
theorem cG {α:Type} {l r:List α} {i:Nat} {c:α} (h:l.drop i=c :: r):i<l.length:=by
 rcases Nat.lt_or_ge i l.length with h1 | h1
 ·exact h1
 ·rw [List.drop_eq_nil_of_le h1] at h; cases h
theorem b3 {α:Type} {l r:List α} {i:Nat} {c:α} (h:l.drop i=c :: r):l.drop (i+1)=r:=by
 have:(l.drop i).drop 1=r:=by rw [h] <;> rfl
 rwa [List.drop_drop] at this
theorem cA {α:Type} {l:List α} {i:Nat} (h:l.drop i=[]):l.length≤i:=by
 have:=congrArg List.length h
 simp at this; omega
def Stk (h:aA) (v:AV) (l:List AV):Prop:=
 (v = .sl none 0 none∧l=[])∨∃ id b,v = .sl (some ⟨id,b.cells.length,0⟩) l.length none∧h[id]? = some b∧b.sz=1∧l.length≤b.cells.length∧b.cells.take l.length=l∧b.floor≤b.cells.length∧b.ro=false∧b.gl=false
theorem Stk.rd {h:aA} {v:AV} {l:List AV} (S:Stk h v l):Rd 1 h v l l.length:=by
 rcases S with ⟨rfl,rfl⟩ | ⟨id,b,rfl,h1,h2,h3,h4,h5,h6,h7⟩
 ·exact .inl ⟨rfl,rfl,rfl⟩
 ·exact .inr ⟨id,_,0,none,b,rfl,h1,.inl h2,h5,Nat.le_refl _,by omega,by rw [List.drop_zero,Nat.mul_one]; exact h4⟩
theorem Stk.upd {M:Nat→Prop} {h h':aA} {v:AV} {l:List AV} (S:Stk h v l) (U:Upd M h h') (hM:∀ i,bU v i→¬ M i):Stk h' v l:=by
 rcases S with h1 | ⟨id,b,rfl,h1,h2⟩
 ·exact .inl h1
 ·exact .inr ⟨id,b,rfl,(U.2 id (bH h1) (hM id rfl)).trans h1,h2⟩
theorem Stk.cut {h:aA} {v:AV} {l:List AV} (S:Stk h v l) {n:Nat} (hn:n≤l.length) {K:AV→Prop} (hk:∀ v',Stk h v' (l.take n)→(∀ i,bU v' i→bU v i)→K v'):cV 1 v none (some (.i .i64 n)) none h K:=by
 rcases S with ⟨rfl,rfl⟩ | ⟨id,b,rfl,h1,h2,h3,h4,h5,h6,h7⟩
 ·have : n = 0 := by simpa using hn
  subst this
  exact ⟨by simp,rfl,rfl,rfl,fun h=>by simp at h,hk _ (.inl ⟨rfl,by simp⟩) fun _ h=>h⟩
 ·refine ⟨Nat.one_pos, fun h => by simp at h, by omega, by simp, b, h1, h5, h5, .inl h2, .inl (by simpa using hn), ?_⟩
  refine hk _ (.inr ⟨id,b,by simp; omega,h1,h2,by simp; omega, ?_,h5,h6,h7⟩) fun _ h=>h
  rw [List.length_take,Nat.min_eq_left hn, ← h4,List.take_take,Nat.min_eq_left hn]
theorem Stk.push {bytes : Nat} {h : aA} {v x : AV} {l zeros : List AV} (S : Stk h v l) (hf : fJ zeros [(0, 1, x)] = some [x]) (hx : x.cellOK = true) (hlen : (l.length + 1) * bytes ≤ 140737488355328) (hl2 : l.length + 1 ≤ 9223372036854775807) {K : AV → aA → Prop}
  (hk:∀ v' h',Upd (bU v) h h'→Stk h' v' (l++[x])→(∀ i,bU v' i→bU v i∨h.length≤i)→K v' h'):bD 1 1 zeros [(0,1,x)] h fun y h'=>bQ ty 1 bytes v y h' K:=by
 refine eQ hf rfl fun y h1 hl1 U1 R1 F1=>⟨Nat.one_pos,R1.news ?_⟩
 have S1:=S.upd U1 fun _ _ h=>h
 rcases S1 with ⟨rfl,rfl⟩ | ⟨id,b,rfl,g1,g2,g3,g4,g5,g6,g7⟩
 ·refine ⟨by simpa using hlen, by omega, ?_⟩
  rw [if_neg (by decide)]
  exact hk _ _ ((U1.mono fun _ _ h=>h.elim).trans (Upd.app _ _) fun _ _ h=>h.elim) (.inr ⟨h1.length,bP [x] 1 false ty,by simp [bP],by simp,rfl,by simp [bP],by simp [bP],by simp [bP],rfl,rfl⟩) fun i hi=>.inr (by have e:h1.length=i:=hi; omega)
 ·have hid := bH g1
  have hidh:id<h.length:=Rd.lt S.rd (id:=id) rfl
  refine ⟨hlen,by omega,b,g1,g2,⟨g5,Nat.le_refl _,by simp only; omega⟩, ?_⟩
  by_cases hfull:l.length=b.cells.length
  ·cases hex : b.ex with
   | true =>
    refine .inr (.inl ⟨Nat.one_pos,.inr ⟨rfl,rfl,rfl,by simp only; omega⟩, ?_⟩)
    refine hk _ _ ((U1.mono fun _ _ h=>h.elim).trans (Upd.app _ _) fun _ _ h=>h.elim) (.inr ⟨h1.length,bP (l++[x]) 1 false ty, ?_, ?_,rfl,by simp [bP],by simp only [bP,List.length_append]; exact List.take_of_length_le (by simp),by simp [bP],rfl,rfl⟩) fun i hi=>.inr (by have e:h1.length=i:=hi; omega)
    ·simp [bP,g4,g3]
    ·simp [g4]
   | false =>
    refine .inr (.inr (.inr (.inl ⟨Nat.one_pos,g6,rfl,rfl,by omega,rfl,rfl,g7,by simp [hx], ?_⟩)))
    have hcl:b.cells=l:=by rw [hfull,List.take_length] at g4; exact g4
    refine hk _ _ ((U1.mono fun _ _ h=>h.elim).trans (Upd.set _ _ _) fun i _ h=>h.symm) (.inr ⟨id,{ b with cells:=b.cells++[x],ty:=jO b.ty ty }, ?_,by simp [hid,hex],g2,by simp; omega, ?_,by simp; omega,g6,g7⟩) fun i hi=>.inl hi
    ·simp
    ·simp only [hcl]
     rw [List.take_of_length_le (by simp)]
  ·refine .inr (.inr (.inl ⟨Nat.one_pos, g6, rfl, by simp only; omega, .inl rfl, by simp [hx], ?_⟩))
   refine hk _ _ ((U1.mono fun _ _ h=>h.elim).trans (Upd.set _ _ _) fun i _ h=>h.symm) (.inr ⟨id,{ b with cells:=wr b.cells (0+l.length * 1) [x],floor:=b.cells.length }, ?_,show (h1.set id _)[id]? = some _ from List.getElem?_set_self hid,g2, ?_, ?_, ?_,g6,g7⟩) fun i hi=>.inl hi
   ·simp [wr]
   ·simp [wr]; omega
   ·simp only [wr, Nat.zero_add, Nat.mul_one, List.length_append, List.length_cons, List.length_nil]
    apply List.ext_getElem?
    intro i
    by_cases h1:i<l.length
    ·rw [List.getElem?_take_of_lt (by omega), List.getElem?_set_ne (by omega), List.getElem?_append_left h1]
     conv=>rhs; rw [← g4]
     rw [List.getElem?_take_of_lt h1]
    ·by_cases h2 : i = l.length
     ·subst h2
      rw [List.getElem?_take_of_lt (by omega),List.getElem?_set_self (by omega),List.getElem?_append_right (by omega)]
      simp
     ·rw [List.getElem?_eq_none (by simp; omega),List.getElem?_eq_none (by simp; omega)]
   ·simp [wr]
theorem Rd.cell {sz:Nat} {h:aA} {v:AV} {cs:List AV} {len:Nat} (R:Rd sz h v cs len) {k:IntKind} {i:Nat} {c:AV} (hz:0<sz) (hi:i<len) (hc:cs[i * sz]? = some c) {K:AV→Prop} (hk:K c) :
  aB sz v (.i k (i:Int)) h fun a=>aE a h K:=by
 rcases R with ⟨rfl,rfl,rfl⟩ | ⟨id,ver,off,cap,b,rfl,h2,h3,h4,h5,h6,h7⟩
 ·omega
 ·have A : lP sz h id ver off b cs len := ⟨h2, h3, h4, h5, h6, h7⟩
  exact b9 A hi (aFS (o:=0) A hi hz (by simpa using hc) hk)
theorem Tx.load {h0 h:aA} {v:AV} {l:List UInt8} (A:Tx h0 h v l) {k:IntKind} {i:Nat} {c:UInt8} (hc:l[i]? = some c) {K:AV→Prop} (hk:K (.i .u8 (c.toNat:Int))):aB 1 v (.i k (i:Int)) h fun a=>aE a h K:=
 Rd.cell A.arr.rd Nat.one_pos (bH hc) (by rw [Nat.mul_one,List.getElem?_map,hc] <;> rfl) hk
theorem Arr.store {h:aA} {v x:AV} {cs:List AV} {len:Nat} (A:Arr 1 h v cs len) {k:IntKind} {i:Nat} (hi:i<len) (hx:x.parts=[x]) (hs:x.sizeOK=true) (hc:x.cellOK=true) {K:aA→Prop}
  (hk:∀ h',Upd (bU v) h h'→Arr 1 h' v (cs.set i x) len→K h'):aB 1 v (.i k (i:Int)) h fun p=>aP 1 p x h K:=by
 rcases A with ⟨rfl,rfl,rfl⟩ | ⟨id,b,rfl,h2,rfl,h4,h5,h6,h7,h8⟩
 ·omega
 ·have hid := bH h2
  refine ⟨by omega,by omega,⟨b,h2,h6,h6⟩, ?_⟩
  refine ⟨b,h2,h7,h6,rfl,by simp only [Int.toNat_natCast]; omega,hs,by rw [hx] <;> rfl,by rw [hx]; simp [hc], ?_⟩
  refine hk _ ((Upd.set _ _ _).mono fun i _ h=>h.symm) (.inr ⟨id,{ b with cells:=wr b.cells (0+i * 1) x.parts,floor:=b.cells.length }, ?_, ?_, ?_, ?_,h5, ?_,h7,h8⟩)
  ·simp
  ·simp only [Int.toNat_natCast]; exact List.getElem?_set_self hid
  ·rw [hx]; simp [wr]
  ·simpa using h4
  ·simp
theorem Tx.store {h0 h:aA} {v:AV} {l:List UInt8} (A:Tx h0 h v l) {k:IntKind} {i:Nat} {c:UInt8} (hi:i<l.length) {K:aA→Prop} (hk:∀ h',Tx h0 h' v (l.set i c)→K h') :
  aB 1 v (.i k (i:Int)) h fun p=>aP 1 p (.i .u8 (c.toNat:Int)) h K:=by
 refine A.arr.store hi rfl rfl rfl fun h' U A'=>hk h' ⟨A.upd.trans U fun j hj hs=>absurd (A.new j hs) (by omega), ?_,A.new⟩
 have e:(l.map byteAV).set i (.i .u8 (c.toNat:Int))=(l.set i c).map byteAV:=by rw [List.map_set] <;> rfl
 rw [e] at A'
 rw [List.length_set]; exact A'
theorem Tx.ofStr {l:List UInt8} {h:aA} {K:AV→aA→Prop} (hk:∀ v h',Tx h h' v l→K v h'):fM (.s l) h K:=
 hk _ _ ⟨Upd.app _ _,.inr ⟨h.length,bP (l.map byteAV) 1 false,by simp,by simp,rfl,by simp,rfl,Nat.le_refl _,rfl,rfl⟩,fun i hi=>by cases hi; exact Nat.le_refl _⟩
theorem nV {x:Nat} (h:x<2 ^ 64):(BitVec.ofInt 64 (x:Int)).toNat=x:=by
 simp [BitVec.toNat_ofInt]; omega
theorem oI {x y:Nat} (hx:x<2 ^ 62) (hy:y<2 ^ 62):cD .or .i64 x y=((x ||| y:Nat):Int):=by
 have h:x ||| y<2 ^ 62:=Nat.or_lt_two_pow hx hy
 show IntKind.wrap .i64 (((BitVec.ofInt 64 (x:Int)) ||| (BitVec.ofInt 64 (y:Int))).toNat:Int)=_
 rw [BitVec.toNat_or,nV (by omega),nV (by omega),aJ (by omega) (by omega)]
theorem aJJ {x y:Nat} (hx:x<2 ^ 62) (hy:y<2 ^ 62):cD .and .i64 x y=((x &&& y:Nat):Int):=by
 have h:x &&& y<2 ^ 62:=Nat.and_lt_two_pow _ hy
 show IntKind.wrap .i64 (((BitVec.ofInt 64 (x:Int)) &&& (BitVec.ofInt 64 (y:Int))).toNat:Int)=_
 rw [BitVec.toNat_and,nV (by omega),nV (by omega),aJ (by omega) (by omega)]
theorem yB {x:Nat} (h:x<256):(BitVec.ofInt 8 (x:Int)).toNat=x:=by
 simp [BitVec.toNat_ofInt]; omega
theorem aGW {x y:Nat} (hx:x<256) (hy:y<256):cD .and .u8 x y=((x &&& y:Nat):Int):=by
 have h:x &&& y<2 ^ 8:=Nat.and_lt_two_pow _ hy
 show IntKind.wrap .u8 (((BitVec.ofInt 8 (x:Int)) &&& (BitVec.ofInt 8 (y:Int))).toNat:Int)=_
 rw [BitVec.toNat_and,yB (by omega),yB (by omega),iJ (by omega) (by omega)]
theorem zQ {a b:Nat} {K:Int→Prop} (hb:b≤64) (h:a * 2 ^ b<2 ^ 62) (hk:K ((a * 2 ^ b:Nat):Int)):tF .i64 a b K:=by
 refine ⟨by omega, ?_⟩
 have e:(a:Int) * 2 ^ (min (b:Int).toNat IntKind.i64.bits)=((a * 2 ^ b:Nat):Int):=by
  rw [Int.toNat_natCast,show IntKind.i64.bits=64 from rfl,Nat.min_eq_left hb]; simp
 rw [e,aJ (by omega) (by omega)]; exact hk
theorem lU {a b:Nat} {k:IntKind} {K:Int→Prop} (hb:b≤k.bits) (hk:K ((a / 2 ^ b:Nat):Int)):rE k a b K:=by
 refine ⟨by omega, ?_⟩
 have e:(a:Int).fdiv (2 ^ (min (b:Int).toNat k.bits))=((a / 2 ^ b:Nat):Int):=by
  rw [Int.toNat_natCast,Nat.min_eq_left hb]
  have h2:((2:Int) ^ b)=((2 ^ b:Nat):Int):=by simp
  rw [h2,Int.fdiv_eq_ediv_of_nonneg _ (Int.natCast_nonneg (2 ^ b))] <;> rfl
 rw [e]; exact hk
theorem zU {P:Program} {f:FuncId} {cargs:List Value} {w w0:World} {Fz:Nat→Prop} {μ:Mu} {own:Nat→Option Nat} {h:aA} {K:AV→aA→Prop} {av:AV} {v:Value} (hb:kK P f=true) (R:Rel w0 Fz μ own h w)
  (hc:Calls P f cargs.toArray w fun e w'=>e = .returned v∧Below w.heap.size w w') (hv:bG μ av v) (hk:K av h):aDL P f cargs w (jX w0 Fz μ K):=by
 refine .inl ⟨f,cargs.toArray,pB hb _ _,hc.mono fun e w' ⟨he,hb⟩=>⟨v,he,av,μ,own,h,hk,hv, ?_,Sub.refl _⟩⟩
 exact R.same (fun B hB=>hb.block B hB) hb.size hb.os hb.tape hb.output
end Go.GAM
namespace Go.GAM
open Go.RowKit
section
variable {H:Type} {enc:TypeId × Value→H} {P:Program} {w:World} {szOf:Nat→Nat}
end
theorem kL.rd {sz:Nat} {h:aA} {v:AV} {cs:List AV} {len:Nat} (S:kL sz h v cs len) (hl:len≠0):Rd sz h v cs len:=by
 rcases S with R | ⟨h1,_⟩
 ·exact R
 ·exact absurd h1 hl
theorem Rd.str {h:aA} {v:AV} {l:List (List UInt8)} {len:Nat} (R:Rd 1 h v (l.map .s) len) {k:IntKind} {i:Nat} {x:List UInt8} (hx:l[i]? = some x) {K:List UInt8→Prop} (hk:K x) :
  aB 1 v (.i k (i:Int)) h fun a=>aE a h fun y=>asS y K:=by
 have hl:=R.length
 rw [List.length_map,Nat.mul_one] at hl
 exact R.cell Nat.one_pos (by have:=bH hx; omega) (c:=.s x) (by rw [Nat.mul_one,List.getElem?_map,hx] <;> rfl) (bA hk)
theorem Rd.byte {h:aA} {v:AV} {l:List UInt8} {len:Nat} (R:Rd 1 h v (l.map byteAV) len) {k:IntKind} {i:Nat} {x:UInt8} (hx:l[i]? = some x) {K:Int→Prop} (hk:K (x.toNat:Int)) :
  aB 1 v (.i k (i:Int)) h fun a=>aE a h fun y=>asI .u8 y K:=by
 have hl:=R.length
 rw [List.length_map,Nat.mul_one] at hl
 exact R.cell Nat.one_pos (by have:=bH hx; omega) (c:=byteAV x) (by rw [Nat.mul_one,List.getElem?_map,hx] <;> rfl) (aQ hk)
end Go.GAM
namespace Go.GAM
open Go.RowKit Go.ChangeShapes
section
variable {H:Type} {enc:TypeId × Value→H} {P:Program} {w:World} {szOf:Nat→Nat}
theorem dZ {n:String} {d:DataW Unit} {l:List (String × DataW Unit)} (hm:(n,d)∈l) (hL:laidMet P l w) :
  ∃ g t cs fuel p,P.globalNamed n=some g∧(P.globals[g]?).map (·.type)=some t∧w.var? P n=some cs∧DataW.trod (fun _=>()) P w 0 (fun _=>true) false fuel t cs.toList=some (d,p):=by
 obtain ⟨ps,h,hx⟩:=hL
 clear hx
 induction l generalizing ps with
 | nil=>cases hm
 | cons x l ih =>
  obtain ⟨n',d'⟩:=x
  obtain ⟨g,t,cs,fuel,p,q,h1,h2,h3,h4,h5,h6⟩:=h
  rcases List.mem_cons.1 hm with h | h
  ·cases h; exact ⟨g,t,cs,fuel,p,h1,h2,h3,h4⟩
  ·exact ih h _ h5
theorem aG4 {n:String} {g:Nat} {cs:Array Value} (hg:P.globalNamed n=some g) (hv:w.var? P n=some cs):∃ t fr,w.heap[g]? = some (.cells cs t fr):=by
 unfold World.var? at hv
 rw [hg] at hv
 simp only [Option.bind_some] at hv
 split at hv
 ·rename_i c t fr h
  cases hv
  exact ⟨t,fr,h⟩
 ·cases hv
end
end Go.GAM
