/- Lemmas (several texts in one). -/
import Derived.Test.YtcdkpkkdolmfdaaGreatDoorMg2
set_option linter.unusedVariables false
set_option linter.unusedSectionVars false
set_option maxRecDepth 100000
namespace Go.Proofs.YtcdkpkkdolmfdaaGreatDoor
open Go.GAM
variable [XR]
noncomputable def Y27.body:Code:=(Tryz.f28.body).getD .skip
def Y27.ann:Ann:=(sl [1] (sl [1,3] (sl [1,3,4] (.seq 2 [3,4] (sl [1,3,4,15] (.br (sl [1,3,4] (sl [1,3,4,5] (.one (.loop 1 [1,3,4,5] (sq [1,3,4,5] (sl [1,3,4,5,22] bl) (sq [1,3,4,5] (.one lf) lf)))))) lf)) (.seq 3 [2] (.ord (nn 0 2 (nn 4 2 (.neu 8 (.eff 2 (.neu 3 (.eff 6 (.neu 7 (nn 9 2 .done)) .stop)) (.eff 6 (.eff 2 (.neu 3 (.neu 7 (nn 9 2 .done))) .stop) .stop)))))) lf)))))
theorem Y27.dist:aV (places Y27.ann Y27.body)=true:=by kernel_rfl
noncomputable def Y27.J (Q:AV→aA→Prop):JT:=bY prog C Tryz.f28 Y27.ann Y27.body Q
def Y27.p0 (Q:AV→aA→Prop) (x1:AV) (x3:Int) (x4:List UInt8) (x5:Int) (h:aA):Prop:=Y27.J Q 1 [(1,x1),(3,(AV.i .i64 x3)),(4,(AV.s x4)),(5,(AV.i .i64 x5))] h
def Y27.p2 (Q:AV→aA→Prop) (x2:List UInt8) (h:aA):Prop:=Y27.J Q 3 [(2,(AV.s x2))] h
def Y27.p1 (Q:AV→aA→Prop) (x3:Int) (x4:List UInt8) (h:aA):Prop:=Y27.J Q 2 [(3,(AV.i .i64 x3)),(4,(AV.s x4))] h
def Y27.t0 (Q:AV→aA→Prop) (x1:AV) (x3:Int) (x4:List UInt8) (x5:Int) (h:aA) (J:JT):Prop:=
aC 4 x1 fun v23=>
aE v23 h fun v24=>
bJ v24 fun n25=>
(bif (decide ((x5:Int)<n25)) then
(aC 4 x1 fun v29=>
aE v29 h fun v30=>
aB 5 v30 (AV.i .i64 x5) h fun v31=>
aD 5 v31 h fun v32=>
C Y27.id [v32] h fun v33 h34=>
asS v33 fun l35=>
eI x4 l35 fun l36=>
aR (IntKind.wrap .i64 (x5+1)) fun n38=>
J 1 [(1,x1),(3,(AV.i .i64 x3)),(4,(AV.s l36)),(5,(AV.i .i64 n38))] h34)
else
(J 2 [(3,(AV.i .i64 x3)),(4,(AV.s x4))] h))
theorem Y27.i0 {Q x1 x3 x4 x5 h} (H:Y27.t0 Q x1 x3 x4 x5 h (Y27.J Q)):Y27.p0 Q x1 x3 x4 x5 h:=gH Y27.J Tryz.f28 Y27.dist [1,1,1,0,1,0,1,1,0] H
def Y27.t2 (Q:AV→aA→Prop) (x2:List UInt8) (h:aA) (J:JT):Prop:=
Q (AV.s x2) h
theorem Y27.i2 {Q x2 h} (H:Y27.t2 Q x2 h (Y27.J Q)):Y27.p2 Q x2 h:=gR Y27.J Tryz.f28 Y27.dist [1,1,1,1,1] H
def Y27.t1 (Q:AV→aA→Prop) (x3:Int) (x4:List UInt8) (h:aA) (J:JT):Prop:=
((bD 1 1 [(AV.i .u8 0)] [(0,1,(AV.i .u8 (IntKind.wrap .u8 x3)))] h fun v41 h42=>
cE v41 h42 fun l43=>
C Y43.id [(AV.i .i64 (x4.length:Int))] h42 fun v44 h45=>
asS v44 fun l46=>
cE v41 h45 fun l47=>
((AV.s l43)=(AV.s l47) ∧
(eI l43 l46 fun l48=>
eI l48 x4 fun l49=>
J 3 [(2,(AV.s l49))] h45))) ∧
(C Y43.id [(AV.i .i64 (x4.length:Int))] h fun v51 h52=>
asS v51 fun l53=>
bD 1 1 [(AV.i .u8 0)] [(0,1,(AV.i .u8 (IntKind.wrap .u8 x3)))] h52 fun v54 h55=>
cE v54 h55 fun l56=>
eI l56 l53 fun l57=>
eI l57 x4 fun l58=>
J 3 [(2,(AV.s l58))] h55))
theorem Y27.i1 {Q x3 x4 h} (H:Y27.t1 Q x3 x4 h (Y27.J Q)):Y27.p1 Q x3 x4 h:=gR Y27.J Tryz.f28 Y27.dist [1,1,1,1] H
def Y27.t (Q:AV→aA→Prop) (x0:AV) (h:aA) (J:JT):Prop:=
dQ (some 33) x0 h fun v0 h1=>
aC 0 v0 fun v3=>
aE v3 h1 fun v4=>
asI .i64 v4 fun n5=>
aR (IntKind.wrap .i64 (64 * n5)) fun n6=>
aC 1 v0 fun v7=>
aE v7 h1 fun v8=>
asI .i64 v8 fun n9=>
aR (IntKind.wrap .i64 (n6+n9)) fun n10=>
aC 3 v0 fun v12=>
aE v12 h1 fun v13=>
asS v13 fun l14=>
aC 2 v0 fun v16=>
aE v16 h1 fun v17=>
asB v17 fun c18=>
(bif c18 then
(aR (IntKind.wrap .i64 (n10+32)) fun n20=>
J 1 [(1,v0),(3,(AV.i .i64 n20)),(4,(AV.s l14)),(5,(AV.i .i64 0))] h1)
else
(J 2 [(3,(AV.i .i64 n10)),(4,(AV.s l14))] h1))
theorem Y27.call {K x0 h} (H:Y27.t (aL h K) x0 h (Y27.J (aL h K))):C Y27.id [x0] h K:=
 gC Y27.J Tryz.func28 Y27.dist H
noncomputable def Y17.body:Code:=(Tryz.f29.body).getD .skip
def Y17.ann:Ann:=(sl [1] (sq [1] (.seq 1 [1,25] lf (.br (sl [2] lf) lf)) (sl [1,4] (sl [1,4,6] (sq [1] (.seq 2 [1,43] lf (.br (sl [2] lf) lf)) (sq [1] (sl [1,45,46,47] (.one (.loop 3 [1,45,46,47] (sl [1,45,46,47,48] (sq [1,45,46,47] bl (sq [1,45,46,47] (.one (sl [1,8,45,46,47] (sl [1,45,46,47,54] (.br (sl [2] lf) lf)))) lf)))))) (sq [1] (sl [1,10] (sl [1,63] (.br (sl [2] lf) lf))) (sq [] (.seq 4 [73] lf (.br (sl [2] lf) lf)) (sl [2] lf)))))))))
theorem Y17.dist:aV (places Y17.ann Y17.body)=true:=by kernel_rfl
noncomputable def Y17.J (Q:AV→aA→Prop):JT:=bY prog C Tryz.f29 Y17.ann Y17.body Q
def Y17.p0 (Q:AV→aA→Prop) (x1:AV) (x25:Bool) (h:aA):Prop:=Y17.J Q 1 [(1,x1),(25,(AV.b x25))] h
def Y17.p1 (Q:AV→aA→Prop) (x1:AV) (x43:Bool) (h:aA):Prop:=Y17.J Q 2 [(1,x1),(43,(AV.b x43))] h
def Y17.p2 (Q:AV→aA→Prop) (x1 x45:AV) (x46 x47:Int) (h:aA):Prop:=Y17.J Q 3 [(1,x1),(45,x45),(46,(AV.i .i64 x46)),(47,(AV.i .i64 x47))] h
def Y17.p3 (Q:AV→aA→Prop) (x73:Bool) (h:aA):Prop:=Y17.J Q 4 [(73,(AV.b x73))] h
def Y17.t0 (Q:AV→aA→Prop) (x1:AV) (x25:Bool) (h:aA) (J:JT):Prop:=
(bif x25 then
(Q (AV.i .i64 4) h)
else
(aC 1 x1 fun v20=>
aE v20 h fun v21=>
asS v21 fun l22=>
C Y13.id [(AV.s l22)] h fun v23 h24=>
aH 0 v23 fun v25=>
aH 1 v23 fun v26=>
asI .i64 v26 fun n27=>
bS (some 33) [(AV.i .i64 0),(AV.i .i64 0),(AV.b false),(AV.s []),(AV.sl none 0 none)] h24 fun v28 h29=>
aP 5 v28 v25 h29 fun h30=>
aC 2 x1 fun v32=>
aE v32 h30 fun v33=>
asS v33 fun l34=>
C Y13.id [(AV.s l34)] h30 fun v35 h36=>
aH 0 v35 fun v37=>
aH 1 v35 fun v38=>
asI .i64 v38 fun n39=>
bS (some 33) [(AV.i .i64 0),(AV.i .i64 0),(AV.b false),(AV.s []),(AV.sl none 0 none)] h36 fun v40 h41=>
aP 5 v40 v37 h41 fun h42=>
(bif (!decide ((n27:Int)=0)) then
(J 2 [(1,x1),(43,(AV.b true))] h42)
else
(J 2 [(1,x1),(43,(AV.b (!decide ((n39:Int)=0))))] h42))))
theorem Y17.i0 {Q x1 x25 h} (H:Y17.t0 Q x1 x25 h (Y17.J Q)):Y17.p0 Q x1 x25 h:=gR Y17.J Tryz.f29 Y17.dist [1,0,1] H
def Y17.t1 (Q:AV→aA→Prop) (x1:AV) (x43:Bool) (h:aA) (J:JT):Prop:=
(bif x43 then
(Q (AV.i .i64 5) h)
else
(aC 5 x1 fun v48=>
aE v48 h fun v49=>
bJ v49 fun n50=>
J 3 [(1,x1),(45,v49),(46,(AV.i .i64 n50)),(47,(AV.i .i64 0))] h))
theorem Y17.i1 {Q x1 x43 h} (H:Y17.t1 Q x1 x43 h (Y17.J Q)):Y17.p1 Q x1 x43 h:=gR Y17.J Tryz.f29 Y17.dist [1,1,1,1,0,1] H
def Y17.t2 (Q:AV→aA→Prop) (x1 x45:AV) (x46 x47:Int) (h:aA) (J:JT):Prop:=
(bif (decide ((x47:Int)<x46)) then
(aB 1 x45 (AV.i .i64 x47) h fun v55=>
aE v55 h fun v56=>
asS v56 fun l57=>
C Y22.id [(AV.s l57)] h fun v59 h60=>
asS v59 fun l61=>
(bif (!(decide ((l61:List UInt8)=l57))) then
(Q (AV.i .i64 5) h60)
else
(aR (IntKind.wrap .i64 (x47+1)) fun n65=>
J 3 [(1,x1),(45,x45),(46,(AV.i .i64 x46)),(47,(AV.i .i64 n65))] h60)))
else
(aC 0 x1 fun v67=>
aE v67 h fun v68=>
asS v68 fun l69=>
C Y16.id [(AV.s l69)] h fun v70 h71=>
aH 0 v70 fun v72=>
asS v72 fun l73=>
aH 1 v70 fun v74=>
asB v74 fun c75=>
(bif (!c75) then
(Q (AV.i .i64 2) h71)
else
(aC 5 x1 fun v80=>
aE v80 h71 fun v81=>
bJ v81 fun n82=>
(bif (decide ((16:Int)<n82)) then
(J 4 [(73,(AV.b true))] h71)
else
(aC 7 x1 fun v84=>
aE v84 h71 fun v85=>
asS v85 fun l86=>
J 4 [(73,(AV.b (decide ((1024:Int)<(l86.length:Int)))))] h71))))))
theorem Y17.i2 {Q x1 x45 x46 x47 h} (H:Y17.t2 Q x1 x45 x46 x47 h (Y17.J Q)):Y17.p2 Q x1 x45 x46 x47 h:=gH Y17.J Tryz.f29 Y17.dist [1,1,1,1,1,0,1,0] H
def Y17.t3 (Q:AV→aA→Prop) (x73:Bool) (h:aA) (J:JT):Prop:=
(bif x73 then
(Q (AV.i .i64 3) h)
else
(Q (AV.i .i64 0) h))
theorem Y17.i3 {Q x73 h} (H:Y17.t3 Q x73 h (Y17.J Q)):Y17.p3 Q x73 h:=gR Y17.J Tryz.f29 Y17.dist [1,1,1,1,1,1,1,0,1] H
def Y17.t (Q:AV→aA→Prop) (x0:AV) (h:aA) (J:JT):Prop:=
dQ (some 25) x0 h fun v0 h1=>
aC 3 v0 fun v3=>
aE v3 h1 fun v4=>
asI .i64 v4 fun n5=>
(bif (decide ((n5:Int)<0)) then
(J 1 [(1,v0),(25,(AV.b true))] h1)
else
(aC 4 v0 fun v7=>
aE v7 h1 fun v8=>
asI .i64 v8 fun n9=>
(bif (decide ((253402300799:Int)<n9)) then
(J 1 [(1,v0),(25,(AV.b true))] h1)
else
(aC 3 v0 fun v11=>
aE v11 h1 fun v12=>
asI .i64 v12 fun n13=>
aC 4 v0 fun v14=>
aE v14 h1 fun v15=>
asI .i64 v15 fun n16=>
J 1 [(1,v0),(25,(AV.b (decide ((n16:Int)<n13))))] h1))))
theorem Y17.call {K x0 h} (H:Y17.t (aL h K) x0 h (Y17.J (aL h K))):C Y17.id [x0] h K:=
 gC Y17.J Tryz.func29 Y17.dist H
noncomputable def Y7.body:Code:=(Tryz.f30.body).getD .skip
def Y7.ann:Ann:=(sl [0,2] (sq [0,2] (sl [0,2,15] (.br (sl [2,3] lf) lf)) (sl [0,2,4] (sq [2,4] (sl [2,4,18,19,20] (.one (.loop 1 [2,4,18,19,20] (sl [2,4,18,19,20,21] (sq [2,4,18,19,20] bl (sq [2,4,18,19,20] (.one (sl [2,4,6,18,19,20] (sl [2,4,7,8,18,19,20] (sq [2,4,7,18,19,20] (sl [2,4,7,18,19,20,30] (.br (sl [2,3] lf) lf)) lf)))) lf)))))) (sq [2,4] (.seq 2 [2,4,68] (.ord (nn 0 32 .done)) (.br (sl [2,3] lf) lf)) (sl [2,4,9] (sq [2,9] (sq [2,9,81,82,83] (.ord (nn 0 8 (nn 9 2 (.neu 13 (.eff 8 (.eff 11 (.neu 12 .done) .stop) .stop))))) (.one (.loop 3 [2,9,81,82,83] (sl [2,9,81,82,83,84] (sq [2,9,81,82,83] bl (sq [2,9,81,82,83] (.one (sl [2,9,11,81,82,83] (sl [2,9,11,12,81,82,83] (sq [2,9,11,12,81,82,83] (.one (.loop 4 [2,9,11,12,81,82,83] (sq [2,9,11,12,81,82,83] (sl [2,9,11,12,81,82,83,92] bl) (.one lf)))) (sq [2,9,11,81,82,83] (.one (.loop 5 [2,9,11,12,81,82,83] (sq [2,9,11,12,81,82,83] (sl [2,9,11,12,81,82,83,96] bl) (sq [2,9,11,12,81,82,83] (.one lf) lf)))) lf))))) lf)))))) (sl [2,3] lf))))))))
theorem Y7.dist:aV (places Y7.ann Y7.body)=true:=by kernel_rfl
noncomputable def Y7.J (Q:AV→aA→Prop):JT:=bY prog C Tryz.f30 Y7.ann Y7.body Q
def Y7.p0 (Q:AV→aA→Prop) (x2 x4 x18:AV) (x19 x20:Int) (h:aA):Prop:=Y7.J Q 1 [(2,x2),(4,x4),(18,x18),(19,(AV.i .i64 x19)),(20,(AV.i .i64 x20))] h
def Y7.p1 (Q:AV→aA→Prop) (x2 x4:AV) (x68:Bool) (h:aA):Prop:=Y7.J Q 2 [(2,x2),(4,x4),(68,(AV.b x68))] h
def Y7.p3 (Q:AV→aA→Prop) (x2 x9:AV) (x11 x12:Int) (x81:AV) (x82 x83:Int) (h:aA):Prop:=Y7.J Q 4 [(2,x2),(9,x9),(11,(AV.i .i64 x11)),(12,(AV.i .i64 x12)),(81,x81),(82,(AV.i .i64 x82)),(83,(AV.i .i64 x83))] h
def Y7.p4 (Q:AV→aA→Prop) (x2 x9:AV) (x11 x12:Int) (x81:AV) (x82 x83:Int) (h:aA):Prop:=Y7.J Q 5 [(2,x2),(9,x9),(11,(AV.i .i64 x11)),(12,(AV.i .i64 x12)),(81,x81),(82,(AV.i .i64 x82)),(83,(AV.i .i64 x83))] h
def Y7.p2 (Q:AV→aA→Prop) (x2 x9 x81:AV) (x82 x83:Int) (h:aA):Prop:=Y7.J Q 3 [(2,x2),(9,x9),(81,x81),(82,(AV.i .i64 x82)),(83,(AV.i .i64 x83))] h
def Y7.t0 (Q:AV→aA→Prop) (x2 x4 x18:AV) (x19 x20:Int) (h:aA) (J:JT):Prop:=
(bif (decide ((x20:Int)<x19)) then
(aB 1 x18 (AV.i .i64 x20) h fun v16=>
aE v16 h fun v17=>
asS v17 fun l18=>
C Y23.id [(AV.s l18)] h fun v20 h21=>
aH 0 v20 fun v22=>
asI .i64 v22 fun n23=>
aH 1 v20 fun v24=>
asB v24 fun c25=>
(bif (!c25) then
(aP 5 x2 (AV.ag [(AV.i .i64 0),(AV.i .i64 0),(AV.b false),(AV.s []),(AV.sl none 0 none)]) h21 fun h28=>
aD 5 x2 h28 fun v30=>
Q (AV.tu [v30,(AV.i .i64 2)]) h28)
else
(bD 1 1 [(AV.i .i64 0)] [(0,1,(AV.i .i64 n23))] h21 fun v32 h33=>
bQ none 1 8 x4 v32 h33 fun v34 h35=>
aR (IntKind.wrap .i64 (x20+1)) fun n37=>
J 1 [(2,x2),(4,v34),(18,x18),(19,(AV.i .i64 x19)),(20,(AV.i .i64 n37))] h35)))
else
(bJ x4 fun n39=>
(bif (decide ((n39:Int)<2)) then
(J 2 [(2,x2),(4,x4),(68,(AV.b true))] h)
else
(aB 1 x4 (AV.i .i64 0) h fun v41=>
aE v41 h fun v42=>
asI .i64 v42 fun n43=>
(bif (decide ((2:Int)<n43)) then
(J 2 [(2,x2),(4,x4),(68,(AV.b true))] h)
else
(aB 1 x4 (AV.i .i64 0) h fun v45=>
aE v45 h fun v46=>
asI .i64 v46 fun n47=>
(bif (decide ((n47:Int)<2)) then
(aB 1 x4 (AV.i .i64 1) h fun v48=>
aE v48 h fun v49=>
asI .i64 v49 fun n50=>
(bif (decide ((40:Int)≤n50)) then
(J 2 [(2,x2),(4,x4),(68,(AV.b true))] h)
else
(aB 1 x4 (AV.i .i64 0) h fun v52=>
aE v52 h fun v53=>
asI .i64 v53 fun n54=>
aR (IntKind.wrap .i64 (40 * n54)) fun n55=>
aB 1 x4 (AV.i .i64 1) h fun v56=>
aE v56 h fun v57=>
asI .i64 v57 fun n58=>
aR (IntKind.wrap .i64 (n55+n58)) fun n59=>
J 2 [(2,x2),(4,x4),(68,(AV.b (decide ((268435456:Int)≤n59))))] h)))
else
(aB 1 x4 (AV.i .i64 0) h fun v61=>
aE v61 h fun v62=>
asI .i64 v62 fun n63=>
aR (IntKind.wrap .i64 (40 * n63)) fun n64=>
aB 1 x4 (AV.i .i64 1) h fun v65=>
aE v65 h fun v66=>
asI .i64 v66 fun n67=>
aR (IntKind.wrap .i64 (n64+n67)) fun n68=>
J 2 [(2,x2),(4,x4),(68,(AV.b (decide ((268435456:Int)≤n68))))] h))))))))
theorem Y7.i0 {Q x2 x4 x18 x19 x20 h} (H:Y7.t0 Q x2 x4 x18 x19 x20 h (Y7.J Q)):Y7.p0 Q x2 x4 x18 x19 x20 h:=gH Y7.J Tryz.f30 Y7.dist [1,1,1,0,1,0] H
def Y7.t1 (Q:AV→aA→Prop) (x2 x4:AV) (x68:Bool) (h:aA) (J:JT):Prop:=
(bif x68 then
(aP 5 x2 (AV.ag [(AV.i .i64 0),(AV.i .i64 0),(AV.b false),(AV.s []),(AV.sl none 0 none)]) h fun h70=>
aD 5 x2 h70 fun v72=>
Q (AV.tu [v72,(AV.i .i64 2)]) h70)
else
(aB 1 x4 (AV.i .i64 0) h fun v75=>
aE v75 h fun v76=>
asI .i64 v76 fun n77=>
aR (IntKind.wrap .i64 (40 * n77)) fun n78=>
aB 1 x4 (AV.i .i64 1) h fun v79=>
aE v79 h fun v80=>
asI .i64 v80 fun n81=>
aR (IntKind.wrap .i64 (n78+n81)) fun n82=>
cV 1 x4 (some (AV.i .i64 2)) none none h fun v83=>
bD 1 1 [(AV.i .i64 0)] [(0,1,(AV.i .i64 n82))] h fun v84 h85=>
cV 1 x4 (some (AV.i .i64 2)) none none h85 fun v86=>
(v83=v86 ∧
(aE v79 h85 fun v87=>
asI .i64 v87 fun n88=>
((AV.i .i64 n81)=(AV.i .i64 n88) ∧
(aB 1 x4 (AV.i .i64 1) h85 fun v89=>
(v79=v89 ∧
(aE v75 h85 fun v90=>
asI .i64 v90 fun n91=>
((AV.i .i64 n77)=(AV.i .i64 n91) ∧
(aB 1 x4 (AV.i .i64 0) h85 fun v92=>
(v75=v92 ∧
(bQ none 1 8 v84 v83 h85 fun v93 h94=>
aE v79 h94 fun v95=>
asI .i64 v95 fun n96=>
((AV.i .i64 n81)=(AV.i .i64 n96) ∧
(aB 1 x4 (AV.i .i64 1) h94 fun v97=>
(v79=v97 ∧
(aE v75 h94 fun v98=>
asI .i64 v98 fun n99=>
((AV.i .i64 n77)=(AV.i .i64 n99) ∧
(aB 1 x4 (AV.i .i64 0) h94 fun v100=>
(v75=v100 ∧
(bJ v93 fun n101=>
J 3 [(2,x2),(9,(AV.sl none 0 none)),(81,v93),(82,(AV.i .i64 n101)),(83,(AV.i .i64 0))] h94))))))))))))))))))))
theorem Y7.i1 {Q x2 x4 x68 h} (H:Y7.t1 Q x2 x4 x68 h (Y7.J Q)):Y7.p1 Q x2 x4 x68 h:=gR Y7.J Tryz.f30 Y7.dist [1,1,1,1,0,1] H
def Y7.t3 (Q:AV→aA→Prop) (x2 x9:AV) (x11 x12:Int) (x81:AV) (x82 x83:Int) (h:aA) (J:JT):Prop:=
aR (IntKind.wrap .i64 (x12+1)) fun n111=>
aR (IntKind.wrap .i64 (7 * n111)) fun n112=>
rE .i64 x11 n112 fun n113=>
(bif (decide ((0:Int)<n113)) then
(aR (IntKind.wrap .i64 (x12+1)) fun n117=>
J 4 [(2,x2),(9,x9),(11,(AV.i .i64 x11)),(12,(AV.i .i64 n117)),(81,x81),(82,(AV.i .i64 x82)),(83,(AV.i .i64 x83))] h)
else
(J 5 [(2,x2),(9,x9),(11,(AV.i .i64 x11)),(12,(AV.i .i64 x12)),(81,x81),(82,(AV.i .i64 x82)),(83,(AV.i .i64 x83))] h))
theorem Y7.i3 {Q x2 x9 x11 x12 x81 x82 x83 h} (H:Y7.t3 Q x2 x9 x11 x12 x81 x82 x83 h (Y7.J Q)):Y7.p3 Q x2 x9 x11 x12 x81 x82 x83 h:=gH Y7.J Tryz.f30 Y7.dist [1,1,1,1,1,1,0,1,0,0,1,1,0,0,1,1,0,0] H
def Y7.t4 (Q:AV→aA→Prop) (x2 x9:AV) (x11 x12:Int) (x81:AV) (x82 x83:Int) (h:aA) (J:JT):Prop:=
(bif (decide ((0:Int)<x12)) then
(aR (IntKind.wrap .i64 (7 * x12)) fun n122=>
rE .i64 x11 n122 fun n123=>
aR (cD .and .i64 n123 127) fun n124=>
aR (cD .or .i64 n124 128) fun n125=>
bD 1 1 [(AV.i .u8 0)] [(0,1,(AV.i .u8 (IntKind.wrap .u8 n125)))] h fun v126 h127=>
bQ (some 5) 1 1 x9 v126 h127 fun v128 h129=>
aR (IntKind.wrap .i64 (x12 - 1)) fun n131=>
J 5 [(2,x2),(9,v128),(11,(AV.i .i64 x11)),(12,(AV.i .i64 n131)),(81,x81),(82,(AV.i .i64 x82)),(83,(AV.i .i64 x83))] h129)
else
(aR (cD .and .i64 x11 127) fun n133=>
bD 1 1 [(AV.i .u8 0)] [(0,1,(AV.i .u8 (IntKind.wrap .u8 n133)))] h fun v134 h135=>
bQ (some 5) 1 1 x9 v134 h135 fun v136 h137=>
aR (IntKind.wrap .i64 (x83+1)) fun n139=>
J 3 [(2,x2),(9,v136),(81,x81),(82,(AV.i .i64 x82)),(83,(AV.i .i64 n139))] h137))
theorem Y7.i4 {Q x2 x9 x11 x12 x81 x82 x83 h} (H:Y7.t4 Q x2 x9 x11 x12 x81 x82 x83 h (Y7.J Q)):Y7.p4 Q x2 x9 x11 x12 x81 x82 x83 h:=gH Y7.J Tryz.f30 Y7.dist [1,1,1,1,1,1,0,1,0,0,1,1,0,0,1,1,1,0,0] H
def Y7.t2 (Q:AV→aA→Prop) (x2 x9 x81:AV) (x82 x83:Int) (h:aA) (J:JT):Prop:=
(bif (decide ((x83:Int)<x82)) then
(aB 1 x81 (AV.i .i64 x83) h fun v106=>
aE v106 h fun v107=>
asI .i64 v107 fun n108=>
J 4 [(2,x2),(9,x9),(11,(AV.i .i64 n108)),(12,(AV.i .i64 0)),(81,x81),(82,(AV.i .i64 x82)),(83,(AV.i .i64 x83))] h)
else
(cE x9 h fun l141=>
aP 5 x2 (AV.ag [(AV.i .i64 0),(AV.i .i64 6),(AV.b false),(AV.s l141),(AV.sl none 0 none)]) h fun h142=>
aD 5 x2 h142 fun v144=>
Q (AV.tu [v144,(AV.i .i64 0)]) h142))
theorem Y7.i2 {Q x2 x9 x81 x82 x83 h} (H:Y7.t2 Q x2 x9 x81 x82 x83 h (Y7.J Q)):Y7.p2 Q x2 x9 x81 x82 x83 h:=gH Y7.J Tryz.f30 Y7.dist [1,1,1,1,1,1,0,1,0] H
def Y7.t (Q:AV→aA→Prop) (x0:List UInt8) (h:aA) (J:JT):Prop:=
bS (some 33) [(AV.i .i64 0),(AV.i .i64 0),(AV.b false),(AV.s []),(AV.sl none 0 none)] h fun v0 h1=>
(bif (decide ((256:Int)<(x0.length:Int))) then
(aP 5 v0 (AV.ag [(AV.i .i64 0),(AV.i .i64 0),(AV.b false),(AV.s []),(AV.sl none 0 none)]) h1 fun h4=>
aD 5 v0 h4 fun v6=>
Q (AV.tu [v6,(AV.i .i64 3)]) h4)
else
(C Y89.id [(AV.s x0),(AV.s [46])] h1 fun v9 h10=>
bJ v9 fun n11=>
J 1 [(2,v0),(4,(AV.sl none 0 none)),(18,v9),(19,(AV.i .i64 n11)),(20,(AV.i .i64 0))] h10))
theorem Y7.call {K x0 h} (H:Y7.t (aL h K) x0 h (Y7.J (aL h K))):C Y7.id [(AV.s x0)] h K:=
 gC Y7.J Tryz.func30 Y7.dist H
noncomputable def Y41.body:Code:=(Tryz.f31.body).getD .skip
def Y41.ann:Ann:=(sl [1,2,4] (sl [4] lf))
theorem Y41.dist:aV (places Y41.ann Y41.body)=true:=by kernel_rfl
noncomputable def Y41.J (Q:AV→aA→Prop):JT:=bY prog C Tryz.f31 Y41.ann Y41.body Q
def Y41.t (Q:AV→aA→Prop) (x0 x1:AV) (h:aA) (J:JT):Prop:=
dQ (some 46) x0 h fun v0 h1=>
bS (some 33) [(AV.i .i64 0),(AV.i .i64 0),(AV.b false),(AV.s []),(AV.sl none 0 none)] h1 fun v2 h3=>
aC 0 v0 fun v5=>
aE v5 h3 fun v6=>
asI .i64 v6 fun n7=>
aC 1 v0 fun v8=>
aE v8 h3 fun v9=>
asI .i64 v9 fun n10=>
iC [(AV.i .i64 0),(AV.i .i64 0),(AV.b false),(AV.s []),(AV.sl none 0 none)] [(0,1,(AV.i .i64 n7)),(1,1,(AV.i .i64 n10)),(2,1,(AV.b true)),(4,1,x1)] fun v11=>
aP 5 v2 v11 h3 fun h12=>
aD 5 v2 h12 fun v14=>
Q v14 h12
theorem Y41.call {K x0 x1 h} (H:Y41.t (aL h K) x0 x1 h (Y41.J (aL h K))):C Y41.id [x0,x1] h K:=
 gC Y41.J Tryz.func31 Y41.dist H
noncomputable def Y16.body:Code:=(Tryz.f32.body).getD .skip
def Y16.ann:Ann:=(sl [0] (sq [0] (.seq 1 [0,20] lf (.br (sl [2,3] lf) lf)) (sl [0,4] (sq [4] (sl [0,4,5] (.one (.loop 2 [0,4,5] (sq [0,4,5] (sl [0,4,5,24] bl) (sq [0,4,5] (.one (sq [0,4,5,6,7] (.ord (nn 0 3 (nn 4 4 (.eff 3 (.eff 8 (nn 9 2 .done) .stop) .stop)))) (sq [0,4,5,6,7] (.seq 3 [0,4,5,6,7,41] lf (.br (sl [2,3] lf) lf)) lf))) lf))))) (sq [4] (.seq 4 [4,76] lf (.br (sl [2,3] lf) lf)) (sl [2,3] lf))))))
theorem Y16.dist:aV (places Y16.ann Y16.body)=true:=by kernel_rfl
noncomputable def Y16.J (Q:AV→aA→Prop):JT:=bY prog C Tryz.f32 Y16.ann Y16.body Q
def Y16.p0 (Q:AV→aA→Prop) (x0:List UInt8) (x20:Bool) (h:aA):Prop:=Y16.J Q 1 [(0,(AV.s x0)),(20,(AV.b x20))] h
def Y16.p2 (Q:AV→aA→Prop) (x0:List UInt8) (x4:AV) (x5 x6 x7:Int) (x41:Bool) (h:aA):Prop:=Y16.J Q 3 [(0,(AV.s x0)),(4,x4),(5,(AV.i .i64 x5)),(6,(AV.i .i64 x6)),(7,(AV.i .i64 x7)),(41,(AV.b x41))] h
def Y16.p1 (Q:AV→aA→Prop) (x0:List UInt8) (x4:AV) (x5:Int) (h:aA):Prop:=Y16.J Q 2 [(0,(AV.s x0)),(4,x4),(5,(AV.i .i64 x5))] h
def Y16.p3 (Q:AV→aA→Prop) (x4:AV) (x76:Bool) (h:aA):Prop:=Y16.J Q 4 [(4,x4),(76,(AV.b x76))] h
def Y16.t0 (Q:AV→aA→Prop) (x0:List UInt8) (x20:Bool) (h:aA) (J:JT):Prop:=
(bif x20 then
(Q (AV.tu [(AV.s []),(AV.b false)]) h)
else
(J 2 [(0,(AV.s x0)),(4,(AV.sl none 0 none)),(5,(AV.i .i64 0))] h))
theorem Y16.i0 {Q x0 x20 h} (H:Y16.t0 Q x0 x20 h (Y16.J Q)):Y16.p0 Q x0 x20 h:=gR Y16.J Tryz.f32 Y16.dist [1,0,1] H
def Y16.t2 (Q:AV→aA→Prop) (x0:List UInt8) (x4:AV) (x5 x6 x7:Int) (x41:Bool) (h:aA) (J:JT):Prop:=
(bif x41 then
(Q (AV.tu [(AV.s []),(AV.b false)]) h)
else
(tF .i64 x6 4 fun n26=>
aR (IntKind.wrap .u8 (cD .or .i64 n26 x7)) fun n27=>
bD 1 1 [(AV.i .u8 0)] [(0,1,(AV.i .u8 n27))] h fun v28 h29=>
bQ (some 5) 1 1 x4 v28 h29 fun v30 h31=>
aR (IntKind.wrap .i64 (x5+2)) fun n33=>
J 2 [(0,(AV.s x0)),(4,v30),(5,(AV.i .i64 n33))] h31))
theorem Y16.i2 {Q x0 x4 x5 x6 x7 x41 h} (H:Y16.t2 Q x0 x4 x5 x6 x7 x41 h (Y16.J Q)):Y16.p2 Q x0 x4 x5 x6 x7 x41 h:=gR Y16.J Tryz.f32 Y16.dist [1,1,1,0,1,0,0,1,0,0,1,0,1] H
def Y16.t1 (Q:AV→aA→Prop) (x0:List UInt8) (x4:AV) (x5:Int) (h:aA) (J:JT):Prop:=
(bif (decide ((x5:Int)<(x0.length:Int))) then
(bN (AV.s x0) (AV.i .i64 x5) fun n12=>
aR (IntKind.wrap .i64 (x5+1)) fun n13=>
bN (AV.s x0) (AV.i .i64 n13) fun n14=>
C Y84.id [(AV.s [48,49,50,51,52,53,54,55,56,57,97,98,99,100,101,102]),(AV.i .u8 n12)] h fun v15 h16=>
asI .i64 v15 fun n17=>
C Y84.id [(AV.s [48,49,50,51,52,53,54,55,56,57,97,98,99,100,101,102]),(AV.i .u8 n14)] h16 fun v18 h19=>
asI .i64 v18 fun n20=>
(bif (decide ((n17:Int)<0)) then
(J 3 [(0,(AV.s x0)),(4,x4),(5,(AV.i .i64 x5)),(6,(AV.i .i64 n17)),(7,(AV.i .i64 n20)),(41,(AV.b true))] h19)
else
(J 3 [(0,(AV.s x0)),(4,x4),(5,(AV.i .i64 x5)),(6,(AV.i .i64 n17)),(7,(AV.i .i64 n20)),(41,(AV.b (decide ((n20:Int)<0))))] h19)))
else
(bJ x4 fun n35=>
(bif (decide ((1:Int)<n35)) then
(aB 1 x4 (AV.i .i64 0) h fun v36=>
aE v36 h fun v37=>
asI .u8 v37 fun n38=>
(bif (decide ((n38:Int)=0)) then
(aB 1 x4 (AV.i .i64 1) h fun v39=>
aE v39 h fun v40=>
asI .u8 v40 fun n41=>
(bif (decide ((n41:Int)<128)) then
(J 4 [(4,x4),(76,(AV.b true))] h)
else
(aB 1 x4 (AV.i .i64 0) h fun v43=>
aE v43 h fun v44=>
asI .u8 v44 fun n45=>
(bif (decide ((n45:Int)=255)) then
(aB 1 x4 (AV.i .i64 1) h fun v46=>
aE v46 h fun v47=>
asI .u8 v47 fun n48=>
J 4 [(4,x4),(76,(AV.b (decide ((128:Int)≤n48))))] h)
else
(J 4 [(4,x4),(76,(AV.b false))] h)))))
else
(aB 1 x4 (AV.i .i64 0) h fun v51=>
aE v51 h fun v52=>
asI .u8 v52 fun n53=>
(bif (decide ((n53:Int)=255)) then
(aB 1 x4 (AV.i .i64 1) h fun v54=>
aE v54 h fun v55=>
asI .u8 v55 fun n56=>
J 4 [(4,x4),(76,(AV.b (decide ((128:Int)≤n56))))] h)
else
(J 4 [(4,x4),(76,(AV.b false))] h)))))
else
(J 4 [(4,x4),(76,(AV.b false))] h))))
theorem Y16.i1 {Q x0 x4 x5 h} (H:Y16.t1 Q x0 x4 x5 h (Y16.J Q)):Y16.p1 Q x0 x4 x5 h:=gH Y16.J Tryz.f32 Y16.dist [1,1,1,0,1,0] H
def Y16.t3 (Q:AV→aA→Prop) (x4:AV) (x76:Bool) (h:aA) (J:JT):Prop:=
(bif x76 then
(Q (AV.tu [(AV.s []),(AV.b false)]) h)
else
(cE x4 h fun l62=>
Q (AV.tu [(AV.s l62),(AV.b true)]) h))
theorem Y16.i3 {Q x4 x76 h} (H:Y16.t3 Q x4 x76 h (Y16.J Q)):Y16.p3 Q x4 x76 h:=gR Y16.J Tryz.f32 Y16.dist [1,1,1,1,0,1] H
def Y16.t (Q:AV→aA→Prop) (x0:List UInt8) (h:aA) (J:JT):Prop:=
(bif (decide ((x0:List UInt8)=[])) then
(J 1 [(0,(AV.s x0)),(20,(AV.b true))] h)
else
(jQ (x0.length:Int) 2 fun n2=>
(bif (decide ((n2:Int)=1)) then
(J 1 [(0,(AV.s x0)),(20,(AV.b true))] h)
else
(J 1 [(0,(AV.s x0)),(20,(AV.b (decide ((40:Int)<(x0.length:Int)))))] h))))
theorem Y16.call {K x0 h} (H:Y16.t (aL h K) x0 h (Y16.J (aL h K))):C Y16.id [(AV.s x0)] h K:=
 gC Y16.J Tryz.func32 Y16.dist H
noncomputable def Y14.body:Code:=(Tryz.f33.body).getD .skip
def Y14.ann:Ann:=(sl [0,2] (sq [0,2] (.seq 1 [0,2,11] lf (.br (sl [2] lf) lf)) (sl [0,2,3] (sq [0,2,3] (.one (.loop 2 [0,2,3] (sq [0,2,3] (.seq 3 [0,2,3,26] lf bl) (.one lf)))) (sl [0,2,3,4] (sq [2,4] (sl [0,2,4,5] (.one (.loop 4 [0,2,4,5] (sq [0,2,4,5] (sl [0,2,4,5,32] bl) (sq [0,2,4,5] (.one lf) lf))))) (sl [2] lf)))))))
theorem Y14.dist:aV (places Y14.ann Y14.body)=true:=by kernel_rfl
noncomputable def Y14.J (Q:AV→aA→Prop):JT:=bY prog C Tryz.f33 Y14.ann Y14.body Q
def Y14.p0 (Q:AV→aA→Prop) (x0:Int) (x2:AV) (x11:Bool) (h:aA):Prop:=Y14.J Q 1 [(0,(AV.i .i64 x0)),(2,x2),(11,(AV.b x11))] h
def Y14.p2 (Q:AV→aA→Prop) (x0:Int) (x2:AV) (x3:Int) (x26:Bool) (h:aA):Prop:=Y14.J Q 3 [(0,(AV.i .i64 x0)),(2,x2),(3,(AV.i .i64 x3)),(26,(AV.b x26))] h
def Y14.p1 (Q:AV→aA→Prop) (x0:Int) (x2:AV) (x3:Int) (h:aA):Prop:=Y14.J Q 2 [(0,(AV.i .i64 x0)),(2,x2),(3,(AV.i .i64 x3))] h
def Y14.p3 (Q:AV→aA→Prop) (x0:Int) (x2 x4:AV) (x5:Int) (h:aA):Prop:=Y14.J Q 4 [(0,(AV.i .i64 x0)),(2,x2),(4,x4),(5,(AV.i .i64 x5))] h
def Y14.t0 (Q:AV→aA→Prop) (x0:Int) (x2:AV) (x11:Bool) (h:aA) (J:JT):Prop:=
(bif x11 then
(aP 5 x2 (AV.ag [(AV.i .i64 0),(AV.i .i64 0),(AV.b false),(AV.s []),(AV.sl none 0 none)]) h fun h5=>
aD 5 x2 h5 fun v7=>
Q v7 h5)
else
(J 2 [(0,(AV.i .i64 x0)),(2,x2),(3,(AV.i .i64 1))] h))
theorem Y14.i0 {Q x0 x2 x11 h} (H:Y14.t0 Q x0 x2 x11 h (Y14.J Q)):Y14.p0 Q x0 x2 x11 h:=gR Y14.J Tryz.f33 Y14.dist [1,0,1] H
def Y14.t2 (Q:AV→aA→Prop) (x0:Int) (x2:AV) (x3:Int) (x26:Bool) (h:aA) (J:JT):Prop:=
(bif x26 then
(aR (IntKind.wrap .i64 (x3+1)) fun n20=>
J 2 [(0,(AV.i .i64 x0)),(2,x2),(3,(AV.i .i64 n20))] h)
else
(aR (IntKind.wrap .i64 (x3 - 1)) fun n23=>
J 4 [(0,(AV.i .i64 x0)),(2,x2),(4,(AV.sl none 0 none)),(5,(AV.i .i64 n23))] h))
theorem Y14.i2 {Q x0 x2 x3 x26 h} (H:Y14.t2 Q x0 x2 x3 x26 h (Y14.J Q)):Y14.p2 Q x0 x2 x3 x26 h:=gR Y14.J Tryz.f33 Y14.dist [1,1,1,0,0,0,0,1] H
def Y14.t1 (Q:AV→aA→Prop) (x0:Int) (x2:AV) (x3:Int) (h:aA) (J:JT):Prop:=
aR (IntKind.wrap .i64 (8 * x3)) fun n10=>
aR (IntKind.wrap .i64 (n10 - 1)) fun n11=>
tF .i64 (-1) n11 fun n12=>
(bif (decide ((x0:Int)<n12)) then
(J 3 [(0,(AV.i .i64 x0)),(2,x2),(3,(AV.i .i64 x3)),(26,(AV.b true))] h)
else
(aR (IntKind.wrap .i64 (8 * x3)) fun n14=>
aR (IntKind.wrap .i64 (n14 - 1)) fun n15=>
tF .i64 1 n15 fun n16=>
J 3 [(0,(AV.i .i64 x0)),(2,x2),(3,(AV.i .i64 x3)),(26,(AV.b (decide ((n16:Int)≤x0))))] h))
theorem Y14.i1 {Q x0 x2 x3 h} (H:Y14.t1 Q x0 x2 x3 h (Y14.J Q)):Y14.p1 Q x0 x2 x3 h:=gH Y14.J Tryz.f33 Y14.dist [1,1,1,0,0] H
def Y14.t3 (Q:AV→aA→Prop) (x0:Int) (x2 x4:AV) (x5:Int) (h:aA) (J:JT):Prop:=
(bif (decide ((0:Int)≤x5)) then
(aR (IntKind.wrap .i64 (8 * x5)) fun n28=>
rE .i64 x0 n28 fun n29=>
bD 1 1 [(AV.i .u8 0)] [(0,1,(AV.i .u8 (IntKind.wrap .u8 n29)))] h fun v30 h31=>
bQ (some 5) 1 1 x4 v30 h31 fun v32 h33=>
aR (IntKind.wrap .i64 (x5 - 1)) fun n35=>
J 4 [(0,(AV.i .i64 x0)),(2,x2),(4,v32),(5,(AV.i .i64 n35))] h33)
else
(cE x4 h fun l37=>
aP 5 x2 (AV.ag [(AV.i .i64 0),(AV.i .i64 2),(AV.b false),(AV.s l37),(AV.sl none 0 none)]) h fun h38=>
aD 5 x2 h38 fun v40=>
Q v40 h38))
theorem Y14.i3 {Q x0 x2 x4 x5 h} (H:Y14.t3 Q x0 x2 x4 x5 h (Y14.J Q)):Y14.p3 Q x0 x2 x4 x5 h:=gH Y14.J Tryz.f33 Y14.dist [1,1,1,1,1,0,1,0] H
def Y14.t (Q:AV→aA→Prop) (x0:Int) (h:aA) (J:JT):Prop:=
bS (some 33) [(AV.i .i64 0),(AV.i .i64 0),(AV.b false),(AV.s []),(AV.sl none 0 none)] h fun v0 h1=>
(bif (decide ((x0:Int)<(-140737488355328))) then
(J 1 [(0,(AV.i .i64 x0)),(2,v0),(11,(AV.b true))] h1)
else
(J 1 [(0,(AV.i .i64 x0)),(2,v0),(11,(AV.b (decide ((140737488355328:Int)≤x0))))] h1))
theorem Y14.call {K x0 h} (H:Y14.t (aL h K) x0 h (Y14.J (aL h K))):C Y14.id [(AV.i .i64 x0)] h K:=
 gC Y14.J Tryz.func33 Y14.dist H
noncomputable def Y70.body:Code:=(Tryz.f34.body).getD .skip
def Y70.ann:Ann:=(sl [1,2,4] (sl [4] lf))
theorem Y70.dist:aV (places Y70.ann Y70.body)=true:=by kernel_rfl
noncomputable def Y70.J (Q:AV→aA→Prop):JT:=bY prog C Tryz.f34 Y70.ann Y70.body Q
def Y70.t (Q:AV→aA→Prop) (x0:AV) (x1:List UInt8) (h:aA) (J:JT):Prop:=
dQ (some 46) x0 h fun v0 h1=>
bS (some 33) [(AV.i .i64 0),(AV.i .i64 0),(AV.b false),(AV.s []),(AV.sl none 0 none)] h1 fun v2 h3=>
aC 0 v0 fun v5=>
aE v5 h3 fun v6=>
asI .i64 v6 fun n7=>
aC 1 v0 fun v8=>
aE v8 h3 fun v9=>
asI .i64 v9 fun n10=>
aP 5 v2 (AV.ag [(AV.i .i64 n7),(AV.i .i64 n10),(AV.b false),(AV.s x1),(AV.sl none 0 none)]) h3 fun h11=>
aD 5 v2 h11 fun v13=>
Q v13 h11
theorem Y70.call {K x0 x1 h} (H:Y70.t (aL h K) x0 x1 h (Y70.J (aL h K))):C Y70.id [x0,(AV.s x1)] h K:=
 gC Y70.J Tryz.func34 Y70.dist H
noncomputable def Y19.body:Code:=(Tryz.f35.body).getD .skip
def Y19.ann:Ann:=(sl [0,2] (sq [0,2] (.seq 1 [0,2,16] lf (.br (sl [2] lf) lf)) (sl [2,3,4] (sl [2,3,4,5] (sq [2,3,4,5] (.one (.loop 2 [2,3,4,5] (sq [2,3,4,5] (sl [2,3,4,5,29] bl) (.one lf)))) (sl [2,3,4,5] (sl [2,3,4,5,6] (sq [2,3,4,5,6] (.one (.loop 3 [2,3,4,5,6] (sq [2,3,4,5,6] (sl [2,3,4,5,6,40] bl) (.one (sl [2,3,4,5,6] lf))))) (sl [2,3,4,5,6,7] (sl [2,5,7,8] (sq [2,5,7,8] (sl [2,5,7,8,79] (.br (sl [2] lf) lf)) (sl [2] lf))))))))))))
theorem Y19.dist:aV (places Y19.ann Y19.body)=true:=by kernel_rfl
noncomputable def Y19.J (Q:AV→aA→Prop):JT:=bY prog C Tryz.f35 Y19.ann Y19.body Q
def Y19.p0 (Q:AV→aA→Prop) (x0:Int) (x2:AV) (x16:Bool) (h:aA):Prop:=Y19.J Q 1 [(0,(AV.i .i64 x0)),(2,x2),(16,(AV.b x16))] h
def Y19.p1 (Q:AV→aA→Prop) (x2:AV) (x3 x4 x5:Int) (h:aA):Prop:=Y19.J Q 2 [(2,x2),(3,(AV.i .i64 x3)),(4,(AV.i .i64 x4)),(5,(AV.i .i64 x5))] h
def Y19.p2 (Q:AV→aA→Prop) (x2:AV) (x3 x4 x5 x6:Int) (h:aA):Prop:=Y19.J Q 3 [(2,x2),(3,(AV.i .i64 x3)),(4,(AV.i .i64 x4)),(5,(AV.i .i64 x5)),(6,(AV.i .i64 x6))] h
def Y19.t0 (Q:AV→aA→Prop) (x0:Int) (x2:AV) (x16:Bool) (h:aA) (J:JT):Prop:=
(bif x16 then
(aP 5 x2 (AV.ag [(AV.i .i64 0),(AV.i .i64 0),(AV.b false),(AV.s []),(AV.sl none 0 none)]) h fun h9=>
aD 5 x2 h9 fun v11=>
Q v11 h9)
else
(kS .i64 x0 86400 fun n13=>
jQ x0 86400 fun n14=>
kS .i64 n13 366 fun n16=>
aR (IntKind.wrap .i64 (1970+n16)) fun n17=>
J 2 [(2,x2),(3,(AV.i .i64 n13)),(4,(AV.i .i64 n14)),(5,(AV.i .i64 n17))] h))
theorem Y19.i0 {Q x0 x2 x16 h} (H:Y19.t0 Q x0 x2 x16 h (Y19.J Q)):Y19.p0 Q x0 x2 x16 h:=gR Y19.J Tryz.f35 Y19.dist [1,0,1] H
def Y19.t1 (Q:AV→aA→Prop) (x2:AV) (x3 x4 x5:Int) (h:aA) (J:JT):Prop:=
aR (IntKind.wrap .i64 (x5+1)) fun n19=>
C Y74.id [(AV.i .i64 n19)] h fun v20 h21=>
asI .i64 v20 fun n22=>
(bif (decide ((n22:Int)≤x3)) then
(aR (IntKind.wrap .i64 (x5+1)) fun n26=>
J 2 [(2,x2),(3,(AV.i .i64 x3)),(4,(AV.i .i64 x4)),(5,(AV.i .i64 n26))] h21)
else
(C Y74.id [(AV.i .i64 x5)] h21 fun v28 h29=>
asI .i64 v28 fun n30=>
aR (IntKind.wrap .i64 (x3 - n30)) fun n31=>
J 3 [(2,x2),(3,(AV.i .i64 n31)),(4,(AV.i .i64 x4)),(5,(AV.i .i64 x5)),(6,(AV.i .i64 1))] h29))
theorem Y19.i1 {Q x2 x3 x4 x5 h} (H:Y19.t1 Q x2 x3 x4 x5 h (Y19.J Q)):Y19.p1 Q x2 x3 x4 x5 h:=gH Y19.J Tryz.f35 Y19.dist [1,1,1,1,0,0] H
def Y19.t2 (Q:AV→aA→Prop) (x2:AV) (x3 x4 x5 x6:Int) (h:aA) (J:JT):Prop:=
C Y47.id [(AV.i .i64 x5),(AV.i .i64 x6)] h fun v34 h35=>
asI .i64 v34 fun n36=>
(bif (decide ((n36:Int)≤x3)) then
(C Y47.id [(AV.i .i64 x5),(AV.i .i64 x6)] h35 fun v40 h41=>
asI .i64 v40 fun n42=>
aR (IntKind.wrap .i64 (x3 - n42)) fun n43=>
aR (IntKind.wrap .i64 (x6+1)) fun n45=>
J 3 [(2,x2),(3,(AV.i .i64 n43)),(4,(AV.i .i64 x4)),(5,(AV.i .i64 x5)),(6,(AV.i .i64 n45))] h41)
else
(jQ x5 100 fun n48=>
eK C (AV.fn (.func Y71.id) [] []) [(AV.i .i64 n48)] h35 fun v49 h50=>
asS v49 fun l51=>
eK C (AV.fn (.func Y71.id) [] []) [(AV.i .i64 x6)] h50 fun v52 h53=>
asS v52 fun l54=>
eI l51 l54 fun l55=>
aR (IntKind.wrap .i64 (x3+1)) fun n56=>
eK C (AV.fn (.func Y71.id) [] []) [(AV.i .i64 n56)] h53 fun v57 h58=>
asS v57 fun l59=>
eI l55 l59 fun l60=>
kS .i64 x4 3600 fun n61=>
eK C (AV.fn (.func Y71.id) [] []) [(AV.i .i64 n61)] h58 fun v62 h63=>
asS v62 fun l64=>
eI l60 l64 fun l65=>
kS .i64 x4 60 fun n66=>
jQ n66 60 fun n67=>
eK C (AV.fn (.func Y71.id) [] []) [(AV.i .i64 n67)] h63 fun v68 h69=>
asS v68 fun l70=>
eI l65 l70 fun l71=>
jQ x4 60 fun n72=>
eK C (AV.fn (.func Y71.id) [] []) [(AV.i .i64 n72)] h69 fun v73 h74=>
asS v73 fun l75=>
eI l71 l75 fun l76=>
eI l76 [90] fun l77=>
(bif (decide ((x5:Int)<2050)) then
(aP 5 x2 (AV.ag [(AV.i .i64 0),(AV.i .i64 23),(AV.b false),(AV.s l77),(AV.sl none 0 none)]) h74 fun h80=>
aD 5 x2 h80 fun v82=>
Q v82 h80)
else
(kS .i64 x5 100 fun n84=>
eK C (AV.fn (.func Y71.id) [] []) [(AV.i .i64 n84)] h74 fun v85 h86=>
asS v85 fun l87=>
eI l87 l77 fun l88=>
aP 5 x2 (AV.ag [(AV.i .i64 0),(AV.i .i64 24),(AV.b false),(AV.s l88),(AV.sl none 0 none)]) h86 fun h89=>
aD 5 x2 h89 fun v91=>
Q v91 h89))))
theorem Y19.i2 {Q x2 x3 x4 x5 x6 h} (H:Y19.t2 Q x2 x3 x4 x5 x6 h (Y19.J Q)):Y19.p2 Q x2 x3 x4 x5 x6 h:=gH Y19.J Tryz.f35 Y19.dist [1,1,1,1,1,1,1,0,0] H
def Y19.t (Q:AV→aA→Prop) (x0:Int) (h:aA) (J:JT):Prop:=
bS (some 33) [(AV.i .i64 0),(AV.i .i64 0),(AV.b false),(AV.s []),(AV.sl none 0 none)] h fun v0 h1=>
(bif (decide ((x0:Int)<0)) then
(J 1 [(0,(AV.i .i64 x0)),(2,v0),(16,(AV.b true))] h1)
else
(kS .i64 x0 86400 fun n4=>
C Y74.id [(AV.i .i64 10000)] h1 fun v5 h6=>
asI .i64 v5 fun n7=>
J 1 [(0,(AV.i .i64 x0)),(2,v0),(16,(AV.b (decide ((n7:Int)≤n4))))] h6))
theorem Y19.call {K x0 h} (H:Y19.t (aL h K) x0 h (Y19.J (aL h K))):C Y19.id [(AV.i .i64 x0)] h K:=
 gC Y19.J Tryz.func35 Y19.dist H
noncomputable def Y72.body:Code:=(Tryz.f36.body).getD .skip
def Y72.ann:Ann:=(sl [0,3,4] (sl [3,4,6] (sl [4,6,8,9] (sq [4,5] (.ord (nn 0 4 (.neu 7 (.eff 4 (.eff 5 (.eff 6 (.eff 8 (.neu 9 .done) .stop) .stop) .stop) .stop)))) lf))))
theorem Y72.dist:aV (places Y72.ann Y72.body)=true:=by kernel_rfl
noncomputable def Y72.J (Q:AV→aA→Prop):JT:=bY prog C Tryz.f36 Y72.ann Y72.body Q
def Y72.t (Q:AV→aA→Prop) (x0:List UInt8) (x1:AV) (h:aA) (J:JT):Prop:=
dQ (some 33) x1 h fun v0 h1=>
bS (some 33) [(AV.i .i64 0),(AV.i .i64 0),(AV.b false),(AV.s []),(AV.sl none 0 none)] h1 fun v2 h3=>
C Y7.id [(AV.s x0)] h3 fun v5 h6=>
aH 0 v5 fun v7=>
aH 1 v5 fun v8=>
asI .i64 v8 fun n9=>
bS (some 33) [(AV.i .i64 0),(AV.i .i64 0),(AV.b false),(AV.s []),(AV.sl none 0 none)] h6 fun v10 h11=>
aP 5 v10 v7 h11 fun h12=>
aD 5 v0 h12 fun v14=>
C Y80.id [v14] h12 fun v15 h16=>
aH 0 v15 fun v17=>
asS v17 fun l18=>
aH 1 v15 fun v19=>
asI .i64 v19 fun n20=>
aD 3 (bE h16 0) h16 fun v22=>
aD 5 v10 h16 fun v23=>
aD 3 (bE h16 9) h16 fun v24=>
C Y70.id [v24,(AV.s l18)] h16 fun v25 h26=>
aD 5 v10 h26 fun v27=>
(v23=v27 ∧
(aD 3 (bE h26 0) h26 fun v28=>
(v22=v28 ∧
(bD 5 2 [(AV.i .i64 0),(AV.i .i64 0),(AV.b false),(AV.s []),(AV.sl none 0 none),(AV.i .i64 0),(AV.i .i64 0),(AV.b false),(AV.s []),(AV.sl none 0 none)] [(0,5,v23),(5,5,v25)] h26 fun v29 h30=>
aD 3 (bE h30 9) h30 fun v31=>
(v24=v31 ∧
(aD 3 (bE h30 0) h30 fun v32=>
(v22=v32 ∧
(C Y41.id [v22,v29] h30 fun v33 h34=>
aD 3 (bE h34 9) h34 fun v35=>
(v24=v35 ∧
(aD 5 v10 h34 fun v36=>
(v23=v36 ∧
(aP 5 v2 v33 h34 fun h37=>
aD 5 v2 h37 fun v39=>
Q (AV.tu [v39,(AV.i .i64 n20)]) h37))))))))))))
theorem Y72.call {K x0 x1 h} (H:Y72.t (aL h K) x0 x1 h (Y72.J (aL h K))):C Y72.id [(AV.s x0),x1] h K:=
 gC Y72.J Tryz.func36 Y72.dist H
noncomputable def Y80.body:Code:=(Tryz.f37.body).getD .skip
def Y80.ann:Ann:=(sl [1] (sl [1,4] (sq [1] (sl [1,5] (sl [1,5,13] (.br (sl [2,3] lf) lf))) (sl [6] (sq [6] (sl [6,19] (.br (sl [2,3] lf) lf)) (sl [2,3] lf))))))
theorem Y80.dist:aV (places Y80.ann Y80.body)=true:=by kernel_rfl
noncomputable def Y80.J (Q:AV→aA→Prop):JT:=bY prog C Tryz.f37 Y80.ann Y80.body Q
def Y80.t (Q:AV→aA→Prop) (x0:AV) (h:aA) (J:JT):Prop:=
dQ (some 33) x0 h fun v0 h1=>
dQ (some 78) (AV.ag [(AV.i .i64 0)]) h1 fun v3 h4=>
aD 5 v0 h4 fun v6=>
C Y39.id [v3,v6,(AV.i .i64 1)] h4 fun v7 h8=>
asI .i64 v7 fun n9=>
(bif (!decide ((n9:Int)=0)) then
(Q (AV.tu [(AV.s []),(AV.i .i64 n9)]) h8)
else
(aD 5 v0 h8 fun v14=>
C Y18.id [v14] h8 fun v15 h16=>
asS v15 fun l17=>
(bif (decide ((65535:Int)<(l17.length:Int))) then
(Q (AV.tu [(AV.s []),(AV.i .i64 3)]) h16)
else
(Q (AV.tu [(AV.s l17),(AV.i .i64 0)]) h16))))
theorem Y80.call {K x0 h} (H:Y80.t (aL h K) x0 h (Y80.J (aL h K))):C Y80.id [x0] h K:=
 gC Y80.J Tryz.func37 Y80.dist H
noncomputable def Y38.body:Code:=(Tryz.f46.body).getD .skip
def Y38.ann:Ann:=(sl [0] (sl [0,3] (sl [0,3,4] (sq [0,3,4] (sl [0,3,4,5] (.one (.loop 1 [0,3,4,5] (sq [0,3,4,5] (sl [0,3,4,5,9] bl) (.seq 2 [0,3,4,5] (.one (sl [0,3,4,5,14] (.one (sl [0,3,4,5,14,15] (.br lf (sl [0,3,4,5,19] (.br (sl [0,3,5] lf) lf))))))) lf))))) (sl [2] lf)))))
theorem Y38.dist:aV (places Y38.ann Y38.body)=true:=by kernel_rfl
noncomputable def Y38.J (Q:AV→aA→Prop):JT:=bY prog C Tryz.f46 Y38.ann Y38.body Q
def Y38.p1 (Q:AV→aA→Prop) (x0:List UInt8) (x3:AV) (x4 x5:Int) (h:aA):Prop:=Y38.J Q 2 [(0,(AV.s x0)),(3,x3),(4,(AV.i .i64 x4)),(5,(AV.i .i64 x5))] h
def Y38.p0 (Q:AV→aA→Prop) (x0:List UInt8) (x3:AV) (x4 x5:Int) (h:aA):Prop:=Y38.J Q 1 [(0,(AV.s x0)),(3,x3),(4,(AV.i .i64 x4)),(5,(AV.i .i64 x5))] h
def Y38.t1 (Q:AV→aA→Prop) (x0:List UInt8) (x3:AV) (x4 x5:Int) (h:aA) (J:JT):Prop:=
aR (IntKind.wrap .i64 (x5+1)) fun n22=>
J 1 [(0,(AV.s x0)),(3,x3),(4,(AV.i .i64 x4)),(5,(AV.i .i64 n22))] h
theorem Y38.i1 {Q x0 x3 x4 x5 h} (H:Y38.t1 Q x0 x3 x4 x5 h (Y38.J Q)):Y38.p1 Q x0 x3 x4 x5 h:=gR Y38.J Tryz.f46 Y38.dist [1,1,1,0,1,0,0,1,1] H
def Y38.t0 (Q:AV→aA→Prop) (x0:List UInt8) (x3:AV) (x4 x5:Int) (h:aA) (J:JT):Prop:=
(bif (decide ((x5:Int)<(x0.length:Int))) then
(bN (AV.s x0) (AV.i .i64 x5) fun n7=>
(bif (decide ((n7:Int)=92)) then
(aR (IntKind.wrap .i64 (x5+1)) fun n10=>
J 2 [(0,(AV.s x0)),(3,x3),(4,(AV.i .i64 x4)),(5,(AV.i .i64 n10))] h)
else
((bif (decide ((n7:Int)=44)) then
(bV (AV.s x0) (some (AV.i .i64 x4)) (some (AV.i .i64 x5)) fun l13=>
bD 1 1 [(AV.s [])] [(0,1,(AV.s l13))] h fun v14 h15=>
bQ none 1 16 x3 v14 h15 fun v16 h17=>
aR (IntKind.wrap .i64 (x5+1)) fun n19=>
J 2 [(0,(AV.s x0)),(3,v16),(4,(AV.i .i64 n19)),(5,(AV.i .i64 x5))] h17)
else
(J 2 [(0,(AV.s x0)),(3,x3),(4,(AV.i .i64 x4)),(5,(AV.i .i64 x5))] h)))))
else
(bV (AV.s x0) (some (AV.i .i64 x4)) none fun l24=>
bD 1 1 [(AV.s [])] [(0,1,(AV.s l24))] h fun v25 h26=>
bQ none 1 16 x3 v25 h26 fun v27 h28=>
Q v27 h28))
theorem Y38.i0 {Q x0 x3 x4 x5 h} (H:Y38.t0 Q x0 x3 x4 x5 h (Y38.J Q)):Y38.p0 Q x0 x3 x4 x5 h:=gH Y38.J Tryz.f46 Y38.dist [1,1,1,0,1,0] H
def Y38.t (Q:AV→aA→Prop) (x0:List UInt8) (h:aA) (J:JT):Prop:=
J 1 [(0,(AV.s x0)),(3,(AV.sl none 0 none)),(4,(AV.i .i64 0)),(5,(AV.i .i64 0))] h
theorem Y38.call {K x0 h} (H:Y38.t (aL h K) x0 h (Y38.J (aL h K))):C Y38.id [(AV.s x0)] h K:=
 gC Y38.J Tryz.func46 Y38.dist H
noncomputable def Y99.body:Code:=(Tryz.f47.body).getD .skip
def Y99.ann:Ann:=(sl [0,1] (sl [4,5,6] lf))
theorem Y99.dist:aV (places Y99.ann Y99.body)=true:=by kernel_rfl
noncomputable def Y99.J (Q:AV→aA→Prop):JT:=bY prog C Tryz.f47 Y99.ann Y99.body Q
def Y99.t (Q:AV→aA→Prop) (x0 x1:List UInt8) (h:aA) (J:JT):Prop:=
C Y104.id [(AV.s x0),(AV.s x1)] h fun v1 h2=>
aH 0 v1 fun v3=>
asS v3 fun l4=>
aH 1 v1 fun v5=>
asS v5 fun l6=>
aH 2 v1 fun v7=>
asB v7 fun c8=>
Q (AV.tu [(AV.s l4),(AV.s l6),(AV.b c8)]) h2
theorem Y99.call {K x0 x1 h} (H:Y99.t (aL h K) x0 x1 h (Y99.J (aL h K))):C Y99.id [(AV.s x0),(AV.s x1)] h K:=
 gC Y99.J Tryz.func47 Y99.dist H
noncomputable def Y24.body:Code:=(Tryz.f48.body).getD .skip
def Y24.ann:Ann:=(sl [0] (sl [0,3] (sq [3] (sl [0,3,4] (.one (.loop 1 [0,3,4] (sq [0,3,4] (sl [0,3,4,8] bl) (sq [0,3,4] (.one (.seq 3 [0,3,4] (.seq 2 [0,3,4,21] lf bl) lf)) lf))))) (sl [2] lf))))
theorem Y24.dist:aV (places Y24.ann Y24.body)=true:=by kernel_rfl
noncomputable def Y24.J (Q:AV→aA→Prop):JT:=bY prog C Tryz.f48 Y24.ann Y24.body Q
def Y24.p1 (Q:AV→aA→Prop) (x0:List UInt8) (x3:AV) (x4:Int) (x21:Bool) (h:aA):Prop:=Y24.J Q 2 [(0,(AV.s x0)),(3,x3),(4,(AV.i .i64 x4)),(21,(AV.b x21))] h
def Y24.p2 (Q:AV→aA→Prop) (x0:List UInt8) (x3:AV) (x4:Int) (h:aA):Prop:=Y24.J Q 3 [(0,(AV.s x0)),(3,x3),(4,(AV.i .i64 x4))] h
def Y24.p0 (Q:AV→aA→Prop) (x0:List UInt8) (x3:AV) (x4:Int) (h:aA):Prop:=Y24.J Q 1 [(0,(AV.s x0)),(3,x3),(4,(AV.i .i64 x4))] h
def Y24.t1 (Q:AV→aA→Prop) (x0:List UInt8) (x3:AV) (x4:Int) (x21:Bool) (h:aA) (J:JT):Prop:=
(bif x21 then
(aR (IntKind.wrap .i64 (x4+1)) fun n12=>
J 3 [(0,(AV.s x0)),(3,x3),(4,(AV.i .i64 n12))] h)
else
(J 3 [(0,(AV.s x0)),(3,x3),(4,(AV.i .i64 x4))] h))
theorem Y24.i1 {Q x0 x3 x4 x21 h} (H:Y24.t1 Q x0 x3 x4 x21 h (Y24.J Q)):Y24.p1 Q x0 x3 x4 x21 h:=gR Y24.J Tryz.f48 Y24.dist [1,1,0,1,0,0,1,0,0,0,1] H
def Y24.t2 (Q:AV→aA→Prop) (x0:List UInt8) (x3:AV) (x4:Int) (h:aA) (J:JT):Prop:=
bN (AV.s x0) (AV.i .i64 x4) fun n15=>
C Y98.id [x3,(AV.i .u8 n15)] h fun v16 h17=>
aR (IntKind.wrap .i64 (x4+1)) fun n19=>
J 1 [(0,(AV.s x0)),(3,x3),(4,(AV.i .i64 n19))] h17
theorem Y24.i2 {Q x0 x3 x4 h} (H:Y24.t2 Q x0 x3 x4 h (Y24.J Q)):Y24.p2 Q x0 x3 x4 h:=gR Y24.J Tryz.f48 Y24.dist [1,1,0,1,0,0,1,0,0,1] H
def Y24.t0 (Q:AV→aA→Prop) (x0:List UInt8) (x3:AV) (x4:Int) (h:aA) (J:JT):Prop:=
(bif (decide ((x4:Int)<(x0.length:Int))) then
(bN (AV.s x0) (AV.i .i64 x4) fun n8=>
(bif (decide ((n8:Int)=92)) then
(aR (IntKind.wrap .i64 (x4+1)) fun n9=>
J 2 [(0,(AV.s x0)),(3,x3),(4,(AV.i .i64 x4)),(21,(AV.b (decide ((n9:Int)<(x0.length:Int)))))] h)
else
(J 2 [(0,(AV.s x0)),(3,x3),(4,(AV.i .i64 x4)),(21,(AV.b false))] h)))
else
(C Y91.id [x3] h fun v21 h22=>
asS v21 fun l23=>
Q (AV.s l23) h22))
theorem Y24.i0 {Q x0 x3 x4 h} (H:Y24.t0 Q x0 x3 x4 h (Y24.J Q)):Y24.p0 Q x0 x3 x4 h:=gH Y24.J Tryz.f48 Y24.dist [1,1,0,1,0] H
def Y24.t (Q:AV→aA→Prop) (x0:List UInt8) (h:aA) (J:JT):Prop:=
bS (some 110) [(AV.p none),(AV.sl none 0 none)] h fun v1 h2=>
J 1 [(0,(AV.s x0)),(3,v1),(4,(AV.i .i64 0))] h2
theorem Y24.call {K x0 h} (H:Y24.t (aL h K) x0 h (Y24.J (aL h K))):C Y24.id [(AV.s x0)] h K:=
 gC Y24.J Tryz.func48 Y24.dist H
noncomputable def Y15.body:Code:=(Tryz.f49.body).getD .skip
def Y15.ann:Ann:=(sl [1] (sl [4,5] (sl [4,5,6] (sq [5,6] (sl [5,6,24,25,26] (.one (.loop 1 [5,6,24,25,26] (sl [5,6,24,25,26,27] (sq [5,6,24,25,26] bl (sq [5,6,24,25,26] (.one (sl [5,6,8,24,25,26] (sl [5,6,9,10,24,25,26] (sq [5,6,9,24,25,26] (sl [5,6,9,24,25,26,37] (.br (sl [2,3] lf) lf)) (sq [5,6,10,11,24,25,26] (.ord (nn 0 4 (.eff 4 (nn 5 5 .done) .stop))) (sq [5,6,11,24,25,26] (sl [5,6,11,24,25,26,47] (.br (sl [2,3] lf) lf)) (sl [5,6,10,11,12,24,25,26] (sl [5,6,10,12,13,14,24,25,26] (sl [5,6,10,12,13,14,15,24,25,26] (sq [5,6,10,13,14,15,24,25,26] (sl [5,6,10,12,13,14,15,24,25,26,62,63,64] (.one (.loop 2 [5,6,10,12,13,14,15,24,25,26,62,63,64] (sl [5,6,10,12,13,14,15,24,25,26,62,63,64,65] (sq [5,6,10,12,13,14,15,24,25,26,62,63,64] bl (.seq 3 [5,6,10,12,13,14,15,24,25,26,62,63,64] (.one (sl [5,6,10,12,13,14,15,17,24,25,26,62,63,64] (sl [5,6,10,12,13,14,15,17,24,25,26,62,63,64,71] bl))) lf)))))) (sq [5,6,13,15,24,25,26] (.seq 4 [5,6,13,15,24,25,26,84] lf (.br (sl [2,3] lf) lf)) lf))))))))))) lf)))))) (sq [6] (sl [6,97] (.br (sl [2,3] lf) lf)) (sl [2,3] lf))))))
theorem Y15.dist:aV (places Y15.ann Y15.body)=true:=by kernel_rfl
noncomputable def Y15.J (Q:AV→aA→Prop):JT:=bY prog C Tryz.f49 Y15.ann Y15.body Q
def Y15.p2 (Q:AV→aA→Prop) (x5:Bool) (x6:AV) (x10:Bool) (x12 x13:List UInt8) (x14:Bool) (x15:List UInt8) (x24:AV) (x25 x26:Int) (x62:AV) (x63 x64:Int) (h:aA):Prop:=Y15.J Q 3 [(5,(AV.b x5)),(6,x6),(10,(AV.b x10)),(12,(AV.s x12)),(13,(AV.s x13)),(14,(AV.b x14)),(15,(AV.s x15)),(24,x24),(25,(AV.i .i64 x25)),(26,(AV.i .i64 x26)),(62,x62),(63,(AV.i .i64 x63)),(64,(AV.i .i64 x64))] h
def Y15.p1 (Q:AV→aA→Prop) (x5:Bool) (x6:AV) (x10:Bool) (x12 x13:List UInt8) (x14:Bool) (x15:List UInt8) (x24:AV) (x25 x26:Int) (x62:AV) (x63 x64:Int) (h:aA):Prop:=Y15.J Q 2 [(5,(AV.b x5)),(6,x6),(10,(AV.b x10)),(12,(AV.s x12)),(13,(AV.s x13)),(14,(AV.b x14)),(15,(AV.s x15)),(24,x24),(25,(AV.i .i64 x25)),(26,(AV.i .i64 x26)),(62,x62),(63,(AV.i .i64 x63)),(64,(AV.i .i64 x64))] h
def Y15.p3 (Q:AV→aA→Prop) (x5:Bool) (x6:AV) (x13 x15:List UInt8) (x24:AV) (x25 x26:Int) (x84:Bool) (h:aA):Prop:=Y15.J Q 4 [(5,(AV.b x5)),(6,x6),(13,(AV.s x13)),(15,(AV.s x15)),(24,x24),(25,(AV.i .i64 x25)),(26,(AV.i .i64 x26)),(84,(AV.b x84))] h
def Y15.p0 (Q:AV→aA→Prop) (x5:Bool) (x6 x24:AV) (x25 x26:Int) (h:aA):Prop:=Y15.J Q 1 [(5,(AV.b x5)),(6,x6),(24,x24),(25,(AV.i .i64 x25)),(26,(AV.i .i64 x26))] h
def Y15.t2 (Q:AV→aA→Prop) (x5:Bool) (x6:AV) (x10:Bool) (x12 x13:List UInt8) (x14:Bool) (x15:List UInt8) (x24:AV) (x25 x26:Int) (x62:AV) (x63 x64:Int) (h:aA) (J:JT):Prop:=
aR (IntKind.wrap .i64 (x64+1)) fun n87=>
J 2 [(5,(AV.b x5)),(6,x6),(10,(AV.b x10)),(12,(AV.s x12)),(13,(AV.s x13)),(14,(AV.b x14)),(15,(AV.s x15)),(24,x24),(25,(AV.i .i64 x25)),(26,(AV.i .i64 x26)),(62,x62),(63,(AV.i .i64 x63)),(64,(AV.i .i64 n87))] h
theorem Y15.i2 {Q x5 x6 x10 x12 x13 x14 x15 x24 x25 x26 x62 x63 x64 h} (H:Y15.t2 Q x5 x6 x10 x12 x13 x14 x15 x24 x25 x26 x62 x63 x64 h (Y15.J Q)):Y15.p2 Q x5 x6 x10 x12 x13 x14 x15 x24 x25 x26 x62 x63 x64 h:=gR Y15.J Tryz.f49 Y15.dist [1,1,1,0,1,0,0,1,1,0,0,1,1,1,1,1,1,1,1,0,1,0,0,1,1,1] H
def Y15.t1 (Q:AV→aA→Prop) (x5:Bool) (x6:AV) (x10:Bool) (x12 x13:List UInt8) (x14:Bool) (x15:List UInt8) (x24:AV) (x25 x26:Int) (x62:AV) (x63 x64:Int) (h:aA) (J:JT):Prop:=
(bif (decide ((x64:Int)<x63)) then
(aB 2 x62 (AV.i .i64 x64) h fun v72=>
aD 2 v72 h fun v73=>
bS (some 74) [(AV.s []),(AV.s [])] h fun v74 h75=>
aP 2 v74 v73 h75 fun h76=>
aC 1 v74 fun v78=>
aE v78 h76 fun v79=>
asS v79 fun l80=>
(bif (decide ((l80:List UInt8)=x12)) then
(aC 0 v74 fun v82=>
aE v82 h76 fun v83=>
asS v83 fun l84=>
J 3 [(5,(AV.b x5)),(6,x6),(10,(AV.b x10)),(12,(AV.s x12)),(13,(AV.s x13)),(14,(AV.b x14)),(15,(AV.s l84)),(24,x24),(25,(AV.i .i64 x25)),(26,(AV.i .i64 x26)),(62,x62),(63,(AV.i .i64 x63)),(64,(AV.i .i64 x64))] h76)
else
(J 3 [(5,(AV.b x5)),(6,x6),(10,(AV.b x10)),(12,(AV.s x12)),(13,(AV.s x13)),(14,(AV.b x14)),(15,(AV.s x15)),(24,x24),(25,(AV.i .i64 x25)),(26,(AV.i .i64 x26)),(62,x62),(63,(AV.i .i64 x63)),(64,(AV.i .i64 x64))] h76)))
else
((bif (!x10) then
(J 4 [(5,(AV.b x5)),(6,x6),(13,(AV.s x13)),(15,(AV.s x15)),(24,x24),(25,(AV.i .i64 x25)),(26,(AV.i .i64 x26)),(84,(AV.b true))] h)
else
((bif (!x14) then
(J 4 [(5,(AV.b x5)),(6,x6),(13,(AV.s x13)),(15,(AV.s x15)),(24,x24),(25,(AV.i .i64 x25)),(26,(AV.i .i64 x26)),(84,(AV.b true))] h)
else
(J 4 [(5,(AV.b x5)),(6,x6),(13,(AV.s x13)),(15,(AV.s x15)),(24,x24),(25,(AV.i .i64 x25)),(26,(AV.i .i64 x26)),(84,(AV.b (decide ((x15:List UInt8)=[]))))] h))))))
theorem Y15.i1 {Q x5 x6 x10 x12 x13 x14 x15 x24 x25 x26 x62 x63 x64 h} (H:Y15.t1 Q x5 x6 x10 x12 x13 x14 x15 x24 x25 x26 x62 x63 x64 h (Y15.J Q)):Y15.p1 Q x5 x6 x10 x12 x13 x14 x15 x24 x25 x26 x62 x63 x64 h:=gH Y15.J Tryz.f49 Y15.dist [1,1,1,0,1,0,0,1,1,0,0,1,1,1,1,1,1,1,1,0,1,0] H
def Y15.t3 (Q:AV→aA→Prop) (x5:Bool) (x6:AV) (x13 x15:List UInt8) (x24:AV) (x25 x26:Int) (x84:Bool) (h:aA) (J:JT):Prop:=
(bif x84 then
(Q (AV.tu [(AV.s []),(AV.i .i64 2)]) h)
else
(eI x15 [61] fun l94=>
bD 1 6 [(AV.s []),(AV.s []),(AV.s []),(AV.s []),(AV.s []),(AV.s [])] [(0,1,(AV.s [92])),(1,1,(AV.s [92,92])),(2,1,(AV.s [44])),(3,1,(AV.s [92,44])),(4,1,(AV.s [61])),(5,1,(AV.s [92,61]))] h fun v95 h96=>
C Y87.id [v95] h96 fun v97 h98=>
C Y86.id [v97,(AV.s x13)] h98 fun v99 h100=>
asS v99 fun l101=>
eI l94 l101 fun l102=>
bD 1 1 [(AV.s [])] [(0,1,(AV.s l102))] h100 fun v103 h104=>
bQ none 1 16 x6 v103 h104 fun v105 h106=>
aR (IntKind.wrap .i64 (x26+1)) fun n108=>
J 1 [(5,(AV.b x5)),(6,v105),(24,x24),(25,(AV.i .i64 x25)),(26,(AV.i .i64 n108))] h106))
theorem Y15.i3 {Q x5 x6 x13 x15 x24 x25 x26 x84 h} (H:Y15.t3 Q x5 x6 x13 x15 x24 x25 x26 x84 h (Y15.J Q)):Y15.p3 Q x5 x6 x13 x15 x24 x25 x26 x84 h:=gR Y15.J Tryz.f49 Y15.dist [1,1,1,0,1,0,0,1,1,0,0,1,1,1,1,1,1,1,1,1,0,1] H
def Y15.t0 (Q:AV→aA→Prop) (x5:Bool) (x6 x24:AV) (x25 x26:Int) (h:aA) (J:JT):Prop:=
(bif (decide ((x26:Int)<x25)) then
(aB 5 x24 (AV.i .i64 x26) h fun v17=>
aD 5 v17 h fun v18=>
bS (some 33) [(AV.i .i64 0),(AV.i .i64 0),(AV.b false),(AV.s []),(AV.sl none 0 none)] h fun v19 h20=>
aP 5 v19 v18 h20 fun h21=>
aD 3 (bE h21 8) h21 fun v23=>
aD 5 v19 h21 fun v24=>
C Y40.id [v23,v24,(AV.i .i64 1)] h21 fun v25 h26=>
aH 0 v25 fun v27=>
aH 1 v25 fun v28=>
asB v28 fun c29=>
(bif (!c29) then
(Q (AV.tu [(AV.s []),(AV.i .i64 2)]) h26)
else
(aD 3 (bE h26 0) h26 fun v34=>
aB 5 v27 (AV.i .i64 0) h26 fun v35=>
aD 5 v35 h26 fun v36=>
C Y40.id [v34,v36,(AV.i .i64 2)] h26 fun v37 h38=>
aB 5 v27 (AV.i .i64 0) h38 fun v39=>
(v35=v39 ∧
(aH 0 v37 fun v40=>
aH 1 v37 fun v41=>
asB v41 fun c42=>
(bif (!c42) then
(Q (AV.tu [(AV.s []),(AV.i .i64 2)]) h38)
else
(aB 5 v40 (AV.i .i64 0) h38 fun v47=>
aD 5 v47 h38 fun v48=>
C Y9.id [v48] h38 fun v49 h50=>
aH 0 v49 fun v51=>
asS v51 fun l52=>
aH 1 v49 fun v53=>
asB v53 fun c54=>
aB 5 v40 (AV.i .i64 1) h50 fun v56=>
aD 5 v56 h50 fun v57=>
C Y66.id [v57] h50 fun v58 h59=>
aH 0 v58 fun v60=>
asS v60 fun l61=>
aH 1 v58 fun v62=>
asB v62 fun c63=>
aE (bE h59 7) h59 fun v66=>
bJ v66 fun n67=>
J 2 [(5,(AV.b x5)),(6,x6),(10,(AV.b c54)),(12,(AV.s l52)),(13,(AV.s l61)),(14,(AV.b c63)),(15,(AV.s [])),(24,x24),(25,(AV.i .i64 x25)),(26,(AV.i .i64 x26)),(62,v66),(63,(AV.i .i64 n67)),(64,(AV.i .i64 0))] h59)))))))
else
((bif (!x5) then
(Q (AV.tu [(AV.s []),(AV.i .i64 2)]) h)
else
(C Y117.id [x6,(AV.s [44])] h fun v113 h114=>
asS v113 fun l115=>
Q (AV.tu [(AV.s l115),(AV.i .i64 0)]) h114))))
theorem Y15.i0 {Q x5 x6 x24 x25 x26 h} (H:Y15.t0 Q x5 x6 x24 x25 x26 h (Y15.J Q)):Y15.p0 Q x5 x6 x24 x25 x26 h:=gH Y15.J Tryz.f49 Y15.dist [1,1,1,0,1,0] H
def Y15.t (Q:AV→aA→Prop) (x0:AV) (h:aA) (J:JT):Prop:=
dQ (some 33) x0 h fun v0 h1=>
aD 3 (bE h1 0) h1 fun v3=>
aD 5 v0 h1 fun v4=>
C Y40.id [v3,v4,(AV.i .i64 (-1))] h1 fun v5 h6=>
aH 0 v5 fun v7=>
aH 1 v5 fun v8=>
asB v8 fun c9=>
bJ v7 fun n12=>
J 1 [(5,(AV.b c9)),(6,(AV.sl none 0 none)),(24,v7),(25,(AV.i .i64 n12)),(26,(AV.i .i64 0))] h6
theorem Y15.call {K x0 h} (H:Y15.t (aL h K) x0 h (Y15.J (aL h K))):C Y15.id [x0] h K:=
 gC Y15.J Tryz.func49 Y15.dist H
noncomputable def Y94.body:Code:=(Tryz.f50.body).getD .skip
def Y94.ann:Ann:=(sl [0,1] (sl [4,5] lf))
theorem Y94.dist:aV (places Y94.ann Y94.body)=true:=by kernel_rfl
noncomputable def Y94.J (Q:AV→aA→Prop):JT:=bY prog C Tryz.f50 Y94.ann Y94.body Q
def Y94.t (Q:AV→aA→Prop) (x0 x1:List UInt8) (h:aA) (J:JT):Prop:=
C Y100.id [(AV.s x0),(AV.s x1)] h fun v1 h2=>
aH 0 v1 fun v3=>
asS v3 fun l4=>
aH 1 v1 fun v5=>
asB v5 fun c6=>
Q (AV.tu [(AV.s l4),(AV.b c6)]) h2
theorem Y94.call {K x0 x1 h} (H:Y94.t (aL h K) x0 x1 h (Y94.J (aL h K))):C Y94.id [(AV.s x0),(AV.s x1)] h K:=
 gC Y94.J Tryz.func50 Y94.dist H
noncomputable def Y56.body:Code:=(Tryz.f51.body).getD .skip
def Y56.ann:Ann:=(sl [0,1,2,6] (sq [0,1,2,6] (sl [0,1,2,6,17] (.br (sl [6,7,8] lf) lf)) (sl [0,1,2,6,9] (sl [0,1,2,6,10] (sl [0,1,2,6,10] (sq [0,1,2,6,10] (.one (sl [0,1,2,6,10,37] (.br (sl [6,7,8] lf) (sl [0,1,2,6,10,42] (.br (sl [6,7,8] lf) (sl [0,1,2,6,10,46] (.br (sl [6,7,8] lf) lf))))))) (sl [0,1,2,6,10,11,12] (sq [0,1,2,6,10,11] (sl [0,1,2,6,10,11,12,61] (.br (sl [6,7,8] lf) lf)) (sq [0,1,2,6,10,11] (sl [0,1,2,6,10,11,67] (.br (sl [6,7,8] lf) lf)) (sq [0,2,6,10,13,14] (.ord (nn 0 8 .done)) (sq [0,2,6,10,13,14] (sl [0,2,6,10,13,14,77] (.br (sl [6,10,14] (sl [6,7,8] lf)) lf)) (sq [6,10,14] (.one (.loop 1 [0,2,6,10,13,14] (sq [0,2,6,10,13,14] (sl [0,2,6,10,13,14,83] bl) (.one (sl [0,2,6,10,13,14,15] (sl [0,2,6,10,12,13,14,15] (sq [0,2,6,10,13,14,15] (sl [0,2,6,10,12,13,14,15,94] (.br (sl [6,7,8] lf) lf)) lf))))))) (sl [6,7,8] lf)))))))))))))
theorem Y56.dist:aV (places Y56.ann Y56.body)=true:=by kernel_rfl
noncomputable def Y56.J (Q:AV→aA→Prop):JT:=bY prog C Tryz.f51 Y56.ann Y56.body Q
def Y56.p0 (Q:AV→aA→Prop) (x0:AV) (x2:Int) (x6 x10:AV) (x13 x14:List UInt8) (h:aA):Prop:=Y56.J Q 1 [(0,x0),(2,(AV.i .i64 x2)),(6,x6),(10,x10),(13,(AV.s x13)),(14,(AV.s x14))] h
def Y56.t0 (Q:AV→aA→Prop) (x0:AV) (x2:Int) (x6 x10:AV) (x13 x14:List UInt8) (h:aA) (J:JT):Prop:=
(bif (!(decide ((x13:List UInt8)=[]))) then
(bS (some 33) [(AV.i .i64 0),(AV.i .i64 0),(AV.b false),(AV.s []),(AV.sl none 0 none)] h fun v84 h85=>
aR (IntKind.wrap .i64 (x2+1)) fun n87=>
C Y56.id [x0,(AV.s x13),(AV.i .i64 n87)] h85 fun v88 h89=>
aH 0 v88 fun v90=>
aH 1 v88 fun v91=>
asS v91 fun l92=>
aH 2 v88 fun v93=>
asI .i64 v93 fun n94=>
aP 5 v84 v90 h89 fun h95=>
(bif (!decide ((n94:Int)=0)) then
(aP 5 x6 (AV.ag [(AV.i .i64 0),(AV.i .i64 0),(AV.b false),(AV.s []),(AV.sl none 0 none)]) h95 fun h98=>
aD 5 x6 h98 fun v100=>
Q (AV.tu [v100,(AV.s []),(AV.i .i64 n94)]) h98)
else
(aC 4 x10 fun v102=>
aE v102 h95 fun v103=>
aD 5 v84 h95 fun v104=>
bD 5 1 [(AV.i .i64 0),(AV.i .i64 0),(AV.b false),(AV.s []),(AV.sl none 0 none)] [(0,5,v104)] h95 fun v105 h106=>
bQ none 5 64 v103 v105 h106 fun v107 h108=>
aC 4 x10 fun v109=>
aP 1 v109 v107 h108 fun h110=>
J 1 [(0,x0),(2,(AV.i .i64 x2)),(6,x6),(10,x10),(13,(AV.s l92)),(14,(AV.s x14))] h110)))
else
(aD 5 x10 h fun v112=>
aP 5 x6 v112 h fun h113=>
aD 5 x6 h113 fun v115=>
Q (AV.tu [v115,(AV.s x14),(AV.i .i64 0)]) h113))
theorem Y56.i0 {Q x0 x2 x6 x10 x13 x14 h} (H:Y56.t0 Q x0 x2 x6 x10 x13 x14 h (Y56.J Q)):Y56.p0 Q x0 x2 x6 x10 x13 x14 h:=gH Y56.J Tryz.f51 Y56.dist [1,1,1,1,1,1,1,1,1,1,1,0,0] H
def Y56.t (Q:AV→aA→Prop) (x0:AV) (x1:List UInt8) (x2:Int) (h:aA) (J:JT):Prop:=
bS (some 33) [(AV.i .i64 0),(AV.i .i64 0),(AV.b false),(AV.s []),(AV.sl none 0 none)] h fun v0 h1=>
(bif (decide ((x1:List UInt8)=[])) then
(aP 5 v0 (AV.ag [(AV.i .i64 0),(AV.i .i64 0),(AV.b false),(AV.s []),(AV.sl none 0 none)]) h1 fun h4=>
aD 5 v0 h4 fun v6=>
Q (AV.tu [v6,(AV.s []),(AV.i .i64 1)]) h4)
else
(bN (AV.s x1) (AV.i .i64 0) fun n8=>
rE .i64 (IntKind.wrap .i64 n8) 6 fun n10=>
aR (cD .and .i64 (IntKind.wrap .i64 n8) 31) fun n11=>
aR (cD .and .i64 (IntKind.wrap .i64 n8) 32) fun n12=>
bS (some 33) [(AV.i .i64 0),(AV.i .i64 0),(AV.b false),(AV.s []),(AV.sl none 0 none)] h1 fun v13 h14=>
aP 5 v13 (AV.ag [(AV.i .i64 n10),(AV.i .i64 n11),(AV.b (!decide ((n12:Int)=0))),(AV.s []),(AV.sl none 0 none)]) h14 fun h15=>
cC x0 fun v17=>
aC 0 v17 fun v18=>
aE v18 h15 fun v19=>
asI .i64 v19 fun n20=>
aR (IntKind.wrap .i64 (n20+1)) fun n21=>
cC x0 fun v22=>
aC 0 v22 fun v23=>
aP 1 v23 (AV.i .i64 n21) h15 fun h24=>
aC 1 v13 fun v26=>
aE v26 h24 fun v27=>
asI .i64 v27 fun n28=>
(bif (decide ((n28:Int)=31)) then
(aP 5 v0 (AV.ag [(AV.i .i64 0),(AV.i .i64 0),(AV.b false),(AV.s []),(AV.sl none 0 none)]) h24 fun h30=>
aD 5 v0 h30 fun v32=>
Q (AV.tu [v32,(AV.s []),(AV.i .i64 2)]) h30)
else
((bif (decide ((24:Int)<x2)) then
(aP 5 v0 (AV.ag [(AV.i .i64 0),(AV.i .i64 0),(AV.b false),(AV.s []),(AV.sl none 0 none)]) h24 fun h34=>
aD 5 v0 h34 fun v36=>
Q (AV.tu [v36,(AV.s []),(AV.i .i64 9)]) h34)
else
(cC x0 fun v37=>
aC 0 v37 fun v38=>
aE v38 h24 fun v39=>
asI .i64 v39 fun n40=>
(bif (decide ((256:Int)<n40)) then
(aP 5 v0 (AV.ag [(AV.i .i64 0),(AV.i .i64 0),(AV.b false),(AV.s []),(AV.sl none 0 none)]) h24 fun h42=>
aD 5 v0 h42 fun v44=>
Q (AV.tu [v44,(AV.s []),(AV.i .i64 3)]) h42)
else
(bV (AV.s x1) (some (AV.i .i64 1)) none fun l46=>
C Y30.id [(AV.s l46)] h24 fun v47 h48=>
aH 0 v47 fun v49=>
asI .i64 v49 fun n50=>
aH 1 v47 fun v51=>
asS v51 fun l52=>
aH 2 v47 fun v53=>
asI .i64 v53 fun n54=>
(bif (!decide ((n54:Int)=0)) then
(aP 5 v0 (AV.ag [(AV.i .i64 0),(AV.i .i64 0),(AV.b false),(AV.s []),(AV.sl none 0 none)]) h48 fun h57=>
aD 5 v0 h57 fun v59=>
Q (AV.tu [v59,(AV.s []),(AV.i .i64 n54)]) h57)
else
((bif (decide (((l52.length:Int):Int)<n50)) then
(aP 5 v0 (AV.ag [(AV.i .i64 0),(AV.i .i64 0),(AV.b false),(AV.s []),(AV.sl none 0 none)]) h48 fun h62=>
aD 5 v0 h62 fun v64=>
Q (AV.tu [v64,(AV.s []),(AV.i .i64 1)]) h62)
else
(bV (AV.s l52) none (some (AV.i .i64 n50)) fun l66=>
bV (AV.s l52) (some (AV.i .i64 n50)) none fun l67=>
aC 2 v13 fun v69=>
aE v69 h48 fun v70=>
asB v70 fun c71=>
(bif (!c71) then
(aC 3 v13 fun v73=>
aP 1 v73 (AV.s l66) h48 fun h74=>
aD 5 v13 h74 fun v76=>
aP 5 v0 v76 h74 fun h77=>
aD 5 v0 h77 fun v79=>
Q (AV.tu [v79,(AV.s l67),(AV.i .i64 0)]) h77)
else
(J 1 [(0,x0),(2,(AV.i .i64 x2)),(6,v0),(10,v13),(13,(AV.s l66)),(14,(AV.s l67))] h48))))))))))))))
theorem Y56.call {K x0 x1 x2 h} (H:Y56.t (aL h K) x0 x1 x2 h (Y56.J (aL h K))):C Y56.id [x0,(AV.s x1),(AV.i .i64 x2)] h K:=
 gC Y56.J Tryz.func51 Y56.dist H
noncomputable def Y32.body:Code:=(Tryz.f52.body).getD .skip
def Y32.ann:Ann:=(sl [0,1] (.seq 1 [0] lf (sl [4] lf)))
theorem Y32.dist:aV (places Y32.ann Y32.body)=true:=by kernel_rfl
noncomputable def Y32.J (Q:AV→aA→Prop):JT:=bY prog C Tryz.f52 Y32.ann Y32.body Q
def Y32.p0 (Q:AV→aA→Prop) (x0:AV) (h:aA):Prop:=Y32.J Q 1 [(0,x0)] h
def Y32.t0 (Q:AV→aA→Prop) (x0:AV) (h:aA) (J:JT):Prop:=
cC x0 fun v13=>
aC 8 v13 fun v14=>
aE v14 h fun v15=>
asB v15 fun c16=>
Q (AV.b (!c16)) h
theorem Y32.i0 {Q x0 h} (H:Y32.t0 Q x0 h (Y32.J Q)):Y32.p0 Q x0 h:=gR Y32.J Tryz.f52 Y32.dist [1,1] H
def Y32.t (Q:AV→aA→Prop) (x0:AV) (x1:Bool) (h:aA) (J:JT):Prop:=
cC x0 fun v1=>
aC 8 v1 fun v2=>
aE v2 h fun v3=>
asB v3 fun c4=>
(bif c4 then
(cC x0 fun v5=>
aC 8 v5 fun v6=>
aP 1 v6 (AV.b true) h fun h7=>
J 1 [(0,x0)] h7)
else
(cC x0 fun v9=>
aC 8 v9 fun v10=>
aP 1 v10 (AV.b (!x1)) h fun h11=>
J 1 [(0,x0)] h11))
theorem Y32.call {K x0 x1 h} (H:Y32.t (aL h K) x0 x1 h (Y32.J (aL h K))):C Y32.id [x0,(AV.b x1)] h K:=
 gC Y32.J Tryz.func52 Y32.dist H
noncomputable def Y20.body:Code:=(Tryz.f53.body).getD .skip
def Y20.ann:Ann:=(sl [1] (sl [1,4] (sq [4] (.seq 1 [4,20] lf (.br (sl [2,3] lf) lf)) (sq [4] (.seq 2 [4,43] lf (.br (sl [2,3] lf) lf)) (sl [4,5] (sq [5] (sl [4,5,6] (.one (.loop 3 [4,5,6] (sq [4,5,6] (sl [4,5,6,51] bl) (sq [4,5,6] (.one lf) lf))))) (sl [2,3] lf)))))))
theorem Y20.dist:aV (places Y20.ann Y20.body)=true:=by kernel_rfl
noncomputable def Y20.J (Q:AV→aA→Prop):JT:=bY prog C Tryz.f53 Y20.ann Y20.body Q
def Y20.p0 (Q:AV→aA→Prop) (x4:List UInt8) (x20:Bool) (h:aA):Prop:=Y20.J Q 1 [(4,(AV.s x4)),(20,(AV.b x20))] h
def Y20.p1 (Q:AV→aA→Prop) (x4:List UInt8) (x43:Bool) (h:aA):Prop:=Y20.J Q 2 [(4,(AV.s x4)),(43,(AV.b x43))] h
def Y20.p2 (Q:AV→aA→Prop) (x4:List UInt8) (x5 x6:Int) (h:aA):Prop:=Y20.J Q 3 [(4,(AV.s x4)),(5,(AV.i .i64 x5)),(6,(AV.i .i64 x6))] h
def Y20.t0 (Q:AV→aA→Prop) (x4:List UInt8) (x20:Bool) (h:aA) (J:JT):Prop:=
(bif x20 then
(Q (AV.tu [(AV.i .i64 0),(AV.b false)]) h)
else
((bif (decide ((1:Int)<(x4.length:Int))) then
(bN (AV.s x4) (AV.i .i64 0) fun n16=>
(bif (decide ((n16:Int)=0)) then
(bN (AV.s x4) (AV.i .i64 1) fun n17=>
(bif (decide ((n17:Int)<128)) then
(J 2 [(4,(AV.s x4)),(43,(AV.b true))] h)
else
(bN (AV.s x4) (AV.i .i64 0) fun n19=>
(bif (decide ((n19:Int)=255)) then
(bN (AV.s x4) (AV.i .i64 1) fun n20=>
J 2 [(4,(AV.s x4)),(43,(AV.b (decide ((128:Int)≤n20))))] h)
else
(J 2 [(4,(AV.s x4)),(43,(AV.b false))] h)))))
else
(bN (AV.s x4) (AV.i .i64 0) fun n23=>
(bif (decide ((n23:Int)=255)) then
(bN (AV.s x4) (AV.i .i64 1) fun n24=>
J 2 [(4,(AV.s x4)),(43,(AV.b (decide ((128:Int)≤n24))))] h)
else
(J 2 [(4,(AV.s x4)),(43,(AV.b false))] h)))))
else
(J 2 [(4,(AV.s x4)),(43,(AV.b false))] h))))
theorem Y20.i0 {Q x4 x20 h} (H:Y20.t0 Q x4 x20 h (Y20.J Q)):Y20.p0 Q x4 x20 h:=gR Y20.J Tryz.f53 Y20.dist [1,1,0,1] H
def Y20.t1 (Q:AV→aA→Prop) (x4:List UInt8) (x43:Bool) (h:aA) (J:JT):Prop:=
(bif x43 then
(Q (AV.tu [(AV.i .i64 0),(AV.b false)]) h)
else
(bN (AV.s x4) (AV.i .i64 0) fun n30=>
aR (IntKind.wrap .i64 (IntKind.wrap .i8 n30)) fun n31=>
J 3 [(4,(AV.s x4)),(5,(AV.i .i64 n31)),(6,(AV.i .i64 1))] h))
theorem Y20.i1 {Q x4 x43 h} (H:Y20.t1 Q x4 x43 h (Y20.J Q)):Y20.p1 Q x4 x43 h:=gR Y20.J Tryz.f53 Y20.dist [1,1,1,0,1] H
def Y20.t2 (Q:AV→aA→Prop) (x4:List UInt8) (x5 x6:Int) (h:aA) (J:JT):Prop:=
(bif (decide ((x6:Int)<(x4.length:Int))) then
(tF .i64 x5 8 fun n37=>
bN (AV.s x4) (AV.i .i64 x6) fun n38=>
aR (cD .or .i64 n37 (IntKind.wrap .i64 n38)) fun n39=>
aR (IntKind.wrap .i64 (x6+1)) fun n41=>
J 3 [(4,(AV.s x4)),(5,(AV.i .i64 n39)),(6,(AV.i .i64 n41))] h)
else
(Q (AV.tu [(AV.i .i64 x5),(AV.b true)]) h))
theorem Y20.i2 {Q x4 x5 x6 h} (H:Y20.t2 Q x4 x5 x6 h (Y20.J Q)):Y20.p2 Q x4 x5 x6 h:=gH Y20.J Tryz.f53 Y20.dist [1,1,1,1,1,0,1,0] H
def Y20.t (Q:AV→aA→Prop) (x0:AV) (h:aA) (J:JT):Prop:=
dQ (some 33) x0 h fun v0 h1=>
aC 3 v0 fun v3=>
aE v3 h1 fun v4=>
asS v4 fun l5=>
aD 5 v0 h1 fun v7=>
C Y42.id [v7,(AV.i .i64 2)] h1 fun v8 h9=>
asB v8 fun c10=>
(bif (!c10) then
(J 1 [(4,(AV.s l5)),(20,(AV.b true))] h9)
else
((bif (decide ((l5:List UInt8)=[])) then
(J 1 [(4,(AV.s l5)),(20,(AV.b true))] h9)
else
(J 1 [(4,(AV.s l5)),(20,(AV.b (decide ((6:Int)<(l5.length:Int)))))] h9))))
theorem Y20.call {K x0 h} (H:Y20.t (aL h K) x0 h (Y20.J (aL h K))):C Y20.id [x0] h K:=
 gC Y20.J Tryz.func53 Y20.dist H
noncomputable def Y82.body:Code:=(Tryz.f54.body).getD .skip
def Y82.ann:Ann:=(sl [0,3] (sl [0,5,6] (sl [5] (sl [4] lf))))
theorem Y82.dist:aV (places Y82.ann Y82.body)=true:=by kernel_rfl
noncomputable def Y82.J (Q:AV→aA→Prop):JT:=bY prog C Tryz.f54 Y82.ann Y82.body Q
def Y82.t (Q:AV→aA→Prop) (x0 x1:AV) (h:aA) (J:JT):Prop:=
dQ (some 33) x1 h fun v0 h1=>
aD 5 v0 h1 fun v3=>
C Y15.id [v3] h1 fun v4 h5=>
aH 0 v4 fun v6=>
asS v6 fun l7=>
aH 1 v4 fun v8=>
asI .i64 v8 fun n9=>
C Y32.id [x0,(AV.b (decide ((n9:Int)=0)))] h5 fun v11 h12=>
asB v11 fun c13=>
Q (AV.s l7) h12
theorem Y82.call {K x0 x1 h} (H:Y82.t (aL h K) x0 x1 h (Y82.J (aL h K))):C Y82.id [x0,x1] h K:=
 gC Y82.J Tryz.func54 Y82.dist H
noncomputable def Y6.body:Code:=(Tryz.f55.body).getD .skip
def Y6.ann:Ann:=(sl [1] (sl [1,4] (.seq 1 [1,4] (sl [1,4,11] (.br lf (sl [1,4,14] (.br (sl [2,3] lf) lf)))) (sq [1,4] (.seq 2 [1,4,27] lf (.br (sl [2,3] lf) lf)) (sl [4,5] (sq [4,5] (sl [4,5,36] (.br (sl [2,3] lf) lf)) (sl [4,5,6] (sq [4,6] (.one (.loop 3 [4,5,6] (sq [4,5,6] (sl [4,5,6,38] bl) (sq [4,5,6] (.one (.ord (nn 0 11 (.eff 11 (.eff 12 (.eff 13 .done .stop) .stop) .stop)))) lf)))) (sl [4,6,7] (.seq 4 [6,7] (sl [6,7,59] (.br (sq [6,7] (.ord (nn 0 9 .done)) lf) (sl [6,7,73] bl))) (sq [6,7] (.seq 5 [6,7,126] (.ord (nn 0 28 (.eff 28 (nn 29 20 .done) .stop))) (.br (sl [2,3] lf) lf)) (sq [6,7,8] (.ord (.neu 0 (nn 2 3 (.eff 1 (nn 5 3 .done) .stop)))) (sq [6,8] (sl [6,7,8,9] (.one (.loop 6 [6,7,8,9] (sq [6,7,8,9] (sl [6,7,8,9,138] bl) (sq [6,7,8,9] (.one lf) lf))))) (sq [2,3] (.ord (nn 0 18 .done)) lf))))))))))))))
theorem Y6.dist:aV (places Y6.ann Y6.body)=true:=by kernel_rfl
noncomputable def Y6.J (Q:AV→aA→Prop):JT:=bY prog C Tryz.f55 Y6.ann Y6.body Q
def Y6.p1 (Q:AV→aA→Prop) (x1:AV) (x4:Int) (x27:Bool) (h:aA):Prop:=Y6.J Q 2 [(1,x1),(4,(AV.i .i64 x4)),(27,(AV.b x27))] h
def Y6.p2 (Q:AV→aA→Prop) (x4:Int) (x5:List UInt8) (x6:AV) (h:aA):Prop:=Y6.J Q 3 [(4,(AV.i .i64 x4)),(5,(AV.s x5)),(6,x6)] h
def Y6.p4 (Q:AV→aA→Prop) (x6:AV) (x7:Int) (x126:Bool) (h:aA):Prop:=Y6.J Q 5 [(6,x6),(7,(AV.i .i64 x7)),(126,(AV.b x126))] h
def Y6.p5 (Q:AV→aA→Prop) (x6:AV) (x7 x8 x9:Int) (h:aA):Prop:=Y6.J Q 6 [(6,x6),(7,(AV.i .i64 x7)),(8,(AV.i .i64 x8)),(9,(AV.i .i64 x9))] h
def Y6.p3 (Q:AV→aA→Prop) (x6:AV) (x7:Int) (h:aA):Prop:=Y6.J Q 4 [(6,x6),(7,(AV.i .i64 x7))] h
def Y6.p0 (Q:AV→aA→Prop) (x1:AV) (x4:Int) (h:aA):Prop:=Y6.J Q 1 [(1,x1),(4,(AV.i .i64 x4))] h
def Y6.t1 (Q:AV→aA→Prop) (x1:AV) (x4:Int) (x27:Bool) (h:aA) (J:JT):Prop:=
(bif x27 then
(Q (AV.tu [(AV.i .i64 0),(AV.b false)]) h)
else
(aC 3 x1 fun v29=>
aE v29 h fun v30=>
asS v30 fun l31=>
aR (IntKind.wrap .i64 (x4 - 1)) fun n32=>
bV (AV.s l31) none (some (AV.i .i64 n32)) fun l33=>
fM (AV.s l33) h fun v35 h36=>
C Y49.id [v35,(AV.fn (.func Y64.id) [] [])] h36 fun v37 h38=>
asB v37 fun c39=>
(bif (!c39) then
(Q (AV.tu [(AV.i .i64 0),(AV.b false)]) h38)
else
(J 3 [(4,(AV.i .i64 x4)),(5,(AV.s l33)),(6,(AV.sl none 0 none))] h38))))
theorem Y6.i1 {Q x1 x4 x27 h} (H:Y6.t1 Q x1 x4 x27 h (Y6.J Q)):Y6.p1 Q x1 x4 x27 h:=gR Y6.J Tryz.f55 Y6.dist [1,1,1,0,1] H
def Y6.t2 (Q:AV→aA→Prop) (x4:Int) (x5:List UInt8) (x6:AV) (h:aA) (J:JT):Prop:=
(bif (!(decide ((x5:List UInt8)=[]))) then
(bN (AV.s x5) (AV.i .i64 0) fun n47=>
aR (IntKind.wrap .u8 (n47 - 48)) fun n48=>
aR (IntKind.wrap .i64 ((IntKind.wrap .i64 n48) * 10)) fun n49=>
bN (AV.s x5) (AV.i .i64 1) fun n50=>
aR (IntKind.wrap .u8 (n50 - 48)) fun n51=>
aR (IntKind.wrap .i64 (n49+(IntKind.wrap .i64 n51))) fun n52=>
bD 1 1 [(AV.i .i64 0)] [(0,1,(AV.i .i64 n52))] h fun v53 h54=>
bQ none 1 8 x6 v53 h54 fun v55 h56=>
bV (AV.s x5) (some (AV.i .i64 2)) none fun l58=>
J 3 [(4,(AV.i .i64 x4)),(5,(AV.s l58)),(6,v55)] h56)
else
(aB 1 x6 (AV.i .i64 0) h fun v60=>
aE v60 h fun v61=>
asI .i64 v61 fun n62=>
aR (IntKind.wrap .i64 (n62+2000)) fun n63=>
(bif (decide ((x4:Int)=15)) then
(aB 1 x6 (AV.i .i64 0) h fun v66=>
aE v66 h fun v67=>
asI .i64 v67 fun n68=>
aR (IntKind.wrap .i64 (100 * n68)) fun n69=>
aB 1 x6 (AV.i .i64 1) h fun v70=>
aE v70 h fun v71=>
asI .i64 v71 fun n72=>
aR (IntKind.wrap .i64 (n69+n72)) fun n73=>
cV 1 x6 (some (AV.i .i64 1)) none none h fun v75=>
J 4 [(6,v75),(7,(AV.i .i64 n73))] h)
else
(aB 1 x6 (AV.i .i64 0) h fun v77=>
aE v77 h fun v78=>
asI .i64 v78 fun n79=>
(bif (decide ((50:Int)≤n79)) then
(aB 1 x6 (AV.i .i64 0) h fun v81=>
aE v81 h fun v82=>
asI .i64 v82 fun n83=>
aR (IntKind.wrap .i64 (n83+1900)) fun n84=>
J 4 [(6,x6),(7,(AV.i .i64 n84))] h)
else
(J 4 [(6,x6),(7,(AV.i .i64 n63))] h))))))
theorem Y6.i2 {Q x4 x5 x6 h} (H:Y6.t2 Q x4 x5 x6 h (Y6.J Q)):Y6.p2 Q x4 x5 x6 h:=gH Y6.J Tryz.f55 Y6.dist [1,1,1,1,1,1,1,0,0] H
def Y6.t4 (Q:AV→aA→Prop) (x6:AV) (x7:Int) (x126:Bool) (h:aA) (J:JT):Prop:=
(bif x126 then
(Q (AV.tu [(AV.i .i64 0),(AV.b false)]) h)
else
(aB 1 x6 (AV.i .i64 2) h fun v137=>
aE v137 h fun v138=>
asI .i64 v138 fun n139=>
C Y74.id [(AV.i .i64 x7)] h fun v140 h141=>
asI .i64 v140 fun n142=>
aE v137 h141 fun v143=>
asI .i64 v143 fun n144=>
((AV.i .i64 n139)=(AV.i .i64 n144) ∧
(aB 1 x6 (AV.i .i64 2) h141 fun v145=>
(v137=v145 ∧
(aR (IntKind.wrap .i64 (n142+n139)) fun n146=>
aR (IntKind.wrap .i64 (n146 - 1)) fun n147=>
J 6 [(6,x6),(7,(AV.i .i64 x7)),(8,(AV.i .i64 n147)),(9,(AV.i .i64 1))] h141))))))
theorem Y6.i4 {Q x6 x7 x126 h} (H:Y6.t4 Q x6 x7 x126 h (Y6.J Q)):Y6.p4 Q x6 x7 x126 h:=gR Y6.J Tryz.f55 Y6.dist [1,1,1,1,1,1,1,1,1,1,0,1] H
def Y6.t5 (Q:AV→aA→Prop) (x6:AV) (x7 x8 x9:Int) (h:aA) (J:JT):Prop:=
aB 1 x6 (AV.i .i64 1) h fun v150=>
aE v150 h fun v151=>
asI .i64 v151 fun n152=>
(bif (decide ((x9:Int)<n152)) then
(C Y47.id [(AV.i .i64 x7),(AV.i .i64 x9)] h fun v156 h157=>
asI .i64 v156 fun n158=>
aR (IntKind.wrap .i64 (x8+n158)) fun n159=>
aR (IntKind.wrap .i64 (x9+1)) fun n161=>
J 6 [(6,x6),(7,(AV.i .i64 x7)),(8,(AV.i .i64 n159)),(9,(AV.i .i64 n161))] h157)
else
(aR (IntKind.wrap .i64 (x8 * 86400)) fun n163=>
aB 1 x6 (AV.i .i64 3) h fun v164=>
aE v164 h fun v165=>
asI .i64 v165 fun n166=>
aR (IntKind.wrap .i64 (n166 * 3600)) fun n167=>
aR (IntKind.wrap .i64 (n163+n167)) fun n168=>
aB 1 x6 (AV.i .i64 4) h fun v169=>
aE v169 h fun v170=>
asI .i64 v170 fun n171=>
aR (IntKind.wrap .i64 (n171 * 60)) fun n172=>
aR (IntKind.wrap .i64 (n168+n172)) fun n173=>
aB 1 x6 (AV.i .i64 5) h fun v174=>
aE v174 h fun v175=>
asI .i64 v175 fun n176=>
aR (IntKind.wrap .i64 (n173+n176)) fun n177=>
Q (AV.tu [(AV.i .i64 n177),(AV.b true)]) h))
theorem Y6.i5 {Q x6 x7 x8 x9 h} (H:Y6.t5 Q x6 x7 x8 x9 h (Y6.J Q)):Y6.p5 Q x6 x7 x8 x9 h:=gH Y6.J Tryz.f55 Y6.dist [1,1,1,1,1,1,1,1,1,1,1,1,0,1,0] H
def Y6.t3 (Q:AV→aA→Prop) (x6:AV) (x7:Int) (h:aA) (J:JT):Prop:=
(bif (decide ((x7:Int)<1970)) then
(J 5 [(6,x6),(7,(AV.i .i64 x7)),(126,(AV.b true))] h)
else
(aB 1 x6 (AV.i .i64 1) h fun v88=>
aE v88 h fun v89=>
asI .i64 v89 fun n90=>
(bif (decide ((n90:Int)<1)) then
(J 5 [(6,x6),(7,(AV.i .i64 x7)),(126,(AV.b true))] h)
else
(aB 1 x6 (AV.i .i64 1) h fun v92=>
aE v92 h fun v93=>
asI .i64 v93 fun n94=>
(bif (decide ((12:Int)<n94)) then
(J 5 [(6,x6),(7,(AV.i .i64 x7)),(126,(AV.b true))] h)
else
(aB 1 x6 (AV.i .i64 2) h fun v96=>
aE v96 h fun v97=>
asI .i64 v97 fun n98=>
(bif (decide ((n98:Int)<1)) then
(J 5 [(6,x6),(7,(AV.i .i64 x7)),(126,(AV.b true))] h)
else
(aB 1 x6 (AV.i .i64 2) h fun v100=>
aE v100 h fun v101=>
asI .i64 v101 fun n102=>
aB 1 x6 (AV.i .i64 1) h fun v103=>
aE v103 h fun v104=>
asI .i64 v104 fun n105=>
C Y47.id [(AV.i .i64 x7),(AV.i .i64 n105)] h fun v106 h107=>
asI .i64 v106 fun n108=>
aB 1 x6 (AV.i .i64 1) h107 fun v109=>
(v103=v109 ∧
(aE v100 h107 fun v110=>
asI .i64 v110 fun n111=>
((AV.i .i64 n102)=(AV.i .i64 n111) ∧
(aB 1 x6 (AV.i .i64 2) h107 fun v112=>
(v100=v112 ∧
(aE v96 h107 fun v113=>
asI .i64 v113 fun n114=>
((AV.i .i64 n98)=(AV.i .i64 n114) ∧
(aB 1 x6 (AV.i .i64 2) h107 fun v115=>
(v96=v115 ∧
(aE v92 h107 fun v116=>
asI .i64 v116 fun n117=>
((AV.i .i64 n94)=(AV.i .i64 n117) ∧
(aB 1 x6 (AV.i .i64 1) h107 fun v118=>
(v92=v118 ∧
(aE v88 h107 fun v119=>
asI .i64 v119 fun n120=>
((AV.i .i64 n90)=(AV.i .i64 n120) ∧
(aB 1 x6 (AV.i .i64 1) h107 fun v121=>
(v88=v121 ∧
((bif (decide ((n108:Int)<n102)) then
(J 5 [(6,x6),(7,(AV.i .i64 x7)),(126,(AV.b true))] h107)
else
(aB 1 x6 (AV.i .i64 3) h107 fun v123=>
aE v123 h107 fun v124=>
asI .i64 v124 fun n125=>
(bif (decide ((23:Int)<n125)) then
(J 5 [(6,x6),(7,(AV.i .i64 x7)),(126,(AV.b true))] h107)
else
(aB 1 x6 (AV.i .i64 4) h107 fun v127=>
aE v127 h107 fun v128=>
asI .i64 v128 fun n129=>
(bif (decide ((59:Int)<n129)) then
(J 5 [(6,x6),(7,(AV.i .i64 x7)),(126,(AV.b true))] h107)
else
(aB 1 x6 (AV.i .i64 5) h107 fun v131=>
aE v131 h107 fun v132=>
asI .i64 v132 fun n133=>
J 5 [(6,x6),(7,(AV.i .i64 x7)),(126,(AV.b (decide ((59:Int)<n133))))] h107))))))))))))))))))))))))))))))))
theorem Y6.i3 {Q x6 x7 h} (H:Y6.t3 Q x6 x7 h (Y6.J Q)):Y6.p3 Q x6 x7 h:=gR Y6.J Tryz.f55 Y6.dist [1,1,1,1,1,1,1,1,1,1] H
def Y6.t0 (Q:AV→aA→Prop) (x1:AV) (x4:Int) (h:aA) (J:JT):Prop:=
aC 3 x1 fun v17=>
aE v17 h fun v18=>
asS v18 fun l19=>
(bif (!decide (((l19.length:Int):Int)=x4)) then
(J 2 [(1,x1),(4,(AV.i .i64 x4)),(27,(AV.b true))] h)
else
(aC 3 x1 fun v21=>
aE v21 h fun v22=>
asS v22 fun l23=>
aR (IntKind.wrap .i64 (x4 - 1)) fun n24=>
bN (AV.s l23) (AV.i .i64 n24) fun n25=>
J 2 [(1,x1),(4,(AV.i .i64 x4)),(27,(AV.b (!decide ((n25:Int)=90))))] h))
theorem Y6.i0 {Q x1 x4 h} (H:Y6.t0 Q x1 x4 h (Y6.J Q)):Y6.p0 Q x1 x4 h:=gR Y6.J Tryz.f55 Y6.dist [1,1,1] H
def Y6.t (Q:AV→aA→Prop) (x0:AV) (h:aA) (J:JT):Prop:=
dQ (some 33) x0 h fun v0 h1=>
aD 5 v0 h1 fun v4=>
C Y42.id [v4,(AV.i .i64 24)] h1 fun v5 h6=>
asB v5 fun c7=>
(bif c7 then
(J 1 [(1,v0),(4,(AV.i .i64 15))] h6)
else
(aD 5 v0 h6 fun v10=>
C Y42.id [v10,(AV.i .i64 23)] h6 fun v11 h12=>
asB v11 fun c13=>
(bif (!c13) then
(Q (AV.tu [(AV.i .i64 0),(AV.b false)]) h12)
else
(J 1 [(1,v0),(4,(AV.i .i64 13))] h12))))
theorem Y6.call {K x0 h} (H:Y6.t (aL h K) x0 h (Y6.J (aL h K))):C Y6.id [x0] h K:=
 gC Y6.J Tryz.func55 Y6.dist H
noncomputable def Y93.body:Code:=(Tryz.f56.body).getD .skip
def Y93.ann:Ann:=(sl [0,1] (sl [4] lf))
theorem Y93.dist:aV (places Y93.ann Y93.body)=true:=by kernel_rfl
noncomputable def Y93.J (Q:AV→aA→Prop):JT:=bY prog C Tryz.f56 Y93.ann Y93.body Q
def Y93.t (Q:AV→aA→Prop) (x0 x1:List UInt8) (h:aA) (J:JT):Prop:=
C Y54.id [(AV.s x0),(AV.s x1)] h fun v1 h2=>
asB v1 fun c3=>
Q (AV.b c3) h2
theorem Y93.call {K x0 x1 h} (H:Y93.t (aL h K) x0 x1 h (Y93.J (aL h K))):C Y93.id [(AV.s x0),(AV.s x1)] h K:=
 gC Y93.J Tryz.func56 Y93.dist H
end Go.Proofs.YtcdkpkkdolmfdaaGreatDoor
