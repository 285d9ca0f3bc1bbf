/- Lemmas (several texts in one). -/
import Derived.Below
import Derived.ChangeArms
import Derived.ChangeSlices
import Derived.DataElems
import Derived.LaidMore
import Derived.Lib.Bytealg
import Derived.Test.YtfoekpcljhbijaaGreatDoorMg3
set_option linter.unusedVariables false
set_option linter.unusedSectionVars false
set_option maxRecDepth 100000
namespace Go.Proofs.YtfoekpcljhbijaaGreatDoor
open Go.GAM
variable [XR]
noncomputable def Y72.body:Code:=(Tryz.f126.body).getD .skip
def Y72.ann:Ann:=(sl [1,2] (sl [3] lf))
theorem Y72.dist:aL (places Y72.ann Y72.body)=true:=by kernel_rfl
noncomputable def Y72.J (Q:AV→aA→Prop):JT:=bJ prog C Tryz.f126 Y72.ann Y72.body Q
def Y72.t (Q:AV→aA→Prop) (x0:Int) (x1:AV) (h:aA) (J:JT):Prop:=
dS none (AV.i .i64 x0) h fun v0 h1=>
aD x1 h1 fun v3=>
C Y53.id [v3,(AV.i .i64 16),(AV.fn (.func Y83.id) [] [v0,x1])] h1 fun v4 h5=>
asI .i64 v4 fun n6=>
Q (AV.i .i64 n6) h5
theorem Y72.call {K x0 x1 h} (H:Y72.t (aH h K) x0 x1 h (Y72.J (aH h K))):C Y72.id [(AV.i .i64 x0),x1] h K:=
 gC Y72.J Tryz.func126 Y72.dist H
noncomputable def Y83.body:Code:=(Tryz.f127.body).getD .skip
def Y83.ann:Ann:=(sl [0,1,2] (sq [1,2] (sl [1,2,8] (.br (sl [4] lf) lf)) (sl [4] lf)))
theorem Y83.dist:aL (places Y83.ann Y83.body)=true:=by kernel_rfl
noncomputable def Y83.J (Q:AV→aA→Prop):JT:=bJ prog C Tryz.f127 Y83.ann Y83.body Q
def Y83.t (Q:AV→aA→Prop) (x0:Int) (x1 x2:AV) (h:aA) (J:JT):Prop:=
aD x1 h fun v1=>
asI .i64 v1 fun n2=>
aM (IntKind.wrap .i64 (65535 - n2)) fun n3=>
(bif (!decide ((x0:Int)=n3)) then
(Q (AV.i .i64 2) h)
else
(aD x2 h fun v7=>
aD x1 h fun v8=>
asI .i64 v8 fun n9=>
C Y67.id [v7,(AV.i .i64 n9)] h fun v10 h11=>
asI .i64 v10 fun n12=>
Q (AV.i .i64 n12) h11))
theorem Y83.call {K x0 x1 x2 h} (H:Y83.t (aH h K) x0 x1 x2 h (Y83.J (aH h K))):C Y83.id [(AV.i .i64 x0),x1,x2] h K:=
 gC Y83.J Tryz.func127 Y83.dist H
noncomputable def Y67.body:Code:=(Tryz.f128.body).getD .skip
def Y67.ann:Ann:=(sl [2,3] (sq [2,3] (sl [2,3,6] (.br (sl [4] lf) lf)) (sl [4] lf)))
theorem Y67.dist:aL (places Y67.ann Y67.body)=true:=by kernel_rfl
noncomputable def Y67.J (Q:AV→aA→Prop):JT:=bJ prog C Tryz.f128 Y67.ann Y67.body Q
def Y67.t (Q:AV→aA→Prop) (x0:AV) (x1:Int) (h:aA) (J:JT):Prop:=
dS none x0 h fun v0 h1=>
dS none (AV.i .i64 x1) h1 fun v2 h3=>
aD v2 h3 fun v5=>
asI .i64 v5 fun n6=>
(bif (decide ((n6:Int)=0)) then
(aD v0 h3 fun v8=>
C Y58.id [v8] h3 fun v9 h10=>
asI .i64 v9 fun n11=>
Q (AV.i .i64 n11) h10)
else
(aD v0 h3 fun v14=>
C Y53.id [v14,(AV.i .i64 8),(AV.fn (.func Y98.id) [] [v0,v2])] h3 fun v15 h16=>
asI .i64 v15 fun n17=>
Q (AV.i .i64 n17) h16))
theorem Y67.call {K x0 x1 h} (H:Y67.t (aH h K) x0 x1 h (Y67.J (aH h K))):C Y67.id [x0,(AV.i .i64 x1)] h K:=
 gC Y67.J Tryz.func128 Y67.dist H
noncomputable def Y60.body:Code:=(Tryz.f129.body).getD .skip
def Y60.ann:Ann:=(sl [0,1,2] (sl [0,2,7,8] (sq [0,2,7] (sl [0,2,7,16] (.br (sl [6] lf) lf)) (sl [0,7,8,9] (sq [0,7,9] (sl [0,7,9,23] (.br (sl [6] lf) lf)) (sl [6] lf))))))
theorem Y60.dist:aL (places Y60.ann Y60.body)=true:=by kernel_rfl
noncomputable def Y60.J (Q:AV→aA→Prop):JT:=bJ prog C Tryz.f129 Y60.ann Y60.body Q
def Y60.t (Q:AV→aA→Prop) (x0 x1 x2:AV) (h:aA) (J:JT):Prop:=
C Y15.id [x1] h fun v1 h2=>
aO 0 v1 fun v3=>
aO 1 v1 fun v4=>
asI .i64 v4 fun n5=>
(bif (!decide ((n5:Int)=0)) then
(Q (AV.i .i64 2) h2)
else
(C Y15.id [x2] h2 fun v10 h11=>
aO 0 v10 fun v12=>
aO 1 v10 fun v13=>
asI .i64 v13 fun n14=>
(bif (!decide ((n14:Int)=0)) then
(Q (AV.i .i64 2) h11)
else
(C Y59.id [x0,v3,v12] h11 fun v19 h20=>
asI .i64 v19 fun n21=>
Q (AV.i .i64 n21) h20))))
theorem Y60.call {K x0 x1 x2 h} (H:Y60.t (aH h K) x0 x1 x2 h (Y60.J (aH h K))):C Y60.id [x0,x1,x2] h K:=
 gC Y60.J Tryz.func129 Y60.dist H
noncomputable def Y88.body:Code:=(Tryz.f130.body).getD .skip
def Y88.ann:Ann:=(sl [0,1] (sl [1,4] (sq [1,4] (sl [1,4,8] (.br (sl [3] lf) lf)) (sl [3] lf))))
theorem Y88.dist:aL (places Y88.ann Y88.body)=true:=by kernel_rfl
noncomputable def Y88.J (Q:AV→aA→Prop):JT:=bJ prog C Tryz.f130 Y88.ann Y88.body Q
def Y88.t (Q:AV→aA→Prop) (x0:Int) (x1:AV) (h:aA) (J:JT):Prop:=
aM (IntKind.wrap .i64 (x0+257)) fun n1=>
eK none [(AV.i .i64 0)] h fun v2 h3=>
aP 1 v2 (AV.i .i64 n1) h3 fun h4=>
aD v2 h4 fun v6=>
asI .i64 v6 fun n7=>
(bif (decide ((286:Int)<n7)) then
(Q (AV.i .i64 2) h4)
else
(aD x1 h4 fun v11=>
C Y53.id [v11,(AV.i .i64 5),(AV.fn (.func Y74.id) [] [x1,v2])] h4 fun v12 h13=>
asI .i64 v12 fun n14=>
Q (AV.i .i64 n14) h13))
theorem Y88.call {K x0 x1 h} (H:Y88.t (aH h K) x0 x1 h (Y88.J (aH h K))):C Y88.id [(AV.i .i64 x0),x1] h K:=
 gC Y88.J Tryz.func130 Y88.dist H
noncomputable def Y74.body:Code:=(Tryz.f131.body).getD .skip
def Y74.ann:Ann:=(sl [0,1,2] (sl [1,2,5] (sq [1,2,5] (sl [1,2,5,9] (.br (sl [4] lf) lf)) (sl [4] lf))))
theorem Y74.dist:aL (places Y74.ann Y74.body)=true:=by kernel_rfl
noncomputable def Y74.J (Q:AV→aA→Prop):JT:=bJ prog C Tryz.f131 Y74.ann Y74.body Q
def Y74.t (Q:AV→aA→Prop) (x0:Int) (x1 x2:AV) (h:aA) (J:JT):Prop:=
aM (IntKind.wrap .i64 (x0+1)) fun n1=>
eK none [(AV.i .i64 0)] h fun v2 h3=>
aP 1 v2 (AV.i .i64 n1) h3 fun h4=>
aD v2 h4 fun v6=>
asI .i64 v6 fun n7=>
(bif (decide ((30:Int)<n7)) then
(Q (AV.i .i64 2) h4)
else
(aD x1 h4 fun v11=>
C Y53.id [v11,(AV.i .i64 4),(AV.fn (.func Y80.id) [] [x1,x2,v2])] h4 fun v12 h13=>
asI .i64 v12 fun n14=>
Q (AV.i .i64 n14) h13))
theorem Y74.call {K x0 x1 x2 h} (H:Y74.t (aH h K) x0 x1 x2 h (Y74.J (aH h K))):C Y74.id [(AV.i .i64 x0),x1,x2] h K:=
 gC Y74.J Tryz.func131 Y74.dist H
noncomputable def Y80.body:Code:=(Tryz.f132.body).getD .skip
def Y80.ann:Ann:=(sl [0,1,2,3] (sq [5] (.ord (.neu 0 (nn 2 4 (.eff 1 (.eff 6 (.neu 7 .done) .stop) .stop)))) lf))
theorem Y80.dist:aL (places Y80.ann Y80.body)=true:=by kernel_rfl
noncomputable def Y80.J (Q:AV→aA→Prop):JT:=bJ prog C Tryz.f132 Y80.ann Y80.body Q
def Y80.t (Q:AV→aA→Prop) (x0:Int) (x1 x2 x3:AV) (h:aA) (J:JT):Prop:=
aD x1 h fun v1=>
aM (IntKind.wrap .i64 (x0+4)) fun n2=>
aD x2 h fun v3=>
asI .i64 v3 fun n4=>
aD x3 h fun v5=>
asI .i64 v5 fun n6=>
xF 1 8 [(AV.i .i64 0)] (AV.i .i64 19) (AV.i .i64 19) h fun v7 h8=>
aD x3 h8 fun v9=>
asI .i64 v9 fun n10=>
((AV.i .i64 n6)=(AV.i .i64 n10) ∧
(aD x2 h8 fun v11=>
asI .i64 v11 fun n12=>
((AV.i .i64 n4)=(AV.i .i64 n12) ∧
(aD x1 h8 fun v13=>
(v1=v13 ∧
(C Y62.id [v1,v7,(AV.i .i64 0),(AV.i .i64 n2),(AV.i .i64 n4),(AV.i .i64 n6)] h8 fun v14 h15=>
asI .i64 v14 fun n16=>
Q (AV.i .i64 n16) h15))))))
theorem Y80.call {K x0 x1 x2 x3 h} (H:Y80.t (aH h K) x0 x1 x2 x3 h (Y80.J (aH h K))):C Y80.id [(AV.i .i64 x0),x1,x2,x3] h K:=
 gC Y80.J Tryz.func132 Y80.dist H
noncomputable def Y62.body:Code:=(Tryz.f133.body).getD .skip
def Y62.ann:Ann:=(sl [6,7,8,9,10,11] (sq [6,7,8,9,10,11] (sl [6,7,8,9,10,11,17] (.br (sl [6,10,11,13,14] (sq [6,10,11,13] (sl [6,10,11,13,24] (.br (sl [12] lf) lf)) (sl [12] lf))) lf)) (sl [12] lf)))
theorem Y62.dist:aL (places Y62.ann Y62.body)=true:=by kernel_rfl
noncomputable def Y62.J (Q:AV→aA→Prop):JT:=bJ prog C Tryz.f133 Y62.ann Y62.body Q
def Y62.t (Q:AV→aA→Prop) (x0 x1:AV) (x2 x3 x4 x5:Int) (h:aA) (J:JT):Prop:=
dS none x0 h fun v0 h1=>
dS none x1 h1 fun v2 h3=>
dS none (AV.i .i64 x2) h3 fun v4 h5=>
dS none (AV.i .i64 x3) h5 fun v6 h7=>
dS none (AV.i .i64 x4) h7 fun v8 h9=>
dS none (AV.i .i64 x5) h9 fun v10 h11=>
aD v4 h11 fun v13=>
asI .i64 v13 fun n14=>
aD v6 h11 fun v15=>
asI .i64 v15 fun n16=>
(bif (decide ((n14:Int)=n16)) then
(aD v2 h11 fun v18=>
C Y15.id [v18] h11 fun v19 h20=>
aO 0 v19 fun v21=>
aO 1 v19 fun v22=>
asI .i64 v22 fun n23=>
(bif (!decide ((n23:Int)=0)) then
(Q (AV.i .i64 2) h20)
else
(aD v0 h20 fun v28=>
aD v8 h20 fun v29=>
asI .i64 v29 fun n30=>
aD v10 h20 fun v31=>
asI .i64 v31 fun n32=>
C Y56.id [v28,v21,(AV.sl none 0 none),(AV.i .i64 n30),(AV.i .i64 n32)] h20 fun v33 h34=>
asI .i64 v33 fun n35=>
Q (AV.i .i64 n35) h34)))
else
(aD v0 h11 fun v38=>
C Y53.id [v38,(AV.i .i64 3),(AV.fn (.func Y75.id) [] [v2,v4,v0,v6,v8,v10])] h11 fun v39 h40=>
asI .i64 v39 fun n41=>
Q (AV.i .i64 n41) h40))
theorem Y62.call {K x0 x1 x2 x3 x4 x5 h} (H:Y62.t (aH h K) x0 x1 x2 x3 x4 x5 h (Y62.J (aH h K))):C Y62.id [x0,x1,(AV.i .i64 x2),(AV.i .i64 x3),(AV.i .i64 x4),(AV.i .i64 x5)] h K:=
 gC Y62.J Tryz.func133 Y62.dist H
noncomputable def Y44.body:Code:=(Tryz.f134.body).getD .skip
def Y44.ann:Ann:=(sq [0,1] (sl [0,1,6] bl) (sl [0,1,4] (sq [0,1] (.seq 1 [0,1,37] (.ord (nn 0 25 .done)) (.br (sl [] lf) lf)) lf)))
theorem Y44.dist:aL (places Y44.ann Y44.body)=true:=by kernel_rfl
noncomputable def Y44.J (Q:AV→aA→Prop):JT:=bJ prog C Tryz.f134 Y44.ann Y44.body Q
def Y44.p0 (Q:AV→aA→Prop) (x0:AV) (x1:Int) (x37:Bool) (h:aA):Prop:=Y44.J Q 1 [(0,x0),(1,(AV.i .u8 x1)),(37,(AV.b x37))] h
def Y44.t0 (Q:AV→aA→Prop) (x0:AV) (x1:Int) (x37:Bool) (h:aA) (J:JT):Prop:=
(bif x37 then
(aK x0 fun v32=>
aB 6 v32 fun v33=>
aP 1 v33 (AV.i .i64 16) h fun h34=>
Q (AV.tu []) h34)
else
(aK x0 fun v37=>
aB 2 v37 fun v38=>
aD v38 h fun v39=>
bP 1 1 [(AV.i .u8 0)] [(0,1,(AV.i .u8 x1))] h fun v40 h41=>
bU (some 5) 1 1 v39 v40 h41 fun v42 h43=>
aK x0 fun v44=>
aB 2 v44 fun v45=>
aP 1 v45 v42 h43 fun h46=>
Q (AV.tu []) h46))
theorem Y44.i0 {Q x0 x1 x37 h} (H:Y44.t0 Q x0 x1 x37 h (Y44.J Q)):Y44.p0 Q x0 x1 x37 h:=gR Y44.J Tryz.f134 Y44.dist [1,1,0,1] H
def Y44.t (Q:AV→aA→Prop) (x0:AV) (x1:Int) (h:aA) (J:JT):Prop:=
C Y24.id [x0] h fun v0 h1=>
asB v0 fun c2=>
(bif c2 then
(Q (AV.tu []) h1)
else
(aK x0 fun v5=>
aB 1 v5 fun v6=>
aD v6 h1 fun v7=>
asI .i64 v7 fun n8=>
aM (IntKind.wrap .i64 (n8+7)) fun n9=>
aD2 .i64 n9 8 fun n10=>
aK x0 fun v12=>
aB 2 v12 fun v13=>
aD v13 h1 fun v14=>
bR v14 fun n15=>
aK x0 fun v16=>
aB 3 v16 fun v17=>
aD v17 h1 fun v18=>
asI .i64 v18 fun n19=>
(bif (decide ((n19:Int)≤n15)) then
(J 1 [(0,x0),(1,(AV.i .u8 x1)),(37,(AV.b true))] h1)
else
(aK x0 fun v21=>
aB 2 v21 fun v22=>
aD v22 h1 fun v23=>
bR v23 fun n24=>
aK x0 fun v25=>
aB 4 v25 fun v26=>
aD v26 h1 fun v27=>
asI .i64 v27 fun n28=>
aM (IntKind.wrap .i64 (n28 * n10)) fun n29=>
aM (IntKind.wrap .i64 (n29+1024)) fun n30=>
J 1 [(0,x0),(1,(AV.i .u8 x1)),(37,(AV.b (decide ((n30:Int)≤n24))))] h1))))
theorem Y44.call {K x0 x1 h} (H:Y44.t (aH h K) x0 x1 h (Y44.J (aH h K))):C Y44.id [x0,(AV.i .u8 x1)] h K:=
 gC Y44.J Tryz.func134 Y44.dist H
noncomputable def Y55.body:Code:=(Tryz.f135.body).getD .skip
def Y55.ann:Ann:=(sl [0] (sl [0,4] (sq [0] (sl [0,4,8] (.br (sl [2,3] lf) lf)) (sl [2,3] lf))))
theorem Y55.dist:aL (places Y55.ann Y55.body)=true:=by kernel_rfl
noncomputable def Y55.J (Q:AV→aA→Prop):JT:=bJ prog C Tryz.f135 Y55.ann Y55.body Q
def Y55.t (Q:AV→aA→Prop) (x0:AV) (h:aA) (J:JT):Prop:=
C Y7.id [x0] h fun v1 h2=>
asI .i64 v1 fun n3=>
(bif (!decide ((n3:Int)=0)) then
(Q (AV.tu [(AV.p none),(AV.i .i64 n3)]) h2)
else
(C Y9.id [x0] h2 fun v8 h9=>
f9 [(AV.sl none 0 none),(AV.sl none 0 none),(AV.i .i64 0),(AV.i .i64 0)] [(0,1,x0),(1,1,v8)] fun v10=>
dS (some 200) v10 h9 fun v11 h12=>
Q (AV.tu [v11,(AV.i .i64 0)]) h12))
theorem Y55.call {K x0 h} (H:Y55.t (aH h K) x0 h (Y55.J (aH h K))):C Y55.id [x0] h K:=
 gC Y55.J Tryz.func135 Y55.dist H
noncomputable def Y34.body:Code:=(Tryz.f136.body).getD .skip
def Y34.ann:Ann:=(sl [0,1] (sq [0,1] (sl [0,1,10] (.br (sl [] (sl [4] lf)) lf)) (.one (.loop 1 [0,1] (.one (sl [0,1,5] (sq [0,1,5] (sl [0,1,5,16] (.br (sl [4] lf) lf)) (sl [0,1,6,7,8] (sq [0,1,6,7] (sl [0,1,6,7,25] (.br (sl [] (sl [4] lf)) lf)) (sl [0,1,6,28] (.br (sl [4] lf) lf)))))))))))
theorem Y34.dist:aL (places Y34.ann Y34.body)=true:=by kernel_rfl
noncomputable def Y34.J (Q:AV→aA→Prop):JT:=bJ prog C Tryz.f136 Y34.ann Y34.body Q
def Y34.p0 (Q:AV→aA→Prop) (x0 x1:AV) (h:aA):Prop:=Y34.J Q 1 [(0,x0),(1,x1)] h
def Y34.t0 (Q:AV→aA→Prop) (x0 x1:AV) (h:aA) (J:JT):Prop:=
C Y27.id [x0] h fun v9 h10=>
asI .i64 v9 fun n11=>
C Y24.id [x0] h10 fun v13 h14=>
asB v13 fun c15=>
(bif c15 then
(Q (AV.i .i64 0) h14)
else
(C Y12.id [x1,(AV.i .i64 n11)] h14 fun v19 h20=>
aO 0 v19 fun v21=>
asI .i64 v21 fun n22=>
aO 1 v19 fun v23=>
asB v23 fun c24=>
aO 2 v19 fun v25=>
asI .i64 v25 fun n26=>
(bif (!decide ((n26:Int)=0)) then
(C Y50.id [x0] h20 fun v29 h30=>
Q (AV.i .i64 0) h30)
else
((bif c24 then
(Q (AV.i .i64 n22) h20)
else
(J 1 [(0,x0),(1,x1)] h20))))))
theorem Y34.i0 {Q x0 x1 h} (H:Y34.t0 Q x0 x1 h (Y34.J Q)):Y34.p0 Q x0 x1 h:=gH Y34.J Tryz.f136 Y34.dist [1,1,0] H
def Y34.t (Q:AV→aA→Prop) (x0 x1:AV) (h:aA) (J:JT):Prop:=
cI prog .eql 184 x1 (AV.p none) fun v1=>
asB v1 fun c2=>
(bif c2 then
(C Y50.id [x0] h fun v4 h5=>
Q (AV.i .i64 0) h5)
else
(J 1 [(0,x0),(1,x1)] h))
theorem Y34.call {K x0 x1 h} (H:Y34.t (aH h K) x0 x1 h (Y34.J (aH h K))):C Y34.id [x0,x1] h K:=
 gC Y34.J Tryz.func136 Y34.dist H
noncomputable def Y76.body:Code:=(Tryz.f137.body).getD .skip
def Y76.ann:Ann:=(sl [0] (sq [0] (sl [0,6] (.br (sl [2,3] lf) lf)) (sq [0] (sl [0,10] (.br (sl [2,3] lf) lf)) (sl [0,4] (sl [2,3] lf)))))
theorem Y76.dist:aL (places Y76.ann Y76.body)=true:=by kernel_rfl
noncomputable def Y76.J (Q:AV→aA→Prop):JT:=bJ prog C Tryz.f137 Y76.ann Y76.body Q
def Y76.t (Q:AV→aA→Prop) (x0:Int) (h:aA) (J:JT):Prop:=
(bif (decide ((x0:Int)<265)) then
(aM (IntKind.wrap .i64 (x0 - 254)) fun n2=>
Q (AV.tu [(AV.i .i64 n2),(AV.i .i64 0)]) h)
else
((bif (decide ((x0:Int)=285)) then
(Q (AV.tu [(AV.i .i64 258),(AV.i .i64 0)]) h)
else
(aM (IntKind.wrap .i64 (x0 - 261)) fun n8=>
aD2 .i64 n8 4 fun n9=>
aM (IntKind.wrap .i64 (x0 - 265)) fun n11=>
aDF n11 4 fun n12=>
aM (IntKind.wrap .i64 (4+n12)) fun n13=>
mU .i64 n13 (IntKind.wrap .u64 n9) fun n14=>
aM (IntKind.wrap .i64 (n14+3)) fun n15=>
Q (AV.tu [(AV.i .i64 n15),(AV.i .i64 n9)]) h))))
theorem Y76.call {K x0 h} (H:Y76.t (aH h K) x0 h (Y76.J (aH h K))):C Y76.id [(AV.i .i64 x0)] h K:=
 gC Y76.J Tryz.func137 Y76.dist H
noncomputable def Y90.body:Code:=(Tryz.f138.body).getD .skip
def Y90.ann:Ann:=(sl [0] (sq [0] (sl [0,6] (.br (sl [2,3] lf) lf)) (sl [0,4] (sl [2,3] lf))))
theorem Y90.dist:aL (places Y90.ann Y90.body)=true:=by kernel_rfl
noncomputable def Y90.J (Q:AV→aA→Prop):JT:=bJ prog C Tryz.f138 Y90.ann Y90.body Q
def Y90.t (Q:AV→aA→Prop) (x0:Int) (h:aA) (J:JT):Prop:=
(bif (decide ((x0:Int)<4)) then
(aM (IntKind.wrap .i64 (x0+1)) fun n2=>
Q (AV.tu [(AV.i .i64 n2),(AV.i .i64 0)]) h)
else
(aD2 .i64 x0 2 fun n5=>
aM (IntKind.wrap .i64 (n5 - 1)) fun n6=>
aDF x0 2 fun n8=>
aM (IntKind.wrap .i64 (2+n8)) fun n9=>
mU .i64 n9 (IntKind.wrap .u64 n6) fun n10=>
aM (IntKind.wrap .i64 (n10+1)) fun n11=>
Q (AV.tu [(AV.i .i64 n11),(AV.i .i64 n6)]) h))
theorem Y90.call {K x0 h} (H:Y90.t (aH h K) x0 h (Y90.J (aH h K))):C Y90.id [(AV.i .i64 x0)] h K:=
 gC Y90.J Tryz.func138 Y90.dist H
noncomputable def Y7.body:Code:=(Tryz.f139.body).getD .skip
def Y7.ann:Ann:=(sl [0] (sq [0] (sl [0,8] (.br (sl [2] lf) lf)) (sl [0,3] (sq [0,3] (sl [0,3,4] (.one (.loop 1 [0,3,4] (sq [0,3,4] (sl [0,3,4,12] bl) (.seq 3 [0,3,4] (.one (sq [0,3,4] (.seq 2 [0,3,4,26] lf (.br (sl [2] lf) lf)) (sl [0,3,4,31] bl))) lf))))) (sl [3,5] (sq [3,5] (sl [3,5,44] (.br (sl [2] lf) lf)) (sq [] (.seq 4 [58] lf (.br (sl [2] lf) lf)) (sl [2] lf))))))))
theorem Y7.dist:aL (places Y7.ann Y7.body)=true:=by kernel_rfl
noncomputable def Y7.J (Q:AV→aA→Prop):JT:=bJ prog C Tryz.f139 Y7.ann Y7.body Q
def Y7.p1 (Q:AV→aA→Prop) (x0:AV) (x3 x4:Int) (x26:Bool) (h:aA):Prop:=Y7.J Q 2 [(0,x0),(3,(AV.i .i64 x3)),(4,(AV.i .i64 x4)),(26,(AV.b x26))] h
def Y7.p2 (Q:AV→aA→Prop) (x0:AV) (x3 x4:Int) (h:aA):Prop:=Y7.J Q 3 [(0,x0),(3,(AV.i .i64 x3)),(4,(AV.i .i64 x4))] h
def Y7.p0 (Q:AV→aA→Prop) (x0:AV) (x3 x4:Int) (h:aA):Prop:=Y7.J Q 1 [(0,x0),(3,(AV.i .i64 x3)),(4,(AV.i .i64 x4))] h
def Y7.p3 (Q:AV→aA→Prop) (x58:Bool) (h:aA):Prop:=Y7.J Q 4 [(58,(AV.b x58))] h
def Y7.t1 (Q:AV→aA→Prop) (x0:AV) (x3 x4:Int) (x26:Bool) (h:aA) (J:JT):Prop:=
(bif x26 then
(Q (AV.i .i64 4) h)
else
(aU 1 x0 (AV.i .i64 x4) h fun v21=>
aD v21 h fun v22=>
asI .i64 v22 fun n23=>
(bif (decide ((0:Int)<n23)) then
(aU 1 x0 (AV.i .i64 x4) h fun v25=>
aD v25 h fun v26=>
asI .i64 v26 fun n27=>
aM (IntKind.wrap .i64 (15 - n27)) fun n28=>
mU .i64 1 (IntKind.wrap .u64 n28) fun n29=>
aM (IntKind.wrap .i64 (x3+n29)) fun n30=>
J 3 [(0,x0),(3,(AV.i .i64 n30)),(4,(AV.i .i64 x4))] h)
else
(J 3 [(0,x0),(3,(AV.i .i64 x3)),(4,(AV.i .i64 x4))] h))))
theorem Y7.i1 {Q x0 x3 x4 x26 h} (H:Y7.t1 Q x0 x3 x4 x26 h (Y7.J Q)):Y7.p1 Q x0 x3 x4 x26 h:=gR Y7.J Tryz.f139 Y7.dist [1,1,1,0,1,0,0,1,0,0,0,1] H
def Y7.t2 (Q:AV→aA→Prop) (x0:AV) (x3 x4:Int) (h:aA) (J:JT):Prop:=
aM (IntKind.wrap .i64 (x4+1)) fun n33=>
J 1 [(0,x0),(3,(AV.i .i64 x3)),(4,(AV.i .i64 n33))] h
theorem Y7.i2 {Q x0 x3 x4 h} (H:Y7.t2 Q x0 x3 x4 h (Y7.J Q)):Y7.p2 Q x0 x3 x4 h:=gR Y7.J Tryz.f139 Y7.dist [1,1,1,0,1,0,0,1,1] H
def Y7.t0 (Q:AV→aA→Prop) (x0:AV) (x3 x4:Int) (h:aA) (J:JT):Prop:=
bR x0 fun n7=>
(bif (decide ((x4:Int)<n7)) then
(aU 1 x0 (AV.i .i64 x4) h fun v11=>
aD v11 h fun v12=>
asI .i64 v12 fun n13=>
(bif (decide ((n13:Int)<0)) then
(J 2 [(0,x0),(3,(AV.i .i64 x3)),(4,(AV.i .i64 x4)),(26,(AV.b true))] h)
else
(aU 1 x0 (AV.i .i64 x4) h fun v15=>
aD v15 h fun v16=>
asI .i64 v16 fun n17=>
J 2 [(0,x0),(3,(AV.i .i64 x3)),(4,(AV.i .i64 x4)),(26,(AV.b (decide ((15:Int)<n17))))] h)))
else
(C Y23.id [x0] h fun v35 h36=>
asI .i64 v35 fun n37=>
(bif (decide ((32768:Int)<x3)) then
(Q (AV.i .i64 2) h36)
else
((bif (decide ((x3:Int)=32768)) then
(J 4 [(58,(AV.b true))] h36)
else
((bif (decide ((n37:Int)=0)) then
(J 4 [(58,(AV.b true))] h36)
else
((bif (decide ((n37:Int)=1)) then
(J 4 [(58,(AV.b (decide ((x3:Int)=16384))))] h36)
else
(J 4 [(58,(AV.b false))] h36))))))))))
theorem Y7.i0 {Q x0 x3 x4 h} (H:Y7.t0 Q x0 x3 x4 h (Y7.J Q)):Y7.p0 Q x0 x3 x4 h:=gH Y7.J Tryz.f139 Y7.dist [1,1,1,0,1,0] H
def Y7.t3 (Q:AV→aA→Prop) (x58:Bool) (h:aA) (J:JT):Prop:=
(bif x58 then
(Q (AV.i .i64 0) h)
else
(Q (AV.i .i64 1) h))
theorem Y7.i3 {Q x58 h} (H:Y7.t3 Q x58 h (Y7.J Q)):Y7.p3 Q x58 h:=gR Y7.J Tryz.f139 Y7.dist [1,1,1,1,1,1,0,1] H
def Y7.t (Q:AV→aA→Prop) (x0:AV) (h:aA) (J:JT):Prop:=
bR x0 fun n1=>
(bif (decide ((320:Int)<n1)) then
(Q (AV.i .i64 3) h)
else
(J 1 [(0,x0),(3,(AV.i .i64 0)),(4,(AV.i .i64 0))] h))
theorem Y7.call {K x0 h} (H:Y7.t (aH h K) x0 h (Y7.J (aH h K))):C Y7.id [x0] h K:=
 gC Y7.J Tryz.func139 Y7.dist H
noncomputable def Y102.body:Code:=(Tryz.f144.body).getD .skip
def Y102.ann:Ann:=(sl [0,1] (sl [0,1,6] (sl [0,1,6,7] (sl [0,1,6,7,8] (sl [0,1,6,7,8,9] (sl [0,1,6,7,8,9,10] (sl [0,1,6,7,9,11] (sl [0,1,6,7,9,11,12] (sl [0,1,6,7,9,12,13] (sl [0,1,7,9,12,13] (sl [0,1,4] (sl [4,5] lf))))))))))))
theorem Y102.dist:aL (places Y102.ann Y102.body)=true:=by kernel_rfl
noncomputable def Y102.J (Q:AV→aA→Prop):JT:=bJ prog C Tryz.f144 Y102.ann Y102.body Q
def Y102.t (Q:AV→aA→Prop) (x0 x1:Int) (h:aA) (J:JT):Prop:=
aM (bA .and .u64 x0 4294967295) fun n1=>
s9 .u64 x0 32 fun n3=>
aM (bA .and .u64 x1 4294967295) fun n5=>
s9 .u64 x1 32 fun n7=>
aM (IntKind.wrap .u64 (n1 * n5)) fun n9=>
aM (IntKind.wrap .u64 (n3 * n5)) fun n11=>
s9 .u64 n9 32 fun n12=>
aM (IntKind.wrap .u64 (n11+n12)) fun n13=>
aM (bA .and .u64 n13 4294967295) fun n15=>
s9 .u64 n13 32 fun n17=>
aM (IntKind.wrap .u64 (n1 * n7)) fun n19=>
aM (IntKind.wrap .u64 (n15+n19)) fun n20=>
aM (IntKind.wrap .u64 (n3 * n7)) fun n22=>
aM (IntKind.wrap .u64 (n22+n17)) fun n23=>
s9 .u64 n20 32 fun n24=>
aM (IntKind.wrap .u64 (n23+n24)) fun n25=>
aM (IntKind.wrap .u64 (x0 * x1)) fun n27=>
Q (AV.tu [(AV.i .u64 n25),(AV.i .u64 n27)]) h
theorem Y102.call {K x0 x1 h} (H:Y102.t (aH h K) x0 x1 h (Y102.J (aH h K))):C Y102.id [(AV.i .u64 x0),(AV.i .u64 x1)] h K:=
 gC Y102.J Tryz.func144 Y102.dist H
noncomputable def Y98.body:Code:=(Tryz.f146.body).getD .skip
def Y98.ann:Ann:=(sl [0,1,2] (sq [1,2] (sl [1,2,5] (sl [1,2,5,11] (.br (sl [4] lf) lf))) (sl [4] lf)))
theorem Y98.dist:aL (places Y98.ann Y98.body)=true:=by kernel_rfl
noncomputable def Y98.J (Q:AV→aA→Prop):JT:=bJ prog C Tryz.f146 Y98.ann Y98.body Q
def Y98.t (Q:AV→aA→Prop) (x0:Int) (x1 x2:AV) (h:aA) (J:JT):Prop:=
aD x1 h fun v1=>
C Y28.id [v1,(AV.i .u8 (IntKind.wrap .u8 x0))] h fun v2 h3=>
asI .i64 v2 fun n4=>
(bif (!decide ((n4:Int)=0)) then
(Q (AV.i .i64 n4) h3)
else
(aD x1 h3 fun v9=>
aD x2 h3 fun v10=>
asI .i64 v10 fun n11=>
aM (IntKind.wrap .i64 (n11 - 1)) fun n12=>
C Y67.id [v9,(AV.i .i64 n12)] h3 fun v13 h14=>
asI .i64 v13 fun n15=>
Q (AV.i .i64 n15) h14))
theorem Y98.call {K x0 x1 x2 h} (H:Y98.t (aH h K) x0 x1 x2 h (Y98.J (aH h K))):C Y98.id [(AV.i .i64 x0),x1,x2] h K:=
 gC Y98.J Tryz.func146 Y98.dist H
noncomputable def Y28.body:Code:=(Tryz.f147.body).getD .skip
def Y28.ann:Ann:=(sl [0,1] (sq [0,1] (.seq 1 [0,1,32] (.ord (nn 0 28 .done)) (.br (sl [4] lf) lf)) (sl [0,1] (sl [0,1] (.seq 2 [0,1] (sl [0,1,55] bl) (sl [] (sl [4] lf)))))))
theorem Y28.dist:aL (places Y28.ann Y28.body)=true:=by kernel_rfl
noncomputable def Y28.J (Q:AV→aA→Prop):JT:=bJ prog C Tryz.f147 Y28.ann Y28.body Q
def Y28.p0 (Q:AV→aA→Prop) (x0:AV) (x1:Int) (x32:Bool) (h:aA):Prop:=Y28.J Q 1 [(0,x0),(1,(AV.i .u8 x1)),(32,(AV.b x32))] h
def Y28.p1 (Q:AV→aA→Prop) (x0:AV) (x1:Int) (h:aA):Prop:=Y28.J Q 2 [(0,x0),(1,(AV.i .u8 x1))] h
def Y28.t0 (Q:AV→aA→Prop) (x0:AV) (x1:Int) (x32:Bool) (h:aA) (J:JT):Prop:=
(bif x32 then
(Q (AV.i .i64 16) h)
else
(aK x0 fun v29=>
aB 3 v29 fun v30=>
aD v30 h fun v31=>
asI .i64 v31 fun n32=>
aM (IntKind.wrap .i64 (n32+1)) fun n33=>
aK x0 fun v34=>
aB 3 v34 fun v35=>
aP 1 v35 (AV.i .i64 n33) h fun h36=>
aK x0 fun v38=>
aB 4 v38 fun v39=>
aD v39 h36 fun v40=>
bP 1 1 [(AV.i .u8 0)] [(0,1,(AV.i .u8 x1))] h36 fun v41 h42=>
bU (some 5) 1 1 v40 v41 h42 fun v43 h44=>
aK x0 fun v45=>
aB 4 v45 fun v46=>
aP 1 v46 v43 h44 fun h47=>
aK x0 fun v49=>
aB 2 v49 fun v50=>
aD v50 h47 fun v51=>
bR v51 fun n52=>
(bif (decide ((65536:Int)≤n52)) then
(aK x0 fun v54=>
aB 2 v54 fun v55=>
aD v55 h47 fun v56=>
bW 1 v56 (some (AV.i .i64 32768)) none none h47 fun v57=>
C Y106.id [v57] h47 fun v58 h59=>
aK x0 fun v60=>
aB 2 v60 fun v61=>
aP 1 v61 v58 h59 fun h62=>
J 2 [(0,x0),(1,(AV.i .u8 x1))] h62)
else
(J 2 [(0,x0),(1,(AV.i .u8 x1))] h47))))
theorem Y28.i0 {Q x0 x1 x32 h} (H:Y28.t0 Q x0 x1 x32 h (Y28.J Q)):Y28.p0 Q x0 x1 x32 h:=gR Y28.J Tryz.f147 Y28.dist [1,0,1] H
def Y28.t1 (Q:AV→aA→Prop) (x0:AV) (x1:Int) (h:aA) (J:JT):Prop:=
aK x0 fun v65=>
aB 2 v65 fun v66=>
aD v66 h fun v67=>
bP 1 1 [(AV.i .u8 0)] [(0,1,(AV.i .u8 x1))] h fun v68 h69=>
bU (some 5) 1 1 v67 v68 h69 fun v70 h71=>
aK x0 fun v72=>
aB 2 v72 fun v73=>
aP 1 v73 v70 h71 fun h74=>
Q (AV.i .i64 0) h74
theorem Y28.i1 {Q x0 x1 h} (H:Y28.t1 Q x0 x1 h (Y28.J Q)):Y28.p1 Q x0 x1 h:=gR Y28.J Tryz.f147 Y28.dist [1,1,1,1,1] H
def Y28.t (Q:AV→aA→Prop) (x0:AV) (x1:Int) (h:aA) (J:JT):Prop:=
aK x0 fun v1=>
aB 3 v1 fun v2=>
aD v2 h fun v3=>
asI .i64 v3 fun n4=>
aK x0 fun v5=>
aB 0 v5 fun v6=>
aB 0 v6 fun v7=>
aD v7 h fun v8=>
asI .i64 v8 fun n9=>
(bif (decide ((n9:Int)≤n4)) then
(J 1 [(0,x0),(1,(AV.i .u8 x1)),(32,(AV.b true))] h)
else
(aK x0 fun v11=>
aB 3 v11 fun v12=>
aD v12 h fun v13=>
asI .i64 v13 fun n14=>
aK x0 fun v15=>
aB 0 v15 fun v16=>
aB 1 v16 fun v17=>
aD v17 h fun v18=>
asI .i64 v18 fun n19=>
aK x0 fun v20=>
aB 5 v20 fun v21=>
aD v21 h fun v22=>
asI .i64 v22 fun n23=>
aM (IntKind.wrap .i64 (n19 * n23)) fun n24=>
aM (IntKind.wrap .i64 (n24+1024)) fun n25=>
J 1 [(0,x0),(1,(AV.i .u8 x1)),(32,(AV.b (decide ((n25:Int)≤n14))))] h))
theorem Y28.call {K x0 x1 h} (H:Y28.t (aH h K) x0 x1 h (Y28.J (aH h K))):C Y28.id [x0,(AV.i .u8 x1)] h K:=
 gC Y28.J Tryz.func147 Y28.dist H
noncomputable def Y15.body:Code:=(Tryz.f148.body).getD .skip
def Y15.ann:Ann:=(sl [0] (sq [0] (sl [0,4] (sl [0,4,12] (.br (sl [2,3] lf) lf))) (sl [0,5] (sq [5] (sl [0,5,6] (.one (.loop 1 [0,5,6] (sq [0,5,6] (sl [0,5,6,19] bl) (sq [0,5,6] (.one (sq [0,5,6] (.ord (nn 0 10 (.eff 10 .done .stop))) (sl [0,5,6,32,33,34] (.one (.loop 2 [0,5,6,32,33,34] (sl [0,5,6,32,33,34,35] (sq [0,5,6,32,33,34] bl (.seq 3 [0,5,6,32,33,34] (.one (sl [0,5,6,7,8,32,33,34] (sl [0,5,6,7,32,33,34,41] (.br (sl [0,5,6,32,33,34] lf) lf)))) lf)))))))) lf))))) (sl [2,3] lf)))))
theorem Y15.dist:aL (places Y15.ann Y15.body)=true:=by kernel_rfl
noncomputable def Y15.J (Q:AV→aA→Prop):JT:=bJ prog C Tryz.f148 Y15.ann Y15.body Q
def Y15.p2 (Q:AV→aA→Prop) (x0 x5:AV) (x6:Int) (x32:AV) (x33 x34:Int) (h:aA):Prop:=Y15.J Q 3 [(0,x0),(5,x5),(6,(AV.i .i64 x6)),(32,x32),(33,(AV.i .i64 x33)),(34,(AV.i .i64 x34))] h
def Y15.p1 (Q:AV→aA→Prop) (x0 x5:AV) (x6:Int) (x32:AV) (x33 x34:Int) (h:aA):Prop:=Y15.J Q 2 [(0,x0),(5,x5),(6,(AV.i .i64 x6)),(32,x32),(33,(AV.i .i64 x33)),(34,(AV.i .i64 x34))] h
def Y15.p0 (Q:AV→aA→Prop) (x0 x5:AV) (x6:Int) (h:aA):Prop:=Y15.J Q 1 [(0,x0),(5,x5),(6,(AV.i .i64 x6))] h
def Y15.t2 (Q:AV→aA→Prop) (x0 x5:AV) (x6:Int) (x32:AV) (x33 x34:Int) (h:aA) (J:JT):Prop:=
aM (IntKind.wrap .i64 (x34+1)) fun n53=>
J 2 [(0,x0),(5,x5),(6,(AV.i .i64 x6)),(32,x32),(33,(AV.i .i64 x33)),(34,(AV.i .i64 n53))] h
theorem Y15.i2 {Q x0 x5 x6 x32 x33 x34 h} (H:Y15.t2 Q x0 x5 x6 x32 x33 x34 h (Y15.J Q)):Y15.p2 Q x0 x5 x6 x32 x33 x34 h:=gR Y15.J Tryz.f148 Y15.dist [1,1,1,0,1,0,0,1,0,0,1,1,0,0,1,1,1] H
def Y15.t1 (Q:AV→aA→Prop) (x0 x5:AV) (x6:Int) (x32:AV) (x33 x34:Int) (h:aA) (J:JT):Prop:=
(bif (decide ((x34:Int)<x33)) then
(aU 1 x32 (AV.i .i64 x34) h fun v32=>
aD v32 h fun v33=>
asI .i64 v33 fun n34=>
(bif (decide ((n34:Int)=x6)) then
(aK x5 fun v37=>
aB 32 v37 fun v38=>
aD v38 h fun v39=>
bP 1 1 [(AV.i .i64 0)] [(0,1,(AV.i .i64 x34))] h fun v40 h41=>
bU none 1 8 v39 v40 h41 fun v42 h43=>
aK x5 fun v44=>
aB 32 v44 fun v45=>
aP 1 v45 v42 h43 fun h46=>
aK x5 fun v48=>
aB 49 v48 fun v49=>
aP 1 v49 (AV.i .i64 x6) h46 fun h50=>
J 3 [(0,x0),(5,x5),(6,(AV.i .i64 x6)),(32,x32),(33,(AV.i .i64 x33)),(34,(AV.i .i64 x34))] h50)
else
(J 3 [(0,x0),(5,x5),(6,(AV.i .i64 x6)),(32,x32),(33,(AV.i .i64 x33)),(34,(AV.i .i64 x34))] h)))
else
(aM (IntKind.wrap .i64 (x6+1)) fun n55=>
J 1 [(0,x0),(5,x5),(6,(AV.i .i64 n55))] h))
theorem Y15.i1 {Q x0 x5 x6 x32 x33 x34 h} (H:Y15.t1 Q x0 x5 x6 x32 x33 x34 h (Y15.J Q)):Y15.p1 Q x0 x5 x6 x32 x33 x34 h:=gH Y15.J Tryz.f148 Y15.dist [1,1,1,0,1,0,0,1,0,0,1,1,0] H
def Y15.t0 (Q:AV→aA→Prop) (x0 x5:AV) (x6:Int) (h:aA) (J:JT):Prop:=
(bif (decide ((x6:Int)≤15)) then
(aK x5 fun v18=>
aB 32 v18 fun v19=>
aD v19 h fun v20=>
bR v20 fun n21=>
aK x5 fun v22=>
aB 33 v22 fun v23=>
bT 16 1 v23 (AV.i .i64 x6) fun v24=>
aP 1 v24 (AV.i .i64 n21) h fun h25=>
bR x0 fun n27=>
J 2 [(0,x0),(5,x5),(6,(AV.i .i64 x6)),(32,x0),(33,(AV.i .i64 n27)),(34,(AV.i .i64 0))] h25)
else
(Q (AV.tu [x5,(AV.i .i64 0)]) h))
theorem Y15.i0 {Q x0 x5 x6 h} (H:Y15.t0 Q x0 x5 x6 h (Y15.J Q)):Y15.p0 Q x0 x5 x6 h:=gH Y15.J Tryz.f148 Y15.dist [1,1,1,0,1,0] H
def Y15.t (Q:AV→aA→Prop) (x0:AV) (h:aA) (J:JT):Prop:=
C Y11.id [x0] h fun v1 h2=>
asI .i64 v1 fun n3=>
(bif (!decide ((n3:Int)=0)) then
(Q (AV.tu [(AV.p none),(AV.i .i64 n3)]) h2)
else
(C Y18.id [x0] h2 fun v8 h9=>
f9 [(AV.i .i64 0),(AV.i .i64 0),(AV.i .i64 0),(AV.i .i64 0),(AV.i .i64 0),(AV.i .i64 0),(AV.i .i64 0),(AV.i .i64 0),(AV.i .i64 0),(AV.i .i64 0),(AV.i .i64 0),(AV.i .i64 0),(AV.i .i64 0),(AV.i .i64 0),(AV.i .i64 0),(AV.i .i64 0),(AV.i .i64 0),(AV.i .i64 0),(AV.i .i64 0),(AV.i .i64 0),(AV.i .i64 0),(AV.i .i64 0),(AV.i .i64 0),(AV.i .i64 0),(AV.i .i64 0),(AV.i .i64 0),(AV.i .i64 0),(AV.i .i64 0),(AV.i .i64 0),(AV.i .i64 0),(AV.i .i64 0),(AV.i .i64 0),(AV.sl none 0 none),(AV.i .i64 0),(AV.i .i64 0),(AV.i .i64 0),(AV.i .i64 0),(AV.i .i64 0),(AV.i .i64 0),(AV.i .i64 0),(AV.i .i64 0),(AV.i .i64 0),(AV.i .i64 0),(AV.i .i64 0),(AV.i .i64 0),(AV.i .i64 0),(AV.i .i64 0),(AV.i .i64 0),(AV.i .i64 0),(AV.i .i64 0),(AV.i .i64 0),(AV.i .i64 0)] [(0,32,v8)] fun v10=>
dS (some 182) v10 h9 fun v11 h12=>
J 1 [(0,x0),(5,v11),(6,(AV.i .i64 1))] h12))
theorem Y15.call {K x0 h} (H:Y15.t (aH h K) x0 h (Y15.J (aH h K))):C Y15.id [x0] h K:=
 gC Y15.J Tryz.func148 Y15.dist H
noncomputable def Y59.body:Code:=(Tryz.f149.body).getD .skip
def Y59.ann:Ann:=(sl [3,4,5] (sl [6] lf))
theorem Y59.dist:aL (places Y59.ann Y59.body)=true:=by kernel_rfl
noncomputable def Y59.J (Q:AV→aA→Prop):JT:=bJ prog C Tryz.f149 Y59.ann Y59.body Q
def Y59.t (Q:AV→aA→Prop) (x0 x1 x2:AV) (h:aA) (J:JT):Prop:=
dS none x0 h fun v0 h1=>
dS none x1 h1 fun v2 h3=>
dS none x2 h3 fun v4 h5=>
aD v0 h5 fun v7=>
aD v2 h5 fun v8=>
C Y57.id [v7,v8,(AV.fn (.func Y79.id) [] [v0,v2,v4])] h5 fun v9 h10=>
asI .i64 v9 fun n11=>
Q (AV.i .i64 n11) h10
theorem Y59.call {K x0 x1 x2 h} (H:Y59.t (aH h K) x0 x1 x2 h (Y59.J (aH h K))):C Y59.id [x0,x1,x2] h K:=
 gC Y59.J Tryz.func149 Y59.dist H
noncomputable def Y56.body:Code:=(Tryz.f150.body).getD .skip
def Y56.ann:Ann:=(sl [5,6,7,8,9] (sq [5,6,7,8,9] (sl [5,6,7,8,9,17] (.br (sq [10] (.ord (nn 0 7 (.eff 7 (.neu 8 .done) .stop))) lf) lf)) (sl [5,6,7,8,9,11] (sl [10] lf))))
theorem Y56.dist:aL (places Y56.ann Y56.body)=true:=by kernel_rfl
noncomputable def Y56.J (Q:AV→aA→Prop):JT:=bJ prog C Tryz.f150 Y56.ann Y56.body Q
def Y56.t (Q:AV→aA→Prop) (x0 x1 x2:AV) (x3 x4:Int) (h:aA) (J:JT):Prop:=
dS none x0 h fun v0 h1=>
dS none x1 h1 fun v2 h3=>
dS none x2 h3 fun v4 h5=>
dS none (AV.i .i64 x3) h5 fun v6 h7=>
dS none (AV.i .i64 x4) h7 fun v8 h9=>
aD v4 h9 fun v11=>
bR v11 fun n12=>
aD v6 h9 fun v13=>
asI .i64 v13 fun n14=>
aD v8 h9 fun v15=>
asI .i64 v15 fun n16=>
aM (IntKind.wrap .i64 (n14+n16)) fun n17=>
(bif (decide ((n12:Int)=n17)) then
(aD v0 h9 fun v19=>
aD v4 h9 fun v20=>
aD v6 h9 fun v21=>
asI .i64 v21 fun n22=>
bW 1 v20 none (some (AV.i .i64 n22)) none h9 fun v23=>
aD v4 h9 fun v24=>
aD v6 h9 fun v25=>
asI .i64 v25 fun n26=>
bW 1 v24 (some (AV.i .i64 n26)) none none h9 fun v27=>
C Y60.id [v19,v23,v27] h9 fun v28 h29=>
asI .i64 v28 fun n30=>
Q (AV.i .i64 n30) h29)
else
(eK none [AV.nf] h9 fun v33 h34=>
aP 1 v33 (AV.fn (.func Y64.id) [] [v0,v4,v6,v8,v2]) h34 fun h35=>
aD v0 h35 fun v37=>
aD v2 h35 fun v38=>
C Y57.id [v37,v38,(AV.fn (.func Y49.id) [] [v0,v2,v4,v6,v8,v33])] h35 fun v39 h40=>
asI .i64 v39 fun n41=>
Q (AV.i .i64 n41) h40))
theorem Y56.call {K x0 x1 x2 x3 x4 h} (H:Y56.t (aH h K) x0 x1 x2 x3 x4 h (Y56.J (aH h K))):C Y56.id [x0,x1,x2,(AV.i .i64 x3),(AV.i .i64 x4)] h K:=
 gC Y56.J Tryz.func150 Y56.dist H
noncomputable def Y75.body:Code:=(Tryz.f151.body).getD .skip
def Y75.ann:Ann:=(sl [0,1,2,3,4,5,6] (sq [1,2,3,4,5,6] (.ord (nn 0 6 (.eff 6 .done .stop))) (sl [8] lf)))
theorem Y75.dist:aL (places Y75.ann Y75.body)=true:=by kernel_rfl
noncomputable def Y75.J (Q:AV→aA→Prop):JT:=bJ prog C Tryz.f151 Y75.ann Y75.body Q
def Y75.t (Q:AV→aA→Prop) (x0:Int) (x1 x2 x3 x4 x5 x6:AV) (h:aA) (J:JT):Prop:=
aD x1 h fun v1=>
aD x2 h fun v2=>
asI .i64 v2 fun n3=>
bT 19 1 (aIC h 0) (AV.i .i64 n3) fun v4=>
aD v4 h fun v5=>
asI .i64 v5 fun n6=>
aU 1 v1 (AV.i .i64 n6) h fun v7=>
aP 1 v7 (AV.i .i64 x0) h fun h8=>
aD x3 h8 fun v10=>
aD x1 h8 fun v11=>
aD x2 h8 fun v12=>
asI .i64 v12 fun n13=>
aM (IntKind.wrap .i64 (n13+1)) fun n14=>
aD x4 h8 fun v15=>
asI .i64 v15 fun n16=>
aD x5 h8 fun v17=>
asI .i64 v17 fun n18=>
aD x6 h8 fun v19=>
asI .i64 v19 fun n20=>
C Y62.id [v10,v11,(AV.i .i64 n14),(AV.i .i64 n16),(AV.i .i64 n18),(AV.i .i64 n20)] h8 fun v21 h22=>
asI .i64 v21 fun n23=>
Q (AV.i .i64 n23) h22
theorem Y75.call {K x0 x1 x2 x3 x4 x5 x6 h} (H:Y75.t (aH h K) x0 x1 x2 x3 x4 x5 x6 h (Y75.J (aH h K))):C Y75.id [(AV.i .i64 x0),x1,x2,x3,x4,x5,x6] h K:=
 gC Y75.J Tryz.func151 Y75.dist H
noncomputable def Y9.body:Code:=(Tryz.f152.body).getD .skip
def Y9.ann:Ann:=(sl [0] (sl [0,3] (sq [0] (.seq 1 [0,15] lf (.br (sl [2] lf) lf)) (sl [0,4] (sl [0,4,5] (sq [4] (sl [0,4,5,6] (.one (.loop 2 [0,4,5,6] (sq [0,4,5,6] (sl [0,4,5,6,20] bl) (sq [0,4,5,6] (.one (sl [0,4,5,6] (sl [0,4,5,6,7] (.one (.loop 3 [0,4,5,6,7] (sq [0,4,5,6,7] (sl [0,4,5,6,7,28] bl) (.seq 4 [0,4,5,6,7] (.one (sl [0,4,5,6,7,36] (.br (sl [0,4,5,6,7] lf) lf))) lf))))))) lf))))) (sl [2] lf)))))))
theorem Y9.dist:aL (places Y9.ann Y9.body)=true:=by kernel_rfl
noncomputable def Y9.J (Q:AV→aA→Prop):JT:=bJ prog C Tryz.f152 Y9.ann Y9.body Q
def Y9.p0 (Q:AV→aA→Prop) (x0:AV) (x15:Bool) (h:aA):Prop:=Y9.J Q 1 [(0,x0),(15,(AV.b x15))] h
def Y9.p3 (Q:AV→aA→Prop) (x0 x4:AV) (x5 x6 x7:Int) (h:aA):Prop:=Y9.J Q 4 [(0,x0),(4,x4),(5,(AV.i .i64 x5)),(6,(AV.i .i64 x6)),(7,(AV.i .i64 x7))] h
def Y9.p2 (Q:AV→aA→Prop) (x0 x4:AV) (x5 x6 x7:Int) (h:aA):Prop:=Y9.J Q 3 [(0,x0),(4,x4),(5,(AV.i .i64 x5)),(6,(AV.i .i64 x6)),(7,(AV.i .i64 x7))] h
def Y9.p1 (Q:AV→aA→Prop) (x0 x4:AV) (x5 x6:Int) (h:aA):Prop:=Y9.J Q 2 [(0,x0),(4,x4),(5,(AV.i .i64 x5)),(6,(AV.i .i64 x6))] h
def Y9.t0 (Q:AV→aA→Prop) (x0:AV) (x15:Bool) (h:aA) (J:JT):Prop:=
(bif x15 then
(Q (AV.sl none 0 none) h)
else
(bR x0 fun n9=>
xF 1 8 [(AV.i .i64 0)] (AV.i .i64 n9) (AV.i .i64 n9) h fun v10 h11=>
J 2 [(0,x0),(4,v10),(5,(AV.i .i64 0)),(6,(AV.i .i64 1))] h11))
theorem Y9.i0 {Q x0 x15 h} (H:Y9.t0 Q x0 x15 h (Y9.J Q)):Y9.p0 Q x0 x15 h:=gR Y9.J Tryz.f152 Y9.dist [1,1,0,1] H
def Y9.t3 (Q:AV→aA→Prop) (x0 x4:AV) (x5 x6 x7:Int) (h:aA) (J:JT):Prop:=
aM (IntKind.wrap .i64 (x7+1)) fun n35=>
J 3 [(0,x0),(4,x4),(5,(AV.i .i64 x5)),(6,(AV.i .i64 x6)),(7,(AV.i .i64 n35))] h
theorem Y9.i3 {Q x0 x4 x5 x6 x7 h} (H:Y9.t3 Q x0 x4 x5 x6 x7 h (Y9.J Q)):Y9.p3 Q x0 x4 x5 x6 x7 h:=gR Y9.J Tryz.f152 Y9.dist [1,1,1,1,1,0,1,0,0,1,0,0,1,1,0,0,1,1] H
def Y9.t2 (Q:AV→aA→Prop) (x0 x4:AV) (x5 x6 x7:Int) (h:aA) (J:JT):Prop:=
bR x0 fun n21=>
(bif (decide ((x7:Int)<n21)) then
(aU 1 x0 (AV.i .i64 x7) h fun v25=>
aD v25 h fun v26=>
asI .i64 v26 fun n27=>
(bif (decide ((n27:Int)=x6)) then
(aU 1 x4 (AV.i .i64 x7) h fun v29=>
aP 1 v29 (AV.i .i64 x5) h fun h30=>
aM (IntKind.wrap .i64 (x5+1)) fun n32=>
J 4 [(0,x0),(4,x4),(5,(AV.i .i64 n32)),(6,(AV.i .i64 x6)),(7,(AV.i .i64 x7))] h30)
else
(J 4 [(0,x0),(4,x4),(5,(AV.i .i64 x5)),(6,(AV.i .i64 x6)),(7,(AV.i .i64 x7))] h)))
else
(aM (IntKind.wrap .i64 (x6+1)) fun n37=>
J 2 [(0,x0),(4,x4),(5,(AV.i .i64 x5)),(6,(AV.i .i64 n37))] h))
theorem Y9.i2 {Q x0 x4 x5 x6 x7 h} (H:Y9.t2 Q x0 x4 x5 x6 x7 h (Y9.J Q)):Y9.p2 Q x0 x4 x5 x6 x7 h:=gH Y9.J Tryz.f152 Y9.dist [1,1,1,1,1,0,1,0,0,1,0,0,1,1,0] H
def Y9.t1 (Q:AV→aA→Prop) (x0 x4:AV) (x5 x6:Int) (h:aA) (J:JT):Prop:=
(bif (decide ((x6:Int)≤15)) then
(aM (IntKind.wrap .i64 (2 * x5)) fun n18=>
J 3 [(0,x0),(4,x4),(5,(AV.i .i64 n18)),(6,(AV.i .i64 x6)),(7,(AV.i .i64 0))] h)
else
(Q x4 h))
theorem Y9.i1 {Q x0 x4 x5 x6 h} (H:Y9.t1 Q x0 x4 x5 x6 h (Y9.J Q)):Y9.p1 Q x0 x4 x5 x6 h:=gH Y9.J Tryz.f152 Y9.dist [1,1,1,1,1,0,1,0] H
def Y9.t (Q:AV→aA→Prop) (x0:AV) (h:aA) (J:JT):Prop:=
C Y7.id [x0] h fun v1 h2=>
asI .i64 v1 fun n3=>
(bif (!decide ((n3:Int)=0)) then
(J 1 [(0,x0),(15,(AV.b (!decide ((n3:Int)=1))))] h2)
else
(J 1 [(0,x0),(15,(AV.b false))] h2))
theorem Y9.call {K x0 h} (H:Y9.t (aH h K) x0 h (Y9.J (aH h K))):C Y9.id [x0] h K:=
 gC Y9.J Tryz.func152 Y9.dist H
noncomputable def Y12.body:Code:=(Tryz.f153.body).getD .skip
def Y12.ann:Ann:=(sl [0,1] (sq [0,1] (sl [0,1,10] (.br (sl [4,5,6] lf) lf)) (sl [0,1] (sl [0] (sl [0,7] (sq [0,7] (sl [0,7,8] (.one (.loop 1 [0,7,8] (sq [0,7,8] (sl [0,7,8,35] bl) (.seq 4 [0,7,8] (.one (sq [0,7,8] (.seq 2 [0,7,8,63] (.ord (nn 0 26 .done)) (.br (sl [0,8] (sl [8] (sl [4,5,6] lf))) lf)) (.seq 3 [0,7,8,110] (.ord (nn 0 40 .done)) bl))) lf))))) (sq [0] (sl [0,111] (.br (sl [4,5,6] lf) lf)) (sl [0] (sl [] (sl [4,5,6] lf))))))))))
theorem Y12.dist:aL (places Y12.ann Y12.body)=true:=by kernel_rfl
noncomputable def Y12.J (Q:AV→aA→Prop):JT:=bJ prog C Tryz.f153 Y12.ann Y12.body Q
def Y12.p1 (Q:AV→aA→Prop) (x0:AV) (x7:Bool) (x8:Int) (x63:Bool) (h:aA):Prop:=Y12.J Q 2 [(0,x0),(7,(AV.b x7)),(8,(AV.i .i64 x8)),(63,(AV.b x63))] h
def Y12.p2 (Q:AV→aA→Prop) (x0:AV) (x7:Bool) (x8:Int) (x110:Bool) (h:aA):Prop:=Y12.J Q 3 [(0,x0),(7,(AV.b x7)),(8,(AV.i .i64 x8)),(110,(AV.b x110))] h
def Y12.p3 (Q:AV→aA→Prop) (x0:AV) (x7:Bool) (x8:Int) (h:aA):Prop:=Y12.J Q 4 [(0,x0),(7,(AV.b x7)),(8,(AV.i .i64 x8))] h
def Y12.p0 (Q:AV→aA→Prop) (x0:AV) (x7:Bool) (x8:Int) (h:aA):Prop:=Y12.J Q 1 [(0,x0),(7,(AV.b x7)),(8,(AV.i .i64 x8))] h
def Y12.t1 (Q:AV→aA→Prop) (x0:AV) (x7:Bool) (x8:Int) (x63:Bool) (h:aA) (J:JT):Prop:=
(bif x63 then
(aK x0 fun v56=>
aB 2 v56 fun v57=>
aP 1 v57 (AV.i .i64 0) h fun h58=>
aK x0 fun v60=>
aB 3 v60 fun v61=>
aP 1 v61 (AV.i .i64 0) h58 fun h62=>
Q (AV.tu [(AV.i .i64 x8),(AV.b true),(AV.i .i64 0)]) h62)
else
(aK x0 fun v66=>
aB 0 v66 fun v67=>
aD v67 h fun v68=>
aU 1 v68 (AV.i .i64 x8) h fun v69=>
aD v69 h fun v70=>
asI .i64 v70 fun n71=>
aK x0 fun v72=>
aB 2 v72 fun v73=>
aD v73 h fun v74=>
asI .i64 v74 fun n75=>
(bif (decide ((n75:Int)<n71)) then
(aK x0 fun v76=>
aB 1 v76 fun v77=>
aD v77 h fun v78=>
aU 1 v78 (AV.i .i64 x8) h fun v79=>
aD v79 h fun v80=>
asI .i64 v80 fun n81=>
aK x0 fun v82=>
aB 0 v82 fun v83=>
aD v83 h fun v84=>
aU 1 v84 (AV.i .i64 x8) h fun v85=>
aD v85 h fun v86=>
asI .i64 v86 fun n87=>
aK x0 fun v88=>
aB 2 v88 fun v89=>
aD v89 h fun v90=>
asI .i64 v90 fun n91=>
aM (IntKind.wrap .i64 (n87 - n91)) fun n92=>
s9 .i64 n81 (IntKind.wrap .u64 n92) fun n93=>
aK x0 fun v94=>
aB 3 v94 fun v95=>
aD v95 h fun v96=>
asI .i64 v96 fun n97=>
J 3 [(0,x0),(7,(AV.b x7)),(8,(AV.i .i64 x8)),(110,(AV.b (decide ((n93:Int)=n97))))] h)
else
(J 3 [(0,x0),(7,(AV.b x7)),(8,(AV.i .i64 x8)),(110,(AV.b false))] h))))
theorem Y12.i1 {Q x0 x7 x8 x63 h} (H:Y12.t1 Q x0 x7 x8 x63 h (Y12.J Q)):Y12.p1 Q x0 x7 x8 x63 h:=gR Y12.J Tryz.f153 Y12.dist [1,1,1,1,1,0,1,0,0,1,0,0,0,1] H
def Y12.t2 (Q:AV→aA→Prop) (x0:AV) (x7:Bool) (x8:Int) (x110:Bool) (h:aA) (J:JT):Prop:=
(bif x110 then
(J 4 [(0,x0),(7,(AV.b true)),(8,(AV.i .i64 x8))] h)
else
(J 4 [(0,x0),(7,(AV.b x7)),(8,(AV.i .i64 x8))] h))
theorem Y12.i2 {Q x0 x7 x8 x110 h} (H:Y12.t2 Q x0 x7 x8 x110 h (Y12.J Q)):Y12.p2 Q x0 x7 x8 x110 h:=gR Y12.J Tryz.f153 Y12.dist [1,1,1,1,1,0,1,0,0,1,0,0,1,1] H
def Y12.t3 (Q:AV→aA→Prop) (x0:AV) (x7:Bool) (x8:Int) (h:aA) (J:JT):Prop:=
aM (IntKind.wrap .i64 (x8+1)) fun n102=>
J 1 [(0,x0),(7,(AV.b x7)),(8,(AV.i .i64 n102))] h
theorem Y12.i3 {Q x0 x7 x8 h} (H:Y12.t3 Q x0 x7 x8 h (Y12.J Q)):Y12.p3 Q x0 x7 x8 h:=gR Y12.J Tryz.f153 Y12.dist [1,1,1,1,1,0,1,0,0,1,1] H
def Y12.t0 (Q:AV→aA→Prop) (x0:AV) (x7:Bool) (x8:Int) (h:aA) (J:JT):Prop:=
aK x0 fun v27=>
aB 0 v27 fun v28=>
aD v28 h fun v29=>
bR v29 fun n30=>
(bif (decide ((x8:Int)<n30)) then
(aK x0 fun v34=>
aB 0 v34 fun v35=>
aD v35 h fun v36=>
aU 1 v36 (AV.i .i64 x8) h fun v37=>
aD v37 h fun v38=>
asI .i64 v38 fun n39=>
aK x0 fun v40=>
aB 2 v40 fun v41=>
aD v41 h fun v42=>
asI .i64 v42 fun n43=>
(bif (decide ((n39:Int)=n43)) then
(aK x0 fun v44=>
aB 1 v44 fun v45=>
aD v45 h fun v46=>
aU 1 v46 (AV.i .i64 x8) h fun v47=>
aD v47 h fun v48=>
asI .i64 v48 fun n49=>
aK x0 fun v50=>
aB 3 v50 fun v51=>
aD v51 h fun v52=>
asI .i64 v52 fun n53=>
J 2 [(0,x0),(7,(AV.b x7)),(8,(AV.i .i64 x8)),(63,(AV.b (decide ((n49:Int)=n53))))] h)
else
(J 2 [(0,x0),(7,(AV.b x7)),(8,(AV.i .i64 x8)),(63,(AV.b false))] h)))
else
((bif x7 then
(Q (AV.tu [(AV.i .i64 0),(AV.b false),(AV.i .i64 0)]) h)
else
(aK x0 fun v107=>
aB 2 v107 fun v108=>
aP 1 v108 (AV.i .i64 0) h fun h109=>
aK x0 fun v111=>
aB 3 v111 fun v112=>
aP 1 v112 (AV.i .i64 0) h109 fun h113=>
Q (AV.tu [(AV.i .i64 0),(AV.b false),(AV.i .i64 2)]) h113))))
theorem Y12.i0 {Q x0 x7 x8 h} (H:Y12.t0 Q x0 x7 x8 h (Y12.J Q)):Y12.p0 Q x0 x7 x8 h:=gH Y12.J Tryz.f153 Y12.dist [1,1,1,1,1,0,1,0] H
def Y12.t (Q:AV→aA→Prop) (x0:AV) (x1:Int) (h:aA) (J:JT):Prop:=
cI prog .eql 184 x0 (AV.p none) fun v1=>
asB v1 fun c2=>
(bif c2 then
(Q (AV.tu [(AV.i .i64 0),(AV.b false),(AV.i .i64 6)]) h)
else
(aK x0 fun v6=>
aB 2 v6 fun v7=>
aD v7 h fun v8=>
asI .i64 v8 fun n9=>
aM (IntKind.wrap .i64 (n9+1)) fun n10=>
aK x0 fun v11=>
aB 2 v11 fun v12=>
aP 1 v12 (AV.i .i64 n10) h fun h13=>
aK x0 fun v15=>
aB 3 v15 fun v16=>
aD v16 h13 fun v17=>
asI .i64 v17 fun n18=>
aM (IntKind.wrap .i64 (2 * n18)) fun n19=>
aM (IntKind.wrap .i64 (n19+(bA .and .i64 x1 1))) fun n20=>
aK x0 fun v21=>
aB 3 v21 fun v22=>
aP 1 v22 (AV.i .i64 n20) h13 fun h23=>
J 1 [(0,x0),(7,(AV.b false)),(8,(AV.i .i64 0))] h23))
theorem Y12.call {K x0 x1 h} (H:Y12.t (aH h K) x0 x1 h (Y12.J (aH h K))):C Y12.id [x0,(AV.i .i64 x1)] h K:=
 gC Y12.J Tryz.func153 Y12.dist H
noncomputable def Y23.body:Code:=(Tryz.f154.body).getD .skip
def Y23.ann:Ann:=(sl [0] (sl [0,3] (sq [3] (sl [0,3,4] (.one (.loop 1 [0,3,4] (sq [0,3,4] (sl [0,3,4,8] bl) (.seq 2 [0,3,4] (.one (sl [0,3,4,15] bl)) lf))))) (sl [2] lf))))
theorem Y23.dist:aL (places Y23.ann Y23.body)=true:=by kernel_rfl
noncomputable def Y23.J (Q:AV→aA→Prop):JT:=bJ prog C Tryz.f154 Y23.ann Y23.body Q
def Y23.p1 (Q:AV→aA→Prop) (x0:AV) (x3 x4:Int) (h:aA):Prop:=Y23.J Q 2 [(0,x0),(3,(AV.i .i64 x3)),(4,(AV.i .i64 x4))] h
def Y23.p0 (Q:AV→aA→Prop) (x0:AV) (x3 x4:Int) (h:aA):Prop:=Y23.J Q 1 [(0,x0),(3,(AV.i .i64 x3)),(4,(AV.i .i64 x4))] h
def Y23.t1 (Q:AV→aA→Prop) (x0:AV) (x3 x4:Int) (h:aA) (J:JT):Prop:=
aM (IntKind.wrap .i64 (x4+1)) fun n14=>
J 1 [(0,x0),(3,(AV.i .i64 x3)),(4,(AV.i .i64 n14))] h
theorem Y23.i1 {Q x0 x3 x4 h} (H:Y23.t1 Q x0 x3 x4 h (Y23.J Q)):Y23.p1 Q x0 x3 x4 h:=gR Y23.J Tryz.f154 Y23.dist [1,1,0,1,0,0,1,1] H
def Y23.t0 (Q:AV→aA→Prop) (x0:AV) (x3 x4:Int) (h:aA) (J:JT):Prop:=
bR x0 fun n3=>
(bif (decide ((x4:Int)<n3)) then
(aU 1 x0 (AV.i .i64 x4) h fun v7=>
aD v7 h fun v8=>
asI .i64 v8 fun n9=>
(bif (decide ((0:Int)<n9)) then
(aM (IntKind.wrap .i64 (x3+1)) fun n11=>
J 2 [(0,x0),(3,(AV.i .i64 n11)),(4,(AV.i .i64 x4))] h)
else
(J 2 [(0,x0),(3,(AV.i .i64 x3)),(4,(AV.i .i64 x4))] h)))
else
(Q (AV.i .i64 x3) h))
theorem Y23.i0 {Q x0 x3 x4 h} (H:Y23.t0 Q x0 x3 x4 h (Y23.J Q)):Y23.p0 Q x0 x3 x4 h:=gH Y23.J Tryz.f154 Y23.dist [1,1,0,1,0] H
def Y23.t (Q:AV→aA→Prop) (x0:AV) (h:aA) (J:JT):Prop:=
J 1 [(0,x0),(3,(AV.i .i64 0)),(4,(AV.i .i64 0))] h
theorem Y23.call {K x0 h} (H:Y23.t (aH h K) x0 h (Y23.J (aH h K))):C Y23.id [x0] h K:=
 gC Y23.J Tryz.func154 Y23.dist H
noncomputable def Y57.body:Code:=(Tryz.f156.body).getD .skip
def Y57.ann:Ann:=(sl [0,1,2] (sl [] (sl [6] lf)))
theorem Y57.dist:aL (places Y57.ann Y57.body)=true:=by kernel_rfl
noncomputable def Y57.J (Q:AV→aA→Prop):JT:=bJ prog C Tryz.f156 Y57.ann Y57.body Q
def Y57.t (Q:AV→aA→Prop) (x0 x1 x2:AV) (h:aA) (J:JT):Prop:=
aK x0 fun v1=>
aB 14 v1 fun v2=>
aP 1 v2 x1 h fun h3=>
aK x0 fun v4=>
aB 15 v4 fun v5=>
aP 1 v5 x2 h3 fun h6=>
Q (AV.i .i64 0) h6
theorem Y57.call {K x0 x1 x2 h} (H:Y57.t (aH h K) x0 x1 x2 h (Y57.J (aH h K))):C Y57.id [x0,x1,x2] h K:=
 gC Y57.J Tryz.func156 Y57.dist H
noncomputable def Y79.body:Code:=(Tryz.f157.body).getD .skip
def Y79.ann:Ann:=(sl [0,1,2,3] (sq [0,1,2,3] (.one (sl [0,1,2,3,9] (.br (sq [1,2,3] (sl [1,2,3,6] (sl [1,2,3,6,17] (.br (sl [5] lf) lf))) (sl [5] lf)) (sl [0,1,2,3,23] (.br (sl [5] lf) (sl [0,1,2,3,28] (.br (sl [5] lf) lf))))))) (sl [1,2,3,7,8] (sl [5] lf))))
theorem Y79.dist:aL (places Y79.ann Y79.body)=true:=by kernel_rfl
noncomputable def Y79.J (Q:AV→aA→Prop):JT:=bJ prog C Tryz.f157 Y79.ann Y79.body Q
def Y79.t (Q:AV→aA→Prop) (x0:Int) (x1 x2 x3:AV) (h:aA) (J:JT):Prop:=
(bif (decide ((x0:Int)<256)) then
(aD x1 h fun v2=>
C Y28.id [v2,(AV.i .u8 (IntKind.wrap .u8 x0))] h fun v3 h4=>
asI .i64 v3 fun n5=>
(bif (!decide ((n5:Int)=0)) then
(Q (AV.i .i64 n5) h4)
else
(aD x1 h4 fun v10=>
aD x2 h4 fun v11=>
aD x3 h4 fun v12=>
C Y59.id [v10,v11,v12] h4 fun v13 h14=>
asI .i64 v13 fun n15=>
Q (AV.i .i64 n15) h14)))
else
((bif (decide ((x0:Int)=256)) then
(aD x1 h fun v18=>
C Y58.id [v18] h fun v19 h20=>
asI .i64 v19 fun n21=>
Q (AV.i .i64 n21) h20)
else
((bif (decide ((285:Int)<x0)) then
(Q (AV.i .i64 2) h)
else
(C Y82.id [(AV.i .i64 x0)] h fun v26 h27=>
aO 0 v26 fun v28=>
asI .i64 v28 fun n29=>
aO 1 v26 fun v30=>
asI .i64 v30 fun n31=>
eK none [(AV.i .i64 0)] h27 fun v32 h33=>
aP 1 v32 (AV.i .i64 n29) h33 fun h34=>
aD x1 h34 fun v36=>
C Y53.id [v36,(AV.i .i64 n31),(AV.fn (.func Y97.id) [] [x1,x3,v32,x2])] h34 fun v37 h38=>
asI .i64 v37 fun n39=>
Q (AV.i .i64 n39) h38))))))
theorem Y79.call {K x0 x1 x2 x3 h} (H:Y79.t (aH h K) x0 x1 x2 x3 h (Y79.J (aH h K))):C Y79.id [(AV.i .i64 x0),x1,x2,x3] h K:=
 gC Y79.J Tryz.func157 Y79.dist H
noncomputable def Y97.body:Code:=(Tryz.f158.body).getD .skip
def Y97.ann:Ann:=(sl [1,2,3,4,5] (sl [6] lf))
theorem Y97.dist:aL (places Y97.ann Y97.body)=true:=by kernel_rfl
noncomputable def Y97.J (Q:AV→aA→Prop):JT:=bJ prog C Tryz.f158 Y97.ann Y97.body Q
def Y97.t (Q:AV→aA→Prop) (x0:Int) (x1 x2 x3 x4:AV) (h:aA) (J:JT):Prop:=
dS none (AV.i .i64 x0) h fun v0 h1=>
aD x1 h1 fun v3=>
aD x2 h1 fun v4=>
C Y57.id [v3,v4,(AV.fn (.func Y94.id) [] [x1,x3,v0,x4,x2])] h1 fun v5 h6=>
asI .i64 v5 fun n7=>
Q (AV.i .i64 n7) h6
theorem Y97.call {K x0 x1 x2 x3 x4 h} (H:Y97.t (aH h K) x0 x1 x2 x3 x4 h (Y97.J (aH h K))):C Y97.id [(AV.i .i64 x0),x1,x2,x3,x4] h K:=
 gC Y97.J Tryz.func158 Y97.dist H
noncomputable def Y94.body:Code:=(Tryz.f159.body).getD .skip
def Y94.ann:Ann:=(sl [0,1,2,3,4,5] (sq [0,1,2,3,4,5] (sl [0,1,2,3,4,5,11] (.br (sl [7] lf) lf)) (sl [1,2,3,4,5,8,9] (sl [7] lf))))
theorem Y94.dist:aL (places Y94.ann Y94.body)=true:=by kernel_rfl
noncomputable def Y94.J (Q:AV→aA→Prop):JT:=bJ prog C Tryz.f159 Y94.ann Y94.body Q
def Y94.t (Q:AV→aA→Prop) (x0:Int) (x1 x2 x3 x4 x5:AV) (h:aA) (J:JT):Prop:=
(bif (decide ((29:Int)<x0)) then
(Q (AV.i .i64 2) h)
else
(C Y81.id [(AV.i .i64 x0)] h fun v4 h5=>
aO 0 v4 fun v6=>
asI .i64 v6 fun n7=>
aO 1 v4 fun v8=>
asI .i64 v8 fun n9=>
eK none [(AV.i .i64 0)] h5 fun v10 h11=>
aP 1 v10 (AV.i .i64 n7) h11 fun h12=>
aD x1 h12 fun v14=>
C Y53.id [v14,(AV.i .i64 n9),(AV.fn (.func Y92.id) [] [x1,x2,x3,v10,x4,x5])] h12 fun v15 h16=>
asI .i64 v15 fun n17=>
Q (AV.i .i64 n17) h16))
theorem Y94.call {K x0 x1 x2 x3 x4 x5 h} (H:Y94.t (aH h K) x0 x1 x2 x3 x4 x5 h (Y94.J (aH h K))):C Y94.id [(AV.i .i64 x0),x1,x2,x3,x4,x5] h K:=
 gC Y94.J Tryz.func159 Y94.dist H
noncomputable def Y92.body:Code:=(Tryz.f160.body).getD .skip
def Y92.ann:Ann:=(sl [0,1,2,3,4,5,6] (sq [1,5,6] (sl [1,5,6,9] (sl [1,5,6,9,19] (.br (sl [8] lf) lf))) (sl [8] lf)))
theorem Y92.dist:aL (places Y92.ann Y92.body)=true:=by kernel_rfl
noncomputable def Y92.J (Q:AV→aA→Prop):JT:=bJ prog C Tryz.f160 Y92.ann Y92.body Q
def Y92.t (Q:AV→aA→Prop) (x0:Int) (x1 x2 x3 x4 x5 x6:AV) (h:aA) (J:JT):Prop:=
aD x1 h fun v1=>
aD x2 h fun v2=>
asI .i64 v2 fun n3=>
aD x3 h fun v4=>
asI .i64 v4 fun n5=>
aM (IntKind.wrap .i64 (n3+n5)) fun n6=>
aD x4 h fun v7=>
asI .i64 v7 fun n8=>
aM (IntKind.wrap .i64 (n8+x0)) fun n9=>
C Y43.id [v1,(AV.i .i64 n6),(AV.i .i64 n9)] h fun v10 h11=>
asI .i64 v10 fun n12=>
(bif (!decide ((n12:Int)=0)) then
(Q (AV.i .i64 n12) h11)
else
(aD x1 h11 fun v17=>
aD x5 h11 fun v18=>
aD x6 h11 fun v19=>
C Y59.id [v17,v18,v19] h11 fun v20 h21=>
asI .i64 v20 fun n22=>
Q (AV.i .i64 n22) h21))
theorem Y92.call {K x0 x1 x2 x3 x4 x5 x6 h} (H:Y92.t (aH h K) x0 x1 x2 x3 x4 x5 x6 h (Y92.J (aH h K))):C Y92.id [(AV.i .i64 x0),x1,x2,x3,x4,x5,x6] h K:=
 gC Y92.J Tryz.func160 Y92.dist H
noncomputable def Y43.body:Code:=(Tryz.f161.body).getD .skip
def Y43.ann:Ann:=(sl [0,1,2] (sq [0,1,2] (sl [0,1,2,13] (.br (sl [6] lf) lf)) (sq [] (sl [0,2,14,15] (.one (.loop 1 [0,2,14,15] (sl [0,2,14,15,16] (sq [0,2,14,15] bl (sq [0,2,14,15] (.one (sq [0,2,7,14,15] (.ord (nn 0 14 (.eff 14 (.neu 15 .done) .stop))) (sl [0,2,7,14,15,33] (.br (sl [6] lf) lf)))) lf)))))) (sl [6] lf))))
theorem Y43.dist:aL (places Y43.ann Y43.body)=true:=by kernel_rfl
noncomputable def Y43.J (Q:AV→aA→Prop):JT:=bJ prog C Tryz.f161 Y43.ann Y43.body Q
def Y43.p0 (Q:AV→aA→Prop) (x0:AV) (x2 x14 x15:Int) (h:aA):Prop:=Y43.J Q 1 [(0,x0),(2,(AV.i .i64 x2)),(14,(AV.i .i64 x14)),(15,(AV.i .i64 x15))] h
def Y43.t0 (Q:AV→aA→Prop) (x0:AV) (x2 x14 x15:Int) (h:aA) (J:JT):Prop:=
(bif (decide ((x15:Int)<x14)) then
(aK x0 fun v12=>
aB 2 v12 fun v13=>
aD v13 h fun v14=>
aK x0 fun v15=>
aB 2 v15 fun v16=>
aD v16 h fun v17=>
bR v17 fun n18=>
aM (IntKind.wrap .i64 (n18 - x2)) fun n19=>
aU 1 v14 (AV.i .i64 n19) h fun v20=>
aD v20 h fun v21=>
asI .u8 v21 fun n22=>
C Y28.id [x0,(AV.i .u8 n22)] h fun v23 h24=>
asI .i64 v23 fun n25=>
(bif (!decide ((n25:Int)=0)) then
(Q (AV.i .i64 n25) h24)
else
(aM (IntKind.wrap .i64 (x15+1)) fun n30=>
J 1 [(0,x0),(2,(AV.i .i64 x2)),(14,(AV.i .i64 x14)),(15,(AV.i .i64 n30))] h24)))
else
(Q (AV.i .i64 0) h))
theorem Y43.i0 {Q x0 x2 x14 x15 h} (H:Y43.t0 Q x0 x2 x14 x15 h (Y43.J Q)):Y43.p0 Q x0 x2 x14 x15 h:=gH Y43.J Tryz.f161 Y43.dist [1,1,0,1,0] H
def Y43.t (Q:AV→aA→Prop) (x0:AV) (x1 x2:Int) (h:aA) (J:JT):Prop:=
aK x0 fun v1=>
aB 3 v1 fun v2=>
aD v2 h fun v3=>
asI .i64 v3 fun n4=>
(bif (decide ((n4:Int)<x2)) then
(Q (AV.i .i64 2) h)
else
(J 1 [(0,x0),(2,(AV.i .i64 x2)),(14,(AV.i .i64 x1)),(15,(AV.i .i64 0))] h))
theorem Y43.call {K x0 x1 x2 h} (H:Y43.t (aH h K) x0 x1 x2 h (Y43.J (aH h K))):C Y43.id [x0,(AV.i .i64 x1),(AV.i .i64 x2)] h K:=
 gC Y43.J Tryz.func161 Y43.dist H
noncomputable def Y64.body:Code:=(Tryz.f162.body).getD .skip
def Y64.ann:Ann:=(sl [0,3,4,5,6,7,9,10] (sl [11] lf))
theorem Y64.dist:aL (places Y64.ann Y64.body)=true:=by kernel_rfl
noncomputable def Y64.J (Q:AV→aA→Prop):JT:=bJ prog C Tryz.f162 Y64.ann Y64.body Q
def Y64.t (Q:AV→aA→Prop) (x0 x1 x2:Int) (x3 x4 x5 x6 x7:AV) (h:aA) (J:JT):Prop:=
dS none (AV.i .i64 x1) h fun v0 h1=>
dS none (AV.i .i64 x2) h1 fun v2 h3=>
aD x3 h3 fun v5=>
C Y53.id [v5,(AV.i .i64 x0),(AV.fn (.func Y69.id) [] [x4,v0,x5,x6,x3,x7,v2])] h3 fun v6 h7=>
asI .i64 v6 fun n8=>
Q (AV.i .i64 n8) h7
theorem Y64.call {K x0 x1 x2 x3 x4 x5 x6 x7 h} (H:Y64.t (aH h K) x0 x1 x2 x3 x4 x5 x6 x7 h (Y64.J (aH h K))):C Y64.id [(AV.i .i64 x0),(AV.i .i64 x1),(AV.i .i64 x2),x3,x4,x5,x6,x7] h K:=
 gC Y64.J Tryz.func162 Y64.dist H
noncomputable def Y69.body:Code:=(Tryz.f163.body).getD .skip
def Y69.ann:Ann:=(sl [0,1,2,3,4,5,6,7] (sq [0,1,2,3,4,5,6,7] (sl [0,1,2,3,4,5,6,7,19] (.br (sl [9] lf) lf)) (sq [9] (.ord (nn 0 4 (nn 5 3 (nn 10 2 (.eff 4 (.eff 8 (.eff 9 (.eff 12 (.neu 13 .done) .stop) .stop) .stop) .stop))))) lf)))
theorem Y69.dist:aL (places Y69.ann Y69.body)=true:=by kernel_rfl
noncomputable def Y69.J (Q:AV→aA→Prop):JT:=bJ prog C Tryz.f163 Y69.ann Y69.body Q
def Y69.t (Q:AV→aA→Prop) (x0:Int) (x1 x2 x3 x4 x5 x6 x7:AV) (h:aA) (J:JT):Prop:=
aD x1 h fun v1=>
bR v1 fun n2=>
aD x2 h fun v3=>
asI .i64 v3 fun n4=>
aM (IntKind.wrap .i64 (n2+n4)) fun n5=>
aM (IntKind.wrap .i64 (n5+x0)) fun n6=>
aD x3 h fun v7=>
asI .i64 v7 fun n8=>
aD x4 h fun v9=>
asI .i64 v9 fun n10=>
aM (IntKind.wrap .i64 (n8+n10)) fun n11=>
(bif (decide ((n11:Int)<n6)) then
(Q (AV.i .i64 2) h)
else
(aD x5 h fun v15=>
aD x6 h fun v16=>
aD x1 h fun v17=>
aD x7 h fun v18=>
asI .i64 v18 fun n19=>
aD x2 h fun v20=>
asI .i64 v20 fun n21=>
aM (IntKind.wrap .i64 (n21+x0)) fun n22=>
aD x3 h fun v23=>
asI .i64 v23 fun n24=>
aD x4 h fun v25=>
asI .i64 v25 fun n26=>
bP 1 1 [(AV.i .i64 0)] [(0,1,(AV.i .i64 n19))] h fun v27 h28=>
aD x4 h28 fun v29=>
asI .i64 v29 fun n30=>
((AV.i .i64 n26)=(AV.i .i64 n30) ∧
(aD x3 h28 fun v31=>
asI .i64 v31 fun n32=>
((AV.i .i64 n24)=(AV.i .i64 n32) ∧
(aD x2 h28 fun v33=>
asI .i64 v33 fun n34=>
((AV.i .i64 n21)=(AV.i .i64 n34) ∧
(aD x1 h28 fun v35=>
(v17=v35 ∧
(aD x6 h28 fun v36=>
(v16=v36 ∧
(aD x5 h28 fun v37=>
(v15=v37 ∧
(C Y29.id [v27,(AV.i .i64 n22)] h28 fun v38 h39=>
aD x4 h39 fun v40=>
asI .i64 v40 fun n41=>
((AV.i .i64 n26)=(AV.i .i64 n41) ∧
(aD x3 h39 fun v42=>
asI .i64 v42 fun n43=>
((AV.i .i64 n24)=(AV.i .i64 n43) ∧
(aD x1 h39 fun v44=>
(v17=v44 ∧
(aD x6 h39 fun v45=>
(v16=v45 ∧
(aD x5 h39 fun v46=>
(v15=v46 ∧
(bU none 1 8 v17 v38 h39 fun v47 h48=>
aD x4 h48 fun v49=>
asI .i64 v49 fun n50=>
((AV.i .i64 n26)=(AV.i .i64 n50) ∧
(aD x3 h48 fun v51=>
asI .i64 v51 fun n52=>
((AV.i .i64 n24)=(AV.i .i64 n52) ∧
(aD x6 h48 fun v53=>
(v16=v53 ∧
(aD x5 h48 fun v54=>
(v15=v54 ∧
(C Y56.id [v15,v16,v47,(AV.i .i64 n24),(AV.i .i64 n26)] h48 fun v55 h56=>
asI .i64 v55 fun n57=>
Q (AV.i .i64 n57) h56))))))))))))))))))))))))))))))))
theorem Y69.call {K x0 x1 x2 x3 x4 x5 x6 x7 h} (H:Y69.t (aH h K) x0 x1 x2 x3 x4 x5 x6 x7 h (Y69.J (aH h K))):C Y69.id [(AV.i .i64 x0),x1,x2,x3,x4,x5,x6,x7] h K:=
 gC Y69.J Tryz.func163 Y69.dist H
noncomputable def Y49.body:Code:=(Tryz.f164.body).getD .skip
def Y49.ann:Ann:=(sl [0,1,2,3,4,5,6] (sq [6] (.one (sl [0,1,2,3,4,5,6,9] (.br (sq [8] (.ord (nn 0 4 (nn 6 2 (.eff 4 (.eff 5 (.eff 8 (.neu 9 .done) .stop) .stop) .stop)))) lf) (.seq 1 [0,3,6,21] lf (.br (sl [8] lf) (sl [0,3,6,29] (.br (sq [8] (.ord (nn 0 7 (.eff 7 (.neu 8 .done) .stop))) lf) (sl [6,40] (.br (sl [8] lf) lf))))))))) (sl [8] lf)))
theorem Y49.dist:aL (places Y49.ann Y49.body)=true:=by kernel_rfl
noncomputable def Y49.J (Q:AV→aA→Prop):JT:=bJ prog C Tryz.f164 Y49.ann Y49.body Q
def Y49.p0 (Q:AV→aA→Prop) (x0:Int) (x3 x6:AV) (x21:Bool) (h:aA):Prop:=Y49.J Q 1 [(0,(AV.i .i64 x0)),(3,x3),(6,x6),(21,(AV.b x21))] h
def Y49.t0 (Q:AV→aA→Prop) (x0:Int) (x3 x6:AV) (x21:Bool) (h:aA) (J:JT):Prop:=
(bif x21 then
(Q (AV.i .i64 2) h)
else
((bif (decide ((x0:Int)=16)) then
(aD x6 h fun v36=>
aD x3 h fun v37=>
aD x3 h fun v38=>
bR v38 fun n39=>
aM (IntKind.wrap .i64 (n39 - 1)) fun n40=>
aU 1 v37 (AV.i .i64 n40) h fun v41=>
aD v41 h fun v42=>
asI .i64 v42 fun n43=>
cL C v36 [(AV.i .i64 2),(AV.i .i64 3),(AV.i .i64 n43)] h fun v44 h45=>
asI .i64 v44 fun n46=>
Q (AV.i .i64 n46) h45)
else
((bif (decide ((x0:Int)=17)) then
(aD x6 h fun v49=>
cL C v49 [(AV.i .i64 3),(AV.i .i64 3),(AV.i .i64 0)] h fun v50 h51=>
asI .i64 v50 fun n52=>
Q (AV.i .i64 n52) h51)
else
(aD x6 h fun v55=>
cL C v55 [(AV.i .i64 7),(AV.i .i64 11),(AV.i .i64 0)] h fun v56 h57=>
asI .i64 v56 fun n58=>
Q (AV.i .i64 n58) h57))))))
theorem Y49.i0 {Q x0 x3 x6 x21 h} (H:Y49.t0 Q x0 x3 x6 x21 h (Y49.J Q)):Y49.p0 Q x0 x3 x6 x21 h:=gR Y49.J Tryz.f164 Y49.dist [1,0,0,1,1,1] H
def Y49.t (Q:AV→aA→Prop) (x0:Int) (x1 x2 x3 x4 x5 x6:AV) (h:aA) (J:JT):Prop:=
(bif (decide ((x0:Int)<16)) then
(aD x1 h fun v2=>
aD x2 h fun v3=>
aD x3 h fun v4=>
aD x4 h fun v5=>
asI .i64 v5 fun n6=>
aD x5 h fun v7=>
asI .i64 v7 fun n8=>
bP 1 1 [(AV.i .i64 0)] [(0,1,(AV.i .i64 x0))] h fun v9 h10=>
aD x5 h10 fun v11=>
asI .i64 v11 fun n12=>
((AV.i .i64 n8)=(AV.i .i64 n12) ∧
(aD x4 h10 fun v13=>
asI .i64 v13 fun n14=>
((AV.i .i64 n6)=(AV.i .i64 n14) ∧
(aD x3 h10 fun v15=>
(v4=v15 ∧
(aD x2 h10 fun v16=>
(v3=v16 ∧
(aD x1 h10 fun v17=>
(v2=v17 ∧
(bU none 1 8 v4 v9 h10 fun v18 h19=>
aD x5 h19 fun v20=>
asI .i64 v20 fun n21=>
((AV.i .i64 n8)=(AV.i .i64 n21) ∧
(aD x4 h19 fun v22=>
asI .i64 v22 fun n23=>
((AV.i .i64 n6)=(AV.i .i64 n23) ∧
(aD x2 h19 fun v24=>
(v3=v24 ∧
(aD x1 h19 fun v25=>
(v2=v25 ∧
(C Y56.id [v2,v3,v18,(AV.i .i64 n6),(AV.i .i64 n8)] h19 fun v26 h27=>
asI .i64 v26 fun n28=>
Q (AV.i .i64 n28) h27)))))))))))))))))))
else
((bif (decide ((x0:Int)=16)) then
(aD x3 h fun v30=>
bR v30 fun n31=>
J 1 [(0,(AV.i .i64 x0)),(3,x3),(6,x6),(21,(AV.b (decide ((n31:Int)=0))))] h)
else
(J 1 [(0,(AV.i .i64 x0)),(3,x3),(6,x6),(21,(AV.b false))] h))))
theorem Y49.call {K x0 x1 x2 x3 x4 x5 x6 h} (H:Y49.t (aH h K) x0 x1 x2 x3 x4 x5 x6 h (Y49.J (aH h K))):C Y49.id [(AV.i .i64 x0),x1,x2,x3,x4,x5,x6] h K:=
 gC Y49.J Tryz.func164 Y49.dist H
end Go.Proofs.YtfoekpcljhbijaaGreatDoor
namespace Go.Proofs.YtfoekpcljhbijaaGreatDoor
open Go.GAM
variable [XR]
noncomputable def Y26.body:Code:=(Tryz.f3.body).getD .skip
def Y26.ann:Ann:=(sl [1,2] (sq [1,2] (sl [1,2,14] (.br (sl [4] lf) lf)) (sq [1,5,6] (.ord (.neu 0 (.neu 2 (.eff 1 (.eff 3 (nn 4 2 .done) .stop) .stop)))) (sq [1,5,6] (sl [1,5,6,21] (.br (sl [4] lf) lf)) (sq [] (sl [1,5,6,23,24] (.one (.loop 1 [1,5,6,23,24] (sl [1,5,6,23,24,25] (sq [1,5,6,23,24] bl (sq [1,5,6,23,24] (.one (sl [1,5,6,7,23,24] (sq [1,5,6,7,23,24] (sl [1,5,6,7,23,24,32] (.br (sl [4] lf) lf)) (sl [1,5,6,7,8,9,23,24] (sl [1,5,6,8,9,10,11,23,24] (.seq 2 [1,5,6,23,24,66] lf (.br (sl [4] lf) lf))))))) lf)))))) (sl [4] lf))))))
theorem Y26.dist:aL (places Y26.ann Y26.body)=true:=by kernel_rfl
noncomputable def Y26.J (Q:AV→aA→Prop):JT:=bJ prog C Tryz.f3 Y26.ann Y26.body Q
def Y26.p1 (Q:AV→aA→Prop) (x1 x5 x6:AV) (x23 x24:Int) (x66:Bool) (h:aA):Prop:=Y26.J Q 2 [(1,x1),(5,x5),(6,x6),(23,(AV.i .i64 x23)),(24,(AV.i .i64 x24)),(66,(AV.b x66))] h
def Y26.p0 (Q:AV→aA→Prop) (x1 x5 x6:AV) (x23 x24:Int) (h:aA):Prop:=Y26.J Q 1 [(1,x1),(5,x5),(6,x6),(23,(AV.i .i64 x23)),(24,(AV.i .i64 x24))] h
def Y26.t1 (Q:AV→aA→Prop) (x1 x5 x6:AV) (x23 x24:Int) (x66:Bool) (h:aA) (J:JT):Prop:=
(bif x66 then
(Q (AV.b false) h)
else
(aM (IntKind.wrap .i64 (x24+1)) fun n69=>
J 1 [(1,x1),(5,x5),(6,x6),(23,(AV.i .i64 x23)),(24,(AV.i .i64 n69))] h))
theorem Y26.i1 {Q x1 x5 x6 x23 x24 x66 h} (H:Y26.t1 Q x1 x5 x6 x23 x24 x66 h (Y26.J Q)):Y26.p1 Q x1 x5 x6 x23 x24 x66 h:=gR Y26.J Tryz.f3 Y26.dist [1,1,1,1,0,1,0,0,1,1,0,0,1,1,1,1,1] H
def Y26.t0 (Q:AV→aA→Prop) (x1 x5 x6:AV) (x23 x24:Int) (h:aA) (J:JT):Prop:=
(bif (decide ((x24:Int)<x23)) then
(aU 1 x1 (AV.i .i64 x24) h fun v29=>
aD v29 h fun v30=>
asS v30 fun l31=>
(bif (decide ((600:Int)<(l31.length:Int))) then
(C Y103.id [] h fun v33 h34=>
asB v33 fun c35=>
Q (AV.b c35) h34)
else
(aU 1 x1 (AV.i .i64 x24) h fun v38=>
aD v38 h fun v39=>
asS v39 fun l40=>
C Y8.id [x5,(AV.s l40)] h fun v41 h42=>
aO 0 v41 fun v43=>
asS v43 fun l44=>
aO 1 v41 fun v45=>
asI .i64 v45 fun n46=>
aU 1 x1 (AV.i .i64 x24) h42 fun v48=>
aD v48 h42 fun v49=>
asS v49 fun l50=>
C Y21.id [x6,(AV.s l50)] h42 fun v51 h52=>
aO 0 v51 fun v53=>
asS v53 fun l54=>
aO 1 v51 fun v55=>
asI .i64 v55 fun n56=>
(bif (!(decide ((l44:List UInt8)=l54))) then
(J 2 [(1,x1),(5,x5),(6,x6),(23,(AV.i .i64 x23)),(24,(AV.i .i64 x24)),(66,(AV.b true))] h52)
else
((bif (!decide ((n46:Int)=n56)) then
(J 2 [(1,x1),(5,x5),(6,x6),(23,(AV.i .i64 x23)),(24,(AV.i .i64 x24)),(66,(AV.b true))] h52)
else
(C Y40.id [x5] h52 fun v60 h61=>
asI .i64 v60 fun n62=>
C Y39.id [x6] h61 fun v63 h64=>
asI .i64 v63 fun n65=>
J 2 [(1,x1),(5,x5),(6,x6),(23,(AV.i .i64 x23)),(24,(AV.i .i64 x24)),(66,(AV.b (!decide ((n62:Int)=n65))))] h64)))))))
else
(C Y103.id [] h fun v71 h72=>
asB v71 fun c73=>
Q (AV.b c73) h72))
theorem Y26.i0 {Q x1 x5 x6 x23 x24 h} (H:Y26.t0 Q x1 x5 x6 x23 x24 h (Y26.J Q)):Y26.p0 Q x1 x5 x6 x23 x24 h:=gH Y26.J Tryz.f3 Y26.dist [1,1,1,1,0,1,0] H
def Y26.t (Q:AV→aA→Prop) (x0 x1:AV) (h:aA) (J:JT):Prop:=
dS (some 23) x0 h fun v0 h1=>
bR x1 fun n3=>
(bif (decide ((60:Int)<n3)) then
(C Y103.id [] h1 fun v5 h6=>
asB v5 fun c7=>
Q (AV.b c7) h6)
else
(dC 2 v0 h1 fun v10=>
dC 2 v0 h1 fun v11=>
C Y85.id [v10] h1 fun v12 h13=>
dC 2 v0 h13 fun v14=>
(v11=v14 ∧
(C Y87.id [v11] h13 fun v15 h16=>
cI prog .eql 26 v12 (AV.p none) fun v18=>
asB v18 fun c19=>
(bif c19 then
(Q (AV.b false) h16)
else
(bR x1 fun n23=>
J 1 [(1,x1),(5,v12),(6,v15),(23,(AV.i .i64 n23)),(24,(AV.i .i64 0))] h16))))))
theorem Y26.call {K x0 x1 h} (H:Y26.t (aH h K) x0 x1 h (Y26.J (aH h K))):C Y26.id [x0,x1] h K:=
 gC Y26.J Tryz.func3 Y26.dist H
end Go.Proofs.YtfoekpcljhbijaaGreatDoor
set_option linter.unusedSimpArgs false
namespace Go.GAM
variable {ty:Option TypeId}
def Ext (h0 h:aA):Prop:=h0.length≤h.length∧∀ id,id<h0.length→h[id]? = h0[id]?
theorem Ext.take {h0 h:aA} (a:Ext h0 h):h.take h0.length=h0:=by
 apply List.ext_getElem?
 intro i
 rw [List.getElem?_take]
 by_cases hi:i<h0.length
 ·rw [if_pos hi,a.2 i hi]
 ·rw [if_neg hi,List.getElem?_eq_none (Nat.le_of_not_lt hi)]
def nL:AV→Bool
 | .b _ | .i _ _ | .s _ | .p none | .sl none _ _ | .nf | .ni=>true
 | _=>false
def aJ6:AV→Bool
 | .ag cs | .tu cs=>cs.all nL
 | v=>nL v
theorem aAH {n:Nat} {v:AV} (h:nL v=true):z5 n [] v=v∧ok1 n [] v=true:=by
 unfold nL at h
 split at h <;> first | exact ⟨rfl,rfl⟩ | cases h
theorem aLP {n:Nat} {v:AV} (h:aJ6 v=true):ren n [] v=v∧okR n [] v=true:=by
 have hl:∀ cs:List AV,cs.all nL=true→cs.map (z5 n [])=cs∧cs.all (ok1 n [])=true:=by
  intro cs
  induction cs with
  | nil=>exact fun _=>⟨rfl,rfl⟩
  | cons c cs ih =>
   intro hc
   simp only [List.all_cons,Bool.and_eq_true] at hc
   obtain ⟨h1,h2⟩:=ih hc.2
   obtain ⟨h3,h4⟩:=aAH (n:=n) hc.1
   simp [h1,h2,h3,h4]
 unfold aJ6 at h
 split at h
 ·rename_i cs; obtain ⟨h1,h2⟩:=hl cs h; exact ⟨by simp [ren,h1],by simpa [okR] using h2⟩
 ·rename_i cs; obtain ⟨h1,h2⟩:=hl cs h; exact ⟨by simp [ren,h1],by simpa [okR] using h2⟩
 ·rename_i h1 h2
  obtain ⟨h3,h4⟩:=aAH (n:=n) h
  constructor
  ·unfold ren; split
   ·exact absurd rfl (h1 _)
   ·exact absurd rfl (h2 _)
   ·exact h3
  ·unfold okR; split
   ·exact absurd rfl (h1 _)
   ·exact absurd rfl (h2 _)
   ·exact h4
theorem qT {h0 h:aA} {K:AV→aA→Prop} {r:AV} (hp:aJ6 r=true) (hE:Ext h0 h) (hk:K r h0):aH h0 K r h:=by
 obtain ⟨h1,h2⟩:=aLP (n:=h0.length) hp
 refine .inr ⟨[],List.nodup_nil,h2,by simp,fun id hi=>.inl (hE.2 id hi),hE.1, ?_⟩
 rw [h1,hE.take]
 simpa using hk
theorem aA2 (l:List UInt8):(l.map byteAV).all nW=true:=by
 rw [List.all_eq_true]; intro x hx; simp only [List.mem_map] at hx; obtain ⟨c,_,rfl⟩:=hx; rfl
theorem aBS (c:UInt8):toByte (byteAV c)=c:=by simp [toByte,byteAV]
theorem aFA (l:List UInt8):(l.map byteAV).map toByte=l:=by
 rw [List.map_map]
 have:toByte ∘ byteAV=id:=by funext c; exact aBS c
 rw [this,List.map_id]
theorem aY {n:Int} (h0 : -9223372036854775808≤n) (h1:n<9223372036854775808):IntKind.wrap .i64 n=n:=by
 have e1:(2:Int) ^ 64=18446744073709551616:=by decide
 have e2:(2:Int) ^ (64 - 1)=9223372036854775808:=by decide
 simp only [IntKind.wrap,IntKind.bits,IntKind.signed,Bool.true_and,decide_eq_true_eq,e1,e2]
 split <;> omega
theorem aSN {n:Int} (h0:0≤n) (h1:n<256):IntKind.wrap .u8 n=n:=by
 simp only [IntKind.wrap,IntKind.bits,IntKind.signed,Bool.false_and,Bool.false_eq_true,if_false]
 omega
theorem getD_some {α:Type} {l:List α} {i:Nat} {c d:α} (hc:l[i]? = some c):l.getD i d=c:=by
 rw [List.getD_eq_getElem?_getD,hc] <;> rfl
theorem eQ {l:List UInt8} {k:IntKind} {i:Nat} {c:UInt8} {K:Int→Prop} (hc:l[i]? = some c) (hk:K (c.toNat:Int)):cK (.s l) (.i k (i:Int)) K:=by
 obtain ⟨hlt,_⟩:=List.getElem?_eq_some_iff.1 hc
 refine ⟨by omega,by simpa using hlt, ?_⟩
 rw [Int.toNat_natCast,getD_some hc]
 exact hk
theorem aN {c:Bool} {A B:Prop} (hc:c=true) (h:A):(bif c then A else B):=by rw [hc]; exact h
theorem aG {c:Bool} {A B:Prop} (hc:c=false) (h:B):(bif c then A else B):=by rw [hc]; exact h
theorem aI {c:Bool} {A B:Prop} (h1:c=true→A) (h2:c=false→B):(bif c then A else B):=by
 cases c
 ·exact h2 rfl
 ·exact h1 rfl
theorem aT {e n:Int} {K:Int→Prop} (h:e=n) (hk:K n):aM e K:=by subst h; exact hk
end Go.GAM
namespace Go.GAM
section
variable {P:Program}
theorem ext_run {f:FuncId} {fn:Func} {ex:Array Value→Sem Value} (hf:P.funcs[f]? = some fn) (hn:(fn.name == "runtime.NumGoroutine")=false) (hb:fn.body.isNone=true)
  (h1:Extern.findNext fn=none) (h2:Extern.find fn=some ex) {args:Array Value} {v:Value} {w:World} (he:(ex args).run P w = .ok v w):(callFunc f args).run P w = .ok (.value v) w:=by
 have hn':fn.name ≠ "runtime.NumGoroutine":=by simpa using hn
 have hb':fn.body=none:=by simpa using hb
 have hm:∀ (m:Mark) (k:Sem Unit) (w:World),Sem.run P (Sem.mark m k) w=Sem.run P k w:=fun _ _ _=>rfl
 unfold callFunc
 simp [go_sem,hf,hn',hb',h1,h2,mark,hm,he]
end
end Go.GAM
namespace Go.GAM
variable {ty:Option TypeId}
def Upd (M:Nat→Prop) (h h':aA):Prop:=h.length≤h'.length∧∀ i,i<h.length→¬ M i→h'[i]? = h[i]?
theorem Upd.refl (M:Nat→Prop) (h:aA):Upd M h h:=⟨Nat.le_refl _,fun _ _ _=>rfl⟩
theorem Upd.trans {M M':Nat→Prop} {h h1 h2:aA} (a:Upd M h h1) (b:Upd M' h1 h2) (hM:∀ i,i<h.length→M' i→M i):Upd M h h2:=
 ⟨Nat.le_trans a.1 b.1,fun i hi hn=>(b.2 i (Nat.lt_of_lt_of_le hi a.1) fun hm=>hn (hM i hi hm)).trans (a.2 i hi hn)⟩
theorem Upd.mono {M M':Nat→Prop} {h h1:aA} (a:Upd M h h1) (hM:∀ i,i<h.length→M i→M' i):Upd M' h h1:=
 ⟨a.1,fun i hi hn=>a.2 i hi fun hm=>hn (hM i hi hm)⟩
theorem Upd.app (h s:aA):Upd (fun _=>False) h (h++s):=⟨by simp,fun i hi _=>by rw [List.getElem?_append_left hi]⟩
theorem Upd.set (h:aA) (id:Nat) (b:ABlk):Upd (· = id) h (h.set id b):=⟨by simp,fun i hi hn=>by rw [List.getElem?_set_ne (fun e=>hn e.symm)]⟩
theorem aV {α:Type} {l:List α} {i:Nat} {a:α} (h:l[i]? = some a):i<l.length:=(List.getElem?_eq_some_iff.1 h).1
def aZ (h:aA) (id:Nat) (cs:List AV):Prop:=∃ b:ABlk,h[id]? = some b∧b.cells=cs∧b.floor≤cs.length∧b.ro=false
theorem aZ.lt {h:aA} {id:Nat} {cs:List AV} (R:aZ h id cs):id<h.length:=by obtain ⟨b,h1,_⟩:=R; exact aV h1
theorem aZ.upd {M:Nat→Prop} {h h':aA} {id:Nat} {cs:List AV} (R:aZ h id cs) (U:Upd M h h') (hM:¬ M id):aZ h' id cs:=by
 have hl:=R.lt
 obtain ⟨b,h1,h2⟩:=R
 exact ⟨b,(U.2 id hl hM).trans h1,h2⟩
theorem qB {a:AA} {K:AV→Prop} (hk:K (.p (some a))):aK (.p (some a)) K:=hk
theorem nZ {id ver off o:Nat} {K:AV→Prop} (hk:K (.p (some ⟨id,ver,off+o⟩))):aB o (.p (some ⟨id,ver,off⟩)) K:=hk
theorem sI {k:IntKind} {a b n:Int} {K:Int→Prop} (hb:b≠0) (hn:k.wrap (a.tdiv b)=n) (hk:K n):aD2 k a b K:=by subst hn; exact ⟨hb,hk⟩
theorem sN {a b n:Int} {K:Int→Prop} (hb:b≠0) (hn:a.tmod b=n) (hk:K n):aDF a b K:=by subst hn; exact ⟨hb,hk⟩
theorem aE {h:aA} {id n o:Nat} {cs:List AV} {v:AV} {K:AV→Prop} (R:aZ h id cs) (hn:n=cs.length) (hc:cs[o]? = some v) (hk:K v):aD (.p (some ⟨id,n,o⟩)) h K:=by
 obtain ⟨b,h1,rfl,h3,h4⟩:=R
 subst hn
 have:=aV hc
 refine ⟨b,h1,⟨h3,Nat.le_refl _,this⟩, ?_⟩
 show K (b.cells.getD o .u)
 rw [getD_some hc]; exact hk
theorem aJ {h:aA} {id n o:Nat} {cs:List AV} {v:AV} {K:aA→Prop} (R:aZ h id cs) (hn:n=cs.length) (ho:o<cs.length) (hv:v.parts=[v]:=by rfl) (hs:v.sizeOK=true:=by rfl) (hc:v.cellOK=true:=by rfl)
  (hk:∀ h',h'.length=h.length→Upd (· = id) h h'→aZ h' id (cs.set o v)→K h'):aP 1 (.p (some ⟨id,n,o⟩)) v h K:=by
 have hl:=R.lt
 obtain ⟨b,h1,rfl,h3,h4⟩:=R
 subst hn
 refine ⟨b,h1,h4,h3,rfl,(by show o+1≤b.cells.length; omega),hs,by rw [hv] <;> rfl,by rw [hv]; simp [hc], ?_⟩
 refine hk _ (by simp) (Upd.set _ _ _) ⟨_,List.getElem?_set_self hl, ?_, ?_,h4⟩
 ·rw [hv] <;> rfl
 ·simp
theorem fC {cells:List AV} {h:aA} {K:AV→aA→Prop} (hk:∀ h',h'.length=h.length+1→Upd (fun _=>False) h h'→aZ h' h.length cells→K (.p (some ⟨h.length,cells.length,0⟩)) h'):eK ty cells h K:=
 hk _ (by simp) (Upd.app _ _) ⟨bC cells 1 true ty,by simp,rfl,Nat.le_refl _,rfl⟩
theorem cB {x:AV} {h:aA} {K:AV→aA→Prop} (hs:x.sizeOK=true:=by rfl) (hk:∀ h',h'.length=h.length+1→Upd (fun _=>False) h h'→aZ h' h.length x.parts→K (.p (some ⟨h.length,x.parts.length,0⟩)) h'):dS ty x h K:=
 ⟨hs,hk _ (by simp) (Upd.app _ _) ⟨bC x.parts 1 true ty,by simp,rfl,Nat.le_refl _,rfl⟩⟩
theorem aC {n:Int} {K:Int→Prop} (hk:K n):asI .i64 (.i .i64 n) K:=hk
theorem cY {k:IntKind} {n:Int} {K:Int→Prop} (hk:K n):asI k (.i k n) K:=by cases k <;> exact hk
theorem aR {n:Bool} {K:Bool→Prop} (hk:K n):asB (.b n) K:=hk
theorem bM {n:List UInt8} {K:List UInt8→Prop} (hk:K n):asS (.s n) K:=hk
theorem aP5 {a:Option AA} {n:Nat} {c:Option Nat} {K:Int→Prop} (hk:K n):bR (.sl a n c) K:=hk
theorem aOF:∀ (ws pre cs:List AV),ws.length=cs.length→wr (pre++cs) pre.length ws=pre++ws
 | [], pre, cs, h => by
  have:cs=[]:=List.eq_nil_of_length_eq_zero (by simpa using h.symm)
  subst this; simp [wr]
 | w :: ws,pre,[],h=>by simp at h
 | w :: ws, pre, c :: cs, h => by
  simp only [wr]
  have e:(pre++c :: cs).set pre.length w=(pre++[w])++cs:=by simp
  rw [e]
  have:=aOF ws (pre++[w]) cs (by simpa using h)
  simpa using this
theorem iG {h:aA} {id n:Nat} {cs:List AV} {K:AV→Prop} (R:aZ h id cs) (hn:n=cs.length) (hk:K (.ag cs)):dC n (.p (some ⟨id,n,0⟩)) h K:=by
 obtain ⟨b,h1,rfl,h3,h4⟩:=R
 subst hn
 refine ⟨b,h1,⟨h3,Nat.le_refl _,by simp⟩, ?_⟩
 simpa using hk
theorem wK {h:aA} {id n:Nat} {cs ws:List AV} {K:aA→Prop} (R:aZ h id cs) (hn:n=cs.length) (hw:ws.length=n) (hc:ws.all AV.cellOK=true)
  (hk:∀ h',h'.length=h.length→Upd (· = id) h h'→aZ h' id ws→K h'):aP n (.p (some ⟨id,n,0⟩)) (.ag ws) h K:=by
 have hl:=R.lt
 obtain ⟨b,h1,rfl,h3,h4⟩:=R
 subst hn
 refine ⟨b,h1,h4,h3,rfl,(by show 0+b.cells.length≤b.cells.length; omega),rfl,hw,hc, ?_⟩
 refine hk _ (by simp) (Upd.set _ _ _) ⟨_,List.getElem?_set_self hl, ?_, ?_,h4⟩
 ·exact aOF ws [] b.cells hw
 ·rw [hw]; exact Nat.le_refl _
def aQ (v:AV) (id:Nat):Prop:=match v with
 | .sl (some a) _ _=>a.id=id
 | _=>False
def Rd (sz:Nat) (h:aA) (v:AV) (cs:List AV) (len:Nat):Prop:=
 (v = .sl none 0 none∧len=0∧cs=[])∨∃ id ver off cap b,v = .sl (some ⟨id,ver,off⟩) len cap∧h[id]? = some b∧(b.sz=sz∨b.sz=1)∧b.floor≤ver∧ver≤b.cells.length∧off+len * sz≤ver∧(b.cells.drop off).take (len * sz)=cs
theorem Rd.lt {sz:Nat} {h:aA} {v:AV} {cs:List AV} {len:Nat} (R:Rd sz h v cs len) {id:Nat} (hs:aQ v id):id<h.length:=by
 rcases R with ⟨rfl,_⟩ | ⟨id',ver,off,cap,b,rfl,h2,h3⟩
 ·exact hs.elim
 ·cases hs; exact aV h2
theorem Rd.length {sz:Nat} {h:aA} {v:AV} {cs:List AV} {len:Nat} (R:Rd sz h v cs len):cs.length=len * sz:=by
 rcases R with ⟨_,rfl,rfl⟩ | ⟨id,ver,off,cap,b,rfl,h2,h3,h4,h5,h6,rfl⟩
 ·simp
 ·simp; omega
theorem Rd.sl {sz:Nat} {h:aA} {v:AV} {cs:List AV} {len:Nat} (R:Rd sz h v cs len) {K:List AV→Prop} (hk:K cs):fG sz v h K:=by
 rcases R with ⟨rfl,rfl,rfl⟩ | ⟨id,ver,off,cap,b,rfl,h2,h3,h4,h5,h6,rfl⟩
 ·exact hk
 ·exact .inr ⟨b,h2,⟨h4,h5,h6⟩,hk⟩
theorem Rd.len {sz:Nat} {h:aA} {v:AV} {cs:List AV} {len:Nat} (R:Rd sz h v cs len) {K:Int→Prop} (hk:K len):bR v K:=by
 rcases R with ⟨rfl,rfl,rfl⟩ | ⟨id,ver,off,cap,b,rfl,h2⟩ <;> exact hk
theorem Rd.news {sz:Nat} {h:aA} {v:AV} {cs:List AV} {len:Nat} (R:Rd sz h v cs len) {K:List AV→Nat→Prop} (hk:K cs len):fH sz v h K:=by
 rcases R with ⟨rfl,rfl,rfl⟩ | ⟨id,ver,off,cap,b,rfl,h2,h3,h4,h5,h6,rfl⟩
 ·exact hk
 ·exact .inr ⟨b,h2,⟨h4,h5,h6⟩,hk⟩
structure aSJ (sz:Nat) (h:aA) (id ver off:Nat) (b:ABlk) (cs:List AV) (len:Nat):Prop where
 blk:h[id]? = some b
 siz:b.sz=sz∨b.sz=1
 flo:b.floor≤ver
 vle:ver≤b.cells.length
 end_:off+len * sz≤ver
 cel:(b.cells.drop off).take (len * sz)=cs
theorem aOG {sz:Nat} {h:aA} {id ver off:Nat} {b:ABlk} {cs:List AV} {len:Nat} {cap:Option Nat} {k:IntKind} {i:Nat} {K:AV→Prop} (R:aSJ sz h id ver off b cs len) (hi:i<len) (hk:K (.p (some ⟨id,ver,off+i * sz⟩))) :
  aU sz (.sl (some ⟨id,ver,off⟩) len cap) (.i k (i:Int)) h K:=
 ⟨by omega,by omega,⟨b,R.1,R.3,Nat.le_trans R.3 R.4⟩,by simpa using hk⟩
theorem aKU {sz:Nat} {h:aA} {id ver off:Nat} {b:ABlk} {cs:List AV} {len i o:Nat} {c:AV} {K:AV→Prop} (R:aSJ sz h id ver off b cs len) (hi:i<len) (ho:o<sz) (hc:cs[i * sz+o]? = some c) (hk:K c):aD (.p (some ⟨id,ver,off+i * sz+o⟩)) h K:=by
 have h1:(i+1) * sz≤len * sz:=Nat.mul_le_mul_right _ hi
 rw [Nat.add_mul] at h1
 have h2:=R.end_
 refine ⟨b,R.1,⟨R.3,R.4,by simp only; omega⟩, ?_⟩
 have h3:=R.cel
 rw [← h3,List.getElem?_take_of_lt (by omega),List.getElem?_drop] at hc
 show K (b.cells.getD (off+i * sz+o) .u)
 rw [getD_some (show b.cells[off+i * sz+o]? = some c by rw [← hc]; congr 1; omega)]
 exact hk
theorem Rd.fld {sz:Nat} {h:aA} {v:AV} {cs:List AV} {len:Nat} (R:Rd sz h v cs len) {k:IntKind} {i o:Nat} {c:AV} (hi:i<len) (ho:o<sz) (hc:cs[i * sz+o]? = some c) {K:AV→Prop} (hk:K c) :
  aU sz v (.i k (i:Int)) h fun a=>aB o a fun p=>aD p h K:=by
 rcases R with ⟨rfl,rfl,rfl⟩ | ⟨id,ver,off,cap,b,rfl,h2,h3,h4,h5,h6,h7⟩
 ·omega
 ·have A : aSJ sz h id ver off b cs len := ⟨h2, h3, h4, h5, h6, h7⟩
  exact aOG A hi (nZ (aKU A hi ho hc hk))
def Arr (sz:Nat) (h:aA) (v:AV) (cs:List AV) (len:Nat):Prop:=
 (v = .sl none 0 none∧len=0∧cs=[])∨∃ id b,v = .sl (some ⟨id,cs.length,0⟩) len none∧h[id]? = some b∧b.cells=cs∧cs.length=len * sz∧b.sz=sz∧b.floor≤cs.length∧b.ro=false∧b.gl=false
theorem Arr.nil (sz:Nat) (h:aA):Arr sz h (.sl none 0 none) [] 0:=.inl ⟨rfl,rfl,rfl⟩
theorem Arr.rd {sz:Nat} {h:aA} {v:AV} {cs:List AV} {len:Nat} (A:Arr sz h v cs len):Rd sz h v cs len:=by
 rcases A with h1 | ⟨id,b,rfl,h2,rfl,h4,h5,h6,h7⟩
 ·exact .inl h1
 ·refine .inr ⟨id, _, 0, none, b, rfl, h2, .inl h5, h6, Nat.le_refl _, by omega, ?_⟩
  rw [List.drop_zero, ← h4,List.take_length]
theorem Arr.upd {sz:Nat} {M:Nat→Prop} {h h':aA} {v:AV} {cs:List AV} {len:Nat} (A:Arr sz h v cs len) (U:Upd M h h') (hM:∀ id,aQ v id→¬ M id):Arr sz h' v cs len:=by
 rcases A with h1 | ⟨id,b,rfl,h2,h3⟩
 ·exact .inl h1
 ·exact .inr ⟨id,b,rfl,(U.2 id (aV h2) (hM id rfl)).trans h2,h3⟩
theorem Arr.append {sz bytes : Nat} {h : aA} {v x : AV} {cs ns : List AV} {len k : Nat} (A : Arr sz h v cs len) (hz : 0 < sz) {K : AV → aA → Prop}
  (hx:∀ K:List AV→Nat→Prop,K ns k→fH sz x h K) (hns:ns.length=k * sz) (hok:ns.all AV.cellOK=true) (hlen:(len+k) * bytes≤140737488355328) (hl2:len+k≤9223372036854775807)
  (hk:∀ v' h',Upd (aQ v) h h'→Arr sz h' v' (cs++ns) (len+k)→(∀ id,aQ v' id→aQ v id∨h.length≤id)→K v' h'):bU ty sz bytes v x h K:=by
 refine ⟨hz,hx _ ?_⟩
 rcases A with ⟨rfl,rfl,rfl⟩ | ⟨id,b,rfl,h2,rfl,h4,h5,h6,h7,h8⟩
 ·refine ⟨by simpa using hlen, by omega, ?_⟩
  split
  ·rename_i h0
   subst h0
   have:ns=[]:=List.eq_nil_of_length_eq_zero (by simpa using hns)
   subst this
   exact hk _ _ (Upd.refl _ _) (.inl ⟨rfl,rfl,rfl⟩) fun id hi=>.inl hi
  ·refine hk _ _ ((Upd.app _ _).mono fun _ _ h=>h.elim) (.inr ⟨h.length,bC ns sz false ty,by simp,by simp,rfl,by simpa using hns,rfl,Nat.le_refl _,rfl,rfl⟩) fun id hi=>.inr (by cases hi; exact Nat.le_refl _)
 ·have hid := aV h2
  refine ⟨hlen,by omega,b,h2,h5,⟨h6,Nat.le_refl _,by simp only; omega⟩, ?_⟩
  have hcells:(b.cells.drop 0).take (len * sz)=b.cells:=by rw [List.drop_zero, ← h4,List.take_length]
  by_cases ht:k=0
  ·subst ht
   have:ns=[]:=List.eq_nil_of_length_eq_zero (by simpa using hns)
   subst this
   refine .inl ⟨rfl,hk _ _ (Upd.refl _ _) ?_ fun id hi=>.inl hi⟩
   rw [List.append_nil]
   exact .inr ⟨id,b,rfl,h2,rfl,h4,h5,h6,h7,h8⟩
  ·have htp : 0 < k := Nat.pos_of_ne_zero ht
   have hmul:(len+k) * sz=len * sz+k * sz:=Nat.add_mul _ _ _
   cases hex:b.ex with
   | true =>
    have hkz:0<k * sz:=Nat.mul_pos htp hz
    refine .inr (.inl ⟨htp,.inr ⟨rfl,rfl,rfl,by simp only; omega⟩, ?_⟩)
    rw [hcells]
    refine hk _ _ ((Upd.app _ _).mono fun _ _ h=>h.elim) (.inr ⟨h.length,bC (b.cells++ns) sz false ty,rfl,by simp,rfl,by simp [bC,hns,h4,hmul],rfl,by simp [bC],rfl,rfl⟩) fun id hi=>.inr (by cases hi; exact Nat.le_refl _)
   | false =>
    refine .inr (.inr (.inr (.inl ⟨htp,h7,rfl,rfl,h4.symm,rfl,rfl,h8,hok, ?_⟩)))
    refine hk _ _ ((Upd.set _ _ _).mono fun i _ h=>h.symm) (.inr ⟨id,{ b with cells:=b.cells++ns,ty:=gW b.ty ty },rfl,by simp [hid,hex],rfl,by simp [hns,h4,hmul],h5,by simp; omega,h7,h8⟩) fun id hi=>.inl hi
theorem dH {sz len:Nat} {zeros cs:List AV} {parts:List (Nat × Nat × AV)} {h:aA} {K:AV→aA→Prop} (hf:eZ zeros parts=some cs) (hl:cs.length=len * sz)
  (hk:∀ v h',h'.length=h.length+1→Upd (fun _=>False) h h'→Rd sz h' v cs len→(∀ id,aQ v id→h.length≤id)→K v h'):bP sz len zeros parts h K:=by
 unfold bP
 rw [hf]
 refine ⟨hl,hk _ _ (by simp) (Upd.app _ _) (.inr ⟨h.length,cs.length,0,none,bC cs sz true,rfl,by simp,.inl rfl,Nat.le_refl _,Nat.le_refl _,by omega, ?_⟩) fun id hi=>by cases hi; exact Nat.le_refl _⟩
 simp [bC, ← hl]
theorem Arr.push {sz bytes:Nat} {h:aA} {v x:AV} {cs zeros:List AV} {len:Nat} (A:Arr sz h v cs len) (hz:0<sz) {K:AV→aA→Prop} (hf:eZ zeros [(0,sz,x)]=some x.parts) (hxl:x.parts.length=sz) (hok:x.parts.all AV.cellOK=true)
  (hlen:(len+1) * bytes≤140737488355328) (hl2:len+1≤9223372036854775807)
  (hk:∀ v' h',Upd (aQ v) h h'→Arr sz h' v' (cs++x.parts) (len+1)→(∀ id,aQ v' id→aQ v id∨h.length≤id)→K v' h') :
  bP sz 1 zeros [(0,sz,x)] h fun y h'=>bU ty sz bytes v y h' K:=by
 refine dH hf (by omega) fun y h1 hl1 U1 R1 F1=>?_
 refine (A.upd U1 fun _ _ h=>h).append hz (ns:=x.parts) (k:=1) (fun K hK=>R1.news hK) (by omega) hok hlen hl2 fun v' h' U2 A2 F2=>hk v' h' ((U1.mono fun _ _ h=>h.elim).trans U2 fun _ _ h=>h) A2 fun id hi=>?_
 rcases F2 id hi with h | h
 ·exact .inl h
 ·exact .inr (by omega)
def Byt (h:aA) (v:AV) (l:List UInt8):Prop:=Rd 1 h v (l.map byteAV) l.length
theorem Byt.str {h:aA} {v:AV} {l:List UInt8} (B:Byt h v l) {K:List UInt8→Prop} (hk:K l):cJ v h K:=by
 refine Rd.sl B ⟨aA2 l, ?_⟩
 rw [aFA]; exact hk
theorem jF {l:List UInt8} {lo:Nat} {K:List UInt8→Prop} (h:lo≤l.length) (hk:K (l.drop lo)):bV (.s l) (some (.i .i64 lo)) none K:=by
 refine ⟨by omega,by simpa using h,Nat.le_refl _, ?_⟩
 simpa using hk
theorem uN {l:List UInt8} {lo hi:Nat} {K:List UInt8→Prop} (h:lo≤hi) (h2:hi≤l.length) (hk:K ((l.take hi).drop lo)):bV (.s l) (some (.i .i64 lo)) (some (.i .i64 hi)) K:=by
 refine ⟨by omega,by omega,by simpa using h,by simpa using h2, ?_⟩
 simpa using hk
theorem aFN {l:List UInt8} {hi:Nat} {K:List UInt8→Prop} (h2:hi≤l.length) (hk:K (l.take hi)):bV (.s l) none (some (.i .i64 hi)) K:=by
 refine ⟨by omega,by simp,by simpa using h2, ?_⟩
 simpa using hk
end Go.GAM
namespace Go.GAM
open Go.RowKit
def uL (w : World) (szOf : Nat → Nat) : Value → AV
 | .bool x=>.b x
 | .int k n=>.i k n
 | .string s=>.s s.data.toList
 | .pointer none=>.p none
 | .pointer (some a) => match w.shape? a.block, a.spot with
  | some (_,n),none=>.p (some ⟨a.block,n,a.off⟩)
  | _,_=>.u
 | .slice none 0 0=>.sl none 0 none
 | .slice (some a) len cap => if cap = 0 then (if len = 0 then .sl (some ⟨w.heap.size, 0, 0⟩) 0 (some 0) else .u) else
  match w.shape? a.block,a.spot with
  | some (_,n),none=>if len≤cap∧a.off+cap * szOf a.block≤n then .sl (some ⟨a.block,n,a.off⟩) len (some cap) else .u
  | _,_=>.u
 | .nilFunc=>.nf
 | .nilIface=>.ni
 | .map none=>.mp none
 | _=>.u
def kL (w:World) (szOf:Nat→Nat):Value→AV
 | .agg cs=>.ag (cs.toList.map (uL w szOf))
 | .iface t v=>.ifc t (uL w szOf v)
 | v=>uL w szOf v
def lQ (w:World) (szOf:Nat→Nat) (B:Nat):ABlk:=match w.heap[B]? with
 | some (.cells c _ _)=>⟨c.toList.map (kL w szOf),szOf B,c.size,false,true,true,none,none⟩
 | _=>dead
def jB (w:World) (szOf:Nat→Nat):aA:=(List.range w.heap.size).map (lQ w szOf)++[dead]
def muC (w:World) (szOf:Nat→Nat):Mu:=fun id ver=>
 if id=w.heap.size then (if ver=0 then some ⟨0,0,0,1⟩ else none) else
 match w.shape? id with
 | some (_,n)=>if ver=n then some ⟨id,0,n,szOf id⟩ else none
 | none=>none
def aN5 (w:World):Nat→Option Nat:=fun B=>if (w.shape? B).isSome then some B else none
section
variable {w:World} {szOf:Nat→Nat}
theorem sK {B:Nat} {t:TypeId} {n:Nat} (h:w.shape? B=some (t,n)):∃ c fr,w.heap[B]? = some (.cells c t fr)∧c.size=n:=by
 unfold World.shape? at h
 split at h
 ·rename_i c el fr hh
  simp only [Option.some.injEq,Prod.mk.injEq] at h
  obtain ⟨rfl,rfl⟩:=h
  exact ⟨c,fr,hh,rfl⟩
 ·cases h
theorem pZ {B:Nat} {x:TypeId × Nat} (h:w.shape? B=some x):B<w.heap.size:=by
 obtain ⟨c,fr,hh,_⟩:=sK (t:=x.1) (n:=x.2) h
 exact (Array.getElem?_eq_some_iff.1 hh).1
theorem aDM {B:Nat} {t:TypeId} {n:Nat} (h:w.shape? B=some (t,n)):muC w szOf B n=some ⟨B,0,n,szOf B⟩:=by
 have:=pZ h
 unfold muC
 rw [if_neg (by omega),h]
 simp
theorem vZ (v : Value) : aX (muC w szOf) (uL w szOf v) v := by
  cases v <;> first | exact .u _ | exact .b _ | exact .i _ _ | exact .s _ _ rfl | exact .nf | exact .ni | skip
  case pointer a=>
    cases a with
    | none=>exact .pn
    | some a =>
      obtain ⟨B,off,spot⟩:=a
      simp only [uL]
      split
      · rename_i t n hs
        exact .p _ _ _ (aDM hs) (by simp)
      · exact .u _
  case slice a len cap=>
    cases a with
    | none =>
      cases len with
      | succ l=>exact .u _
      | zero => cases cap with
        | succ c=>exact .u _
        | zero=>exact .sn
    | some a =>
      obtain ⟨B,off,spot⟩:=a
      simp only [uL]
      split
      · rename_i hc
        subst hc
        split
        · rename_i hl
          subst hl
          exact .sl _ _ _ 0 _ ⟨0,0,0,1⟩ (by unfold muC; simp) (Nat.le_refl _) (by simp) (by simp) (by simp) (by simp)
        · exact .u _
      · split
        · rename_i t n hs
          split
          · rename_i hl
            exact .sl _ _ _ cap _ _ (aDM hs) hl.1 hl.2 (by simp) (by simp) (by simp)
          · exact .u _
        · exact .u _
  case map r=>cases r <;> first | exact .mpn | exact .u _
theorem aAD:∀ vs:List Value,VRels (muC w szOf) (vs.map (uL w szOf)) vs
 | []=>.nil
 | v :: vs=>.cons _ _ _ _ (vZ v) (aAD vs)
theorem pF (v:Value):aX (muC w szOf) (kL w szOf v) v:=by
 cases v <;> simp only [kL] <;> first | exact vZ _ | exact .ag _ _ (aAD _) | exact .ifc _ _ _ (vZ _)
theorem z6 {B:Nat} (h:B<w.heap.size):(jB w szOf)[B]? = some (lQ w szOf B):=by
 unfold jB
 rw [List.getElem?_append_left (by simpa using h)]
 simp [h]
theorem aK7:(jB w szOf).length=w.heap.size+1:=by simp [jB]
theorem aK9 (w : World) (szOf : Nat → Nat) : Rel w (fun B => B < w.heap.size) (muC w szOf) (aN5 w) (jB w szOf) w where
 os:=rfl
 tape:=rfl
 output:=rfl
 size0:=Nat.le_refl _
 fz:=fun B hB=>⟨hB,rfl⟩
 ownlt:=fun B id h=>by
  unfold aN5 at h
  split at h
  ·rename_i hs
   obtain ⟨x,hx⟩:=Option.isSome_iff_exists.1 hs
   exact pZ hx
  ·cases h
 mulen := fun id ver l h => by
  unfold muC at h
  split at h
  ·rename_i he
   subst he
   exact ⟨dead,by simp [jB],by simp [dead]⟩
  ·split at h
   ·rename_i t n hs
    obtain ⟨c,fr,hh,hc⟩:=sK hs
    refine ⟨lQ w szOf id,z6 (pZ hs),fun _=>?_⟩
    split at h
    ·rename_i hv
     unfold lQ
     rw [hh]
     simp [hv,hc]
    ·cases h
   ·cases h
 blk := fun id b hb hl => by
  rcases Nat.lt_or_ge id w.heap.size with hi | hi
  ·rw [z6 hi] at hb
   cases hb
   unfold lQ at hl ⊢
   split at hl
   ·rename_i c el fr hh
    have hs:w.shape? id=some (el,c.size):=by unfold World.shape?; rw [hh]
    refine ⟨⟨id,0,c.size,szOf id⟩, ?_⟩
    have hlen:(c.toList.map (kL w szOf)).length=c.size:=by simp
    refine { cur:=by simp only [hlen]; exact aDM hs,owned:=by simp [aN5,hs],sz:=rfl,len:=by simp,ex:=by simp,ro:=by simp,gl:=by simp,nomap:=rfl,tyok:=fun t ht=>(by cases ht),row:=⟨c,el,fr,hh,by simp⟩,free:=by simp,vers:=fun ver h1 h2 l' hl'=>?_ }
    have hv:ver=c.size:=by simp only [hlen] at h2; simp only at h1; omega
    subst hv
    rw [aDM hs] at hl'
    cases hl'
    refine { own:=by simp [aN5,hs],sz:=rfl,le:=Nat.le_refl _,base:=fun _=>rfl,cells:=fun j hj=>?_ }
    refine ⟨c[j],by simp [World.cell?,hh,hj], ?_⟩
    have e:(c.toList.map (kL w szOf)).getD j .u=kL w szOf c[j]:=by simp [List.getD,hj]
    simp only [e]
    exact pF _
   ·exact absurd hl (by simp [dead])
  ·exfalso
   rcases Nat.lt_or_ge id (w.heap.size+1) with h2 | h2
   ·have : id = w.heap.size := by omega
    subst this
    simp [jB] at hb
    subst hb
    simp [dead] at hl
   ·rw [List.getElem?_eq_none (by rw [aK7]; omega)] at hb; cases hb
 maps:=fun id b es hb he=>by
  exfalso
  have hm:b∈jB w szOf:=List.mem_of_getElem? hb
  unfold jB at hm
  rcases List.mem_append.1 hm with h1 | h1
  ·obtain ⟨B, _, rfl⟩ := List.mem_map.1 h1
   unfold lQ at he
   split at he <;> cases he
  ·simp at h1; subst h1; cases he
end
def Yes:AV→aA→Prop:=fun v _=>v = .b true
end Go.GAM
namespace Go.GAM
open Go.RowKit Go.ChangeShapes
section
variable {H:Type} {enc:TypeId × Value→H} {P:Program} {w:World} {szOf:Nat→Nat}
theorem zL {a : Addr} {sz : Nat} : ∀ (rows : List (List Value)) (k : Nat), (∀ i r, rows[i]? = some r → r.length = sz ∧ ∀ j, j < sz → w.cell? (a.add ((k + i) * sz + j)) = some (r.getD j undef)) →
  ∀ i,i<rows.flatten.length→w.cell? (a.add (k * sz+i))=some (rows.flatten.getD i undef)
 | [],k,h,i,hi=>by simp at hi
 | r :: rows, k, h, i, hi => by
  obtain ⟨h1,h2⟩:=h 0 r rfl
  rw [List.flatten_cons]
  by_cases hlt:i<sz
  ·have := h2 i hlt
   rw [Nat.add_zero] at this
   rw [this,List.getD_eq_getElem?_getD,List.getD_eq_getElem?_getD,List.getElem?_append_left (by omega)]
  ·have := zL (a := a) (sz := sz) rows (k + 1) (fun j r hj => by
    have:=h (j+1) r (by simpa using hj)
    rw [show k+1+j=k+(j+1) by omega]; exact this) (i - sz) (by simp at hi ⊢; omega)
   rw [show (k+1) * sz+(i - sz)=k * sz+i by rw [Nat.add_mul]; omega] at this
   rw [this,List.getD_eq_getElem?_getD,List.getD_eq_getElem?_getD,List.getElem?_append_right (by omega),h1]
theorem aHF {sz:Nat}:∀ rows:List (List Value),(∀ r∈rows,r.length=sz)→rows.flatten.length=rows.length * sz
 | [],_=>by simp
 | r :: rows, h => by
  rw [List.flatten_cons,List.length_append,aHF rows fun r hr=>h r (by simp [hr]),h r (by simp),List.length_cons,Nat.add_mul]; omega
theorem aB4 {sz:Nat}:∀ (rows:List (List Value)) (n:Nat),(∀ r∈rows,r.length=sz)→rows.flatten.take (n * sz)=(rows.take n).flatten
 | [],n,_=>by simp
 | r :: rows,0,_=>by simp
 | r :: rows, n + 1, h => by
  have h1:=h r (by simp)
  rw [List.take_succ_cons,List.flatten_cons,List.flatten_cons, ← aB4 rows n fun r hr=>h r (by simp [hr]),List.take_append,h1]
  rw [List.take_of_length_le (by rw [h1,Nat.add_mul]; omega),show (n+1) * sz - sz=n * sz by rw [Nat.add_mul]; omega]
end
end Go.GAM
namespace Go.GAM
variable {ty:Option TypeId}
open Go.RowKit
theorem Upd.ext {h h':aA} (U:Upd (fun _=>False) h h'):Ext h h':=⟨U.1,fun i hi=>U.2 i hi fun h=>h⟩
structure yJ (sz:Nat) (h0 h:aA) (v:AV) (cs:List AV) (len:Nat):Prop where
 upd:Upd (fun _=>False) h0 h
 arr:Arr sz h v cs len
 new:∀ i,aQ v i→h0.length≤i
theorem yJ.start (sz:Nat) (h:aA):yJ sz h h (.sl none 0 none) [] 0:=⟨Upd.refl _ _,Arr.nil _ _,fun _ h=>h.elim⟩
theorem yJ.append {sz bytes:Nat} {h0 h:aA} {v x:AV} {cs ns:List AV} {len k:Nat} (A:yJ sz h0 h v cs len) (hz:0<sz) {K:AV→aA→Prop}
  (hx:∀ K:List AV→Nat→Prop,K ns k→fH sz x h K) (hns:ns.length=k * sz) (hok:ns.all AV.cellOK=true) (hlen:(len+k) * bytes≤140737488355328) (hl2:len+k≤9223372036854775807)
  (hk:∀ v' h',yJ sz h0 h' v' (cs++ns) (len+k)→Upd (aQ v) h h'→K v' h'):bU ty sz bytes v x h K:=
 A.arr.append hz hx hns hok hlen hl2 fun v' h' U A' F=>hk v' h' ⟨A.upd.trans U fun i hi hs=>absurd (A.new i hs) (by omega),A',fun i hi=>by
  rcases F i hi with h | h
  ·exact A.new i h
  ·exact Nat.le_trans A.upd.1 h⟩ U
theorem yJ.build {sz bytes n:Nat} {h0 h:aA} {v:AV} {cs ns zeros:List AV} {parts:List (Nat × Nat × AV)} {len:Nat} (A:yJ sz h0 h v cs len) (hz:0<sz) {K:AV→aA→Prop}
  (hf:eZ zeros parts=some ns) (hns:ns.length=n * sz) (hok:ns.all AV.cellOK=true) (hlen:(len+n) * bytes≤140737488355328) (hl2:len+n≤9223372036854775807)
  (hk:∀ v' h',yJ sz h0 h' v' (cs++ns) (len+n)→K v' h'):bP sz n zeros parts h fun y h'=>bU ty sz bytes v y h' K:=by
 refine dH hf hns fun y h1 hl1 U1 R1 F1=>?_
 have A1:yJ sz h0 h1 v cs len:=⟨A.upd.trans U1 fun _ _ h=>h,A.arr.upd U1 fun _ _ h=>h,A.new⟩
 exact A1.append hz (fun K hK=>R1.news hK) hns hok hlen hl2 fun v' h' A' _=>hk v' h' A'
def Tx (h0 h:aA) (v:AV) (l:List UInt8):Prop:=yJ 1 h0 h v (l.map byteAV) l.length
theorem Tx.start (h:aA):Tx h h (.sl none 0 none) []:=yJ.start 1 h
theorem Tx.push {h0 h:aA} {v:AV} {l:List UInt8} (A:Tx h0 h v l) {c:UInt8} {K:AV→aA→Prop} (hlen:l.length<140737488355328) (hk:∀ v' h',Tx h0 h' v' (l++[c])→K v' h') :
  bP 1 1 [.i .u8 0] [(0,1,.i .u8 (c.toNat:Int))] h fun y h'=>bU ty 1 1 v y h' K:=by
 refine yJ.build A (by decide) (ns:=[byteAV c]) rfl rfl rfl (by omega) (by omega) fun v' h' A'=>hk v' h' ?_
 unfold Tx
 rw [List.map_append,List.length_append]; exact A'
theorem Tx.ret {h0 h:aA} {v:AV} {l:List UInt8} (A:Tx h0 h v l) {Q:AV→aA→Prop} (hq:Q (.s l) h0):cJ v h fun x=>aH h0 Q (.s x) h:=
 Byt.str (l:=l) A.arr.rd (qT rfl A.upd.ext hq)
theorem aVK {l r:List UInt8} {i:Nat} {c:UInt8} {K:Int→Prop} (h:l.drop i=c :: r) (hk:K (c.toNat:Int)):cK (.s l) (.i .i64 (i:Int)) K:=by
 refine eQ ?_ hk
 have:(l.drop i)[0]? = some c:=by rw [h] <;> rfl
 simpa using this
theorem aRX {α:Type} {l r:List α} {i:Nat} {c:α} (h:l.drop i=c :: r):i<l.length:=by
 rcases Nat.lt_or_ge i l.length with h1 | h1
 ·exact h1
 ·rw [List.drop_eq_nil_of_le h1] at h; cases h
theorem aM5 {α:Type} {l r:List α} {i:Nat} {c:α} (h:l.drop i=c :: r):l.drop (i+1)=r:=by
 have:(l.drop i).drop 1=r:=by rw [h] <;> rfl
 rwa [List.drop_drop] at this
theorem aPM {α:Type} {l:List α} {i:Nat} (h:l.drop i=[]):l.length≤i:=by
 have:=congrArg List.length h
 simp at this; omega
def Stk (h:aA) (v:AV) (l:List AV):Prop:=
 (v = .sl none 0 none∧l=[])∨∃ id b,v = .sl (some ⟨id,b.cells.length,0⟩) l.length none∧h[id]? = some b∧b.sz=1∧l.length≤b.cells.length∧b.cells.take l.length=l∧b.floor≤b.cells.length∧b.ro=false∧b.gl=false
theorem Stk.rd {h:aA} {v:AV} {l:List AV} (S:Stk h v l):Rd 1 h v l l.length:=by
 rcases S with ⟨rfl,rfl⟩ | ⟨id,b,rfl,h1,h2,h3,h4,h5,h6,h7⟩
 ·exact .inl ⟨rfl,rfl,rfl⟩
 ·exact .inr ⟨id,_,0,none,b,rfl,h1,.inl h2,h5,Nat.le_refl _,by omega,by rw [List.drop_zero,Nat.mul_one]; exact h4⟩
theorem Stk.upd {M:Nat→Prop} {h h':aA} {v:AV} {l:List AV} (S:Stk h v l) (U:Upd M h h') (hM:∀ i,aQ v i→¬ M i):Stk h' v l:=by
 rcases S with h1 | ⟨id,b,rfl,h1,h2⟩
 ·exact .inl h1
 ·exact .inr ⟨id,b,rfl,(U.2 id (aV h1) (hM id rfl)).trans h1,h2⟩
theorem Stk.push {bytes : Nat} {h : aA} {v x : AV} {l zeros : List AV} (S : Stk h v l) (hf : eZ zeros [(0, 1, x)] = some [x]) (hx : x.cellOK = true) (hlen : (l.length + 1) * bytes ≤ 140737488355328) (hl2 : l.length + 1 ≤ 9223372036854775807) {K : AV → aA → Prop}
  (hk:∀ v' h',Upd (aQ v) h h'→Stk h' v' (l++[x])→(∀ i,aQ v' i→aQ v i∨h.length≤i)→K v' h'):bP 1 1 zeros [(0,1,x)] h fun y h'=>bU ty 1 bytes v y h' K:=by
 refine dH hf rfl fun y h1 hl1 U1 R1 F1=>⟨Nat.one_pos,R1.news ?_⟩
 have S1:=S.upd U1 fun _ _ h=>h
 rcases S1 with ⟨rfl,rfl⟩ | ⟨id,b,rfl,g1,g2,g3,g4,g5,g6,g7⟩
 ·refine ⟨by simpa using hlen, by omega, ?_⟩
  rw [if_neg (by decide)]
  exact hk _ _ ((U1.mono fun _ _ h=>h.elim).trans (Upd.app _ _) fun _ _ h=>h.elim) (.inr ⟨h1.length,bC [x] 1 false ty,by simp [bC],by simp,rfl,by simp [bC],by simp [bC],by simp [bC],rfl,rfl⟩) fun i hi=>.inr (by have e:h1.length=i:=hi; omega)
 ·have hid := aV g1
  have hidh:id<h.length:=Rd.lt S.rd (id:=id) rfl
  refine ⟨hlen,by omega,b,g1,g2,⟨g5,Nat.le_refl _,by simp only; omega⟩, ?_⟩
  by_cases hfull:l.length=b.cells.length
  ·cases hex : b.ex with
   | true =>
    refine .inr (.inl ⟨Nat.one_pos,.inr ⟨rfl,rfl,rfl,by simp only; omega⟩, ?_⟩)
    refine hk _ _ ((U1.mono fun _ _ h=>h.elim).trans (Upd.app _ _) fun _ _ h=>h.elim) (.inr ⟨h1.length,bC (l++[x]) 1 false ty, ?_, ?_,rfl,by simp [bC],by simp only [bC,List.length_append]; exact List.take_of_length_le (by simp),by simp [bC],rfl,rfl⟩) fun i hi=>.inr (by have e:h1.length=i:=hi; omega)
    ·simp [bC,g4,g3]
    ·simp [g4]
   | false =>
    refine .inr (.inr (.inr (.inl ⟨Nat.one_pos,g6,rfl,rfl,by omega,rfl,rfl,g7,by simp [hx], ?_⟩)))
    have hcl:b.cells=l:=by rw [hfull,List.take_length] at g4; exact g4
    refine hk _ _ ((U1.mono fun _ _ h=>h.elim).trans (Upd.set _ _ _) fun i _ h=>h.symm) (.inr ⟨id,{ b with cells:=b.cells++[x],ty:=gW b.ty ty }, ?_,by simp [hid,hex],g2,by simp; omega, ?_,by simp; omega,g6,g7⟩) fun i hi=>.inl hi
    ·simp
    ·simp only [hcl]
     rw [List.take_of_length_le (by simp)]
  ·refine .inr (.inr (.inl ⟨Nat.one_pos, g6, rfl, by simp only; omega, .inl rfl, by simp [hx], ?_⟩))
   refine hk _ _ ((U1.mono fun _ _ h=>h.elim).trans (Upd.set _ _ _) fun i _ h=>h.symm) (.inr ⟨id,{ b with cells:=wr b.cells (0+l.length * 1) [x],floor:=b.cells.length }, ?_,show (h1.set id _)[id]? = some _ from List.getElem?_set_self hid,g2, ?_, ?_, ?_,g6,g7⟩) fun i hi=>.inl hi
   ·simp [wr]
   ·simp [wr]; omega
   ·simp only [wr, Nat.zero_add, Nat.mul_one, List.length_append, List.length_cons, List.length_nil]
    apply List.ext_getElem?
    intro i
    by_cases h1:i<l.length
    ·rw [List.getElem?_take_of_lt (by omega), List.getElem?_set_ne (by omega), List.getElem?_append_left h1]
     conv=>rhs; rw [← g4]
     rw [List.getElem?_take_of_lt h1]
    ·by_cases h2 : i = l.length
     ·subst h2
      rw [List.getElem?_take_of_lt (by omega),List.getElem?_set_self (by omega),List.getElem?_append_right (by omega)]
      simp
     ·rw [List.getElem?_eq_none (by simp; omega),List.getElem?_eq_none (by simp; omega)]
   ·simp [wr]
theorem Rd.cell {sz:Nat} {h:aA} {v:AV} {cs:List AV} {len:Nat} (R:Rd sz h v cs len) {k:IntKind} {i:Nat} {c:AV} (hz:0<sz) (hi:i<len) (hc:cs[i * sz]? = some c) {K:AV→Prop} (hk:K c) :
  aU sz v (.i k (i:Int)) h fun a=>aD a h K:=by
 rcases R with ⟨rfl,rfl,rfl⟩ | ⟨id,ver,off,cap,b,rfl,h2,h3,h4,h5,h6,h7⟩
 ·omega
 ·have A : aSJ sz h id ver off b cs len := ⟨h2, h3, h4, h5, h6, h7⟩
  exact aOG A hi (aKU (o:=0) A hi hz (by simpa using hc) hk)
theorem bits_nat {x:Nat} (h:x<2 ^ 64):(BitVec.ofInt 64 (x:Int)).toNat=x:=by
 simp [BitVec.toNat_ofInt]; omega
theorem aEB {x y:Nat} (hx:x<2 ^ 62) (hy:y<2 ^ 62):bA .or .i64 x y=((x ||| y:Nat):Int):=by
 have h:x ||| y<2 ^ 62:=Nat.or_lt_two_pow hx hy
 show IntKind.wrap .i64 (((BitVec.ofInt 64 (x:Int)) ||| (BitVec.ofInt 64 (y:Int))).toNat:Int)=_
 rw [BitVec.toNat_or,bits_nat (by omega),bits_nat (by omega),aY (by omega) (by omega)]
theorem mB {x y:Nat} (hx:x<2 ^ 62) (hy:y<2 ^ 62):bA .and .i64 x y=((x &&& y:Nat):Int):=by
 have h:x &&& y<2 ^ 62:=Nat.and_lt_two_pow _ hy
 show IntKind.wrap .i64 (((BitVec.ofInt 64 (x:Int)) &&& (BitVec.ofInt 64 (y:Int))).toNat:Int)=_
 rw [BitVec.toNat_and,bits_nat (by omega),bits_nat (by omega),aY (by omega) (by omega)]
theorem fW {a b:Nat} {K:Int→Prop} (hb:b≤64) (h:a * 2 ^ b<2 ^ 62) (hk:K ((a * 2 ^ b:Nat):Int)):mU .i64 a b K:=by
 refine ⟨by omega, ?_⟩
 have e:(a:Int) * 2 ^ (min (b:Int).toNat IntKind.i64.bits)=((a * 2 ^ b:Nat):Int):=by
  rw [Int.toNat_natCast,show IntKind.i64.bits=64 from rfl,Nat.min_eq_left hb]; simp
 rw [e,aY (by omega) (by omega)]; exact hk
theorem aEM {a b:Nat} {k:IntKind} {K:Int→Prop} (hb:b≤k.bits) (hk:K ((a / 2 ^ b:Nat):Int)):s9 k a b K:=by
 refine ⟨by omega, ?_⟩
 have e:(a:Int).fdiv (2 ^ (min (b:Int).toNat k.bits))=((a / 2 ^ b:Nat):Int):=by
  rw [Int.toNat_natCast,Nat.min_eq_left hb]
  have h2:((2:Int) ^ b)=((2 ^ b:Nat):Int):=by simp
  rw [h2,Int.fdiv_eq_ediv_of_nonneg _ (Int.natCast_nonneg (2 ^ b))] <;> rfl
 rw [e]; exact hk
theorem aQ7 {P:Program} {f:FuncId} {cargs:List Value} {w w0:World} {Fz:Nat→Prop} {μ:Mu} {own:Nat→Option Nat} {h:aA} {K:AV→aA→Prop} {av:AV} {v:Value} (hb:g8 P f=true) (R:Rel w0 Fz μ own h w)
  (hc:Calls P f cargs.toArray w fun e w'=>e = .returned v∧Below w.heap.size w w') (hv:aX μ av v) (hk:K av h):aII P f cargs w (iW w0 Fz μ K):=by
 refine .inl ⟨f,cargs.toArray,kH hb _ _,hc.mono fun e w' ⟨he,hb⟩=>⟨v,he,av,μ,own,h,hk,hv, ?_,Sub.refl _⟩⟩
 exact R.same (fun B hB=>hb.block B hB) hb.size hb.os hb.tape hb.output
end Go.GAM
namespace Go.GAM
open Go.RowKit
theorem wX {α β:Type} (f:α→β):∀ l:List α,(l.flatMap fun x=>[f x])=l.map f
 | []=>rfl
 | a :: l=>by rw [List.flatMap_cons,wX f l] <;> rfl
section
variable {H:Type} {enc:TypeId × Value→H} {P:Program} {w:World} {szOf:Nat→Nat}
end
theorem Rd.byte {h:aA} {v:AV} {l:List UInt8} {len:Nat} (R:Rd 1 h v (l.map byteAV) len) {k:IntKind} {i:Nat} {x:UInt8} (hx:l[i]? = some x) {K:Int→Prop} (hk:K (x.toNat:Int)) :
  aU 1 v (.i k (i:Int)) h fun a=>aD a h fun y=>asI .u8 y K:=by
 have hl:=R.length
 rw [List.length_map,Nat.mul_one] at hl
 exact R.cell Nat.one_pos (by have:=aV hx; omega) (c:=byteAV x) (by rw [Nat.mul_one,List.getElem?_map,hx] <;> rfl) (cY hk)
end Go.GAM
namespace Go.GAM
open Go.RowKit Go.ChangeShapes
section
variable {H:Type} {enc:TypeId × Value→H} {P:Program} {w:World} {szOf:Nat→Nat}
theorem aH1 {n:String} {d:DataW Unit} {l:List (String × DataW Unit)} (hm:(n,d)∈l) (hL:laidMet P l w) :
  ∃ g t cs fuel p,P.globalNamed n=some g∧(P.globals[g]?).map (·.type)=some t∧w.var? P n=some cs∧DataW.trod (fun _=>()) P w 0 (fun _=>true) false fuel t cs.toList=some (d,p):=by
 obtain ⟨ps,h,hx⟩:=hL
 clear hx
 induction l generalizing ps with
 | nil=>cases hm
 | cons x l ih =>
  obtain ⟨n',d'⟩:=x
  obtain ⟨g,t,cs,fuel,p,q,h1,h2,h3,h4,h5,h6⟩:=h
  rcases List.mem_cons.1 hm with h | h
  ·cases h; exact ⟨g,t,cs,fuel,p,h1,h2,h3,h4⟩
  ·exact ih h _ h5
theorem aLR {n:String} {g:Nat} {cs:Array Value} (hg:P.globalNamed n=some g) (hv:w.var? P n=some cs):∃ t fr,w.heap[g]? = some (.cells cs t fr):=by
 unfold World.var? at hv
 rw [hg] at hv
 simp only [Option.bind_some] at hv
 split at hv
 ·rename_i c t fr h
  cases hv
  exact ⟨t,fr,h⟩
 ·cases hv
end
theorem Rd.cutAt {sz:Nat} {h:aA} {v:AV} {cs:List AV} {len:Nat} (R:Rd sz h v cs len) (hz:0<sz) {lo:Option AV} {lo' hi:Nat} (hlo:lo=none∧lo'=0∨lo=some (.i .i64 lo')) (h1:lo'≤hi) (h2:hi≤len) (z1:sz=1:=by rfl) :
  ∃ v',Rd sz h v' ((cs.take (hi * sz)).drop (lo' * sz)) (hi - lo')∧∀ (K:AV→Prop),K v'→bW sz v lo (some (.i .i64 (hi:Int))) none h K:=by
 rcases R with ⟨rfl,h0,rfl⟩ | ⟨id,ver,off,cap,b,rfl,g2,g3,g4,g5,g6,g7⟩
 ·have : hi = 0 := by omega
  subst this
  have:lo'=0:=by omega
  subst this
  refine ⟨.sl none 0 none,.inl ⟨rfl,rfl,by simp⟩,fun K hk=>⟨by simp, ?_⟩⟩
  rcases hlo with ⟨rfl,_⟩ | rfl
  ·exact ⟨rfl,rfl,rfl,fun h=>by simp at h,hk⟩
  ·exact ⟨by simp,rfl,rfl,rfl,fun h=>by simp at h,hk⟩
 ·have e2 : hi * sz ≤ len * sz := Nat.mul_le_mul_right _ h2
  have e1:lo' * sz≤hi * sz:=Nat.mul_le_mul_right _ h1
  have e3:(hi - lo') * sz=hi * sz - lo' * sz:=Nat.sub_mul _ _ _
  refine ⟨.sl (some ⟨id,ver,off+lo' * sz⟩) (hi - lo') (cap.map (· - lo')),.inr ⟨id,ver,off+lo' * sz,_,b,rfl,g2,g3,g4,g5,by omega, ?_⟩,fun K hk=>?_⟩
  ·rw [← g7,List.take_take,Nat.min_eq_left e2,List.drop_take,List.drop_drop,e3]
  ·refine ⟨hz, fun h => by simp at h, by omega, ?_⟩
   rcases hlo with ⟨rfl,rfl⟩ | rfl
   ·exact ⟨by omega,b,g2,by omega,g4,.inl (g3.elim (fun x=>x) fun x=>x.trans z1.symm),.inl (by simpa using h2),by simpa using hk⟩
   ·exact ⟨by omega,by simpa using h1,b,g2,by omega,g4,.inl (g3.elim (fun x=>x) fun x=>x.trans z1.symm),.inl (by simpa using h2),by simpa using hk⟩
end Go.GAM
namespace Go.GAM
variable {ty:Option TypeId}
open Go.RowKit
theorem inc {i:Nat} {K:Int→Prop} (h:i<9223372036854775807) (hk:K ((i+1:Nat):Int)):aM (IntKind.wrap .i64 ((i:Int)+1)) K:=
 aT (n:=((i+1:Nat):Int)) (by rw [aY (by omega) (by omega)]; omega) hk
theorem bZ {e n:Int} {K:Int→Prop} (h:e=n) (h0 : -9223372036854775808≤n) (h1:n<9223372036854775808) (hk:K n):aM (IntKind.wrap .i64 e) K:=
 aT (by rw [h,aY h0 h1]) hk
theorem gT {α:Type} {l:List α} {i:Nat} {c:α} (hc:l[i]? = some c):l.take (i+1)=l.take i++[c]:=by
 rw [List.take_add_one,hc] <;> rfl
theorem aHZ {α:Type} {l r:List α} {i:Nat} {c:α} (h:l.drop i=c :: r):l[i]? = some c:=by
 have:(l.drop i)[0]? = some c:=by rw [h] <;> rfl
 simpa using this
theorem kJ {α:Type} {l:List α} {i:Nat} {c:α} (h:l[i]? = some c):l.drop i=c :: l.drop (i+1):=by
 have hi:=aV h
 rw [List.drop_eq_getElem_cons hi]
 rw [List.getElem?_eq_getElem hi] at h
 simp only [Option.some.injEq] at h
 rw [h]
theorem dV {R:a0} {f:Nat} {first cap vs:List AV} {h:aA} {K:AV→aA→Prop} (hf:Nat.blt f yid0=true) (hk:R f (first++vs++cap) h K):cL R (.fn (.func f) first cap) vs h K:=by
 unfold cL
 simp only
 unfold oF
 exact aN hf hk
theorem aHD (z:AV):∀ n,(List.replicate n [z]).flatten=List.replicate n z
 | 0=>rfl
 | n+1=>by rw [List.replicate_succ,List.flatten_cons,aHD z n,List.replicate_succ] <;> rfl
theorem wrap_u64 {n:Int} (h0:0≤n) (h1:n<18446744073709551616):IntKind.wrap .u64 n=n:=by
 have:IntKind.wrap .u64 n=n % 18446744073709551616:=by
  show n.emod (2 ^ 64)=_
  rfl
 rw [this]; omega
end Go.GAM
namespace Go.GAM
open Go.RowKit
theorem aI0 (z:Int):IntKind.wrap .i64 ((BitVec.ofInt 64 z).toNat:Int)=IntKind.wrap .i64 z:=by
 have e1:(2:Int) ^ 64=18446744073709551616:=by decide
 have e2:(2:Int) ^ (64 - 1)=9223372036854775808:=by decide
 have e3:((2 ^ 64:Nat):Int)=18446744073709551616:=by decide
 rw [BitVec.toNat_ofInt,e3]
 simp only [IntKind.wrap,IntKind.bits,IntKind.signed,Bool.true_and,decide_eq_true_eq,e1,e2]
 rw [Int.toNat_of_nonneg (by omega),Int.emod_emod_of_dvd _ (Int.dvd_refl _)]
theorem aT3 {a : Int} {c : Nat} (hc : c < 256) (h0 : -36028797018963968 ≤ a) (h1 : a < 36028797018963968) : bA .or .i64 (a * 256) (c : Int) = a * 256 + c := by
 show IntKind.wrap .i64 (((BitVec.ofInt 64 (a * 256)) ||| (BitVec.ofInt 64 (c:Int))).toNat:Int)=_
 have hX:BitVec.ofInt 64 (a * 256)=BitVec.ofInt 64 a <<< 8:=by
  rw [BitVec.ofInt_mul,BitVec.shiftLeft_eq_mul_twoPow] <;> rfl
 have hand:BitVec.ofInt 64 (a * 256) &&& BitVec.ofInt 64 (c:Int)=0#64:=by
  rw [hX]
  apply BitVec.eq_of_getLsbD_eq
  intro i hi
  rw [BitVec.getLsbD_and,BitVec.getLsbD_shiftLeft]
  by_cases h8:i<8
  ·simp [h8]
  ·have : (BitVec.ofInt 64 (c : Int)).getLsbD i = false := by
    rw [BitVec.getLsbD,bits_nat (by omega)]
    apply Nat.testBit_lt_two_pow
    have:2 ^ 8≤2 ^ i:=Nat.pow_le_pow_right (by omega) (by omega)
    omega
   rw [this]; simp
 rw [← BitVec.add_eq_or_of_and_eq_zero _ _ hand, ← BitVec.ofInt_add,aI0,aY (by omega) (by omega)]
end Go.GAM
namespace Go.GAM
open Go.RowKit
section
variable {P:Program} {α:Type} [DecidableEq α]
end
section
variable {P:Program}
end
end Go.GAM
namespace Go.GAM
def aVF (k:IntKind) (x:AV) (h:aA) (K:Int→Prop):Prop:=aD x h fun v=>asI k v K
def aVT (k:IntKind) (args:List AV) (h:aA) (K:AV→aA→Prop):Prop:=
 match args with
 | [x]=>aVF k x h fun n=>K (.i k n) h
 | _=>False
def aCD (args:List AV) (h:aA) (K:AV→aA→Prop):Prop:=
 match args with
 | [x]=>K x h
 | _=>False
section
variable {P:Program} {w0:World} {Fz:Nat→Prop} {μ:Mu} {own:Nat→Option Nat} {h:aA} {w:World}
theorem aPB {f:FuncId} {fn:Func} {ex:Array Value→Sem Value} (hf:P.funcs[f]? = some fn) (hn:(fn.name == "runtime.NumGoroutine")=false) (hb:fn.body.isNone=true)
  (h1:Extern.findNext fn=none) (h2:Extern.find fn=some ex) {args:Array Value} {v:Value} {w w':World} (he:(ex args).run P w = .ok v w'):(callFunc f args).run P w = .ok (.value v) w':=by
 have hn':fn.name ≠ "runtime.NumGoroutine":=by simpa using hn
 have hb':fn.body=none:=by simpa using hb
 have hm:∀ (m:Mark) (k:Sem Unit) (w:World),Sem.run P (Sem.mark m k) w=Sem.run P k w:=fun _ _ _=>rfl
 unfold callFunc
 simp [go_sem,hf,hn',hb',h1,h2,mark,hm,he]
def aJT (P : Program) (ex : Array Value → Sem Value) (X : List AV → aA → (AV → aA → Prop) → Prop) : Prop :=
 ∀ (w0 : World) (Fz : Nat → Prop) (μ : Mu) (own : Nat → Option Nat) (h : aA) (w : World) (args : List AV) (cargs : List Value) (K : AV → aA → Prop), Rel w0 Fz μ own h w → VRels μ args cargs → X args h K →
  ∃ cv w',(ex cargs.toArray).run P w = .ok cv w'∧iW w0 Fz μ K cv w'
structure aNO (P:Program) (f:FuncId) (ex:Array Value→Sem Value):Prop where
 is:∃ fn,P.funcs[f]? = some fn∧(fn.name == "runtime.NumGoroutine")=false∧fn.body.isNone=true∧Extern.findNext fn=none∧Extern.find fn=some ex
theorem aNO.sim {f:FuncId} {ex:Array Value→Sem Value} {X:List AV→aA→(AV→aA→Prop)→Prop} (A:aNO P f ex) (E:aJT P ex X) (hlt:f<yid0) {μb:Mu} {args:List AV} {h:aA} {K:AV→aA→Prop} (hk:X args h K):aKH P w0 Fz μb f args h K:=by
 intro μ own w cargs hsb R hc
 rw [if_pos hlt]
 obtain ⟨fn,h1,h2,h3,h4,h5⟩:=A.is
 obtain ⟨cv,w',e1,e2⟩:=E w0 Fz μ own h w args cargs K R hc hk
 exact .inr ⟨cv,w',aPB h1 h2 h3 h4 h5 e1,e2⟩
theorem aPI:aJT P Extern.AbiNoEscape.same aCD:=by
 intro w0 Fz μ own h w args cargs K R hc hk
 unfold aCD at hk
 split at hk
 ·rename_i x
  cases hc with | cons _ v _ _ hx t=>
  cases t
  exact ⟨v,w,rfl,_,μ,own,h,hk,hx,R,Sub.refl _⟩
 ·exact hk.elim
end
end Go.GAM
namespace Go.GAM
def iT (E:TypeId) (h:aA) (v:AV) (l:List UInt8):Prop:=
 (v = .sl none 0 none∧l=[])∨∃ id b,v = .sl (some ⟨id,l.length,0⟩) l.length none∧h[id]? = some b∧b.cells=l.map byteAV∧b.sz=1∧b.floor≤l.length∧b.ro=false∧b.ex=false∧b.gl=false∧b.ty=some E∧l≠[]
theorem iT.upd {E:TypeId} {M:Nat→Prop} {h h':aA} {v:AV} {l:List UInt8} (B:iT E h v l) (U:Upd M h h') (hM:∀ i,aQ v i→¬ M i):iT E h' v l:=by
 rcases B with B | ⟨id,b,rfl,h1,h2⟩
 ·exact .inl B
 ·exact .inr ⟨id,b,rfl,(U.2 id (aV h1) (hM id rfl)).trans h1,h2⟩
theorem iT.lt {E:TypeId} {h:aA} {v:AV} {l:List UInt8} (B:iT E h v l) {i:Nat} (hi:aQ v i):i<h.length:=by
 rcases B with ⟨rfl,_⟩ | ⟨id,b,rfl,h1,h2⟩
 ·exact hi.elim
 ·cases hi; exact aV h1
theorem iT.append {E:TypeId} {h:aA} {v x:AV} {l t:List UInt8} (B:iT E h v l) (hx:∀ K:List AV→Nat→Prop,K (t.map byteAV) t.length→fH 1 x h K) (hlen:l.length+t.length≤140737488355328) {K:AV→aA→Prop}
  (hk:∀ v' h',Upd (aQ v) h h'→iT E h' v' (l++t)→(∀ i,aQ v' i→aQ v i∨h.length≤i)→K v' h'):bU (some E) 1 1 v x h K:=by
 refine ⟨by decide,hx _ ?_⟩
 have hok:(t.map byteAV).all AV.cellOK=true:=by
  rw [List.all_eq_true]; intro x hx
  obtain ⟨c,_,rfl⟩:=List.mem_map.1 hx
  rfl
 rcases B with ⟨rfl,rfl⟩ | ⟨id,b,rfl,h1,h2,h3,h4,h5,h6,h7,h8,h9⟩
 ·refine ⟨by simp only [List.length_nil] at hlen; omega, by simp only [List.length_nil] at hlen; omega, ?_⟩
  by_cases ht:t=[]
  ·subst ht
   show K (.sl none 0 none) h
   exact hk _ _ (Upd.refl _ _) (.inl ⟨rfl,rfl⟩) fun i hi=>.inl hi
  ·have htl : t.length ≠ 0 := by simpa using ht
   rw [if_neg htl]
   refine hk _ _ ((Upd.app _ _).mono fun _ _ h=>h.elim) (.inr ⟨h.length,bC (t.map byteAV) 1 false (some E),by simp,by simp,rfl,rfl,by simp [bC],rfl,rfl,rfl,rfl,by simpa using ht⟩) fun i hi=>.inr ?_
   cases hi; exact Nat.le_refl _
 ·have hidl := aV h1
  have hbl:b.cells.length=l.length:=by rw [h2]; simp
  have hll:0<l.length:=List.length_pos_iff.2 h9
  refine ⟨by omega,by omega,b,h1,h3,⟨h4,by rw [hbl]; exact Nat.le_refl _,by simp⟩, ?_⟩
  by_cases ht:t=[]
  ·subst ht
   left
   exact ⟨rfl,hk _ _ (Upd.refl _ _) (.inr ⟨id,b,by simp,h1,by simpa using h2,h3,by simpa using h4,h5,h6,h7,h8,by simpa using h9⟩) fun i hi=>.inl hi⟩
  ·have htl : 0 < t.length := List.length_pos_iff.2 ht
   right; right; right; left
   refine ⟨htl,h5,hbl.symm,rfl,by rw [hbl]; simp,rfl,h6,h7,hok, ?_⟩
   have hty:gW b.ty (some E)=some E:=by rw [h8]; simp [gW]
   refine hk _ _ ((Upd.set _ _ _).mono fun i _ h=>h.symm) (.inr ⟨id,{ b with cells:=b.cells++t.map byteAV,ty:=gW b.ty (some E) },by simp [hbl],List.getElem?_set_self hidl,by simp [h2],h3,by simp; omega,h5,h6,h7,hty,by simp [h9]⟩) fun i hi=>.inl ?_
   exact hi
structure jC (P:Program) (T E:TypeId) (h:aA) (id off:Nat) (cs:List AV) (buf:AV) (l:List UInt8):Prop where
 blk:∃ b t,h[id]? = some b∧b.cells=cs∧b.floor≤cs.length∧b.ro=false∧b.ty=some t∧liesAt P P.depth t (cs.length / P.cellsOf t) off T 1=true
 room:off+1<cs.length
 addr:cs[off]? = some (.p none)∨cs[off]? = some (.p (some ⟨id,cs.length,off⟩))
 cell:cs[off+1]? = some buf
 is:iT E h buf l
 own:¬ aQ buf id
section
variable {P:Program} {T E:TypeId} {h:aA} {id off:Nat} {cs:List AV} {buf:AV} {l:List UInt8}
theorem jC.rec' (B:jC P T E h id off cs buf l):aZ h id cs:=by
 obtain ⟨b,t,h1,h2,h3,h4,_⟩:=B.blk
 exact ⟨b,h1,h2,h3,h4⟩
theorem jC.lt (B:jC P T E h id off cs buf l):id<h.length:=B.rec'.lt
theorem jC.upd {M:Nat→Prop} {h':aA} (B:jC P T E h id off cs buf l) (U:Upd M h h') (h1:¬ M id) (h2:∀ i,aQ buf i→¬ M i):jC P T E h' id off cs buf l:=by
 have hl:=B.lt
 obtain ⟨b,t,g1,g2⟩:=B.blk
 exact ⟨⟨b,t,(U.2 id hl h1).trans g1,g2⟩,B.room,B.addr,B.cell,B.is.upd U h2,B.own⟩
theorem jC.store {v:AV} {o:Nat} {K:aA→Prop} (B:jC P T E h id off cs buf l) (ho:o<cs.length) (hv:v.parts=[v]) (hs:v.sizeOK=true) (hc:v.cellOK=true)
  {buf':AV} {l':List UInt8} (ha:(cs.set o v)[off]? = some (.p none)∨(cs.set o v)[off]? = some (.p (some ⟨id,cs.length,off⟩))) (hb:(cs.set o v)[off+1]? = some buf') (hi:iT E h buf' l') (hn:¬ aQ buf' id)
  (hk:∀ h',h'.length=h.length→Upd (· = id) h h'→jC P T E h' id off (cs.set o v) buf' l'→K h'):aP 1 (.p (some ⟨id,cs.length,o⟩)) v h K:=by
 have hl:=B.lt
 obtain ⟨b,t,h1,rfl,h3,h4,h5,h6⟩:=B.blk
 refine ⟨b,h1,h4,h3,rfl,(by show o+1≤b.cells.length; omega),hs,by rw [hv] <;> rfl,by rw [hv]; simp [hc], ?_⟩
 have hU:Upd (· = id) h (h.set id { b with cells:=wr b.cells o v.parts,floor:=b.cells.length }):=Upd.set _ _ _
 refine hk _ (by simp) hU ⟨⟨_,t,List.getElem?_set_self hl, ?_, ?_,h4,h5,by simpa using h6⟩,by simpa using B.room,by simpa using ha,hb,hi.upd hU fun i hi hid=>hn (hid ▸ hi),hn⟩
 ·rw [hv] <;> rfl
 ·simp
theorem jC.put {h3:aA} {v:AV} {l':List UInt8} {K:aA→Prop} (B:jC P T E h id off cs buf l) (U:Upd (aQ buf) h h3) (hi:iT E h3 v l') (hn:¬ aQ v id)
  (hk:∀ h',h'.length=h3.length→Upd (· = id) h3 h'→jC P T E h' id off (cs.set (off+1) v) v l'→K h'):aP 1 (.p (some ⟨id,cs.length,off+1⟩)) v h3 K:=by
 have hl:=B.lt
 have hr:=B.room
 have hv:v.parts=[v]∧v.sizeOK=true∧v.cellOK=true:=by
  rcases hi with ⟨rfl,_⟩ | ⟨_,_,rfl,_⟩ <;> exact ⟨rfl,rfl,rfl⟩
 obtain ⟨b,t,h1,rfl,h3',h4,h5,h6⟩:=B.blk
 have g1:h3[id]? = some b:=(U.2 id hl B.own).trans h1
 refine ⟨b,g1,h4,h3',rfl,(by show off+1+1≤b.cells.length; omega),hv.2.1,by rw [hv.1] <;> rfl,by rw [hv.1]; simp [hv.2.2], ?_⟩
 have hU:Upd (· = id) h3 (h3.set id { b with cells:=wr b.cells (off+1) v.parts,floor:=b.cells.length }):=Upd.set _ _ _
 have e:wr b.cells (off+1) v.parts=b.cells.set (off+1) v:=by rw [hv.1] <;> rfl
 refine hk _ (by simp) hU ⟨⟨_,t,List.getElem?_set_self (aV g1),e, ?_,h4,h5,by simpa using h6⟩,by simpa using hr, ?_,List.getElem?_set_self hr,hi.upd hU fun i hi hid=>hn (hid ▸ hi),hn⟩
 ·simp
 ·rw [List.getElem?_set_ne (by omega),List.length_set]; exact B.addr
theorem aLA {n o:Nat} {K:AV→Prop} (R:aZ h id cs) (hn:n=cs.length) (ho:o<cs.length) (hk:K (.p (some ⟨id,n,o⟩))):nH (.p (some ⟨id,n,o⟩)) h K:=by
 obtain ⟨b,h1,rfl,h3,h4⟩:=R
 subst hn
 exact ⟨b,h1,⟨h3,Nat.le_refl _,ho⟩,hk⟩
theorem jC.fromUnsafe {K:AV→Prop} (B:jC P T E h id off cs buf l) (hk:K (.p (some ⟨id,cs.length,off⟩))):eL P T (.p (some ⟨id,cs.length,off⟩)) h K:=by
 obtain ⟨b,t,h1,rfl,h3,h4,h5,h6⟩:=B.blk
 exact ⟨b,t,h1,h5,h3,rfl,h6,hk⟩
theorem kN {t:TypeId} {K:AV→Prop} (ht:lF P t=true) (hk:K (.b true)):cI P .eql t (.p none) (.p none) K:=by
 simp only [cI,ht,cond_true]; exact hk
theorem cF {t:TypeId} {a:AA} {K:AV→Prop} (ht:lF P t=true) (hk:K (.b false)):cI P .eql t (.p (some a)) (.p none) K:=by
 simp only [cI,ht,cond_true]; exact hk
theorem aLF {t:TypeId} {a:AA} {K:AV→Prop} (ht:aDB P t=true) (hk:K (.b false)):cI P .neq t (.p (some a)) (.p (some a)) K:=by
 simp only [cI,ht,Nat.beq_refl,Bool.and_self,cond_true]; exact hk
def aO4 (v:AV):AV:=match v with | .sl (some a) _ _=>.p (some a) | _=>.p none
theorem iT.data {v:AV} {l:List UInt8} {K:AV→aA→Prop} (B:iT E h v l) (hk:K (aO4 v) h):iA v h K:=by
 rcases B with ⟨rfl,rfl⟩ | ⟨id,b,rfl,h1,h2,h3,h4,h5,h6,h7,h8,h9⟩
 ·exact hk
 ·exact ⟨List.length_pos_iff.2 h9,hk⟩
theorem iT.text {v : AV} {l : List UInt8} {K : AV → aA → Prop} (B : iT E h v l) (hE : P.underlying E = some (.int .u8)) (hc : P.cellsOf E = 1) (hl : l.length ≤ 9223372036854775807) (hk : ∀ h', h'.length = h.length → Upd (aQ v) h h' → K (.s l) h') :
  mH P (aO4 v) (.i .i64 (l.length:Int)) h K:=by
 rcases B with ⟨rfl,rfl⟩ | ⟨id,b,rfl,h1,h2,h3,h4,h5,h6,h7,h8,h9⟩
 ·exact ⟨rfl,hk _ rfl (Upd.refl _ _)⟩
 ·have hpos := List.length_pos_iff.2 h9
  have hbl:b.cells.length=l.length:=by rw [h2]; simp
  have e:(b.cells.drop 0).take l.length=l.map byteAV:=by rw [List.drop_zero,List.take_of_length_le (by omega),h2]
  refine ⟨b,E,h1,h8,hE,hc,by omega,by omega,h5,by omega,hbl.symm,by simp [hbl], ?_, ?_⟩
  ·simp only [Int.toNat_natCast, e]
   rw [List.all_eq_true]; intro x hx
   obtain ⟨c,_,rfl⟩:=List.mem_map.1 hx
   rfl
  ·simp only [Int.toNat_natCast, e]
   have:(l.map byteAV).map toByte=l:=by
    rw [List.map_map]
    conv=>rhs; rw [← List.map_id l]
    refine List.map_congr_left fun c _=>?_
    simp [byteAV,toByte]
   rw [this]
   exact hk _ (by simp) ((Upd.set _ _ _).mono fun i _ h=>h.symm)
end
end Go.GAM
namespace Go.GAM
abbrev zV:=List AV→aA→(AV→aA→Prop)→Prop
def nK:zV:=fun args h K=>∃ (l:List UInt8) (c:UInt8),args=[.s l,.i .u8 (c.toNat:Int)]∧K (.i .i64 (Lib.indexByte l c)) h
def aNF (T:List (FuncId × zV)):a0:=fun f args h K=>∃ X,(f,X)∈T∧X args h K
section
variable {P:Program} {w0:World} {Fz:Nat→Prop} {μ:Mu} {own:Nat→Option Nat} {h:aA} {w:World}
theorem aL1 {μ:Mu} {l:List UInt8} {n:Int} {cargs:List Value} (h:VRels μ [.s l,.i .u8 n] cargs):∃ x:ByteArray,x.data.toList=l∧cargs=[.string x,.int .u8 n]:=by
 cases h with
 | cons _ _ _ _ a t =>
  cases t with
  | cons _ _ _ _ b t2 =>
   cases t2; cases b
   cases a with
   | s _ x hx=>exact ⟨x,hx,rfl⟩
theorem aBQ:aJT P Extern.BytealgIndexByte.indexByte nK:=by
 rintro w0 Fz μ own h w args cargs K R hc ⟨l,c,rfl,hk⟩
 obtain ⟨x,rfl,rfl⟩:=aL1 hc
 refine ⟨_,w,Lib.run_indexByteString x c.toNat w,_,μ,own,h, ?_,.i _ _,R,Sub.refl _⟩
 have:((c.toNat:Int).toNat).toUInt8=c:=by simp
 rw [this]; exact hk
def aU8 (P:Program) (r:FuncId × zV):Prop:=r.1<yid0∧∃ ex,aNO P r.1 ex∧aJT P ex r.2
theorem aHT {T:List (FuncId × zV)} (hT:∀ r∈T,aU8 P r):lC P (aNF T):=by
 rintro w0 Fz μb f args h K ⟨X,hm,hk⟩
 obtain ⟨hlt,ex,hA,hE⟩:=hT _ hm
 exact hA.sim hE hlt hk
end
open Go.RowKit in
theorem aGT {P:Program} {X:a0} (hm:P.follows .mixedOrders=true) (hsz:P.funcs.size≤yid0) {w:World} (hX:cA P w (fun B=>B<w.heap.size) (fun _ _=>none) X) {f:FuncId} (hb:g8 P f=true) {szOf:Nat→Nat} {avs:List AV} {args:Array Value}
  (hv:VRels (muC w szOf) avs args.toList) (hk:fA P X f avs (jB w szOf) Yes):Calls P f args w fun e w'=>e = .returned (.bool true)∧Below w.heap.size w w':=by
 have hlt:f<yid0:=by
  unfold g8 at hb
  split at hb
  ·rename_i fn hf; exact Nat.lt_of_lt_of_le (Array.getElem?_eq_some_iff.1 hf).1 hsz
  ·cases hb
 have hs:=iE hm hsz hX f avs _ _ hk (muC w szOf) (aN5 w) w args.toList (fun _ _ _ h=>by cases h) (aK9 w szOf) hv
 rw [if_pos hlt] at hs
 have hrun:=kH hb args w
 rcases hs with ⟨g,as',h1,h2⟩ | ⟨v,w',h1,h2⟩
 ·rw [Array.toArray_toList, hrun] at h1
  cases h1
  refine h2.mono fun e w' ⟨v,he,v',μ',own',h',g1,g2,g3,g4⟩=>?_
  subst he
  have g1:v' = .b true:=g1
  subst g1
  cases g2
  exact ⟨rfl,g3.os,g3.tape,g3.output,g3.size0,fun k hk=>(g3.fz k hk).2⟩
 ·rw [Array.toArray_toList,hrun] at h1; cases h1
end Go.GAM
set_option maxRecDepth 20000
namespace Go.Proofs.YtfoekpcljhbijaaGreatDoor
open Go.GAM
theorem mixedOK:prog.follows .mixedOrders=true:=by kernel_rfl
theorem sizeOK:prog.funcs.size≤yid0:=Nat.le_of_ble_eq_true (by kernel_rfl)
noncomputable def aU1 (f:FuncId):Func:=(prog.funcs[f]?).getD default
def xY:List (FuncId × zV):=[(Y105.id,nK),(Y104.id,aCD)]
theorem aRZ:∀ r∈xY,aU8 prog r:=by
 intro r hr
 simp only [xY,List.mem_cons,List.not_mem_nil,or_false] at hr
 rcases hr with rfl | rfl
 ·exact ⟨by decide,_,⟨⟨aU1 Y105.id,by kernel_rfl,by kernel_rfl,by kernel_rfl,by kernel_rfl,by kernel_rfl⟩⟩,aBQ⟩
 ·exact ⟨by decide,_,⟨⟨aU1 Y104.id,by kernel_rfl,by kernel_rfl,by kernel_rfl,by kernel_rfl,by kernel_rfl⟩⟩,aPI⟩
theorem j7:lC prog (aNF xY):=aHT aRZ
theorem Y105.row:(Y105.id,nK)∈xY:=by simp only [xY,List.mem_cons,true_or,or_true]
theorem Y104.row:(Y104.id,aCD)∈xY:=by simp only [xY,List.mem_cons,true_or,or_true]
end Go.Proofs.YtfoekpcljhbijaaGreatDoor
namespace Go.GAM
open Go.RowKit Go.ChangeShapes
section
variable {H:Type} {enc:TypeId × Value→H} {P:Program} {w:World} {szOf:Nat→Nat}
theorem aEZ {x : Addr} {len cap sz : Nat} {vs : List Value} (hl : len ≤ cap) (hc0 : cap ≠ 0) (hz : 0 < sz) (hs : szOf x.block ≤ sz) (hlen : vs.length = cap * sz) (hv : ∀ i, i < vs.length → w.cell? (x.add i) = some (vs.getD i undef)) :
  ∃ ver b,kL w szOf (.slice (some x) len cap) = .sl (some ⟨x.block,ver,x.off⟩) len (some cap)∧(jB w szOf)[x.block]? = some b∧b.floor≤ver∧ver≤b.cells.length∧x.off+len * sz≤ver∧(b.cells.drop x.off).take (len * sz)=(vs.take (len * sz)).map (kL w szOf):=by
 obtain ⟨B,off,spot⟩:=x
 simp only at hs ⊢
 have hpos:0<vs.length:=by rw [hlen]; exact Nat.mul_pos (by omega) hz
 have cellAdd:∀ i v,spot=none→w.cell? ((⟨B,off,spot⟩:Addr).add i)=some v→∃ c el fr,w.heap[B]? = some (.cells c el fr)∧c[off+i]? = some v:=by
  intro i v hs h
  subst hs
  have e:(⟨B,off,none⟩:Addr).add i=⟨B,off+i,none⟩:=by
   unfold Addr.add
   by_cases hi:i=0
   ·subst hi; simp
   ·simp [hi]
  rw [e] at h
  unfold World.cell? at h
  split at h
  ·rename_i c el fr hh
   exact ⟨c,el,fr,hh,by simpa using h⟩
  ·cases h
 have hsp:spot=none:=by
  have h0:=hv 0 hpos
  unfold World.cell? at h0
  split at h0
  ·cases spot with
   | none=>rfl
   | some s=>simp [Addr.add] at h0
  ·cases h0
 subst hsp
 obtain ⟨c,el,fr,hh,_⟩:=cellAdd 0 _ rfl (hv 0 hpos)
 ·have hcell : ∀ i, i < vs.length → c[off + i]? = some (vs.getD i undef) := fun i hi => by
   obtain ⟨c',el',fr',h1,h2⟩:=cellAdd i _ rfl (hv i hi)
   rw [hh] at h1; cases h1; exact h2
  have hsize:off+cap * sz≤c.size:=by
   have:=hcell (vs.length - 1) (by omega)
   have:=(Array.getElem?_eq_some_iff.1 this).1
   omega
  have hshape:w.shape? B=some (el,c.size):=by unfold World.shape?; rw [hh]
  have hlc:len * sz≤cap * sz:=Nat.mul_le_mul_right _ hl
  have hsz2:cap * szOf B≤cap * sz:=Nat.mul_le_mul_left _ hs
  refine ⟨c.size,lQ w szOf B, ?_,z6 (pZ hshape), ?_, ?_,by omega, ?_⟩
  ·simp only [kL, uL]
   rw [if_neg hc0,hshape]
   simp only
   rw [if_pos ⟨hl,by omega⟩]
  ·unfold lQ; rw [hh]; exact Nat.le_refl _
  ·unfold lQ; rw [hh]; simp
  ·unfold lQ; rw [hh]
   simp only
   apply List.ext_getElem?
   intro i
   by_cases hi:i<len * sz
   ·rw [List.getElem?_take_of_lt hi, List.getElem?_drop, List.getElem?_map, Array.getElem?_toList, hcell i (by omega), List.getElem?_map, List.getElem?_take_of_lt hi]
    rw [List.getD_eq_getElem?_getD,List.getElem?_eq_getElem (by omega:i<vs.length)]
    first | done | rfl
   ·rw [List.getElem?_eq_none (by simp; omega),List.getElem?_eq_none (by simp; omega)]
theorem aL9 {held : Bool} {t e : TypeId} {fuel : Nat} {cs : List Value} {x : DataW H × List MemPlace} (ht : P.underlying t = some (.slice e)) (h : DataW.trod enc P w 0 (fun _ => true) held fuel t cs = some x) :
  cs=[.slice none 0 0]∧x.1 = .nil∨∃ (a:Addr) (len cap n:Nat) (rows:List (List Value)) (ds rs:List (DataW H)),fuel=n+1∧cs=[.slice (some a) len cap]∧x.1 = .slice ds rs∧ds.length=len∧len≤cap∧cap≤maxLen∧rows.length=cap ∧
   (∀ r∈rows,r.length=P.cellsOf e∧∃ y,DataW.trod enc P w 0 (fun _=>true) held n e r=some y)∧(∀ (i:Nat) (r:List Value) (d:DataW H),rows[i]? = some r→ds[i]? = some d→∃ p,DataW.trod enc P w 0 (fun _=>true) held n e r=some (d,p))∧∀ i,i<rows.flatten.length→w.cell? (a.add i)=some (rows.flatten.getD i undef):=by
 rcases DataW.trod_slice ht h with ⟨h0,h1⟩ | ⟨a,len,cap,elems,rest,n,hf,rfl,hx,hb,hl,hm,hlen,hel,hsp,hns⟩
 ·exact .inl ⟨h0,by rw [h1]⟩
 right
 have each:∀ i,i<cap→∃ r,w.cells? 0 (a.add (i * P.cellsOf e)) (P.cellsOf e)=some r∧∃ y,DataW.trod enc P w 0 (fun _=>true) held n e r=some y∧(i<len→elems[i]? = some y):=by
  intro i hi
  have hb':∃ y,(w.cells? 0 (a.add (i * P.cellsOf e)) (P.cellsOf e)).bind (DataW.trod enc P w 0 (fun _=>true) held n e)=some y∧(i<len→elems[i]? = some y):=by
   by_cases h1:i<len
   ·rw [hel i h1]
    exact ⟨_,List.getElem?_eq_getElem (by omega),fun _=>List.getElem?_eq_getElem (by omega)⟩
   ·obtain ⟨h2, h3⟩ := hsp rfl
    have:=h3 (i - len) (by omega)
    rw [show len+(i - len)=i by omega] at this
    rw [this]
    exact ⟨_,List.getElem?_eq_getElem (by omega),fun h=>absurd h h1⟩
  obtain ⟨y,hy,hy2⟩:=hb'
  obtain ⟨r,h1,h2⟩:=Option.bind_eq_some_iff.1 hy
  exact ⟨r,h1,y,h2,hy2⟩
 refine ⟨a,len,cap,n,(List.range cap).map fun i=>(w.cells? 0 (a.add (i * P.cellsOf e)) (P.cellsOf e)).getD [],elems.map (·.1),rest.map (·.1),hf,rfl,by rw [hx],by simp [hlen],hl,hm,by simp, ?_, ?_, ?_⟩
 ·intro r hr
  obtain ⟨i,hi,rfl⟩:=List.mem_map.1 hr
  obtain ⟨r,h1,y,h2,_⟩:=each i (by simpa using hi)
  rw [h1]
  exact ⟨(World.cells?_some h1).2.1,y,h2⟩
 ·intro i r d hr hd
  simp only [List.getElem?_map,Option.map_eq_some_iff] at hr hd
  obtain ⟨i',hi',rfl⟩:=hr
  obtain ⟨hlt,rfl⟩:=List.getElem?_eq_some_iff.1 hi'
  rw [List.getElem_range]
  obtain ⟨y,hy,rfl⟩:=hd
  obtain ⟨r,h1,y',h2,h3⟩:=each i (by simpa using hlt)
  have hil:i<elems.length:=(List.getElem?_eq_some_iff.1 hy).1
  have:=h3 (by omega)
  rw [hy] at this
  cases this
  rw [h1]
  exact ⟨y.2,h2⟩
 ·have := zL (w := w) (a := a) (sz := P.cellsOf e) ((List.range cap).map fun i => (w.cells? 0 (a.add (i * P.cellsOf e)) (P.cellsOf e)).getD []) 0 (fun i r hi => by
   simp only [List.getElem?_map,Option.map_eq_some_iff] at hi
   obtain ⟨i',hi',rfl⟩:=hi
   obtain ⟨hlt,rfl⟩:=List.getElem?_eq_some_iff.1 hi'
   rw [List.getElem_range]
   obtain ⟨r,h1,_⟩:=each i (by simpa using hlt)
   rw [h1]
   have hs:=World.cells?_some h1
   refine ⟨hs.2.1,fun j hj=>?_⟩
   have:=hs.2.2 j hj
   rw [Addr.add_add] at this
   rw [Nat.zero_add,this]
   simp [hs.2.1,hj])
  simpa using this
end
end Go.GAM
namespace Go.GAM
open Go.RowKit Go.ChangeShapes
theorem Upd.own {h h1 h2:aA} {id:Nat} (a:Upd (fun _=>False) h h1) (b:Upd (· = id) h1 h2) (hid:h.length≤id):Upd (fun _=>False) h h2:=a.trans b fun i hi e=>by omega
theorem Upd.ownP {M:Nat→Prop} {h h1 h2:aA} (a:Upd (fun _=>False) h h1) (b:Upd M h1 h2) (hM:∀ i,M i→h.length≤i):Upd (fun _=>False) h h2:=a.trans b fun i hi e=>by have:=hM i e; omega
theorem Upd.then {h h1 h2:aA} (a:Upd (fun _=>False) h h1) (b:Upd (fun _=>False) h1 h2):Upd (fun _=>False) h h2:=a.trans b fun _ _ h=>h
theorem aGX {zeros cs:List AV} {parts:List (Nat × Nat × AV)} {K:AV→Prop} (hf:eZ zeros parts=some cs) (hk:K (.ag cs)):f9 zeros parts K:=by
 unfold f9; rw [hf]; exact hk
def RdI (sz:Nat) (h:aA) (v:AV) (cs:List AV) (len:Nat):Prop:=
 (v = .sl none 0 none∧len=0∧cs=[])∨(len=0∧cs=[]∧∃ a c,v = .sl (some a) 0 c)∨∃ id ver off cap b,v = .sl (some ⟨id,ver,off⟩) len cap∧h[id]? = some b∧b.floor≤ver∧ver≤b.cells.length∧off+len * sz≤ver∧(b.cells.drop off).take (len * sz)=cs
theorem Rd.i {sz:Nat} {h:aA} {v:AV} {cs:List AV} {len:Nat} (R:Rd sz h v cs len):RdI sz h v cs len:=by
 rcases R with h1 | ⟨id,ver,off,cap,b,h1,h2,h3,h4⟩
 ·exact .inl h1
 ·exact .inr (.inr ⟨id,ver,off,cap,b,h1,h2,h4⟩)
theorem RdI.ext {sz:Nat} {h h':aA} {v:AV} {cs:List AV} {len:Nat} (R:RdI sz h v cs len) (U:Upd (fun _=>False) h h'):RdI sz h' v cs len:=by
 rcases R with h1 | h1 | ⟨id,ver,off,cap,b,rfl,h2,h3⟩
 ·exact .inl h1
 ·exact .inr (.inl h1)
 ·exact .inr (.inr ⟨id,ver,off,cap,b,rfl,(U.2 id (aV h2) fun h=>h).trans h2,h3⟩)
theorem RdI.len {sz:Nat} {h:aA} {v:AV} {cs:List AV} {len:Nat} (R:RdI sz h v cs len) {K:Int→Prop} (hk:K len):bR v K:=by
 rcases R with ⟨rfl,rfl,rfl⟩ | ⟨rfl,_,a,c,rfl⟩ | ⟨id,ver,off,cap,b,rfl,h2⟩ <;> exact hk
def aK8 (sz:Nat) (h:aA) (p:AV) (cs:List AV):Prop:=∃ id ver off,p = .p (some ⟨id,ver,off⟩)∧∃ b:ABlk,h[id]? = some b∧b.floor≤ver∧ver≤b.cells.length∧off+sz≤ver∧(b.cells.drop off).take sz=cs
theorem RdI.at {sz:Nat} {h:aA} {v:AV} {cs:List AV} {len:Nat} (R:RdI sz h v cs len) {i:Nat} (h1:i<len):∃ p,aK8 sz h p ((cs.drop (i * sz)).take sz)∧∀ (k:IntKind) (h':aA) (K:AV→Prop),Upd (fun _=>False) h h'→K p→aU sz v (.i k (i:Int)) h' K:=by
 rcases R with ⟨rfl,rfl,rfl⟩ | ⟨rfl,_⟩ | ⟨id,ver,off,cap,b,rfl,h2,h4,h5,h6,rfl⟩
 ·omega
 ·omega
 ·have e1 : (i + 1) * sz ≤ len * sz := Nat.mul_le_mul_right _ (by omega)
  rw [Nat.add_mul] at e1
  refine ⟨.p (some ⟨id,ver,off+i * sz⟩),⟨id,ver,off+i * sz,rfl,b,h2,h4,h5,by omega, ?_⟩,fun k h' K U hk=>?_⟩
  ·rw [List.drop_take,List.drop_drop,List.take_take,Nat.min_eq_left (by omega)]
  ·refine ⟨by omega, by omega, ⟨b, (U.2 id (aV h2) fun h => h).trans h2, h4, by omega⟩, ?_⟩
   simpa using hk
theorem aK8.ext {sz:Nat} {h h':aA} {p:AV} {cs:List AV} (A:aK8 sz h p cs) (U:Upd (fun _=>False) h h'):aK8 sz h' p cs:=by
 obtain ⟨id,ver,off,rfl,b,h1,h2⟩:=A
 exact ⟨id,ver,off,rfl,b,(U.2 id (aV h1) fun h=>h).trans h1,h2⟩
theorem aK8.load1 {h:aA} {p:AV} {c:AV} (A:aK8 1 h p [c]) {K:AV→Prop} (hk:K c):aD p h K:=by
 obtain ⟨id,ver,off,rfl,b,h1,h2,h3,h4,h5⟩:=A
 refine ⟨b,h1,⟨h2,h3,h4⟩, ?_⟩
 have:b.cells[off]? = some c:=by
  have:((b.cells.drop off).take 1)[0]? = some c:=by rw [h5] <;> rfl
  rw [List.getElem?_take_of_lt (by omega),List.getElem?_drop] at this
  simpa using this
 show K (b.cells.getD off .u)
 rw [getD_some this]; exact hk
theorem RdI.str {h h':aA} {v:AV} {l:List (List UInt8)} (R:RdI 1 h v (l.map .s) l.length) (U:Upd (fun _=>False) h h') {k:IntKind} {i:Nat} {x:List UInt8} (hx:l[i]? = some x) {K:List UInt8→Prop} (hk:K x):aU 1 v (.i k (i:Int)) h' fun a=>aD a h' fun y=>asS y K:=by
 obtain ⟨p,A,hp⟩:=R.at (aV hx)
 have e:((l.map AV.s).drop (i * 1)).take 1=[.s x]:=by
  rw [Nat.mul_one, ← List.map_drop,kJ hx] <;> rfl
 rw [e] at A
 exact hp k h' _ U ((A.ext U).load1 (bM hk))
theorem RdI.news {sz:Nat} {h:aA} {v:AV} {cs:List AV} {len:Nat} (R:RdI sz h v cs len) {K:List AV→Nat→Prop} (hk:K cs len):fH sz v h K:=by
 rcases R with ⟨rfl,rfl,rfl⟩ | ⟨rfl,rfl,a,c,rfl⟩ | ⟨id,ver,off,cap,b,rfl,h2,h3,h4,h5,h6⟩
 ·exact hk
 ·exact .inl ⟨rfl,hk⟩
 ·refine .inr ⟨b, h2, ⟨h3, h4, h5⟩, ?_⟩
  rw [h6]; exact hk
section
variable {H:Type} {enc:TypeId × Value→H} {P:Program} {w:World} {t:TypeId} {cs:List Value}
def InW (enc:TypeId × Value→H) (P:Program) (w:World) (t:TypeId) (cs:List Value):Prop:=
 ∃ fuel d p,DataW.trod enc P w 0 (fun _=>true) true fuel t cs=some (d,p)∧∀ m∈d.weights P t,m≤reachBytes
theorem iS {m:Nat}:∀ (ts:List TypeId) (ds:List (DataW H)) (i:Nat) (t:TypeId) (d:DataW H),ts[i]? = some t→ds[i]? = some d→m∈d.weights P t→m∈DataW.weightsEach P ts ds
 | [],_,_,_,_,h,_,_=>by simp at h
 | _ :: _,[],_,_,_,_,h,_=>by simp at h
 | t' :: ts, d' :: ds, 0, t, d, h1, h2, h => by
  simp at h1 h2; subst h1; subst h2
  unfold DataW.weightsEach
  exact List.mem_append_left _ h
 | t' :: ts, d' :: ds, i + 1, t, d, h1, h2, h => by
  unfold DataW.weightsEach
  exact List.mem_append_right _ (iS ts ds i t d (by simpa using h1) (by simpa using h2) h)
theorem pD {m:Nat} {e:TypeId}:∀ (ds:List (DataW H)) (d:DataW H),d∈ds→m∈d.weights P e→m∈DataW.weightsAll P e ds
 | [],_,h,_=>by cases h
 | d' :: ds, d, h1, h => by
  unfold DataW.weightsAll
  rcases List.mem_cons.1 h1 with rfl | h1
  ·exact List.mem_append_left _ h
  ·exact List.mem_append_right _ (pD ds d h1 h)
theorem aF9:reachBytes=140737488351232:=by unfold reachBytes; rfl
theorem InW.str (ht:P.underlying t=some .string) (h:InW enc P w t cs):∃ s:ByteArray,cs=[.string s]∧s.data.toList.length≤140737488351232:=by
 obtain ⟨fuel,d,p,h1,h2⟩:=h
 obtain ⟨s,e1,e2,_⟩:=DataW.trod_string ht h1
 refine ⟨s,e1, ?_⟩
 cases e2
 have:=h2 s.data.toList.length (by unfold DataW.weights; exact List.mem_singleton.2 rfl)
 rw [aF9] at this; exact this
theorem InW.int {k:IntKind} (ht:P.underlying t=some (.int k)) (h:InW enc P w t cs):∃ n,cs=[.int k n]∧(Lit.int k n).wf=true:=by
 obtain ⟨fuel,d,p,h1,h2⟩:=h
 obtain ⟨n,e1,_,e3⟩:=DataW.trod_int ht h1
 exact ⟨n,e1,e3⟩
theorem InW.struct {fs:Array Field} (ht:P.underlying t=some (.struct fs)) (h:InW enc P w t cs):cs.length=P.cellsOf t∧∀ (i:Nat) (f:Field),fs[i]? = some f→InW enc P w f.type ((cs.drop f.offset).take (P.cellsOf f.type)):=by
 obtain ⟨fuel,d,p,h1,h2⟩:=h
 obtain ⟨xs,n,_,hx,hlen,hl,hf⟩:=DataW.trod_struct ht h1
 refine ⟨hlen,fun i f hi=>?_⟩
 have hi':i<fs.size:=(Array.getElem?_eq_some_iff.1 hi).1
 have hxi:xs[i]? = some (xs[i]'(by omega)):=List.getElem?_eq_getElem _
 generalize xs[i]'(by omega)=y at hxi
 obtain ⟨d',p'⟩:=y
 refine ⟨n,d',p',(hf i f hi).trans hxi,fun m hm=>h2 m ?_⟩
 have hd:d = .agg (xs.map (·.1)):=congrArg Prod.fst hx
 subst hd
 unfold DataW.weights
 rw [ht]
 refine iS _ _ i f.type d' ?_ ?_ hm
 ·rw [List.getElem?_map,Array.getElem?_toList,hi] <;> rfl
 ·rw [List.getElem?_map,hxi] <;> rfl
theorem InW.slice {e:TypeId} {sz:Nat} (ht:P.underlying t=some (.slice e)) (hc:P.cellsOf e=sz) (hz:0<sz) (h:InW enc P w t cs) :
  ∃ (v : Value) (rows : List (List Value)), cs = [v] ∧ RdI sz (jB w fun _ => 1) (kL w (fun _ => 1) v) (rows.flatten.map (kL w fun _ => 1)) rows.length ∧ rows.length ≤ maxLen ∧ rows.length * P.bytesOf e ≤ 140737488351232 ∧ (∀ r ∈ rows, r.length = sz ∧ InW enc P w e r) ∧
   aX (muC w fun _=>1) (kL w (fun _=>1) v) v:=by
 obtain ⟨fuel,d,p,h1,h2⟩:=h
 rcases aL9 ht h1 with ⟨rfl,_⟩ | ⟨a,len,cap,n,rows,ds,rs,hf,rfl,hx,hdl,hl,hm,hrl,hr,hrd,hcell⟩
 ·exact ⟨_,[],rfl,.inl ⟨rfl,rfl,rfl⟩,by simp,by simp,(fun r hr=>by cases hr),pF _⟩
 have hd:d = .slice ds rs:=hx
 subst hd
 unfold DataW.weights at h2
 rw [ht] at h2
 have hb:len * P.bytesOf e≤140737488351232:=by
  have:=h2 _ (List.mem_cons_self)
  rw [aF9,hdl] at this
  exact Nat.le_trans (Nat.mul_le_mul_right _ (by omega)) this
 have hlen:=aHF rows fun r hr'=>(hr r hr').1.trans hc
 have each:∀ r∈rows.take len,r.length=sz∧InW enc P w e r:=fun r hr'=>by
  obtain ⟨i,hi,he⟩:=List.getElem_of_mem hr'
  rw [List.length_take,hrl] at hi
  have hri:rows[i]? = some r:=by
   rw [← he,List.getElem_take,List.getElem?_eq_getElem]
  have hdi:ds[i]? = some (ds[i]'(by omega)):=List.getElem?_eq_getElem _
  obtain ⟨p',hp⟩:=hrd i r _ hri hdi
  refine ⟨(hr r (List.mem_of_mem_take hr')).1.trans hc,n,_,p',hp,fun m hm'=>h2 m ?_⟩
  exact List.mem_cons_of_mem _ (List.mem_append_left _ (pD ds _ (List.getElem_mem _) hm'))
 by_cases hc0:cap=0
 ·subst hc0
  have hl0:len=0:=by omega
  subst hl0
  exact ⟨.slice (some a) 0 0,[],rfl,.inr (.inl ⟨rfl,rfl,⟨w.heap.size,0,0⟩,some 0,rfl⟩),by simp,by simp,(fun r hr=>by cases hr),pF _⟩
 ·obtain ⟨ver, b, g1, g2, g3, g4, g5, g6⟩ := aEZ (szOf := fun _ => 1) hl hc0 hz hz (by rw [hlen, hrl]) hcell
  rw [aB4 rows len fun r hr'=>(hr r hr').1.trans hc] at g6
  have hlt:(rows.take len).length=len:=by rw [List.length_take,hrl]; omega
  refine ⟨_,rows.take len,rfl,.inr (.inr ⟨a.block,ver,a.off,some cap,b, ?_,g2,g3,g4, ?_, ?_⟩),by omega,by rw [hlt]; exact hb,each,pF _⟩
  ·rw [g1,hlt]
  ·rw [hlt]; exact g5
  ·rw [hlt,g6]
theorem aJ7 {α:Type} (f:α→List AV) (g:Value→AV) (good:α→Prop):∀ rows:List (List Value),(∀ r∈rows, ∃ x:α,r.map g=f x∧good x)→∃ l:List α,rows.flatten.map g=l.flatMap f∧rows.length=l.length∧∀ x∈l,good x
 | [],_=>⟨[],rfl,rfl,fun _ h=>by cases h⟩
 | r :: rows, h => by
  obtain ⟨l,h1,h2,h3⟩:=aJ7 f g good rows fun r hr=>h r (by simp [hr])
  obtain ⟨x,g1,g2⟩:=h r (by simp)
  refine ⟨x :: l,by simp [g1,h1],by simp [h2],fun y hy=>?_⟩
  rcases List.mem_cons.1 hy with rfl | hy
  ·exact g2
  ·exact h3 y hy
theorem InW.strs {e:TypeId} (ht:P.underlying t=some (.slice e)) (he:P.underlying e=some .string) (hc:P.cellsOf e=1) (h:InW enc P w t cs) :
  ∃ (v:Value) (l:List (List UInt8)),cs=[v]∧RdI 1 (jB w fun _=>1) (kL w (fun _=>1) v) (l.map .s) l.length∧l.length≤maxLen∧l.length * P.bytesOf e≤140737488351232∧(∀ x∈l,x.length≤140737488351232)∧aX (muC w fun _=>1) (kL w (fun _=>1) v) v:=by
 obtain ⟨v,rows,rfl,R,h1,h2,h3,h4⟩:=h.slice ht hc (by decide)
 obtain ⟨l,g1,g2,g3⟩:=aJ7 (fun x:List UInt8=>[AV.s x]) (kL w fun _=>1) (fun x=>x.length≤140737488351232) rows fun r hr=>by
  obtain ⟨_,k⟩:=h3 r hr
  obtain ⟨s,rfl,hs⟩:=k.str he
  exact ⟨s.data.toList,rfl,hs⟩
 rw [wX] at g1
 rw [g1,g2] at R
 exact ⟨v,l,rfl,R,g2 ▸ h1,g2 ▸ h2,g3,h4⟩
theorem wV:∀ {ts:List TypeId} {vs:List Value} {ds:List (DataW H)} {ps:List MemPlace},DataW.TrodAll enc P w 0 (fun _=>true) true ts vs ds ps→∀ (i:Nat) (t:TypeId) (v:Value),ts[i]? = some t→vs[i]? = some v→∃ d p,ds[i]? = some d∧DataW.Trod enc P w 0 (fun _=>true) true t v d p
 | [],_,_,_,_,i,t,v,h,_=>by simp at h
 | _ :: _,[],_,_,_,i,t,v,_,h=>by simp at h
 | _ :: _,_ :: _,[],_,h,_,_,_,_,_=>by simp [DataW.TrodAll] at h
 | t' :: ts, v' :: vs, d' :: ds, ps, h, 0, t, v, h1, h2 => by
  simp at h1 h2; subst h1; subst h2
  obtain ⟨p,q,g1,_⟩:=h
  exact ⟨d',p,rfl,g1⟩
 | t' :: ts, v' :: vs, d' :: ds, ps, h, i + 1, t, v, h1, h2 => by
  obtain ⟨p,q,_,g2,_⟩:=h
  exact wV g2 i t v (by simpa using h1) (by simpa using h2)
theorem sized_reads {f:Func} {vars:List String} {ap:Bool} {args:Array Value} {ds gs:List (DataW H)} {before:List MemPlace} {vts:List TypeId} (hW:DataW.Whole enc P f.params.toList vars ap w args.toList ds gs before)
  (hw:(DataW.weightsEach P (f.params.toList++vts) (ds++gs)).all (· ≤ reachBytes)=true) (i:Nat) (t:TypeId) (v:Value) (h1:f.params[i]? = some t) (h2:args[i]? = some v):InW enc P w t v.cells.toList:=by
 obtain ⟨p,q,hA,_⟩:=hW
 have h1':f.params.toList[i]? = some t:=by rw [Array.getElem?_toList]; exact h1
 obtain ⟨d,p',g1,fuel,g2⟩:=wV hA i t v h1' (by rw [Array.getElem?_toList]; exact h2)
 refine ⟨fuel,d,p',g2,fun m hm=>?_⟩
 have:=List.all_eq_true.1 hw m (iS _ _ i t d ?_ ?_ hm)
 ·simpa using this
 ·rw [List.getElem?_append_left (aV h1')]; exact h1'
 ·rw [List.getElem?_append_left (aV g1)]; exact g1
end
end Go.GAM
namespace Go.GAM
inductive Ev (α:Type) where
 | ok (a:α)
 | no (c:Nat)
deriving Inhabited
def Ev.bind {α β:Type} (x:Ev α) (f:α→Ev β):Ev β:=match x with
 | .ok a=>f a
 | .no c=>.no c
theorem Ev.bind_ok {α β:Type} {x:Ev α} {f:α→Ev β} {b:β} (h:x.bind f = .ok b):∃ a,x = .ok a∧f a = .ok b:=by
 cases x with
 | ok a=>exact ⟨a,rfl,h⟩
 | no c=>cases h
def want {α:Type} (c:Bool) (n:Nat) (x:Ev α):Ev α:=bif c then x else .no n
theorem bH {α:Type} {c:Bool} {n:Nat} {x:Ev α} {a:α} (h:want c n x = .ok a):c=true∧x = .ok a:=by
 cases c with
 | true=>exact ⟨rfl,h⟩
 | false=>cases h
structure CB where
 b:ABlk
 n:Nat
inductive Tr where
 | e
 | n (v:Option CB) (l r:Tr)
def Tr.get:Tr→Nat→Option CB
 | .e,_=>none
 | .n v l r,i=>bif Nat.beq i 0 then v else bif Nat.beq (i % 2) 1 then l.get ((i - 1) / 2) else r.get ((i - 1) / 2)
def Tr.set:Nat→Tr→Nat→CB→Tr
 | 0,t,_,_=>t
 | d+1,.e,i,x=>bif Nat.beq i 0 then .n (some x) .e .e else bif Nat.beq (i % 2) 1 then .n none (Tr.set d .e ((i - 1) / 2) x) .e else .n none .e (Tr.set d .e ((i - 1) / 2) x)
 | d+1,.n v l r,i,x=>bif Nat.beq i 0 then .n (some x) l r else bif Nat.beq (i % 2) 1 then .n v (Tr.set d l ((i - 1) / 2) x) r else .n v l (Tr.set d r ((i - 1) / 2) x)
theorem Tr.get_set : ∀ (d : Nat) (t : Tr) (i j : Nat) (x : CB), i < 2 ^ d → (Tr.set (d + 1) t i x).get j = if j = i then some x else t.get j := by
 have par:∀ i j:Nat,i≠0→j≠0→i % 2=j % 2→(i - 1) / 2=(j - 1) / 2→i=j:=by intro i j; omega
 intro d
 induction d with
 | zero =>
  intro t i j x hi
  have:i=0:=by simpa using hi
  subst this
  cases t with
  | e =>
   unfold Tr.set
   simp only [show Nat.beq 0 0=true from rfl,cond_true]
   unfold Tr.get
   by_cases hj:j=0
   ·subst hj; simp
   ·rw [lY hj, if_neg hj]
    simp only [cond_false]
    cases Nat.beq (j % 2) 1 <;> rfl
  | n v l r =>
   unfold Tr.set
   simp only [show Nat.beq 0 0=true from rfl,cond_true]
   unfold Tr.get
   by_cases hj:j=0
   ·subst hj; simp
   ·rw [lY hj,if_neg hj] <;> rfl
 | succ d ih =>
  intro t i j x hi
  by_cases h0:i=0
  ·subst h0
   cases t with
   | e =>
    unfold Tr.set
    simp only [show Nat.beq 0 0=true from rfl,cond_true]
    unfold Tr.get
    by_cases hj:j=0
    ·subst hj; simp
    ·rw [lY hj, if_neg hj]
     simp only [cond_false]
     cases Nat.beq (j % 2) 1 <;> rfl
   | n v l r =>
    unfold Tr.set
    simp only [show Nat.beq 0 0=true from rfl,cond_true]
    unfold Tr.get
    by_cases hj:j=0
    ·subst hj; simp
    ·rw [lY hj,if_neg hj] <;> rfl
  ·have hi2 : (i - 1) / 2 < 2 ^ d := by
    rw [Nat.pow_succ] at hi; omega
   have key:∀ (v:Option CB) (l r:Tr),((bif Nat.beq (i % 2) 1 then Tr.n v (Tr.set (d+1) l ((i - 1) / 2) x) r else Tr.n v l (Tr.set (d+1) r ((i - 1) / 2) x)):Tr).get j=if j=i then some x else (Tr.n v l r).get j:=by
    intro v l r
    by_cases hj:j=0
    ·subst hj
     rw [if_neg (by omega)]
     cases Nat.beq (i % 2) 1 <;> rfl
    ·by_cases hp : i % 2 = 1
     ·rw [show Nat.beq (i % 2) 1 = true by rw [hp] <;> rfl]
      simp only [cond_true]
      conv=>lhs; unfold Tr.get
      conv=>rhs; unfold Tr.get
      rw [lY hj]
      simp only [cond_false]
      by_cases hq:j % 2=1
      ·rw [show Nat.beq (j % 2) 1 = true by rw [hq] <;> rfl]
       simp only [cond_true]
       rw [ih l _ _ x hi2]
       by_cases he:(j - 1) / 2=(i - 1) / 2
       ·rw [if_pos he,if_pos (par j i hj h0 (by omega) he)]
       ·rw [if_neg he,if_neg (by intro h; subst h; exact he rfl)]
      ·rw [lY hq]
       simp only [cond_false]
       rw [if_neg (by intro h; subst h; exact hq hp)]
     ·rw [lY hp]
      simp only [cond_false]
      conv=>lhs; unfold Tr.get
      conv=>rhs; unfold Tr.get
      rw [lY hj]
      simp only [cond_false]
      by_cases hq:j % 2=1
      ·rw [show Nat.beq (j % 2) 1 = true by rw [hq] <;> rfl]
       simp only [cond_true]
       rw [if_neg (by intro h; subst h; exact hp hq)]
      ·rw [lY hq]
       simp only [cond_false]
       rw [ih r _ _ x hi2]
       by_cases he:(j - 1) / 2=(i - 1) / 2
       ·rw [if_pos he,if_pos (par j i hj h0 (by omega) he)]
       ·rw [if_neg he,if_neg (by intro h; subst h; exact he rfl)]
   cases t with
   | e =>
    unfold Tr.set
    rw [lY h0]
    simp only [cond_false]
    have:=key none .e .e
    have e0:(Tr.n none .e .e).get j=Tr.e.get j:=by
     unfold Tr.get
     cases Nat.beq j 0 <;> simp only [cond_true,cond_false]
     cases Nat.beq (j % 2) 1 <;> rfl
    rw [e0] at this
    exact this
   | n v l r =>
    unfold Tr.set
    rw [lY h0]
    simp only [cond_false]
    exact key v l r
structure HS where
 t:Tr
 n:Nat
structure HR (s:HS) (H:aA):Prop where
 len:H.length=s.n
 is:∀ i x,s.t.get i=some x→H[i]? = some x.b∧x.n=x.b.cells.length
def HS.small (s:HS):Bool:=Nat.blt s.n 1048576
def HS.push (s:HS) (x:CB):Ev HS:=want s.small 1 (.ok ⟨s.t.set 21 s.n x,s.n+1⟩)
def HS.put (s:HS) (i:Nat) (x:CB):Ev HS:=want (Nat.blt i s.n&&s.small) 2 (.ok ⟨s.t.set 21 i x,s.n⟩)
theorem HR.push {s s':HS} {H:aA} {b:ABlk} {n:Nat} (R:HR s H) (h:s.push ⟨b,n⟩ = .ok s') (hn:n=b.cells.length):HR s' (H++[b])∧H.length=s.n:=by
 obtain ⟨h1,h2⟩:=bH h
 cases h2
 have hs:s.n<2 ^ 20:=by
  have:=Nat.le_of_ble_eq_true h1
  omega
 refine ⟨⟨by simp [R.len],fun i x hx=>?_⟩,R.len⟩
 have hx:(Tr.set 21 s.t s.n ⟨b,n⟩).get i=some x:=hx
 rw [Tr.get_set 20 _ _ _ _ hs] at hx
 split at hx
 ·rename_i e
  cases hx
  subst e
  rw [← R.len]
  exact ⟨by simp,hn⟩
 ·rename_i e
  obtain ⟨g1,g2⟩:=R.is i x hx
  have hlt:i<H.length:=aV g1
  exact ⟨by rw [List.getElem?_append_left hlt]; exact g1,g2⟩
theorem HR.put {s s':HS} {H:aA} {b:ABlk} {n i:Nat} (R:HR s H) (h:s.put i ⟨b,n⟩ = .ok s') (hn:n=b.cells.length):HR s' (H.set i b):=by
 obtain ⟨h1,h2⟩:=bH h
 cases h2
 rw [Bool.and_eq_true] at h1
 have hi:i<s.n:=Nat.le_of_ble_eq_true h1.1
 have hs:i<2 ^ 20:=by
  have:=Nat.le_of_ble_eq_true h1.2
  omega
 refine ⟨by simp [R.len],fun j x hx=>?_⟩
 have hx:(Tr.set 21 s.t i ⟨b,n⟩).get j=some x:=hx
 rw [Tr.get_set 20 _ _ _ _ hs] at hx
 split at hx
 ·rename_i e
  cases hx
  subst e
  exact ⟨List.getElem?_set_self (by rw [R.len]; exact hi),hn⟩
 ·rename_i e
  obtain ⟨g1,g2⟩:=R.is j x hx
  exact ⟨by rw [List.getElem?_set_ne (fun h=>e h.symm)]; exact g1,g2⟩
def aTM (s:HS) (g:Nat):Ev AV:=match s.t.get g with
 | some x=>bif x.b.gl&&Nat.ble x.b.floor x.n then .ok (.p (some ⟨g,x.n,0⟩)) else .ok .u
 | none=>.no 3
def cOp (e:Env) (s:HS):Operand→Ev AV
 | .tmp t=>.ok (lk e t)
 | .const v=>.ok (ofV v)
 | .global g=>aTM s g
 | .func f=>.ok (.fn (.func f) [] [])
theorem bY {e:Env} {s:HS} {H:aA} (R:HR s H) {x:Operand} {v:AV} (h:cOp e s x = .ok v):ev e H x=v:=by
 cases x with
 | tmp t=>cases h; rfl
 | const c=>cases h; rfl
 | func f=>cases h; rfl
 | global g =>
  have h:aTM s g = .ok v:=h
  unfold aTM at h
  split at h
  ·rename_i x hx
   obtain ⟨g1,g2⟩:=R.is g x hx
   show aIC H g=v
   unfold aIC
   rw [g1]
   simp only
   rw [← g2]
   cases hc:(x.b.gl&&Nat.ble x.b.floor x.n) with
   | true=>rw [hc] at h; cases h; rfl
   | false=>rw [hc] at h; cases h; rfl
  ·cases h
def sO (e:Env) (s:HS):List Operand→Ev (List AV)
 | []=>.ok []
 | x :: r=>(cOp e s x).bind fun v=>(sO e s r).bind fun vs=>.ok (v :: vs)
theorem eC {e:Env} {s:HS} {H:aA} (R:HR s H):∀ {xs:List Operand} {vs:List AV},sO e s xs = .ok vs→xs.map (ev e H)=vs
 | [],vs,h=>by cases h; rfl
 | x :: r, vs, h => by
  obtain ⟨v,h1,h2⟩:=Ev.bind_ok h
  obtain ⟨ws,h3,h4⟩:=Ev.bind_ok h2
  cases h4
  rw [List.map_cons,bY R h1,eC R h3]
def aR0 (e:Env) (s:HS):Option Operand→Ev (Option AV)
 | none=>.ok none
 | some x=>(cOp e s x).bind fun v=>.ok (some v)
theorem aEI {e:Env} {s:HS} {H:aA} (R:HR s H) {x:Option Operand} {v:Option AV} (h:aR0 e s x = .ok v):x.map (ev e H)=v:=by
 cases x with
 | none=>cases h; rfl
 | some x =>
  obtain ⟨w,h1,h2⟩:=Ev.bind_ok h
  cases h2
  show some (ev e H x)=_
  rw [bY R h1]
def aIH (P : Program) (t : TypeId) (v : AV) : Ev AV := match P.underlying t with
 | some .bool => match v with
  | .b _=>.ok v
  | _=>.no 4
 | some (.int k) => match v with
  | .i k' n=>bif kEq k k' then .ok (.i k n) else .no 5
  | _=>.no 5
 | some .string => match v with
  | .s _=>.ok v
  | _=>.no 6
 | _=>.ok v
theorem aME {P:Program} {t:TypeId} {v w:AV} {K:AV→Prop} (h:aIH P t v = .ok w) (hk:K w):shape P t v K:=by
 unfold aIH at h
 unfold shape
 split at h
 ·rename_i e
  simp only [e]
  split at h
  ·cases h; exact hk
  ·cases h
 ·rename_i k e
  simp only [e]
  split at h
  ·rename_i k' n
   show (bif kEq k k' then K (.i k n) else False)
   cases hc:kEq k k' with
   | true=>rw [hc] at h; cases h; exact hk
   | false=>rw [hc] at h; cases h
  ·cases h
 ·rename_i e
  simp only [e]
  split at h
  ·cases h; exact hk
  ·cases h
 ·rename_i e1 e2 e3
  cases h
  split
  ·rename_i e; exact (e1 e).elim
  ·rename_i k e; exact (e2 k e).elim
  ·rename_i e; exact (e3 e).elim
  ·exact hk
def cRd (s:HS) (a:AA) (n:Nat):Ev CB:=match s.t.get a.id with
 | some x=>want (Nat.ble x.b.floor a.ver&&(Nat.ble a.ver x.n&&Nat.ble (a.off+n) a.ver)) 7 (.ok x)
 | none=>.no 8
theorem sM {s:HS} {H:aA} (R:HR s H) {a:AA} {n:Nat} {x:CB} (h:cRd s a n = .ok x):H[a.id]? = some x.b∧aDL x.b a n∧x.n=x.b.cells.length:=by
 unfold cRd at h
 split at h
 ·rename_i y hy
  obtain ⟨h1,h2⟩:=bH h
  cases h2
  obtain ⟨g1,g2⟩:=R.is _ _ hy
  rw [Bool.and_eq_true,Bool.and_eq_true] at h1
  exact ⟨g1,⟨Nat.le_of_ble_eq_true h1.1,by rw [← g2]; exact Nat.le_of_ble_eq_true h1.2.1,Nat.le_of_ble_eq_true h1.2.2⟩,g2⟩
 ·cases h
def aEX (x:AV) (s:HS):Ev AV:=match x with
 | .p (some a)=>(cRd s a 1).bind fun b=>.ok (b.b.cells.getD a.off .u)
 | _=>.no 9
theorem aCK {x v:AV} {s:HS} {H:aA} {K:AV→Prop} (R:HR s H) (h:aEX x s = .ok v) (hk:K v):aD x H K:=by
 unfold aEX at h
 split at h
 ·obtain ⟨b, h1, h2⟩ := Ev.bind_ok h
  cases h2
  obtain ⟨g1,g2,_⟩:=sM R h1
  exact ⟨b.b,g1,g2,hk⟩
 ·cases h
def aDC (n:Nat) (x:AV) (s:HS):Ev AV:=match x with
 | .p (some a)=>(cRd s a n).bind fun b=>.ok (.ag ((b.b.cells.drop a.off).take n))
 | _=>.no 10
theorem aCI {n:Nat} {x v:AV} {s:HS} {H:aA} {K:AV→Prop} (R:HR s H) (h:aDC n x s = .ok v) (hk:K v):dC n x H K:=by
 unfold aDC at h
 split at h
 ·obtain ⟨b, h1, h2⟩ := Ev.bind_ok h
  cases h2
  obtain ⟨g1,g2,_⟩:=sM R h1
  exact ⟨b.b,g1,g2,hk⟩
 ·cases h
def aT8 (x:AV):Ev AV:=match x with
 | .p none | .ni | .nf | .u=>.no 11
 | .fn (.func _) _ _=>.ok x
 | .fn _ _ _=>.no 11
 | _=>.ok x
theorem aRA {x v:AV} {K:AV→Prop} (h:aT8 x = .ok v) (hk:K v):aK x K:=by
 unfold aT8 at h
 unfold aK
 split at h <;> first | (cases h; done) | skip
 ·cases h; exact hk
 ·cases h
  split <;> first | exact hk | simp_all
def aIA (op:BinOp) (k:IntKind) (a b:Int):Ev AV:=match op with
 | .add=>.ok (.i k (k.wrap (a+b)))
 | .sub=>.ok (.i k (k.wrap (a - b)))
 | .mul=>.ok (.i k (k.wrap (a * b)))
 | .quo=>want (!decide (b=0)) 12 (.ok (.i k (k.wrap (a.tdiv b))))
 | .rem=>want (!decide (b=0)) 12 (.ok (.i k (a.tmod b)))
 | .and=>.ok (.i k (bA .and k a b))
 | .or=>.ok (.i k (bA .or k a b))
 | .xor=>.ok (.i k (bA .xor k a b))
 | .andNot=>.ok (.i k (bA .andNot k a b))
 | .eql=>.ok (.b (decide (a=b)))
 | .neq=>.ok (.b (!decide (a=b)))
 | .lss=>.ok (.b (decide (a<b)))
 | .leq=>.ok (.b (decide (a≤b)))
 | .gtr=>.ok (.b (decide (b<a)))
 | .geq=>.ok (.b (decide (b≤a)))
 | _=>.no 13
def aT1 (op:BinOp) (a b:List UInt8):Ev AV:=match op with
 | .add=>want (Nat.ble (a.length+b.length) 9223372036854775807) 14 (.ok (.s (a++b)))
 | .eql=>.ok (.b (decide (a=b)))
 | .neq=>.ok (.b (!decide (a=b)))
 | .lss=>.ok (.b (Op.bytesLess a b))
 | .leq=>.ok (.b (Op.bytesLess a b||decide (a=b)))
 | .gtr=>.ok (.b (!(Op.bytesLess a b||decide (a=b))))
 | .geq=>.ok (.b (!Op.bytesLess a b))
 | _=>.no 15
def fM (op:BinOp) (r:Bool):Ev AV:=match op with
 | .eql=>.ok (.b r)
 | .neq=>.ok (.b (!r))
 | _=>.no 16
theorem cT {op:BinOp} {r:Bool} {v:AV} {K:AV→Prop} (h:fM op r = .ok v) (hk:K v):eP op r K:=by
 cases op <;> first | (cases h; exact hk) | (cases h; done)
def aTN (P : Program) (op : BinOp) (t : TypeId) (x y : AV) : Ev AV :=
 match x,y with
 | .i k a, .i k' b => match op with
  | .shl=>want (decide (0≤b)) 17 (.ok (.i k (k.wrap (a * 2 ^ (min b.toNat k.bits)))))
  | .shr=>want (decide (0≤b)) 17 (.ok (.i k (a.fdiv (2 ^ (min b.toNat k.bits)))))
  | _=>bif kEq k k' then aIA op k a b else .no 18
 | .s a,.s b=>aT1 op a b
 | .b a, .b b => match P.underlying t with
  | some .bool=>fM op (a == b)
  | _=>.no 19
 | .p none,.p b=>bif lF P t then fM op b.isNone else .no 19
 | .p (some _),.p none=>bif lF P t then fM op false else .no 19
 | .p (some a),.p (some b)=>bif aDB P t&&Nat.beq a.id b.id&&Nat.beq a.ver b.ver&&Nat.beq a.off b.off then fM op true else .no 19
 | .sl none _ _,.sl b _ _=>bif aMC P t then fM op b.isNone else .no 19
 | .sl (some _) _ _,.sl none _ _=>bif aMC P t then fM op false else .no 19
 | .nf,.nf=>bif aGK P t then fM op true else .no 19
 | .nf,.fn ..=>bif aGK P t then fM op false else .no 19
 | .fn ..,.nf=>bif aGK P t then fM op false else .no 19
 | .ni,.ifc ..=>bif aHC P t then fM op false else .no 19
 | .ifc ..,.ni=>bif aHC P t then fM op false else .no 19
 | .mp none,.mp b=>bif aCJ P t then fM op b.isNone else .no 19
 | .mp (some _),.mp none=>bif aCJ P t then fM op false else .no 19
 | .ag xs, .ag ys => bif P.eqGuardType P.depth t then .no 19 else match aEq P 64 t (.ag xs) (.ag ys) with
  | some r=>fM op r
  | none=>.no 19
 | _,_=>.no 20
theorem cN {α:Type} {c:Bool} {n:Nat} {x:Ev α} {a:α} (h:(bif c then x else .no n) = .ok a):c=true∧x = .ok a:=bH h
theorem aL4 {P:Program} {op:BinOp} {t:TypeId} {k k':IntKind} {a b:Int} {v:AV} {K:AV→Prop} (hkk:kEq k k'=true) (h:aIA op k a b = .ok v) (hk:K v):cI P op t (.i k a) (.i k' b) K:=by
 unfold aIA at h
 unfold cI
 cases op <;> simp only [hkk,cond_true] at h ⊢ <;> first | (cases h; exact hk) | (cases h; done) | skip
 ·obtain ⟨h1,h2⟩:=bH h; cases h2; exact ⟨by simpa using h1,hk⟩
 ·obtain ⟨h1,h2⟩:=bH h; cases h2; exact ⟨by simpa using h1,hk⟩
theorem aSK {P:Program} {op:BinOp} {t:TypeId} {a b:List UInt8} {v:AV} {K:AV→Prop} (h:aT1 op a b = .ok v) (hk:K v):cI P op t (.s a) (.s b) K:=by
 unfold aT1 at h
 unfold cI
 cases op <;> simp only at h ⊢ <;> first | (cases h; exact hk) | (cases h; done) | skip
 ·obtain ⟨h1, h2⟩ := bH h; cases h2
  exact ⟨by have:=Nat.le_of_ble_eq_true h1; omega,hk⟩
theorem aSM {P:Program} {op:BinOp} {t:TypeId} {x y v:AV} {K:AV→Prop} (h:aTN P op t x y = .ok v) (hk:K v):cI P op t x y K:=by
 unfold aTN at h
 split at h
 ·rename_i k a k' b
  split at h
  ·obtain ⟨h1,h2⟩:=bH h; cases h2; exact ⟨of_decide_eq_true h1,hk⟩
  ·obtain ⟨h1,h2⟩:=bH h; cases h2; exact ⟨of_decide_eq_true h1,hk⟩
  ·obtain ⟨h1, h2⟩ := cN h
   exact aL4 h1 h2 hk
 ·exact aSK h hk
 ·unfold cI
  split at h
  ·rename_i hu; simp only [hu]; exact cT h hk
  ·cases h
 ·obtain ⟨h1,h2⟩:=cN h; unfold cI; simp only [h1,cond_true]; exact cT h2 hk
 ·obtain ⟨h1,h2⟩:=cN h; unfold cI; simp only [h1,cond_true]; exact cT h2 hk
 ·obtain ⟨h1,h2⟩:=cN h; unfold cI; simp only [h1,cond_true]; exact cT h2 hk
 ·obtain ⟨h1,h2⟩:=cN h; unfold cI; simp only [h1,cond_true]; exact cT h2 hk
 ·obtain ⟨h1,h2⟩:=cN h; unfold cI; simp only [h1,cond_true]; exact cT h2 hk
 ·obtain ⟨h1,h2⟩:=cN h; unfold cI; simp only [h1,cond_true]; exact cT h2 hk
 ·obtain ⟨h1,h2⟩:=cN h; unfold cI; simp only [h1,cond_true]; exact cT h2 hk
 ·obtain ⟨h1,h2⟩:=cN h; unfold cI; simp only [h1,cond_true]; exact cT h2 hk
 ·obtain ⟨h1,h2⟩:=cN h; unfold cI; simp only [h1,cond_true]; exact cT h2 hk
 ·obtain ⟨h1,h2⟩:=cN h; unfold cI; simp only [h1,cond_true]; exact cT h2 hk
 ·obtain ⟨h1,h2⟩:=cN h; unfold cI; simp only [h1,cond_true]; exact cT h2 hk
 ·obtain ⟨h1,h2⟩:=cN h; unfold cI; simp only [h1,cond_true]; exact cT h2 hk
 ·unfold cI
  simp only
  cases hg:P.eqGuardType P.depth t with
  | true=>rw [hg] at h; cases h
  | false =>
   rw [hg] at h
   simp only [cond_false] at h ⊢
   split at h
   ·rename_i e; simp only [e]; exact cT h hk
   ·cases h
 ·cases h
def cUn (op:UnOp) (x:AV):Ev AV:=match op,x with
 | .neg,.i k n=>.ok (.i k (k.wrap (0 - n)))
 | .xor,.i k n=>.ok (.i k (bA .xor k (if k.signed then -1 else k.max) n))
 | .not,.b c=>.ok (.b (!c))
 | _,_=>.no 21
theorem aUD {op:UnOp} {x v:AV} {K:AV→Prop} (h:cUn op x = .ok v) (hk:K v):pUn op x K:=by
 unfold cUn at h
 split at h
 ·cases h; exact hk
 ·cases h; exact hk
 ·cases h; exact hk
 ·cases h
def aD0 (sz:Nat) (x:AV) (s:HS):Ev (List AV):=match x with
 | .sl none _ _=>.ok []
 | .sl (some a) len _=>bif Nat.beq len 0 then .ok [] else (cRd s a (len * sz)).bind fun b=>.ok ((b.b.cells.drop a.off).take (len * sz))
 | _=>.no 22
theorem aBY {sz:Nat} {x:AV} {s:HS} {H:aA} {cs:List AV} {K:List AV→Prop} (R:HR s H) (h:aD0 sz x s = .ok cs) (hk:K cs):fG sz x H K:=by
 unfold aD0 at h
 split at h
 ·cases h; exact hk
 ·rename_i a len c
  cases hb:Nat.beq len 0 with
  | true=>rw [hb] at h; cases h; exact .inl ⟨Nat.eq_of_beq_eq_true hb,hk⟩
  | false =>
   rw [hb] at h
   obtain ⟨b,h1,h2⟩:=Ev.bind_ok h
   cases h2
   obtain ⟨g1,g2,_⟩:=sM R h1
   exact .inr ⟨b.b,g1,g2,hk⟩
 ·cases h
def aC0 (x:AV) (s:HS):Ev AV:=(aD0 1 x s).bind fun cs=>want (cs.all nW) 23 (.ok (.s (cs.map toByte)))
theorem aDN {x v:AV} {s:HS} {H:aA} {K:AV→Prop} (R:HR s H) (h:aC0 x s = .ok v) (hk:K v):cJ x H fun l=>K (.s l):=by
 obtain ⟨cs,h1,h2⟩:=Ev.bind_ok h
 obtain ⟨h3,h4⟩:=bH h2
 cases h4
 exact aBY R h1 ⟨h3,hk⟩
def iZ (x:Option AV) (d:Nat):Ev Nat:=match x with
 | none=>.ok d
 | some (.i _ n)=>want (decide (0≤n)) 24 (.ok n.toNat)
 | _=>.no 25
theorem dD {x:Option AV} {d n:Nat} {K:Nat→Prop} (h:iZ x d = .ok n) (hk:K n):gM x d K:=by
 unfold iZ at h
 split at h
 ·cases h; exact hk
 ·obtain ⟨h1,h2⟩:=bH h; cases h2; exact ⟨of_decide_eq_true h1,hk⟩
 ·cases h
def vJ (x:AV) (lo hi:Option AV):Ev AV:=match x with
 | .s l=>(iZ hi l.length).bind fun m=>(iZ lo 0).bind fun n=>want (Nat.ble n m&&Nat.ble m l.length) 26 (.ok (.s ((l.take m).drop n)))
 | _=>.no 27
theorem aED {x v:AV} {lo hi:Option AV} {K:AV→Prop} (h:vJ x lo hi = .ok v) (hk:K v):bV x lo hi fun l=>K (.s l):=by
 unfold vJ at h
 split at h
 ·obtain ⟨m, h1, h2⟩ := Ev.bind_ok h
  obtain ⟨n,h3,h4⟩:=Ev.bind_ok h2
  obtain ⟨h5,h6⟩:=bH h4
  cases h6
  rw [Bool.and_eq_true] at h5
  unfold bV
  refine dD h1 ?_
  exact dD h3 ⟨Nat.le_of_ble_eq_true h5.1,Nat.le_of_ble_eq_true h5.2,hk⟩
 ·cases h
def aEP (cap:Option Nat) (len j sz off ver:Nat):Bool:=Nat.ble j len||match cap with
 | none=>Nat.ble (off+j * sz) ver
 | some c=>Nat.ble j c
theorem aB9 {cap:Option Nat} {len j sz off ver:Nat} (h:aEP cap len j sz off ver=true):j≤len∨(cap=none∧off+j * sz≤ver)∨(∃ c,cap=some c∧j≤c):=by
 unfold aEP at h
 rw [Bool.or_eq_true] at h
 rcases h with h | h
 ·exact .inl (Nat.le_of_ble_eq_true h)
 ·cases cap with
  | none=>exact .inr (.inl ⟨rfl,Nat.le_of_ble_eq_true h⟩)
  | some c=>exact .inr (.inr ⟨c,rfl,Nat.le_of_ble_eq_true h⟩)
def y0 (sz : Nat) (x : AV) (lo hi mx : Option AV) (s : HS) : Ev AV := match x with
 | .sl none _ _=>(iZ mx 0).bind fun m=>(iZ hi 0).bind fun j=>(iZ lo 0).bind fun i=>want (Nat.beq m 0&&Nat.beq j 0&&Nat.beq i 0&&mx.isNone) 28 (.ok (.sl none 0 none))
 | .sl (some a) len cap => (iZ hi len).bind fun j => (iZ lo 0).bind fun i => match s.t.get a.id with
  | none=>.no 29
  | some x => want (Nat.blt 0 sz && Nat.ble i j && Nat.ble x.b.floor x.n && Nat.ble x.b.floor a.ver && Nat.beq x.b.sz sz) 30 (match mx with
   | none=>want (aEP cap len j sz a.off a.ver) 31 (.ok (.sl (some ⟨a.id,a.ver,a.off+i * sz⟩) (j - i) (cap.map (· - i))))
   | some m=>want hi.isSome 32 ((iZ (some m) 0).bind fun m=>want (Nat.ble j m&&aEP cap len m sz a.off a.ver) 33 (.ok (.sl (some ⟨a.id,a.ver,a.off+i * sz⟩) (j - i) (some (m - i))))))
 | _=>.no 34
theorem aGB {sz : Nat} {x v : AV} {lo hi mx : Option AV} {s : HS} {H : aA} {K : AV → Prop} (R : HR s H) (h : y0 sz x lo hi mx s = .ok v) (hk : K v) : bW sz x lo hi mx H K := by
 unfold y0 at h
 split at h
 ·obtain ⟨m, h1, h⟩ := Ev.bind_ok h
  obtain ⟨j,h2,h⟩:=Ev.bind_ok h
  obtain ⟨i,h3,h⟩:=Ev.bind_ok h
  obtain ⟨h4,h5⟩:=bH h
  cases h5
  simp only [Bool.and_eq_true] at h4
  unfold bW
  refine dD h1 ?_
  refine dD h2 ?_
  refine (dD h3 ⟨Nat.eq_of_beq_eq_true h4.1.1.1,Nat.eq_of_beq_eq_true h4.1.1.2,Nat.eq_of_beq_eq_true h4.1.2,fun hm=>?_,hk⟩)
  have:=h4.2
  cases mx with
  | none=>cases hm
  | some m=>cases this
 ·rename_i a len cap
  obtain ⟨j,h1,h⟩:=Ev.bind_ok h
  obtain ⟨i,h2,h⟩:=Ev.bind_ok h
  split at h
  ·cases h
  ·rename_i y hy
   obtain ⟨g1,g2⟩:=R.is _ _ hy
   obtain ⟨h3,h4⟩:=bH h
   simp only [Bool.and_eq_true] at h3
   obtain ⟨⟨⟨⟨h5,h6⟩,h7⟩,h8⟩,h9⟩:=h3
   have hsz:=Nat.le_of_ble_eq_true h5
   have hij:=Nat.le_of_ble_eq_true h6
   have hfl:=Nat.le_of_ble_eq_true h7
   rw [g2] at hfl
   have hfv:=Nat.le_of_ble_eq_true h8
   have hss:=Nat.eq_of_beq_eq_true h9
   cases mx with
   | none =>
    obtain ⟨h10,h11⟩:=bH h4
    cases h11
    refine ⟨hsz,fun hm=>(by cases hm), ?_⟩
    refine dD h1 ?_
    exact dD h2 ⟨hij,y.b,g1,hfl,hfv,.inl hss,aB9 h10,hk⟩
   | some m =>
    obtain ⟨h10,h11⟩:=bH h4
    obtain ⟨m',h12,h13⟩:=Ev.bind_ok h11
    obtain ⟨h14,h15⟩:=bH h13
    cases h15
    rw [Bool.and_eq_true] at h14
    refine ⟨hsz,fun _=>h10, ?_⟩
    refine dD h1 ?_
    refine dD h2 ⟨hij,y.b,g1,hfl,hfv,.inl hss, ?_⟩
    exact dD h12 ⟨Nat.le_of_ble_eq_true h14.1,aB9 h14.2,hk⟩
 ·cases h
def wG (n sz:Nat) (x:AV) (lo hi:Option AV) (s:HS):Ev AV:=match x with
 | .p (some a)=>(iZ hi n).bind fun j=>(iZ lo 0).bind fun i=>(cRd s a (n * sz)).bind fun b=>want (Nat.blt 0 sz&&Nat.ble i j&&Nat.ble j n&&Nat.beq b.b.sz sz) 35 (.ok (.sl (some ⟨a.id,a.ver,a.off+i * sz⟩) (j - i) (some (n - i))))
 | _=>.no 36
theorem aDT {n sz:Nat} {x v:AV} {lo hi:Option AV} {s:HS} {H:aA} {K:AV→Prop} (R:HR s H) (h:wG n sz x lo hi s = .ok v) (hk:K v):mV n sz x lo hi H K:=by
 unfold wG at h
 split at h
 ·obtain ⟨j, h1, h⟩ := Ev.bind_ok h
  obtain ⟨i,h2,h⟩:=Ev.bind_ok h
  obtain ⟨b,h3,h⟩:=Ev.bind_ok h
  obtain ⟨h4,h5⟩:=bH h
  cases h5
  obtain ⟨g1,g2,_⟩:=sM R h3
  simp only [Bool.and_eq_true] at h4
  refine ⟨Nat.le_of_ble_eq_true h4.1.1.1, ?_⟩
  refine dD h1 ?_
  exact dD h2 ⟨Nat.le_of_ble_eq_true h4.1.1.2,Nat.le_of_ble_eq_true h4.1.2,b.b,g1,Nat.eq_of_beq_eq_true h4.2,g2,hk⟩
 ·cases h
def sP (off:Nat) (x:AV):Ev AV:=match x with
 | .p (some a)=>.ok (.p (some ⟨a.id,a.ver,a.off+off⟩))
 | _=>.no 37
theorem aBF {off:Nat} {x v:AV} {K:AV→Prop} (h:sP off x = .ok v) (hk:K v):aB off x K:=by
 unfold sP at h
 split at h
 ·cases h; exact hk
 ·cases h
def aEO (off : Nat) (x : AV) : Ev AV := match x with
 | .ag cs => match cs[off]? with
  | some c=>.ok c
  | none=>.no 38
 | _=>.no 39
theorem aIV {off:Nat} {x v:AV} {K:AV→Prop} (h:aEO off x = .ok v) (hk:K v):uR off x K:=by
 unfold aEO at h
 split at h
 ·split at h
  ·rename_i c hc
   cases h
   exact ⟨aV hc,by rw [getD_some hc]; exact hk⟩
  ·cases h
 ·cases h
def aDE (off n:Nat) (x:AV):Ev AV:=match x with
 | .ag cs=>.ok (.ag ((cs.drop off).take n))
 | _=>.no 40
theorem aHL {off n:Nat} {x v:AV} {K:AV→Prop} (h:aDE off n x = .ok v) (hk:K v):tS off n x K:=by
 unfold aDE at h
 split at h
 ·cases h; exact hk
 ·cases h
def aIY (sz : Nat) (x i : AV) (s : HS) : Ev AV := match x, i with
 | .sl (some a) len _, .i _ n => match s.t.get a.id with
  | some b=>want (decide (0≤n)&&decide (n<len)&&Nat.ble b.b.floor a.ver&&Nat.ble b.b.floor b.n) 41 (.ok (.p (some ⟨a.id,a.ver,a.off+n.toNat * sz⟩)))
  | none=>.no 42
 | _,_=>.no 43
theorem aK3 {sz:Nat} {x i v:AV} {s:HS} {H:aA} {K:AV→Prop} (R:HR s H) (h:aIY sz x i s = .ok v) (hk:K v):aU sz x i H K:=by
 unfold aIY at h
 split at h
 ·split at h
  ·rename_i b hb
   obtain ⟨g1,g2⟩:=R.is _ _ hb
   obtain ⟨h1,h2⟩:=bH h
   cases h2
   simp only [Bool.and_eq_true] at h1
   have hf:=Nat.le_of_ble_eq_true h1.2
   rw [g2] at hf
   exact ⟨of_decide_eq_true h1.1.1.1,of_decide_eq_true h1.1.1.2,⟨b.b,g1,Nat.le_of_ble_eq_true h1.1.2,hf⟩,hk⟩
  ·cases h
 ·cases h
def aC8 (len sz:Nat) (x i:AV):Ev AV:=match x,i with
 | .p (some a),.i _ n=>want (decide (0≤n)&&decide (n<len)) 44 (.ok (.p (some ⟨a.id,a.ver,a.off+n.toNat * sz⟩)))
 | _,_=>.no 45
theorem aH7 {len sz:Nat} {x i v:AV} {K:AV→Prop} (h:aC8 len sz x i = .ok v) (hk:K v):bT len sz x i K:=by
 unfold aC8 at h
 split at h
 ·obtain ⟨h1, h2⟩ := bH h
  cases h2
  rw [Bool.and_eq_true] at h1
  exact ⟨of_decide_eq_true h1.1,of_decide_eq_true h1.2,hk⟩
 ·cases h
def aEU (x i : AV) : Ev AV := match x, i with
 | .s l, .i _ n => want (decide (0 ≤ n)) 46 (match l[n.toNat]? with
  | some c=>.ok (.i .u8 (c.toNat:Int))
  | none=>.no 47)
 | _,_=>.no 48
theorem aJG {x i v:AV} {K:AV→Prop} (h:aEU x i = .ok v) (hk:K v):cK x i fun n=>K (.i .u8 n):=by
 unfold aEU at h
 split at h
 ·rename_i l k n
  obtain ⟨h1,h2⟩:=bH h
  have h0:=of_decide_eq_true h1
  split at h2
  ·rename_i c hc
   cases h2
   have:=aV hc
   exact ⟨h0,by omega,by rw [getD_some hc]; exact hk⟩
  ·cases h2
 ·cases h
def zB (len : Nat) (x i : AV) : Ev AV := match x, i with
 | .ag cs, .i _ n => want (decide (0 ≤ n) && decide (n < len)) 49 (match cs[n.toNat]? with
  | some c=>.ok c
  | none=>.no 50)
 | _,_=>.no 51
theorem aFE {len:Nat} {x i v:AV} {K:AV→Prop} (h:zB len x i = .ok v) (hk:K v):qO len x i K:=by
 unfold zB at h
 split at h
 ·obtain ⟨h1, h2⟩ := bH h
  rw [Bool.and_eq_true] at h1
  have h0:=of_decide_eq_true h1.1
  split at h2
  ·rename_i c hc
   cases h2
   have:=aV hc
   exact ⟨h0,of_decide_eq_true h1.2,by omega,by rw [getD_some hc]; exact hk⟩
  ·cases h2
 ·cases h
def z0 (i : Nat) (x : AV) : Ev AV := match x with
 | .tu vs => match vs[i]? with
  | some v=>.ok v
  | none=>.no 52
 | _=>.no 53
theorem aFG {i:Nat} {x v:AV} {K:AV→Prop} (h:z0 i x = .ok v) (hk:K v):aO i x K:=by
 unfold z0 at h
 split at h
 ·split at h
  ·rename_i w hw
   cases h
   exact ⟨aV hw,by rw [getD_some hw]; exact hk⟩
  ·cases h
 ·cases h
def cMM (mx:Bool) (xs:List AV):Ev AV:=match xs with
 | [.i k a,.i _ b]=>.ok (.i k (mmI mx a b))
 | [.i k a,.i _ b,.i _ c]=>.ok (.i k (mmI mx (mmI mx a b) c))
 | _=>.no 54
theorem aOO {mx:Bool} {xs:List AV} {v:AV} {K:AV→Prop} (h:cMM mx xs = .ok v) (hk:K v):pMM mx xs K:=by
 unfold cMM at h
 split at h
 ·cases h; exact hk
 ·cases h; exact hk
 ·cases h
def aHR (zeros:List AV) (parts:List (Nat × Nat × AV)):Ev AV:=match eZ zeros parts with
 | some cs=>.ok (.ag cs)
 | none=>.no 55
theorem aMX {zeros:List AV} {parts:List (Nat × Nat × AV)} {v:AV} {K:AV→Prop} (h:aHR zeros parts = .ok v) (hk:K v):f9 zeros parts K:=by
 unfold aHR at h
 unfold f9
 split at h
 ·rename_i e; simp only [e]; cases h; exact hk
 ·cases h
def aET (x:AV) (s:HS):Ev AV:=match x with
 | .p none=>.ok x
 | .p (some a)=>(cRd s a 1).bind fun _=>.ok x
 | _=>.no 56
theorem aIQ {x v:AV} {s:HS} {H:aA} {K:AV→Prop} (R:HR s H) (h:aET x s = .ok v) (hk:K v):nH x H K:=by
 unfold aET at h
 split at h
 ·cases h; exact hk
 ·obtain ⟨b, h1, h2⟩ := Ev.bind_ok h
  cases h2
  obtain ⟨g1,g2,_⟩:=sM R h1
  exact ⟨b.b,g1,g2,hk⟩
 ·cases h
def pH (P : Program) (u : TypeId) (x : AV) (s : HS) : Ev AV := match x with
 | .p none=>.ok x
 | .p (some a) => match s.t.get a.id with
  | some b => match b.b.ty with
   | some t=>want (Nat.ble b.b.floor b.n&&Nat.beq a.ver b.n&&liesAt P P.depth t (b.n / P.cellsOf t) a.off u 1) 57 (.ok x)
   | none=>.no 57
  | none=>.no 57
 | _=>.no 57
theorem zC {P : Program} {u : TypeId} {x v : AV} {s : HS} {H : aA} {K : AV → Prop} (R : HR s H) (h : pH P u x s = .ok v) (hk : K v) : eL P u x H K := by
 unfold pH at h
 split at h
 ·cases h; exact hk
 ·split at h
  ·rename_i b hb
   obtain ⟨g1,g2⟩:=R.is _ _ hb
   split at h
   ·rename_i t ht
    obtain ⟨h1,h2⟩:=bH h
    cases h2
    simp only [Bool.and_eq_true] at h1
    rw [g2] at h1
    exact ⟨b.b,t,g1,ht,Nat.le_of_ble_eq_true h1.1.1,Nat.eq_of_beq_eq_true h1.1.2,h1.2,hk⟩
   ·cases h
  ·cases h
 ·cases h
def aI3 (x : AV) (s : HS) : Ev (List (AV × AV)) := match x with
 | .mp none=>.ok []
 | .mp (some id) => match s.t.get id with
  | some b => match b.b.mp with
   | some (.inl es)=>.ok es
   | _=>.no 58
  | none=>.no 58
 | _=>.no 58
theorem aL2 {x : AV} {s : HS} {H : aA} {es : List (AV × AV)} (R : HR s H) (h : aI3 x s = .ok es) : aG0 x H = some es := by
 unfold aI3 at h
 split at h
 ·cases h; rfl
 ·split at h
  ·rename_i id b hb
   obtain ⟨g1,g2⟩:=R.is _ _ hb
   split at h
   ·rename_i es' he
    cases h
    unfold aG0
    simp only [g1,Option.bind_some,he]; rfl
   ·cases h
  ·cases h
 ·cases h
def aKG (P : Program) (kt el : TypeId) (ok : Bool) (x k : AV) (s : HS) : Ev AV := want (aMS P kt k) 59 ((aI3 x s).bind fun es => match sB P kt k es 0 with
 | some (some (_,v))=>.ok (bif ok then .tu [v,.b true] else v)
 | some none => match aGS P el with
  | some z=>.ok (bif ok then .tu [z,.b false] else z)
  | none=>.no 60
 | none=>.no 61)
theorem aHN {P:Program} {kt el:TypeId} {ok:Bool} {x k v:AV} {s:HS} {H:aA} {K:AV→Prop} (R:HR s H) (h:aKG P kt el ok x k s = .ok v) (hk:K v):oE P kt el ok x k H K:=by
 obtain ⟨h1,h2⟩:=bH h
 obtain ⟨es,h3,h4⟩:=Ev.bind_ok h2
 refine ⟨h1, ?_⟩
 rw [aL2 R h3]
 simp only
 split at h4
 ·rename_i e; simp only [e]; cases h4; exact hk
 ·rename_i e
  simp only [e]
  split at h4
  ·rename_i e2; simp only [e2]; cases h4; exact hk
  ·cases h4
 ·cases h4
end Go.GAM
