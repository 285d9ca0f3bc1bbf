/- Lemmas (several texts in one). -/
import Derived.Below
import Derived.ChangeArms
import Derived.ChangeSlices
import Derived.DataElems
import Derived.LaidMore
import Derived.Lib.Bytealg
import Derived.Test.YtpaphfeihpgamaaDoorMg2
set_option linter.unusedVariables false
set_option linter.unusedSectionVars false
set_option maxRecDepth 100000
namespace Go.Proofs.YtpaphfeihpgamaaDoor
open Go.GAM
variable [XR]
noncomputable def Y7.body:Code:=(Tryd.f80.body).getD .skip
def Y7.ann:Ann:=(sl [0,2] (sl [0,2,3] (sq [2,3] (sl [2,3,7,8,9] (.one (.loop 1 [2,3,7,8,9] (sl [2,3,7,8,9,10] (sq [2,3,7,8,9] bl (.seq 2 [2,3,7,8,9] (.one (sl [2,3,5,7,8,9] (sl [2,3,5,7,8,9,14] bl))) lf)))))) (sq [2,3] (sl [2,3,6] (.one (.loop 3 [2,3,6] (sq [2,3,6] (sl [2,3,6,24] bl) (sq [2,3,6] (.one (.ord (nn 0 15 (.eff 15 .done .stop)))) lf))))) (sl [2] lf)))))
theorem Y7.dist:aH (places Y7.ann Y7.body)=true:=by kernel_rfl
noncomputable def Y7.J (Q:AV→aA→Prop):JT:=bL prog C Tryd.f80 Y7.ann Y7.body Q
def Y7.p1 (Q:AV→aA→Prop) (x2 x3 x7:AV) (x8 x9:Int) (h:aA):Prop:=Y7.J Q 2 [(2,x2),(3,x3),(7,x7),(8,(AV.i .i64 x8)),(9,(AV.i .i64 x9))] h
def Y7.p0 (Q:AV→aA→Prop) (x2 x3 x7:AV) (x8 x9:Int) (h:aA):Prop:=Y7.J Q 1 [(2,x2),(3,x3),(7,x7),(8,(AV.i .i64 x8)),(9,(AV.i .i64 x9))] h
def Y7.p2 (Q:AV→aA→Prop) (x2 x3:AV) (x6:Int) (h:aA):Prop:=Y7.J Q 3 [(2,x2),(3,x3),(6,(AV.i .i64 x6))] h
def Y7.t1 (Q:AV→aA→Prop) (x2 x3 x7:AV) (x8 x9:Int) (h:aA) (J:JT):Prop:=
aO (IntKind.wrap .i64 (x9+1)) fun n26=>
J 1 [(2,x2),(3,x3),(7,x7),(8,(AV.i .i64 x8)),(9,(AV.i .i64 n26))] h
theorem Y7.i1 {Q x2 x3 x7 x8 x9 h} (H:Y7.t1 Q x2 x3 x7 x8 x9 h (Y7.J Q)):Y7.p1 Q x2 x3 x7 x8 x9 h:=gR Y7.J Tryd.f80 Y7.dist [1,1,0,1,0,0,1,1,1] H
def Y7.t0 (Q:AV→aA→Prop) (x2 x3 x7:AV) (x8 x9:Int) (h:aA) (J:JT):Prop:=
(bif (decide ((x9:Int)<x8)) then
(aX 1 x7 (AV.i .i64 x9) h fun v11=>
aB v11 h fun v12=>
asI .i64 v12 fun n13=>
(bif (decide ((0:Int)<n13)) then
(aC 0 x3 fun v16=>
bG 16 1 v16 (AV.i .i64 n13) fun v17=>
aB v17 h fun v18=>
asI .i64 v18 fun n19=>
aO (IntKind.wrap .i64 (n19+1)) fun n20=>
aC 0 x3 fun v21=>
bG 16 1 v21 (AV.i .i64 n13) fun v22=>
aU 1 v22 (AV.i .i64 n20) h fun h23=>
J 2 [(2,x2),(3,x3),(7,x7),(8,(AV.i .i64 x8)),(9,(AV.i .i64 x9))] h23)
else
(J 2 [(2,x2),(3,x3),(7,x7),(8,(AV.i .i64 x8)),(9,(AV.i .i64 x9))] h)))
else
(J 3 [(2,x2),(3,x3),(6,(AV.i .i64 1))] h))
theorem Y7.i0 {Q x2 x3 x7 x8 x9 h} (H:Y7.t0 Q x2 x3 x7 x8 x9 h (Y7.J Q)):Y7.p0 Q x2 x3 x7 x8 x9 h:=gH Y7.J Tryd.f80 Y7.dist [1,1,0,1,0] H
def Y7.t2 (Q:AV→aA→Prop) (x2 x3:AV) (x6:Int) (h:aA) (J:JT):Prop:=
(bif (decide ((x6:Int)≤15)) then
(aO (IntKind.wrap .i64 (x6 - 1)) fun n32=>
aC 16 x3 fun v33=>
bG 16 1 v33 (AV.i .i64 n32) fun v34=>
aB v34 h fun v35=>
asI .i64 v35 fun n36=>
aO (IntKind.wrap .i64 (x6 - 1)) fun n37=>
aC 0 x3 fun v38=>
bG 16 1 v38 (AV.i .i64 n37) fun v39=>
aB v39 h fun v40=>
asI .i64 v40 fun n41=>
aO (IntKind.wrap .i64 (n36+n41)) fun n42=>
nQ .i64 n42 1 fun n43=>
aC 16 x3 fun v44=>
bG 16 1 v44 (AV.i .i64 x6) fun v45=>
aU 1 v45 (AV.i .i64 n43) h fun h46=>
aO (IntKind.wrap .i64 (x6+1)) fun n48=>
J 3 [(2,x2),(3,x3),(6,(AV.i .i64 n48))] h46)
else
(cP 32 x3 h fun v50=>
aU 32 x2 v50 h fun h51=>
cP 32 x2 h51 fun v53=>
Q v53 h51))
theorem Y7.i2 {Q x2 x3 x6 h} (H:Y7.t2 Q x2 x3 x6 h (Y7.J Q)):Y7.p2 Q x2 x3 x6 h:=gH Y7.J Tryd.f80 Y7.dist [1,1,1,0,1,0] H
def Y7.t (Q:AV→aA→Prop) (x0:AV) (h:aA) (J:JT):Prop:=
cW (some 120) [(AV.i .i64 0),(AV.i .i64 0),(AV.i .i64 0),(AV.i .i64 0),(AV.i .i64 0),(AV.i .i64 0),(AV.i .i64 0),(AV.i .i64 0),(AV.i .i64 0),(AV.i .i64 0),(AV.i .i64 0),(AV.i .i64 0),(AV.i .i64 0),(AV.i .i64 0),(AV.i .i64 0),(AV.i .i64 0),(AV.i .i64 0),(AV.i .i64 0),(AV.i .i64 0),(AV.i .i64 0),(AV.i .i64 0),(AV.i .i64 0),(AV.i .i64 0),(AV.i .i64 0),(AV.i .i64 0),(AV.i .i64 0),(AV.i .i64 0),(AV.i .i64 0),(AV.i .i64 0),(AV.i .i64 0),(AV.i .i64 0),(AV.i .i64 0)] h fun v0 h1=>
cW (some 120) [(AV.i .i64 0),(AV.i .i64 0),(AV.i .i64 0),(AV.i .i64 0),(AV.i .i64 0),(AV.i .i64 0),(AV.i .i64 0),(AV.i .i64 0),(AV.i .i64 0),(AV.i .i64 0),(AV.i .i64 0),(AV.i .i64 0),(AV.i .i64 0),(AV.i .i64 0),(AV.i .i64 0),(AV.i .i64 0),(AV.i .i64 0),(AV.i .i64 0),(AV.i .i64 0),(AV.i .i64 0),(AV.i .i64 0),(AV.i .i64 0),(AV.i .i64 0),(AV.i .i64 0),(AV.i .i64 0),(AV.i .i64 0),(AV.i .i64 0),(AV.i .i64 0),(AV.i .i64 0),(AV.i .i64 0),(AV.i .i64 0),(AV.i .i64 0)] h1 fun v3 h4=>
bX x0 fun n6=>
J 1 [(2,v0),(3,v3),(7,x0),(8,(AV.i .i64 n6)),(9,(AV.i .i64 0))] h4
theorem Y7.call {K x0 h} (H:Y7.t (aK h K) x0 h (Y7.J (aK h K))):C Y7.id [x0] h K:=
 gC Y7.J Tryd.func80 Y7.dist H
noncomputable def Y32.body:Code:=(Tryd.f85.body).getD .skip
def Y32.ann:Ann:=(sl [0] (sq [2] (.ord (nn 0 11 .done)) lf))
theorem Y32.dist:aH (places Y32.ann Y32.body)=true:=by kernel_rfl
noncomputable def Y32.J (Q:AV→aA→Prop):JT:=bL prog C Tryd.f85 Y32.ann Y32.body Q
def Y32.t (Q:AV→aA→Prop) (x0:AV) (h:aA) (J:JT):Prop:=
aY x0 fun v1=>
aC 0 v1 fun v2=>
aB v2 h fun v3=>
bX v3 fun n4=>
aY x0 fun v5=>
aC 1 v5 fun v6=>
aB v6 h fun v7=>
asI .i64 v7 fun n8=>
aO (IntKind.wrap .i64 (n4 - n8)) fun n9=>
Q (AV.i .i64 n9) h
theorem Y32.call {K x0 h} (H:Y32.t (aK h K) x0 h (Y32.J (aK h K))):C Y32.id [x0] h K:=
 gC Y32.J Tryd.func85 Y32.dist H
noncomputable def Y59.body:Code:=(Tryd.f88.body).getD .skip
def Y59.ann:Ann:=(sl [0,1] (sq [0,1] (.br (sl [6,7] (sl [4,5] lf)) lf) (sl [8,9] (sl [4,5] lf))))
theorem Y59.dist:aH (places Y59.ann Y59.body)=true:=by kernel_rfl
noncomputable def Y59.J (Q:AV→aA→Prop):JT:=bL prog C Tryd.f88 Y59.ann Y59.body Q
def Y59.t (Q:AV→aA→Prop) (x0 x1:Int) (h:aA) (J:JT):Prop:=
C Y66.id [(AV.i .u64 x0),(AV.i .u64 x1)] h fun v2 h3=>
aN 0 v2 fun v4=>
asI .u64 v4 fun n5=>
aN 1 v2 fun v6=>
asI .u64 v6 fun n7=>
Q (AV.tu [(AV.i .u64 n5),(AV.i .u64 n7)]) h3
theorem Y59.call {K x0 x1 h} (H:Y59.t (aK h K) x0 x1 h (Y59.J (aK h K))):C Y59.id [(AV.i .u64 x0),(AV.i .u64 x1)] h K:=
 gC Y59.J Tryd.func88 Y59.dist H
noncomputable def Y65.body:Code:=(Tryd.f89.body).getD .skip
def Y65.ann:Ann:=(sl [1] (sl [2] lf))
theorem Y65.dist:aH (places Y65.ann Y65.body)=true:=by kernel_rfl
noncomputable def Y65.J (Q:AV→aA→Prop):JT:=bL prog C Tryd.f89 Y65.ann Y65.body Q
def Y65.t (Q:AV→aA→Prop) (x0:AV) (h:aA) (J:JT):Prop:=
dD none x0 h fun v0 h1=>
Q (AV.fn (.func Y25.id) [] [v0]) h1
theorem Y65.call {K x0 h} (H:Y65.t (aK h K) x0 h (Y65.J (aK h K))):C Y65.id [x0] h K:=
 gC Y65.J Tryd.func89 Y65.dist H
noncomputable def Y62.body:Code:=(Tryd.f90.body).getD .skip
def Y62.ann:Ann:=(sl [1,2] (sl [3] lf))
theorem Y62.dist:aH (places Y62.ann Y62.body)=true:=by kernel_rfl
noncomputable def Y62.J (Q:AV→aA→Prop):JT:=bL prog C Tryd.f90 Y62.ann Y62.body Q
def Y62.t (Q:AV→aA→Prop) (x0:Int) (x1:AV) (h:aA) (J:JT):Prop:=
dD none (AV.i .i64 x0) h fun v0 h1=>
aB x1 h1 fun v3=>
C Y27.id [v3,(AV.i .i64 16),(AV.fn (.func Y55.id) [] [v0,x1])] h1 fun v4 h5=>
asI .i64 v4 fun n6=>
Q (AV.i .i64 n6) h5
theorem Y62.call {K x0 x1 h} (H:Y62.t (aK h K) x0 x1 h (Y62.J (aK h K))):C Y62.id [(AV.i .i64 x0),x1] h K:=
 gC Y62.J Tryd.func90 Y62.dist H
noncomputable def Y55.body:Code:=(Tryd.f91.body).getD .skip
def Y55.ann:Ann:=(sl [0,1,2] (sq [1,2] (sl [1,2,8] (.br (sl [4] lf) lf)) (sl [4] lf)))
theorem Y55.dist:aH (places Y55.ann Y55.body)=true:=by kernel_rfl
noncomputable def Y55.J (Q:AV→aA→Prop):JT:=bL prog C Tryd.f91 Y55.ann Y55.body Q
def Y55.t (Q:AV→aA→Prop) (x0:Int) (x1 x2:AV) (h:aA) (J:JT):Prop:=
aB x1 h fun v1=>
asI .i64 v1 fun n2=>
aO (IntKind.wrap .i64 (65535 - n2)) fun n3=>
(bif (!decide ((x0:Int)=n3)) then
(Q (AV.i .i64 2) h)
else
(aB x2 h fun v7=>
aB x1 h fun v8=>
asI .i64 v8 fun n9=>
C Y46.id [v7,(AV.i .i64 n9)] h fun v10 h11=>
asI .i64 v10 fun n12=>
Q (AV.i .i64 n12) h11))
theorem Y55.call {K x0 x1 x2 h} (H:Y55.t (aK h K) x0 x1 x2 h (Y55.J (aK h K))):C Y55.id [(AV.i .i64 x0),x1,x2] h K:=
 gC Y55.J Tryd.func91 Y55.dist H
noncomputable def Y46.body:Code:=(Tryd.f92.body).getD .skip
def Y46.ann:Ann:=(sl [2,3] (sq [2,3] (sl [2,3,6] (.br (sl [4] lf) lf)) (sl [4] lf)))
theorem Y46.dist:aH (places Y46.ann Y46.body)=true:=by kernel_rfl
noncomputable def Y46.J (Q:AV→aA→Prop):JT:=bL prog C Tryd.f92 Y46.ann Y46.body Q
def Y46.t (Q:AV→aA→Prop) (x0:AV) (x1:Int) (h:aA) (J:JT):Prop:=
dD none x0 h fun v0 h1=>
dD none (AV.i .i64 x1) h1 fun v2 h3=>
aB v2 h3 fun v5=>
asI .i64 v5 fun n6=>
(bif (decide ((n6:Int)=0)) then
(aB v0 h3 fun v8=>
C Y36.id [v8] h3 fun v9 h10=>
asI .i64 v9 fun n11=>
Q (AV.i .i64 n11) h10)
else
(aB v0 h3 fun v14=>
C Y27.id [v14,(AV.i .i64 8),(AV.fn (.func Y58.id) [] [v0,v2])] h3 fun v15 h16=>
asI .i64 v15 fun n17=>
Q (AV.i .i64 n17) h16))
theorem Y46.call {K x0 x1 h} (H:Y46.t (aK h K) x0 x1 h (Y46.J (aK h K))):C Y46.id [x0,(AV.i .i64 x1)] h K:=
 gC Y46.J Tryd.func92 Y46.dist H
noncomputable def Y42.body:Code:=(Tryd.f93.body).getD .skip
def Y42.ann:Ann:=(sl [0,1,2] (sl [0,2,7,8] (sq [0,2,7] (sl [0,2,7,16] (.br (sl [6] lf) lf)) (sl [0,7,8,9] (sq [0,7,9] (sl [0,7,9,23] (.br (sl [6] lf) lf)) (sl [6] lf))))))
theorem Y42.dist:aH (places Y42.ann Y42.body)=true:=by kernel_rfl
noncomputable def Y42.J (Q:AV→aA→Prop):JT:=bL prog C Tryd.f93 Y42.ann Y42.body Q
def Y42.t (Q:AV→aA→Prop) (x0 x1 x2:AV) (h:aA) (J:JT):Prop:=
C Y6.id [x1] h fun v1 h2=>
aN 0 v1 fun v3=>
aN 1 v1 fun v4=>
asI .i64 v4 fun n5=>
(bif (!decide ((n5:Int)=0)) then
(Q (AV.i .i64 2) h2)
else
(C Y6.id [x2] h2 fun v10 h11=>
aN 0 v10 fun v12=>
aN 1 v10 fun v13=>
asI .i64 v13 fun n14=>
(bif (!decide ((n14:Int)=0)) then
(Q (AV.i .i64 2) h11)
else
(C Y37.id [x0,v3,v12] h11 fun v19 h20=>
asI .i64 v19 fun n21=>
Q (AV.i .i64 n21) h20))))
theorem Y42.call {K x0 x1 x2 h} (H:Y42.t (aK h K) x0 x1 x2 h (Y42.J (aK h K))):C Y42.id [x0,x1,x2] h K:=
 gC Y42.J Tryd.func93 Y42.dist H
noncomputable def Y47.body:Code:=(Tryd.f94.body).getD .skip
def Y47.ann:Ann:=(sl [0,1] (sl [1,4] (sq [1,4] (sl [1,4,8] (.br (sl [3] lf) lf)) (sl [3] lf))))
theorem Y47.dist:aH (places Y47.ann Y47.body)=true:=by kernel_rfl
noncomputable def Y47.J (Q:AV→aA→Prop):JT:=bL prog C Tryd.f94 Y47.ann Y47.body Q
def Y47.t (Q:AV→aA→Prop) (x0:Int) (x1:AV) (h:aA) (J:JT):Prop:=
aO (IntKind.wrap .i64 (x0+257)) fun n1=>
cW none [(AV.i .i64 0)] h fun v2 h3=>
aU 1 v2 (AV.i .i64 n1) h3 fun h4=>
aB v2 h4 fun v6=>
asI .i64 v6 fun n7=>
(bif (decide ((286:Int)<n7)) then
(Q (AV.i .i64 2) h4)
else
(aB x1 h4 fun v11=>
C Y27.id [v11,(AV.i .i64 5),(AV.fn (.func Y60.id) [] [x1,v2])] h4 fun v12 h13=>
asI .i64 v12 fun n14=>
Q (AV.i .i64 n14) h13))
theorem Y47.call {K x0 x1 h} (H:Y47.t (aK h K) x0 x1 h (Y47.J (aK h K))):C Y47.id [(AV.i .i64 x0),x1] h K:=
 gC Y47.J Tryd.func94 Y47.dist H
noncomputable def Y60.body:Code:=(Tryd.f95.body).getD .skip
def Y60.ann:Ann:=(sl [0,1,2] (sl [1,2,5] (sq [1,2,5] (sl [1,2,5,9] (.br (sl [4] lf) lf)) (sl [4] lf))))
theorem Y60.dist:aH (places Y60.ann Y60.body)=true:=by kernel_rfl
noncomputable def Y60.J (Q:AV→aA→Prop):JT:=bL prog C Tryd.f95 Y60.ann Y60.body Q
def Y60.t (Q:AV→aA→Prop) (x0:Int) (x1 x2:AV) (h:aA) (J:JT):Prop:=
aO (IntKind.wrap .i64 (x0+1)) fun n1=>
cW none [(AV.i .i64 0)] h fun v2 h3=>
aU 1 v2 (AV.i .i64 n1) h3 fun h4=>
aB v2 h4 fun v6=>
asI .i64 v6 fun n7=>
(bif (decide ((30:Int)<n7)) then
(Q (AV.i .i64 2) h4)
else
(aB x1 h4 fun v11=>
C Y27.id [v11,(AV.i .i64 4),(AV.fn (.func Y54.id) [] [x1,x2,v2])] h4 fun v12 h13=>
asI .i64 v12 fun n14=>
Q (AV.i .i64 n14) h13))
theorem Y60.call {K x0 x1 x2 h} (H:Y60.t (aK h K) x0 x1 x2 h (Y60.J (aK h K))):C Y60.id [(AV.i .i64 x0),x1,x2] h K:=
 gC Y60.J Tryd.func95 Y60.dist H
noncomputable def Y54.body:Code:=(Tryd.f96.body).getD .skip
def Y54.ann:Ann:=(sl [0,1,2,3] (sq [5] (.ord (.neu 0 (nn 2 4 (.eff 1 (.eff 6 (.neu 7 .done) .stop) .stop)))) lf))
theorem Y54.dist:aH (places Y54.ann Y54.body)=true:=by kernel_rfl
noncomputable def Y54.J (Q:AV→aA→Prop):JT:=bL prog C Tryd.f96 Y54.ann Y54.body Q
def Y54.t (Q:AV→aA→Prop) (x0:Int) (x1 x2 x3:AV) (h:aA) (J:JT):Prop:=
aB x1 h fun v1=>
aO (IntKind.wrap .i64 (x0+4)) fun n2=>
aB x2 h fun v3=>
asI .i64 v3 fun n4=>
aB x3 h fun v5=>
asI .i64 v5 fun n6=>
nD 1 8 [(AV.i .i64 0)] (AV.i .i64 19) (AV.i .i64 19) h fun v7 h8=>
aB x3 h8 fun v9=>
asI .i64 v9 fun n10=>
((AV.i .i64 n6)=(AV.i .i64 n10) ∧
(aB x2 h8 fun v11=>
asI .i64 v11 fun n12=>
((AV.i .i64 n4)=(AV.i .i64 n12) ∧
(aB x1 h8 fun v13=>
(v1=v13 ∧
(C Y45.id [v1,v7,(AV.i .i64 0),(AV.i .i64 n2),(AV.i .i64 n4),(AV.i .i64 n6)] h8 fun v14 h15=>
asI .i64 v14 fun n16=>
Q (AV.i .i64 n16) h15))))))
theorem Y54.call {K x0 x1 x2 x3 h} (H:Y54.t (aK h K) x0 x1 x2 x3 h (Y54.J (aK h K))):C Y54.id [(AV.i .i64 x0),x1,x2,x3] h K:=
 gC Y54.J Tryd.func96 Y54.dist H
noncomputable def Y45.body:Code:=(Tryd.f97.body).getD .skip
def Y45.ann:Ann:=(sl [6,7,8,9,10,11] (sq [6,7,8,9,10,11] (sl [6,7,8,9,10,11,17] (.br (sl [6,10,11,13,14] (sq [6,10,11,13] (sl [6,10,11,13,24] (.br (sl [12] lf) lf)) (sl [12] lf))) lf)) (sl [12] lf)))
theorem Y45.dist:aH (places Y45.ann Y45.body)=true:=by kernel_rfl
noncomputable def Y45.J (Q:AV→aA→Prop):JT:=bL prog C Tryd.f97 Y45.ann Y45.body Q
def Y45.t (Q:AV→aA→Prop) (x0 x1:AV) (x2 x3 x4 x5:Int) (h:aA) (J:JT):Prop:=
dD none x0 h fun v0 h1=>
dD none x1 h1 fun v2 h3=>
dD none (AV.i .i64 x2) h3 fun v4 h5=>
dD none (AV.i .i64 x3) h5 fun v6 h7=>
dD none (AV.i .i64 x4) h7 fun v8 h9=>
dD none (AV.i .i64 x5) h9 fun v10 h11=>
aB v4 h11 fun v13=>
asI .i64 v13 fun n14=>
aB v6 h11 fun v15=>
asI .i64 v15 fun n16=>
(bif (decide ((n14:Int)=n16)) then
(aB v2 h11 fun v18=>
C Y6.id [v18] h11 fun v19 h20=>
aN 0 v19 fun v21=>
aN 1 v19 fun v22=>
asI .i64 v22 fun n23=>
(bif (!decide ((n23:Int)=0)) then
(Q (AV.i .i64 2) h20)
else
(aB v0 h20 fun v28=>
aB v8 h20 fun v29=>
asI .i64 v29 fun n30=>
aB v10 h20 fun v31=>
asI .i64 v31 fun n32=>
C Y38.id [v28,v21,(AV.sl none 0 none),(AV.i .i64 n30),(AV.i .i64 n32)] h20 fun v33 h34=>
asI .i64 v33 fun n35=>
Q (AV.i .i64 n35) h34)))
else
(aB v0 h11 fun v38=>
C Y27.id [v38,(AV.i .i64 3),(AV.fn (.func Y50.id) [] [v2,v4,v0,v6,v8,v10])] h11 fun v39 h40=>
asI .i64 v39 fun n41=>
Q (AV.i .i64 n41) h40))
theorem Y45.call {K x0 x1 x2 x3 x4 x5 h} (H:Y45.t (aK h K) x0 x1 x2 x3 x4 x5 h (Y45.J (aK h K))):C Y45.id [x0,x1,(AV.i .i64 x2),(AV.i .i64 x3),(AV.i .i64 x4),(AV.i .i64 x5)] h K:=
 gC Y45.J Tryd.func97 Y45.dist H
noncomputable def Y66.body:Code:=(Tryd.f104.body).getD .skip
def Y66.ann:Ann:=(sl [0,1] (sl [0,1,6] (sl [0,1,6,7] (sl [0,1,6,7,8] (sl [0,1,6,7,8,9] (sl [0,1,6,7,8,9,10] (sl [0,1,6,7,9,11] (sl [0,1,6,7,9,11,12] (sl [0,1,6,7,9,12,13] (sl [0,1,7,9,12,13] (sl [0,1,4] (sl [4,5] lf))))))))))))
theorem Y66.dist:aH (places Y66.ann Y66.body)=true:=by kernel_rfl
noncomputable def Y66.J (Q:AV→aA→Prop):JT:=bL prog C Tryd.f104 Y66.ann Y66.body Q
def Y66.t (Q:AV→aA→Prop) (x0 x1:Int) (h:aA) (J:JT):Prop:=
aO (bP .and .u64 x0 4294967295) fun n1=>
lU .u64 x0 32 fun n3=>
aO (bP .and .u64 x1 4294967295) fun n5=>
lU .u64 x1 32 fun n7=>
aO (IntKind.wrap .u64 (n1 * n5)) fun n9=>
aO (IntKind.wrap .u64 (n3 * n5)) fun n11=>
lU .u64 n9 32 fun n12=>
aO (IntKind.wrap .u64 (n11+n12)) fun n13=>
aO (bP .and .u64 n13 4294967295) fun n15=>
lU .u64 n13 32 fun n17=>
aO (IntKind.wrap .u64 (n1 * n7)) fun n19=>
aO (IntKind.wrap .u64 (n15+n19)) fun n20=>
aO (IntKind.wrap .u64 (n3 * n7)) fun n22=>
aO (IntKind.wrap .u64 (n22+n17)) fun n23=>
lU .u64 n20 32 fun n24=>
aO (IntKind.wrap .u64 (n23+n24)) fun n25=>
aO (IntKind.wrap .u64 (x0 * x1)) fun n27=>
Q (AV.tu [(AV.i .u64 n25),(AV.i .u64 n27)]) h
theorem Y66.call {K x0 x1 h} (H:Y66.t (aK h K) x0 x1 h (Y66.J (aK h K))):C Y66.id [(AV.i .u64 x0),(AV.i .u64 x1)] h K:=
 gC Y66.J Tryd.func104 Y66.dist H
noncomputable def Y25.body:Code:=(Tryd.f105.body).getD .skip
def Y25.ann:Ann:=(sl [0,1,3] (.one (.loop 1 [0,1,3] (sq [0,1,3] (sl [0,1,3,8] bl) (sq [0,1,3] (.one (sl [0,1,3,18] bl)) lf)))))
theorem Y25.dist:aH (places Y25.ann Y25.body)=true:=by kernel_rfl
noncomputable def Y25.J (Q:AV→aA→Prop):JT:=bL prog C Tryd.f105 Y25.ann Y25.body Q
def Y25.p0 (Q:AV→aA→Prop) (x0 x1:AV) (x3:Int) (h:aA):Prop:=Y25.J Q 1 [(0,x0),(1,x1),(3,(AV.i .i64 x3))] h
def Y25.t0 (Q:AV→aA→Prop) (x0 x1:AV) (x3:Int) (h:aA) (J:JT):Prop:=
(bif (decide ((0:Int)≤x3)) then
(aB x1 h fun v6=>
aX 1 v6 (AV.i .i64 x3) h fun v7=>
aB v7 h fun v8=>
asI .i64 v8 fun n9=>
bV C x0 [(AV.i .i64 x3),(AV.i .i64 n9)] h fun v10 h11=>
asB v10 fun c12=>
(bif (!c12) then
(Q (AV.tu []) h11)
else
(aO (IntKind.wrap .i64 (x3 - 1)) fun n15=>
J 1 [(0,x0),(1,x1),(3,(AV.i .i64 n15))] h11)))
else
(Q (AV.tu []) h))
theorem Y25.i0 {Q x0 x1 x3 h} (H:Y25.t0 Q x0 x1 x3 h (Y25.J Q)):Y25.p0 Q x0 x1 x3 h:=gH Y25.J Tryd.f105 Y25.dist [1,0] H
def Y25.t (Q:AV→aA→Prop) (x0 x1:AV) (h:aA) (J:JT):Prop:=
aB x1 h fun v0=>
bX v0 fun n1=>
aO (IntKind.wrap .i64 (n1 - 1)) fun n2=>
J 1 [(0,x0),(1,x1),(3,(AV.i .i64 n2))] h
theorem Y25.call {K x0 x1 h} (H:Y25.t (aK h K) x0 x1 h (Y25.J (aK h K))):C Y25.id [x0,x1] h K:=
 gC Y25.J Tryd.func105 Y25.dist H
noncomputable def Y58.body:Code:=(Tryd.f106.body).getD .skip
def Y58.ann:Ann:=(sl [0,1,2] (sq [1,2] (sl [1,2,5] (sl [1,2,5,11] (.br (sl [4] lf) lf))) (sl [4] lf)))
theorem Y58.dist:aH (places Y58.ann Y58.body)=true:=by kernel_rfl
noncomputable def Y58.J (Q:AV→aA→Prop):JT:=bL prog C Tryd.f106 Y58.ann Y58.body Q
def Y58.t (Q:AV→aA→Prop) (x0:Int) (x1 x2:AV) (h:aA) (J:JT):Prop:=
aB x1 h fun v1=>
C Y16.id [v1,(AV.i .u8 (IntKind.wrap .u8 x0))] h fun v2 h3=>
asI .i64 v2 fun n4=>
(bif (!decide ((n4:Int)=0)) then
(Q (AV.i .i64 n4) h3)
else
(aB x1 h3 fun v9=>
aB x2 h3 fun v10=>
asI .i64 v10 fun n11=>
aO (IntKind.wrap .i64 (n11 - 1)) fun n12=>
C Y46.id [v9,(AV.i .i64 n12)] h3 fun v13 h14=>
asI .i64 v13 fun n15=>
Q (AV.i .i64 n15) h14))
theorem Y58.call {K x0 x1 x2 h} (H:Y58.t (aK h K) x0 x1 x2 h (Y58.J (aK h K))):C Y58.id [(AV.i .i64 x0),x1,x2] h K:=
 gC Y58.J Tryd.func106 Y58.dist H
noncomputable def Y16.body:Code:=(Tryd.f107.body).getD .skip
def Y16.ann:Ann:=(sl [0,1] (sq [0,1] (.seq 1 [0,1,32] (.ord (nn 0 28 .done)) (.br (sl [4] lf) lf)) (sl [0,1] (sl [0,1] (.seq 2 [0,1] (sl [0,1,55] bl) (sl [] (sl [4] lf)))))))
theorem Y16.dist:aH (places Y16.ann Y16.body)=true:=by kernel_rfl
noncomputable def Y16.J (Q:AV→aA→Prop):JT:=bL prog C Tryd.f107 Y16.ann Y16.body Q
def Y16.p0 (Q:AV→aA→Prop) (x0:AV) (x1:Int) (x32:Bool) (h:aA):Prop:=Y16.J Q 1 [(0,x0),(1,(AV.i .u8 x1)),(32,(AV.b x32))] h
def Y16.p1 (Q:AV→aA→Prop) (x0:AV) (x1:Int) (h:aA):Prop:=Y16.J Q 2 [(0,x0),(1,(AV.i .u8 x1))] h
def Y16.t0 (Q:AV→aA→Prop) (x0:AV) (x1:Int) (x32:Bool) (h:aA) (J:JT):Prop:=
(bif x32 then
(Q (AV.i .i64 16) h)
else
(aY x0 fun v29=>
aC 3 v29 fun v30=>
aB v30 h fun v31=>
asI .i64 v31 fun n32=>
aO (IntKind.wrap .i64 (n32+1)) fun n33=>
aY x0 fun v34=>
aC 3 v34 fun v35=>
aU 1 v35 (AV.i .i64 n33) h fun h36=>
aY x0 fun v38=>
aC 4 v38 fun v39=>
aB v39 h36 fun v40=>
bQ 1 1 [(AV.i .u8 0)] [(0,1,(AV.i .u8 x1))] h36 fun v41 h42=>
bU (some 5) 1 1 v40 v41 h42 fun v43 h44=>
aY x0 fun v45=>
aC 4 v45 fun v46=>
aU 1 v46 v43 h44 fun h47=>
aY x0 fun v49=>
aC 2 v49 fun v50=>
aB v50 h47 fun v51=>
bX v51 fun n52=>
(bif (decide ((65536:Int)≤n52)) then
(aY x0 fun v54=>
aC 2 v54 fun v55=>
aB v55 h47 fun v56=>
bJ 1 v56 (some (AV.i .i64 32768)) none none h47 fun v57=>
C Y68.id [v57] h47 fun v58 h59=>
aY x0 fun v60=>
aC 2 v60 fun v61=>
aU 1 v61 v58 h59 fun h62=>
J 2 [(0,x0),(1,(AV.i .u8 x1))] h62)
else
(J 2 [(0,x0),(1,(AV.i .u8 x1))] h47))))
theorem Y16.i0 {Q x0 x1 x32 h} (H:Y16.t0 Q x0 x1 x32 h (Y16.J Q)):Y16.p0 Q x0 x1 x32 h:=gR Y16.J Tryd.f107 Y16.dist [1,0,1] H
def Y16.t1 (Q:AV→aA→Prop) (x0:AV) (x1:Int) (h:aA) (J:JT):Prop:=
aY x0 fun v65=>
aC 2 v65 fun v66=>
aB v66 h fun v67=>
bQ 1 1 [(AV.i .u8 0)] [(0,1,(AV.i .u8 x1))] h fun v68 h69=>
bU (some 5) 1 1 v67 v68 h69 fun v70 h71=>
aY x0 fun v72=>
aC 2 v72 fun v73=>
aU 1 v73 v70 h71 fun h74=>
Q (AV.i .i64 0) h74
theorem Y16.i1 {Q x0 x1 h} (H:Y16.t1 Q x0 x1 h (Y16.J Q)):Y16.p1 Q x0 x1 h:=gR Y16.J Tryd.f107 Y16.dist [1,1,1,1,1] H
def Y16.t (Q:AV→aA→Prop) (x0:AV) (x1:Int) (h:aA) (J:JT):Prop:=
aY x0 fun v1=>
aC 3 v1 fun v2=>
aB v2 h fun v3=>
asI .i64 v3 fun n4=>
aY x0 fun v5=>
aC 0 v5 fun v6=>
aC 0 v6 fun v7=>
aB v7 h fun v8=>
asI .i64 v8 fun n9=>
(bif (decide ((n9:Int)≤n4)) then
(J 1 [(0,x0),(1,(AV.i .u8 x1)),(32,(AV.b true))] h)
else
(aY x0 fun v11=>
aC 3 v11 fun v12=>
aB v12 h fun v13=>
asI .i64 v13 fun n14=>
aY x0 fun v15=>
aC 0 v15 fun v16=>
aC 1 v16 fun v17=>
aB v17 h fun v18=>
asI .i64 v18 fun n19=>
aY x0 fun v20=>
aC 5 v20 fun v21=>
aB v21 h fun v22=>
asI .i64 v22 fun n23=>
aO (IntKind.wrap .i64 (n19 * n23)) fun n24=>
aO (IntKind.wrap .i64 (n24+1024)) fun n25=>
J 1 [(0,x0),(1,(AV.i .u8 x1)),(32,(AV.b (decide ((n25:Int)≤n14))))] h))
theorem Y16.call {K x0 x1 h} (H:Y16.t (aK h K) x0 x1 h (Y16.J (aK h K))):C Y16.id [x0,(AV.i .u8 x1)] h K:=
 gC Y16.J Tryd.func107 Y16.dist H
noncomputable def Y6.body:Code:=(Tryd.f108.body).getD .skip
def Y6.ann:Ann:=(sl [0] (sq [0] (sl [0,4] (sl [0,4,12] (.br (sl [2,3] lf) lf))) (sl [0,5] (sq [5] (sl [0,5,6] (.one (.loop 1 [0,5,6] (sq [0,5,6] (sl [0,5,6,19] bl) (sq [0,5,6] (.one (sq [0,5,6] (.ord (nn 0 10 (.eff 10 .done .stop))) (sl [0,5,6,32,33,34] (.one (.loop 2 [0,5,6,32,33,34] (sl [0,5,6,32,33,34,35] (sq [0,5,6,32,33,34] bl (.seq 3 [0,5,6,32,33,34] (.one (sl [0,5,6,7,8,32,33,34] (sl [0,5,6,7,32,33,34,41] (.br (sl [0,5,6,32,33,34] lf) lf)))) lf)))))))) lf))))) (sl [2,3] lf)))))
theorem Y6.dist:aH (places Y6.ann Y6.body)=true:=by kernel_rfl
noncomputable def Y6.J (Q:AV→aA→Prop):JT:=bL prog C Tryd.f108 Y6.ann Y6.body Q
def Y6.p2 (Q:AV→aA→Prop) (x0 x5:AV) (x6:Int) (x32:AV) (x33 x34:Int) (h:aA):Prop:=Y6.J Q 3 [(0,x0),(5,x5),(6,(AV.i .i64 x6)),(32,x32),(33,(AV.i .i64 x33)),(34,(AV.i .i64 x34))] h
def Y6.p1 (Q:AV→aA→Prop) (x0 x5:AV) (x6:Int) (x32:AV) (x33 x34:Int) (h:aA):Prop:=Y6.J Q 2 [(0,x0),(5,x5),(6,(AV.i .i64 x6)),(32,x32),(33,(AV.i .i64 x33)),(34,(AV.i .i64 x34))] h
def Y6.p0 (Q:AV→aA→Prop) (x0 x5:AV) (x6:Int) (h:aA):Prop:=Y6.J Q 1 [(0,x0),(5,x5),(6,(AV.i .i64 x6))] h
def Y6.t2 (Q:AV→aA→Prop) (x0 x5:AV) (x6:Int) (x32:AV) (x33 x34:Int) (h:aA) (J:JT):Prop:=
aO (IntKind.wrap .i64 (x34+1)) fun n53=>
J 2 [(0,x0),(5,x5),(6,(AV.i .i64 x6)),(32,x32),(33,(AV.i .i64 x33)),(34,(AV.i .i64 n53))] h
theorem Y6.i2 {Q x0 x5 x6 x32 x33 x34 h} (H:Y6.t2 Q x0 x5 x6 x32 x33 x34 h (Y6.J Q)):Y6.p2 Q x0 x5 x6 x32 x33 x34 h:=gR Y6.J Tryd.f108 Y6.dist [1,1,1,0,1,0,0,1,0,0,1,1,0,0,1,1,1] H
def Y6.t1 (Q:AV→aA→Prop) (x0 x5:AV) (x6:Int) (x32:AV) (x33 x34:Int) (h:aA) (J:JT):Prop:=
(bif (decide ((x34:Int)<x33)) then
(aX 1 x32 (AV.i .i64 x34) h fun v32=>
aB v32 h fun v33=>
asI .i64 v33 fun n34=>
(bif (decide ((n34:Int)=x6)) then
(aY x5 fun v37=>
aC 32 v37 fun v38=>
aB v38 h fun v39=>
bQ 1 1 [(AV.i .i64 0)] [(0,1,(AV.i .i64 x34))] h fun v40 h41=>
bU none 1 8 v39 v40 h41 fun v42 h43=>
aY x5 fun v44=>
aC 32 v44 fun v45=>
aU 1 v45 v42 h43 fun h46=>
aY x5 fun v48=>
aC 49 v48 fun v49=>
aU 1 v49 (AV.i .i64 x6) h46 fun h50=>
J 3 [(0,x0),(5,x5),(6,(AV.i .i64 x6)),(32,x32),(33,(AV.i .i64 x33)),(34,(AV.i .i64 x34))] h50)
else
(J 3 [(0,x0),(5,x5),(6,(AV.i .i64 x6)),(32,x32),(33,(AV.i .i64 x33)),(34,(AV.i .i64 x34))] h)))
else
(aO (IntKind.wrap .i64 (x6+1)) fun n55=>
J 1 [(0,x0),(5,x5),(6,(AV.i .i64 n55))] h))
theorem Y6.i1 {Q x0 x5 x6 x32 x33 x34 h} (H:Y6.t1 Q x0 x5 x6 x32 x33 x34 h (Y6.J Q)):Y6.p1 Q x0 x5 x6 x32 x33 x34 h:=gH Y6.J Tryd.f108 Y6.dist [1,1,1,0,1,0,0,1,0,0,1,1,0] H
def Y6.t0 (Q:AV→aA→Prop) (x0 x5:AV) (x6:Int) (h:aA) (J:JT):Prop:=
(bif (decide ((x6:Int)≤15)) then
(aY x5 fun v18=>
aC 32 v18 fun v19=>
aB v19 h fun v20=>
bX v20 fun n21=>
aY x5 fun v22=>
aC 33 v22 fun v23=>
bG 16 1 v23 (AV.i .i64 x6) fun v24=>
aU 1 v24 (AV.i .i64 n21) h fun h25=>
bX x0 fun n27=>
J 2 [(0,x0),(5,x5),(6,(AV.i .i64 x6)),(32,x0),(33,(AV.i .i64 n27)),(34,(AV.i .i64 0))] h25)
else
(Q (AV.tu [x5,(AV.i .i64 0)]) h))
theorem Y6.i0 {Q x0 x5 x6 h} (H:Y6.t0 Q x0 x5 x6 h (Y6.J Q)):Y6.p0 Q x0 x5 x6 h:=gH Y6.J Tryd.f108 Y6.dist [1,1,1,0,1,0] H
def Y6.t (Q:AV→aA→Prop) (x0:AV) (h:aA) (J:JT):Prop:=
C Y5.id [x0] h fun v1 h2=>
asI .i64 v1 fun n3=>
(bif (!decide ((n3:Int)=0)) then
(Q (AV.tu [(AV.p none),(AV.i .i64 n3)]) h2)
else
(C Y7.id [x0] h2 fun v8 h9=>
iD [(AV.i .i64 0),(AV.i .i64 0),(AV.i .i64 0),(AV.i .i64 0),(AV.i .i64 0),(AV.i .i64 0),(AV.i .i64 0),(AV.i .i64 0),(AV.i .i64 0),(AV.i .i64 0),(AV.i .i64 0),(AV.i .i64 0),(AV.i .i64 0),(AV.i .i64 0),(AV.i .i64 0),(AV.i .i64 0),(AV.i .i64 0),(AV.i .i64 0),(AV.i .i64 0),(AV.i .i64 0),(AV.i .i64 0),(AV.i .i64 0),(AV.i .i64 0),(AV.i .i64 0),(AV.i .i64 0),(AV.i .i64 0),(AV.i .i64 0),(AV.i .i64 0),(AV.i .i64 0),(AV.i .i64 0),(AV.i .i64 0),(AV.i .i64 0),(AV.sl none 0 none),(AV.i .i64 0),(AV.i .i64 0),(AV.i .i64 0),(AV.i .i64 0),(AV.i .i64 0),(AV.i .i64 0),(AV.i .i64 0),(AV.i .i64 0),(AV.i .i64 0),(AV.i .i64 0),(AV.i .i64 0),(AV.i .i64 0),(AV.i .i64 0),(AV.i .i64 0),(AV.i .i64 0),(AV.i .i64 0),(AV.i .i64 0),(AV.i .i64 0),(AV.i .i64 0)] [(0,32,v8)] fun v10=>
dD (some 136) v10 h9 fun v11 h12=>
J 1 [(0,x0),(5,v11),(6,(AV.i .i64 1))] h12))
theorem Y6.call {K x0 h} (H:Y6.t (aK h K) x0 h (Y6.J (aK h K))):C Y6.id [x0] h K:=
 gC Y6.J Tryd.func108 Y6.dist H
noncomputable def Y37.body:Code:=(Tryd.f109.body).getD .skip
def Y37.ann:Ann:=(sl [3,4,5] (sl [6] lf))
theorem Y37.dist:aH (places Y37.ann Y37.body)=true:=by kernel_rfl
noncomputable def Y37.J (Q:AV→aA→Prop):JT:=bL prog C Tryd.f109 Y37.ann Y37.body Q
def Y37.t (Q:AV→aA→Prop) (x0 x1 x2:AV) (h:aA) (J:JT):Prop:=
dD none x0 h fun v0 h1=>
dD none x1 h1 fun v2 h3=>
dD none x2 h3 fun v4 h5=>
aB v0 h5 fun v7=>
aB v2 h5 fun v8=>
C Y35.id [v7,v8,(AV.fn (.func Y61.id) [] [v0,v2,v4])] h5 fun v9 h10=>
asI .i64 v9 fun n11=>
Q (AV.i .i64 n11) h10
theorem Y37.call {K x0 x1 x2 h} (H:Y37.t (aK h K) x0 x1 x2 h (Y37.J (aK h K))):C Y37.id [x0,x1,x2] h K:=
 gC Y37.J Tryd.func109 Y37.dist H
noncomputable def Y38.body:Code:=(Tryd.f110.body).getD .skip
def Y38.ann:Ann:=(sl [5,6,7,8,9] (sq [5,6,7,8,9] (sl [5,6,7,8,9,17] (.br (sq [10] (.ord (nn 0 7 (.eff 7 (.neu 8 .done) .stop))) lf) lf)) (sl [5,6,7,8,9,11] (sl [10] lf))))
theorem Y38.dist:aH (places Y38.ann Y38.body)=true:=by kernel_rfl
noncomputable def Y38.J (Q:AV→aA→Prop):JT:=bL prog C Tryd.f110 Y38.ann Y38.body Q
def Y38.t (Q:AV→aA→Prop) (x0 x1 x2:AV) (x3 x4:Int) (h:aA) (J:JT):Prop:=
dD none x0 h fun v0 h1=>
dD none x1 h1 fun v2 h3=>
dD none x2 h3 fun v4 h5=>
dD none (AV.i .i64 x3) h5 fun v6 h7=>
dD none (AV.i .i64 x4) h7 fun v8 h9=>
aB v4 h9 fun v11=>
bX v11 fun n12=>
aB v6 h9 fun v13=>
asI .i64 v13 fun n14=>
aB v8 h9 fun v15=>
asI .i64 v15 fun n16=>
aO (IntKind.wrap .i64 (n14+n16)) fun n17=>
(bif (decide ((n12:Int)=n17)) then
(aB v0 h9 fun v19=>
aB v4 h9 fun v20=>
aB v6 h9 fun v21=>
asI .i64 v21 fun n22=>
bJ 1 v20 none (some (AV.i .i64 n22)) none h9 fun v23=>
aB v4 h9 fun v24=>
aB v6 h9 fun v25=>
asI .i64 v25 fun n26=>
bJ 1 v24 (some (AV.i .i64 n26)) none none h9 fun v27=>
C Y42.id [v19,v23,v27] h9 fun v28 h29=>
asI .i64 v28 fun n30=>
Q (AV.i .i64 n30) h29)
else
(cW none [AV.nf] h9 fun v33 h34=>
aU 1 v33 (AV.fn (.func Y39.id) [] [v0,v4,v6,v8,v2]) h34 fun h35=>
aB v0 h35 fun v37=>
aB v2 h35 fun v38=>
C Y35.id [v37,v38,(AV.fn (.func Y24.id) [] [v0,v2,v4,v6,v8,v33])] h35 fun v39 h40=>
asI .i64 v39 fun n41=>
Q (AV.i .i64 n41) h40))
theorem Y38.call {K x0 x1 x2 x3 x4 h} (H:Y38.t (aK h K) x0 x1 x2 x3 x4 h (Y38.J (aK h K))):C Y38.id [x0,x1,x2,(AV.i .i64 x3),(AV.i .i64 x4)] h K:=
 gC Y38.J Tryd.func110 Y38.dist H
noncomputable def Y50.body:Code:=(Tryd.f111.body).getD .skip
def Y50.ann:Ann:=(sl [0,1,2,3,4,5,6] (sq [1,2,3,4,5,6] (.ord (nn 0 6 (.eff 6 .done .stop))) (sl [8] lf)))
theorem Y50.dist:aH (places Y50.ann Y50.body)=true:=by kernel_rfl
noncomputable def Y50.J (Q:AV→aA→Prop):JT:=bL prog C Tryd.f111 Y50.ann Y50.body Q
def Y50.t (Q:AV→aA→Prop) (x0:Int) (x1 x2 x3 x4 x5 x6:AV) (h:aA) (J:JT):Prop:=
aB x1 h fun v1=>
aB x2 h fun v2=>
asI .i64 v2 fun n3=>
bG 19 1 (y1 h 0) (AV.i .i64 n3) fun v4=>
aB v4 h fun v5=>
asI .i64 v5 fun n6=>
aX 1 v1 (AV.i .i64 n6) h fun v7=>
aU 1 v7 (AV.i .i64 x0) h fun h8=>
aB x3 h8 fun v10=>
aB x1 h8 fun v11=>
aB x2 h8 fun v12=>
asI .i64 v12 fun n13=>
aO (IntKind.wrap .i64 (n13+1)) fun n14=>
aB x4 h8 fun v15=>
asI .i64 v15 fun n16=>
aB x5 h8 fun v17=>
asI .i64 v17 fun n18=>
aB x6 h8 fun v19=>
asI .i64 v19 fun n20=>
C Y45.id [v10,v11,(AV.i .i64 n14),(AV.i .i64 n16),(AV.i .i64 n18),(AV.i .i64 n20)] h8 fun v21 h22=>
asI .i64 v21 fun n23=>
Q (AV.i .i64 n23) h22
theorem Y50.call {K x0 x1 x2 x3 x4 x5 x6 h} (H:Y50.t (aK h K) x0 x1 x2 x3 x4 x5 x6 h (Y50.J (aK h K))):C Y50.id [(AV.i .i64 x0),x1,x2,x3,x4,x5,x6] h K:=
 gC Y50.J Tryd.func111 Y50.dist H
noncomputable def Y35.body:Code:=(Tryd.f113.body).getD .skip
def Y35.ann:Ann:=(sl [0,1,2] (sl [] (sl [6] lf)))
theorem Y35.dist:aH (places Y35.ann Y35.body)=true:=by kernel_rfl
noncomputable def Y35.J (Q:AV→aA→Prop):JT:=bL prog C Tryd.f113 Y35.ann Y35.body Q
def Y35.t (Q:AV→aA→Prop) (x0 x1 x2:AV) (h:aA) (J:JT):Prop:=
aY x0 fun v1=>
aC 14 v1 fun v2=>
aU 1 v2 x1 h fun h3=>
aY x0 fun v4=>
aC 15 v4 fun v5=>
aU 1 v5 x2 h3 fun h6=>
Q (AV.i .i64 0) h6
theorem Y35.call {K x0 x1 x2 h} (H:Y35.t (aK h K) x0 x1 x2 h (Y35.J (aK h K))):C Y35.id [x0,x1,x2] h K:=
 gC Y35.J Tryd.func113 Y35.dist H
noncomputable def Y61.body:Code:=(Tryd.f114.body).getD .skip
def Y61.ann:Ann:=(sl [0,1,2,3] (sq [0,1,2,3] (.one (sl [0,1,2,3,9] (.br (sq [1,2,3] (sl [1,2,3,6] (sl [1,2,3,6,17] (.br (sl [5] lf) lf))) (sl [5] lf)) (sl [0,1,2,3,23] (.br (sl [5] lf) (sl [0,1,2,3,28] (.br (sl [5] lf) lf))))))) (sl [1,2,3,7,8] (sl [5] lf))))
theorem Y61.dist:aH (places Y61.ann Y61.body)=true:=by kernel_rfl
noncomputable def Y61.J (Q:AV→aA→Prop):JT:=bL prog C Tryd.f114 Y61.ann Y61.body Q
def Y61.t (Q:AV→aA→Prop) (x0:Int) (x1 x2 x3:AV) (h:aA) (J:JT):Prop:=
(bif (decide ((x0:Int)<256)) then
(aB x1 h fun v2=>
C Y16.id [v2,(AV.i .u8 (IntKind.wrap .u8 x0))] h fun v3 h4=>
asI .i64 v3 fun n5=>
(bif (!decide ((n5:Int)=0)) then
(Q (AV.i .i64 n5) h4)
else
(aB x1 h4 fun v10=>
aB x2 h4 fun v11=>
aB x3 h4 fun v12=>
C Y37.id [v10,v11,v12] h4 fun v13 h14=>
asI .i64 v13 fun n15=>
Q (AV.i .i64 n15) h14)))
else
((bif (decide ((x0:Int)=256)) then
(aB x1 h fun v18=>
C Y36.id [v18] h fun v19 h20=>
asI .i64 v19 fun n21=>
Q (AV.i .i64 n21) h20)
else
((bif (decide ((285:Int)<x0)) then
(Q (AV.i .i64 2) h)
else
(C Y33.id [(AV.i .i64 x0)] h fun v26 h27=>
aN 0 v26 fun v28=>
asI .i64 v28 fun n29=>
aN 1 v26 fun v30=>
asI .i64 v30 fun n31=>
cW none [(AV.i .i64 0)] h27 fun v32 h33=>
aU 1 v32 (AV.i .i64 n29) h33 fun h34=>
aB x1 h34 fun v36=>
C Y27.id [v36,(AV.i .i64 n31),(AV.fn (.func Y51.id) [] [x1,x3,v32,x2])] h34 fun v37 h38=>
asI .i64 v37 fun n39=>
Q (AV.i .i64 n39) h38))))))
theorem Y61.call {K x0 x1 x2 x3 h} (H:Y61.t (aK h K) x0 x1 x2 x3 h (Y61.J (aK h K))):C Y61.id [(AV.i .i64 x0),x1,x2,x3] h K:=
 gC Y61.J Tryd.func114 Y61.dist H
noncomputable def Y51.body:Code:=(Tryd.f115.body).getD .skip
def Y51.ann:Ann:=(sl [1,2,3,4,5] (sl [6] lf))
theorem Y51.dist:aH (places Y51.ann Y51.body)=true:=by kernel_rfl
noncomputable def Y51.J (Q:AV→aA→Prop):JT:=bL prog C Tryd.f115 Y51.ann Y51.body Q
def Y51.t (Q:AV→aA→Prop) (x0:Int) (x1 x2 x3 x4:AV) (h:aA) (J:JT):Prop:=
dD none (AV.i .i64 x0) h fun v0 h1=>
aB x1 h1 fun v3=>
aB x2 h1 fun v4=>
C Y35.id [v3,v4,(AV.fn (.func Y64.id) [] [x1,x3,v0,x4,x2])] h1 fun v5 h6=>
asI .i64 v5 fun n7=>
Q (AV.i .i64 n7) h6
theorem Y51.call {K x0 x1 x2 x3 x4 h} (H:Y51.t (aK h K) x0 x1 x2 x3 x4 h (Y51.J (aK h K))):C Y51.id [(AV.i .i64 x0),x1,x2,x3,x4] h K:=
 gC Y51.J Tryd.func115 Y51.dist H
noncomputable def Y64.body:Code:=(Tryd.f116.body).getD .skip
def Y64.ann:Ann:=(sl [0,1,2,3,4,5] (sq [0,1,2,3,4,5] (sl [0,1,2,3,4,5,11] (.br (sl [7] lf) lf)) (sl [1,2,3,4,5,8,9] (sl [7] lf))))
theorem Y64.dist:aH (places Y64.ann Y64.body)=true:=by kernel_rfl
noncomputable def Y64.J (Q:AV→aA→Prop):JT:=bL prog C Tryd.f116 Y64.ann Y64.body Q
def Y64.t (Q:AV→aA→Prop) (x0:Int) (x1 x2 x3 x4 x5:AV) (h:aA) (J:JT):Prop:=
(bif (decide ((29:Int)<x0)) then
(Q (AV.i .i64 2) h)
else
(C Y34.id [(AV.i .i64 x0)] h fun v4 h5=>
aN 0 v4 fun v6=>
asI .i64 v6 fun n7=>
aN 1 v4 fun v8=>
asI .i64 v8 fun n9=>
cW none [(AV.i .i64 0)] h5 fun v10 h11=>
aU 1 v10 (AV.i .i64 n7) h11 fun h12=>
aB x1 h12 fun v14=>
C Y27.id [v14,(AV.i .i64 n9),(AV.fn (.func Y49.id) [] [x1,x2,x3,v10,x4,x5])] h12 fun v15 h16=>
asI .i64 v15 fun n17=>
Q (AV.i .i64 n17) h16))
theorem Y64.call {K x0 x1 x2 x3 x4 x5 h} (H:Y64.t (aK h K) x0 x1 x2 x3 x4 x5 h (Y64.J (aK h K))):C Y64.id [(AV.i .i64 x0),x1,x2,x3,x4,x5] h K:=
 gC Y64.J Tryd.func116 Y64.dist H
noncomputable def Y49.body:Code:=(Tryd.f117.body).getD .skip
def Y49.ann:Ann:=(sl [0,1,2,3,4,5,6] (sq [1,5,6] (sl [1,5,6,9] (sl [1,5,6,9,19] (.br (sl [8] lf) lf))) (sl [8] lf)))
theorem Y49.dist:aH (places Y49.ann Y49.body)=true:=by kernel_rfl
noncomputable def Y49.J (Q:AV→aA→Prop):JT:=bL prog C Tryd.f117 Y49.ann Y49.body Q
def Y49.t (Q:AV→aA→Prop) (x0:Int) (x1 x2 x3 x4 x5 x6:AV) (h:aA) (J:JT):Prop:=
aB x1 h fun v1=>
aB x2 h fun v2=>
asI .i64 v2 fun n3=>
aB x3 h fun v4=>
asI .i64 v4 fun n5=>
aO (IntKind.wrap .i64 (n3+n5)) fun n6=>
aB x4 h fun v7=>
asI .i64 v7 fun n8=>
aO (IntKind.wrap .i64 (n8+x0)) fun n9=>
C Y21.id [v1,(AV.i .i64 n6),(AV.i .i64 n9)] h fun v10 h11=>
asI .i64 v10 fun n12=>
(bif (!decide ((n12:Int)=0)) then
(Q (AV.i .i64 n12) h11)
else
(aB x1 h11 fun v17=>
aB x5 h11 fun v18=>
aB x6 h11 fun v19=>
C Y37.id [v17,v18,v19] h11 fun v20 h21=>
asI .i64 v20 fun n22=>
Q (AV.i .i64 n22) h21))
theorem Y49.call {K x0 x1 x2 x3 x4 x5 x6 h} (H:Y49.t (aK h K) x0 x1 x2 x3 x4 x5 x6 h (Y49.J (aK h K))):C Y49.id [(AV.i .i64 x0),x1,x2,x3,x4,x5,x6] h K:=
 gC Y49.J Tryd.func117 Y49.dist H
noncomputable def Y21.body:Code:=(Tryd.f118.body).getD .skip
def Y21.ann:Ann:=(sl [0,1,2] (sq [0,1,2] (sl [0,1,2,13] (.br (sl [6] lf) lf)) (sq [] (sl [0,2,14,15] (.one (.loop 1 [0,2,14,15] (sl [0,2,14,15,16] (sq [0,2,14,15] bl (sq [0,2,14,15] (.one (sq [0,2,7,14,15] (.ord (nn 0 14 (.eff 14 (.neu 15 .done) .stop))) (sl [0,2,7,14,15,33] (.br (sl [6] lf) lf)))) lf)))))) (sl [6] lf))))
theorem Y21.dist:aH (places Y21.ann Y21.body)=true:=by kernel_rfl
noncomputable def Y21.J (Q:AV→aA→Prop):JT:=bL prog C Tryd.f118 Y21.ann Y21.body Q
def Y21.p0 (Q:AV→aA→Prop) (x0:AV) (x2 x14 x15:Int) (h:aA):Prop:=Y21.J Q 1 [(0,x0),(2,(AV.i .i64 x2)),(14,(AV.i .i64 x14)),(15,(AV.i .i64 x15))] h
def Y21.t0 (Q:AV→aA→Prop) (x0:AV) (x2 x14 x15:Int) (h:aA) (J:JT):Prop:=
(bif (decide ((x15:Int)<x14)) then
(aY x0 fun v12=>
aC 2 v12 fun v13=>
aB v13 h fun v14=>
aY x0 fun v15=>
aC 2 v15 fun v16=>
aB v16 h fun v17=>
bX v17 fun n18=>
aO (IntKind.wrap .i64 (n18 - x2)) fun n19=>
aX 1 v14 (AV.i .i64 n19) h fun v20=>
aB v20 h fun v21=>
asI .u8 v21 fun n22=>
C Y16.id [x0,(AV.i .u8 n22)] h fun v23 h24=>
asI .i64 v23 fun n25=>
(bif (!decide ((n25:Int)=0)) then
(Q (AV.i .i64 n25) h24)
else
(aO (IntKind.wrap .i64 (x15+1)) fun n30=>
J 1 [(0,x0),(2,(AV.i .i64 x2)),(14,(AV.i .i64 x14)),(15,(AV.i .i64 n30))] h24)))
else
(Q (AV.i .i64 0) h))
theorem Y21.i0 {Q x0 x2 x14 x15 h} (H:Y21.t0 Q x0 x2 x14 x15 h (Y21.J Q)):Y21.p0 Q x0 x2 x14 x15 h:=gH Y21.J Tryd.f118 Y21.dist [1,1,0,1,0] H
def Y21.t (Q:AV→aA→Prop) (x0:AV) (x1 x2:Int) (h:aA) (J:JT):Prop:=
aY x0 fun v1=>
aC 3 v1 fun v2=>
aB v2 h fun v3=>
asI .i64 v3 fun n4=>
(bif (decide ((n4:Int)<x2)) then
(Q (AV.i .i64 2) h)
else
(J 1 [(0,x0),(2,(AV.i .i64 x2)),(14,(AV.i .i64 x1)),(15,(AV.i .i64 0))] h))
theorem Y21.call {K x0 x1 x2 h} (H:Y21.t (aK h K) x0 x1 x2 h (Y21.J (aK h K))):C Y21.id [x0,(AV.i .i64 x1),(AV.i .i64 x2)] h K:=
 gC Y21.J Tryd.func118 Y21.dist H
noncomputable def Y39.body:Code:=(Tryd.f119.body).getD .skip
def Y39.ann:Ann:=(sl [0,3,4,5,6,7,9,10] (sl [11] lf))
theorem Y39.dist:aH (places Y39.ann Y39.body)=true:=by kernel_rfl
noncomputable def Y39.J (Q:AV→aA→Prop):JT:=bL prog C Tryd.f119 Y39.ann Y39.body Q
def Y39.t (Q:AV→aA→Prop) (x0 x1 x2:Int) (x3 x4 x5 x6 x7:AV) (h:aA) (J:JT):Prop:=
dD none (AV.i .i64 x1) h fun v0 h1=>
dD none (AV.i .i64 x2) h1 fun v2 h3=>
aB x3 h3 fun v5=>
C Y27.id [v5,(AV.i .i64 x0),(AV.fn (.func Y63.id) [] [x4,v0,x5,x6,x3,x7,v2])] h3 fun v6 h7=>
asI .i64 v6 fun n8=>
Q (AV.i .i64 n8) h7
theorem Y39.call {K x0 x1 x2 x3 x4 x5 x6 x7 h} (H:Y39.t (aK h K) x0 x1 x2 x3 x4 x5 x6 x7 h (Y39.J (aK h K))):C Y39.id [(AV.i .i64 x0),(AV.i .i64 x1),(AV.i .i64 x2),x3,x4,x5,x6,x7] h K:=
 gC Y39.J Tryd.func119 Y39.dist H
noncomputable def Y63.body:Code:=(Tryd.f120.body).getD .skip
def Y63.ann:Ann:=(sl [0,1,2,3,4,5,6,7] (sq [0,1,2,3,4,5,6,7] (sl [0,1,2,3,4,5,6,7,19] (.br (sl [9] lf) lf)) (sq [9] (.ord (nn 0 4 (nn 5 3 (nn 10 2 (.eff 4 (.eff 8 (.eff 9 (.eff 12 (.neu 13 .done) .stop) .stop) .stop) .stop))))) lf)))
theorem Y63.dist:aH (places Y63.ann Y63.body)=true:=by kernel_rfl
noncomputable def Y63.J (Q:AV→aA→Prop):JT:=bL prog C Tryd.f120 Y63.ann Y63.body Q
def Y63.t (Q:AV→aA→Prop) (x0:Int) (x1 x2 x3 x4 x5 x6 x7:AV) (h:aA) (J:JT):Prop:=
aB x1 h fun v1=>
bX v1 fun n2=>
aB x2 h fun v3=>
asI .i64 v3 fun n4=>
aO (IntKind.wrap .i64 (n2+n4)) fun n5=>
aO (IntKind.wrap .i64 (n5+x0)) fun n6=>
aB x3 h fun v7=>
asI .i64 v7 fun n8=>
aB x4 h fun v9=>
asI .i64 v9 fun n10=>
aO (IntKind.wrap .i64 (n8+n10)) fun n11=>
(bif (decide ((n11:Int)<n6)) then
(Q (AV.i .i64 2) h)
else
(aB x5 h fun v15=>
aB x6 h fun v16=>
aB x1 h fun v17=>
aB x7 h fun v18=>
asI .i64 v18 fun n19=>
aB x2 h fun v20=>
asI .i64 v20 fun n21=>
aO (IntKind.wrap .i64 (n21+x0)) fun n22=>
aB x3 h fun v23=>
asI .i64 v23 fun n24=>
aB x4 h fun v25=>
asI .i64 v25 fun n26=>
bQ 1 1 [(AV.i .i64 0)] [(0,1,(AV.i .i64 n19))] h fun v27 h28=>
aB x4 h28 fun v29=>
asI .i64 v29 fun n30=>
((AV.i .i64 n26)=(AV.i .i64 n30) ∧
(aB x3 h28 fun v31=>
asI .i64 v31 fun n32=>
((AV.i .i64 n24)=(AV.i .i64 n32) ∧
(aB x2 h28 fun v33=>
asI .i64 v33 fun n34=>
((AV.i .i64 n21)=(AV.i .i64 n34) ∧
(aB x1 h28 fun v35=>
(v17=v35 ∧
(aB x6 h28 fun v36=>
(v16=v36 ∧
(aB x5 h28 fun v37=>
(v15=v37 ∧
(C Y17.id [v27,(AV.i .i64 n22)] h28 fun v38 h39=>
aB x4 h39 fun v40=>
asI .i64 v40 fun n41=>
((AV.i .i64 n26)=(AV.i .i64 n41) ∧
(aB x3 h39 fun v42=>
asI .i64 v42 fun n43=>
((AV.i .i64 n24)=(AV.i .i64 n43) ∧
(aB x1 h39 fun v44=>
(v17=v44 ∧
(aB x6 h39 fun v45=>
(v16=v45 ∧
(aB x5 h39 fun v46=>
(v15=v46 ∧
(bU none 1 8 v17 v38 h39 fun v47 h48=>
aB x4 h48 fun v49=>
asI .i64 v49 fun n50=>
((AV.i .i64 n26)=(AV.i .i64 n50) ∧
(aB x3 h48 fun v51=>
asI .i64 v51 fun n52=>
((AV.i .i64 n24)=(AV.i .i64 n52) ∧
(aB x6 h48 fun v53=>
(v16=v53 ∧
(aB x5 h48 fun v54=>
(v15=v54 ∧
(C Y38.id [v15,v16,v47,(AV.i .i64 n24),(AV.i .i64 n26)] h48 fun v55 h56=>
asI .i64 v55 fun n57=>
Q (AV.i .i64 n57) h56))))))))))))))))))))))))))))))))
theorem Y63.call {K x0 x1 x2 x3 x4 x5 x6 x7 h} (H:Y63.t (aK h K) x0 x1 x2 x3 x4 x5 x6 x7 h (Y63.J (aK h K))):C Y63.id [(AV.i .i64 x0),x1,x2,x3,x4,x5,x6,x7] h K:=
 gC Y63.J Tryd.func120 Y63.dist H
noncomputable def Y24.body:Code:=(Tryd.f121.body).getD .skip
def Y24.ann:Ann:=(sl [0,1,2,3,4,5,6] (sq [6] (.one (sl [0,1,2,3,4,5,6,9] (.br (sq [8] (.ord (nn 0 4 (nn 6 2 (.eff 4 (.eff 5 (.eff 8 (.neu 9 .done) .stop) .stop) .stop)))) lf) (.seq 1 [0,3,6,21] lf (.br (sl [8] lf) (sl [0,3,6,29] (.br (sq [8] (.ord (nn 0 7 (.eff 7 (.neu 8 .done) .stop))) lf) (sl [6,40] (.br (sl [8] lf) lf))))))))) (sl [8] lf)))
theorem Y24.dist:aH (places Y24.ann Y24.body)=true:=by kernel_rfl
noncomputable def Y24.J (Q:AV→aA→Prop):JT:=bL prog C Tryd.f121 Y24.ann Y24.body Q
def Y24.p0 (Q:AV→aA→Prop) (x0:Int) (x3 x6:AV) (x21:Bool) (h:aA):Prop:=Y24.J Q 1 [(0,(AV.i .i64 x0)),(3,x3),(6,x6),(21,(AV.b x21))] h
def Y24.t0 (Q:AV→aA→Prop) (x0:Int) (x3 x6:AV) (x21:Bool) (h:aA) (J:JT):Prop:=
(bif x21 then
(Q (AV.i .i64 2) h)
else
((bif (decide ((x0:Int)=16)) then
(aB x6 h fun v36=>
aB x3 h fun v37=>
aB x3 h fun v38=>
bX v38 fun n39=>
aO (IntKind.wrap .i64 (n39 - 1)) fun n40=>
aX 1 v37 (AV.i .i64 n40) h fun v41=>
aB v41 h fun v42=>
asI .i64 v42 fun n43=>
bV C v36 [(AV.i .i64 2),(AV.i .i64 3),(AV.i .i64 n43)] h fun v44 h45=>
asI .i64 v44 fun n46=>
Q (AV.i .i64 n46) h45)
else
((bif (decide ((x0:Int)=17)) then
(aB x6 h fun v49=>
bV C v49 [(AV.i .i64 3),(AV.i .i64 3),(AV.i .i64 0)] h fun v50 h51=>
asI .i64 v50 fun n52=>
Q (AV.i .i64 n52) h51)
else
(aB x6 h fun v55=>
bV C v55 [(AV.i .i64 7),(AV.i .i64 11),(AV.i .i64 0)] h fun v56 h57=>
asI .i64 v56 fun n58=>
Q (AV.i .i64 n58) h57))))))
theorem Y24.i0 {Q x0 x3 x6 x21 h} (H:Y24.t0 Q x0 x3 x6 x21 h (Y24.J Q)):Y24.p0 Q x0 x3 x6 x21 h:=gR Y24.J Tryd.f121 Y24.dist [1,0,0,1,1,1] H
def Y24.t (Q:AV→aA→Prop) (x0:Int) (x1 x2 x3 x4 x5 x6:AV) (h:aA) (J:JT):Prop:=
(bif (decide ((x0:Int)<16)) then
(aB x1 h fun v2=>
aB x2 h fun v3=>
aB x3 h fun v4=>
aB x4 h fun v5=>
asI .i64 v5 fun n6=>
aB x5 h fun v7=>
asI .i64 v7 fun n8=>
bQ 1 1 [(AV.i .i64 0)] [(0,1,(AV.i .i64 x0))] h fun v9 h10=>
aB x5 h10 fun v11=>
asI .i64 v11 fun n12=>
((AV.i .i64 n8)=(AV.i .i64 n12) ∧
(aB x4 h10 fun v13=>
asI .i64 v13 fun n14=>
((AV.i .i64 n6)=(AV.i .i64 n14) ∧
(aB x3 h10 fun v15=>
(v4=v15 ∧
(aB x2 h10 fun v16=>
(v3=v16 ∧
(aB x1 h10 fun v17=>
(v2=v17 ∧
(bU none 1 8 v4 v9 h10 fun v18 h19=>
aB x5 h19 fun v20=>
asI .i64 v20 fun n21=>
((AV.i .i64 n8)=(AV.i .i64 n21) ∧
(aB x4 h19 fun v22=>
asI .i64 v22 fun n23=>
((AV.i .i64 n6)=(AV.i .i64 n23) ∧
(aB x2 h19 fun v24=>
(v3=v24 ∧
(aB x1 h19 fun v25=>
(v2=v25 ∧
(C Y38.id [v2,v3,v18,(AV.i .i64 n6),(AV.i .i64 n8)] h19 fun v26 h27=>
asI .i64 v26 fun n28=>
Q (AV.i .i64 n28) h27)))))))))))))))))))
else
((bif (decide ((x0:Int)=16)) then
(aB x3 h fun v30=>
bX v30 fun n31=>
J 1 [(0,(AV.i .i64 x0)),(3,x3),(6,x6),(21,(AV.b (decide ((n31:Int)=0))))] h)
else
(J 1 [(0,(AV.i .i64 x0)),(3,x3),(6,x6),(21,(AV.b false))] h))))
theorem Y24.call {K x0 x1 x2 x3 x4 x5 x6 h} (H:Y24.t (aK h K) x0 x1 x2 x3 x4 x5 x6 h (Y24.J (aK h K))):C Y24.id [(AV.i .i64 x0),x1,x2,x3,x4,x5,x6] h K:=
 gC Y24.J Tryd.func121 Y24.dist H
end Go.Proofs.YtpaphfeihpgamaaDoor
set_option linter.unusedSimpArgs false
namespace Go.GAM
variable {ty:Option TypeId}
def Ext (h0 h:aA):Prop:=h0.length≤h.length∧∀ id,id<h0.length→h[id]? = h0[id]?
theorem Ext.take {h0 h:aA} (a:Ext h0 h):h.take h0.length=h0:=by
 apply List.ext_getElem?
 intro i
 rw [List.getElem?_take]
 by_cases hi:i<h0.length
 ·rw [if_pos hi,a.2 i hi]
 ·rw [if_neg hi,List.getElem?_eq_none (Nat.le_of_not_lt hi)]
def oI:AV→Bool
 | .b _ | .i _ _ | .s _ | .p none | .sl none _ _ | .nf | .ni=>true
 | _=>false
def aAS:AV→Bool
 | .ag cs | .tu cs=>cs.all oI
 | v=>oI v
theorem o5 {n:Nat} {v:AV} (h:oI v=true):oP n [] v=v∧ok1 n [] v=true:=by
 unfold oI at h
 split at h <;> first | exact ⟨rfl,rfl⟩ | cases h
theorem zJ {n:Nat} {v:AV} (h:aAS v=true):ren n [] v=v∧okR n [] v=true:=by
 have hl:∀ cs:List AV,cs.all oI=true→cs.map (oP n [])=cs∧cs.all (ok1 n [])=true:=by
  intro cs
  induction cs with
  | nil=>exact fun _=>⟨rfl,rfl⟩
  | cons c cs ih =>
   intro hc
   simp only [List.all_cons,Bool.and_eq_true] at hc
   obtain ⟨h1,h2⟩:=ih hc.2
   obtain ⟨h3,h4⟩:=o5 (n:=n) hc.1
   simp [h1,h2,h3,h4]
 unfold aAS at h
 split at h
 ·rename_i cs; obtain ⟨h1,h2⟩:=hl cs h; exact ⟨by simp [ren,h1],by simpa [okR] using h2⟩
 ·rename_i cs; obtain ⟨h1,h2⟩:=hl cs h; exact ⟨by simp [ren,h1],by simpa [okR] using h2⟩
 ·rename_i h1 h2
  obtain ⟨h3,h4⟩:=o5 (n:=n) h
  constructor
  ·unfold ren; split
   ·exact absurd rfl (h1 _)
   ·exact absurd rfl (h2 _)
   ·exact h3
  ·unfold okR; split
   ·exact absurd rfl (h1 _)
   ·exact absurd rfl (h2 _)
   ·exact h4
theorem gW {h0 h:aA} {K:AV→aA→Prop} {r:AV} (hp:aAS r=true) (hE:Ext h0 h) (hk:K r h0):aK h0 K r h:=by
 obtain ⟨h1,h2⟩:=zJ (n:=h0.length) hp
 refine .inr ⟨[],List.nodup_nil,h2,by simp,fun id hi=>.inl (hE.2 id hi),hE.1, ?_⟩
 rw [h1,hE.take]
 simpa using hk
theorem qF (l:List UInt8):(l.map byteAV).all kM=true:=by
 rw [List.all_eq_true]; intro x hx; simp only [List.mem_map] at hx; obtain ⟨c,_,rfl⟩:=hx; rfl
theorem pW (c:UInt8):toByte (byteAV c)=c:=by simp [toByte,byteAV]
theorem tP (l:List UInt8):(l.map byteAV).map toByte=l:=by
 rw [List.map_map]
 have:toByte ∘ byteAV=id:=by funext c; exact pW c
 rw [this,List.map_id]
theorem aW {n:Int} (h0 : -9223372036854775808≤n) (h1:n<9223372036854775808):IntKind.wrap .i64 n=n:=by
 have e1:(2:Int) ^ 64=18446744073709551616:=by decide
 have e2:(2:Int) ^ (64 - 1)=9223372036854775808:=by decide
 simp only [IntKind.wrap,IntKind.bits,IntKind.signed,Bool.true_and,decide_eq_true_eq,e1,e2]
 split <;> omega
theorem wN {n:Int} (h0:0≤n) (h1:n<256):IntKind.wrap .u8 n=n:=by
 simp only [IntKind.wrap,IntKind.bits,IntKind.signed,Bool.false_and,Bool.false_eq_true,if_false]
 omega
theorem getD_some {α:Type} {l:List α} {i:Nat} {c d:α} (hc:l[i]? = some c):l.getD i d=c:=by
 rw [List.getD_eq_getElem?_getD,hc] <;> rfl
theorem rU {l:List UInt8} {k:IntKind} {i:Nat} {c:UInt8} {K:Int→Prop} (hc:l[i]? = some c) (hk:K (c.toNat:Int)):e7 (.s l) (.i k (i:Int)) K:=by
 obtain ⟨hlt,_⟩:=List.getElem?_eq_some_iff.1 hc
 refine ⟨by omega,by simpa using hlt, ?_⟩
 rw [Int.toNat_natCast,getD_some hc]
 exact hk
theorem zR {α:Type} {l:List α} {i:Nat} {c:α} (hc:l[i]? = some c):l.take (i+1)=l.take i++[c]:=by
 rw [List.take_add_one,hc] <;> rfl
theorem bA {c:Bool} {A B:Prop} (hc:c=true) (h:A):(bif c then A else B):=by rw [hc]; exact h
theorem aV {c:Bool} {A B:Prop} (hc:c=false) (h:B):(bif c then A else B):=by rw [hc]; exact h
theorem aP {c:Bool} {A B:Prop} (h1:c=true→A) (h2:c=false→B):(bif c then A else B):=by
 cases c
 ·exact h2 rfl
 ·exact h1 rfl
theorem aM {e n:Int} {K:Int→Prop} (h:e=n) (hk:K n):aO e K:=by subst h; exact hk
end Go.GAM
namespace Go.GAM
section
variable {P:Program}
theorem ext_run {f:FuncId} {fn:Func} {ex:Array Value→Sem Value} (hf:P.funcs[f]? = some fn) (hn:(fn.name == "runtime.NumGoroutine")=false) (hb:fn.body.isNone=true)
  (h1:Extern.findNext fn=none) (h2:Extern.find fn=some ex) {args:Array Value} {v:Value} {w:World} (he:(ex args).run P w = .ok v w):(callFunc f args).run P w = .ok (.value v) w:=by
 have hn':fn.name ≠ "runtime.NumGoroutine":=by simpa using hn
 have hb':fn.body=none:=by simpa using hb
 have hm:∀ (m:Mark) (k:Sem Unit) (w:World),Sem.run P (Sem.mark m k) w=Sem.run P k w:=fun _ _ _=>rfl
 unfold callFunc
 simp [go_sem,hf,hn',hb',h1,h2,mark,hm,he]
end
end Go.GAM
namespace Go.GAM
variable {ty:Option TypeId}
def Upd (M:Nat→Prop) (h h':aA):Prop:=h.length≤h'.length∧∀ i,i<h.length→¬ M i→h'[i]? = h[i]?
theorem Upd.refl (M:Nat→Prop) (h:aA):Upd M h h:=⟨Nat.le_refl _,fun _ _ _=>rfl⟩
theorem Upd.trans {M M':Nat→Prop} {h h1 h2:aA} (a:Upd M h h1) (b:Upd M' h1 h2) (hM:∀ i,i<h.length→M' i→M i):Upd M h h2:=
 ⟨Nat.le_trans a.1 b.1,fun i hi hn=>(b.2 i (Nat.lt_of_lt_of_le hi a.1) fun hm=>hn (hM i hi hm)).trans (a.2 i hi hn)⟩
theorem Upd.mono {M M':Nat→Prop} {h h1:aA} (a:Upd M h h1) (hM:∀ i,i<h.length→M i→M' i):Upd M' h h1:=
 ⟨a.1,fun i hi hn=>a.2 i hi fun hm=>hn (hM i hi hm)⟩
theorem Upd.app (h s:aA):Upd (fun _=>False) h (h++s):=⟨by simp,fun i hi _=>by rw [List.getElem?_append_left hi]⟩
theorem Upd.set (h:aA) (id:Nat) (b:ABlk):Upd (· = id) h (h.set id b):=⟨by simp,fun i hi hn=>by rw [List.getElem?_set_ne (fun e=>hn e.symm)]⟩
theorem aI {α:Type} {l:List α} {i:Nat} {a:α} (h:l[i]? = some a):i<l.length:=(List.getElem?_eq_some_iff.1 h).1
def bC (h:aA) (id:Nat) (cs:List AV):Prop:=∃ b:ABlk,h[id]? = some b∧b.cells=cs∧b.floor≤cs.length∧b.ro=false
theorem bC.lt {h:aA} {id:Nat} {cs:List AV} (R:bC h id cs):id<h.length:=by obtain ⟨b,h1,_⟩:=R; exact aI h1
theorem bC.upd {M:Nat→Prop} {h h':aA} {id:Nat} {cs:List AV} (R:bC h id cs) (U:Upd M h h') (hM:¬ M id):bC h' id cs:=by
 have hl:=R.lt
 obtain ⟨b,h1,h2⟩:=R
 exact ⟨b,(U.2 id hl hM).trans h1,h2⟩
theorem gG {a:AA} {K:AV→Prop} (hk:K (.p (some a))):aY (.p (some a)) K:=hk
theorem cX {id ver off o:Nat} {K:AV→Prop} (hk:K (.p (some ⟨id,ver,off+o⟩))):aC o (.p (some ⟨id,ver,off⟩)) K:=hk
theorem uU {k:IntKind} {a b n:Int} {K:Int→Prop} (hb:b≠0) (hn:k.wrap (a.tdiv b)=n) (hk:K n):aBW k a b K:=by subst hn; exact ⟨hb,hk⟩
theorem vQ {a b n:Int} {K:Int→Prop} (hb:b≠0) (hn:a.tmod b=n) (hk:K n):aAC a b K:=by subst hn; exact ⟨hb,hk⟩
theorem aE {h:aA} {id n o:Nat} {cs:List AV} {v:AV} {K:AV→Prop} (R:bC h id cs) (hn:n=cs.length) (hc:cs[o]? = some v) (hk:K v):aB (.p (some ⟨id,n,o⟩)) h K:=by
 obtain ⟨b,h1,rfl,h3,h4⟩:=R
 subst hn
 have:=aI hc
 refine ⟨b,h1,⟨h3,Nat.le_refl _,this⟩, ?_⟩
 show K (b.cells.getD o .u)
 rw [getD_some hc]; exact hk
theorem aR {h:aA} {id n o:Nat} {cs:List AV} {v:AV} {K:aA→Prop} (R:bC h id cs) (hn:n=cs.length) (ho:o<cs.length) (hv:v.parts=[v]:=by rfl) (hs:v.sizeOK=true:=by rfl) (hc:v.cellOK=true:=by rfl)
  (hk:∀ h',h'.length=h.length→Upd (· = id) h h'→bC h' id (cs.set o v)→K h'):aU 1 (.p (some ⟨id,n,o⟩)) v h K:=by
 have hl:=R.lt
 obtain ⟨b,h1,rfl,h3,h4⟩:=R
 subst hn
 refine ⟨b,h1,h4,h3,rfl,(by show o+1≤b.cells.length; omega),hs,by rw [hv] <;> rfl,by rw [hv]; simp [hc], ?_⟩
 refine hk _ (by simp) (Upd.set _ _ _) ⟨_,List.getElem?_set_self hl, ?_, ?_,h4⟩
 ·rw [hv] <;> rfl
 ·simp
theorem cF {cells:List AV} {h:aA} {K:AV→aA→Prop} (hk:∀ h',h'.length=h.length+1→Upd (fun _=>False) h h'→bC h' h.length cells→K (.p (some ⟨h.length,cells.length,0⟩)) h'):cW ty cells h K:=
 hk _ (by simp) (Upd.app _ _) ⟨aZ cells 1 true ty,by simp,rfl,Nat.le_refl _,rfl⟩
theorem bT {x:AV} {h:aA} {K:AV→aA→Prop} (hs:x.sizeOK=true:=by rfl) (hk:∀ h',h'.length=h.length+1→Upd (fun _=>False) h h'→bC h' h.length x.parts→K (.p (some ⟨h.length,x.parts.length,0⟩)) h'):dD ty x h K:=
 ⟨hs,hk _ (by simp) (Upd.app _ _) ⟨aZ x.parts 1 true ty,by simp,rfl,Nat.le_refl _,rfl⟩⟩
theorem aD {n:Int} {K:Int→Prop} (hk:K n):asI .i64 (.i .i64 n) K:=hk
theorem kS {k:IntKind} {n:Int} {K:Int→Prop} (hk:K n):asI k (.i k n) K:=by cases k <;> exact hk
theorem bE {n:Bool} {K:Bool→Prop} (hk:K n):asB (.b n) K:=hk
theorem cB {n:List UInt8} {K:List UInt8→Prop} (hk:K n):asS (.s n) K:=hk
theorem pH {a:Option AA} {n:Nat} {c:Option Nat} {K:Int→Prop} (hk:K n):bX (.sl a n c) K:=hk
theorem aA0:∀ (ws pre cs:List AV),ws.length=cs.length→wr (pre++cs) pre.length ws=pre++ws
 | [], pre, cs, h => by
  have:cs=[]:=List.eq_nil_of_length_eq_zero (by simpa using h.symm)
  subst this; simp [wr]
 | w :: ws,pre,[],h=>by simp at h
 | w :: ws, pre, c :: cs, h => by
  simp only [wr]
  have e:(pre++c :: cs).set pre.length w=(pre++[w])++cs:=by simp
  rw [e]
  have:=aA0 ws (pre++[w]) cs (by simpa using h)
  simpa using this
theorem dH {h:aA} {id n:Nat} {cs:List AV} {K:AV→Prop} (R:bC h id cs) (hn:n=cs.length) (hk:K (.ag cs)):cP n (.p (some ⟨id,n,0⟩)) h K:=by
 obtain ⟨b,h1,rfl,h3,h4⟩:=R
 subst hn
 refine ⟨b,h1,⟨h3,Nat.le_refl _,by simp⟩, ?_⟩
 simpa using hk
theorem gY {h:aA} {id n:Nat} {cs ws:List AV} {K:aA→Prop} (R:bC h id cs) (hn:n=cs.length) (hw:ws.length=n) (hc:ws.all AV.cellOK=true)
  (hk:∀ h',h'.length=h.length→Upd (· = id) h h'→bC h' id ws→K h'):aU n (.p (some ⟨id,n,0⟩)) (.ag ws) h K:=by
 have hl:=R.lt
 obtain ⟨b,h1,rfl,h3,h4⟩:=R
 subst hn
 refine ⟨b,h1,h4,h3,rfl,(by show 0+b.cells.length≤b.cells.length; omega),rfl,hw,hc, ?_⟩
 refine hk _ (by simp) (Upd.set _ _ _) ⟨_,List.getElem?_set_self hl, ?_, ?_,h4⟩
 ·exact aA0 ws [] b.cells hw
 ·rw [hw]; exact Nat.le_refl _
def aQ (v:AV) (id:Nat):Prop:=match v with
 | .sl (some a) _ _=>a.id=id
 | _=>False
def Rd (sz:Nat) (h:aA) (v:AV) (cs:List AV) (len:Nat):Prop:=
 (v = .sl none 0 none∧len=0∧cs=[])∨∃ id ver off cap b,v = .sl (some ⟨id,ver,off⟩) len cap∧h[id]? = some b∧(b.sz=sz∨b.sz=1)∧b.floor≤ver∧ver≤b.cells.length∧off+len * sz≤ver∧(b.cells.drop off).take (len * sz)=cs
theorem Rd.upd {sz:Nat} {M:Nat→Prop} {h h':aA} {v:AV} {cs:List AV} {len:Nat} (R:Rd sz h v cs len) (U:Upd M h h') (hM:∀ id,aQ v id→¬ M id):Rd sz h' v cs len:=by
 rcases R with h1 | ⟨id,ver,off,cap,b,rfl,h2,h3⟩
 ·exact .inl h1
 ·exact .inr ⟨id,ver,off,cap,b,rfl,(U.2 id (aI h2) (hM id rfl)).trans h2,h3⟩
theorem Rd.lt {sz:Nat} {h:aA} {v:AV} {cs:List AV} {len:Nat} (R:Rd sz h v cs len) {id:Nat} (hs:aQ v id):id<h.length:=by
 rcases R with ⟨rfl,_⟩ | ⟨id',ver,off,cap,b,rfl,h2,h3⟩
 ·exact hs.elim
 ·cases hs; exact aI h2
theorem Rd.length {sz:Nat} {h:aA} {v:AV} {cs:List AV} {len:Nat} (R:Rd sz h v cs len):cs.length=len * sz:=by
 rcases R with ⟨_,rfl,rfl⟩ | ⟨id,ver,off,cap,b,rfl,h2,h3,h4,h5,h6,rfl⟩
 ·simp
 ·simp; omega
theorem Rd.sl {sz:Nat} {h:aA} {v:AV} {cs:List AV} {len:Nat} (R:Rd sz h v cs len) {K:List AV→Prop} (hk:K cs):eA sz v h K:=by
 rcases R with ⟨rfl,rfl,rfl⟩ | ⟨id,ver,off,cap,b,rfl,h2,h3,h4,h5,h6,rfl⟩
 ·exact hk
 ·exact .inr ⟨b,h2,⟨h4,h5,h6⟩,hk⟩
theorem Rd.len {sz:Nat} {h:aA} {v:AV} {cs:List AV} {len:Nat} (R:Rd sz h v cs len) {K:Int→Prop} (hk:K len):bX v K:=by
 rcases R with ⟨rfl,rfl,rfl⟩ | ⟨id,ver,off,cap,b,rfl,h2⟩ <;> exact hk
theorem Rd.news {sz:Nat} {h:aA} {v:AV} {cs:List AV} {len:Nat} (R:Rd sz h v cs len) {K:List AV→Nat→Prop} (hk:K cs len):eF sz v h K:=by
 rcases R with ⟨rfl,rfl,rfl⟩ | ⟨id,ver,off,cap,b,rfl,h2,h3,h4,h5,h6,rfl⟩
 ·exact hk
 ·exact .inr ⟨b,h2,⟨h4,h5,h6⟩,hk⟩
theorem Rd.idx {sz:Nat} {h:aA} {v:AV} {cs:List AV} {len:Nat} (R:Rd sz h v cs len) {k:IntKind} {i:Int} (h0:0≤i) (h1:i<len) {K:AV→Prop}
  (hk:∀ id ver off,(∃ b:ABlk,h[id]? = some b∧b.floor≤ver∧ver≤b.cells.length∧off+sz≤ver∧(b.cells.drop off).take sz=(cs.drop (i.toNat * sz)).take sz)→K (.p (some ⟨id,ver,off⟩))):aX sz v (.i k i) h K:=by
 rcases R with ⟨rfl,rfl,rfl⟩ | ⟨id,ver,off,cap,b,rfl,h2,h3,h4,h5,h6,rfl⟩
 ·omega
 ·refine ⟨h0, h1, ⟨b, h2, h4, by omega⟩, hk _ _ _ ⟨b, h2, h4, h5, ?_, ?_⟩⟩
  ·have : (i.toNat + 1) * sz ≤ len * sz := Nat.mul_le_mul_right _ (by omega)
   rw [Nat.add_mul] at this; simp only; omega
  ·have : (i.toNat + 1) * sz ≤ len * sz := Nat.mul_le_mul_right _ (by omega)
   rw [Nat.add_mul] at this
   rw [List.drop_take,List.drop_drop,List.take_take,Nat.min_eq_left (by omega)]
structure aD1 (sz:Nat) (h:aA) (id ver off:Nat) (b:ABlk) (cs:List AV) (len:Nat):Prop where
 blk:h[id]? = some b
 siz:b.sz=sz∨b.sz=1
 flo:b.floor≤ver
 vle:ver≤b.cells.length
 end_:off+len * sz≤ver
 cel:(b.cells.drop off).take (len * sz)=cs
theorem aD2 {sz:Nat} {h:aA} {id ver off:Nat} {b:ABlk} {cs:List AV} {len:Nat} {cap:Option Nat} {k:IntKind} {i:Nat} {K:AV→Prop} (R:aD1 sz h id ver off b cs len) (hi:i<len) (hk:K (.p (some ⟨id,ver,off+i * sz⟩))) :
  aX sz (.sl (some ⟨id,ver,off⟩) len cap) (.i k (i:Int)) h K:=
 ⟨by omega,by omega,⟨b,R.1,R.3,Nat.le_trans R.3 R.4⟩,by simpa using hk⟩
theorem aCQ {sz:Nat} {h:aA} {id ver off:Nat} {b:ABlk} {cs:List AV} {len i o:Nat} {c:AV} {K:AV→Prop} (R:aD1 sz h id ver off b cs len) (hi:i<len) (ho:o<sz) (hc:cs[i * sz+o]? = some c) (hk:K c):aB (.p (some ⟨id,ver,off+i * sz+o⟩)) h K:=by
 have h1:(i+1) * sz≤len * sz:=Nat.mul_le_mul_right _ hi
 rw [Nat.add_mul] at h1
 have h2:=R.end_
 refine ⟨b,R.1,⟨R.3,R.4,by simp only; omega⟩, ?_⟩
 have h3:=R.cel
 rw [← h3,List.getElem?_take_of_lt (by omega),List.getElem?_drop] at hc
 show K (b.cells.getD (off+i * sz+o) .u)
 rw [getD_some (show b.cells[off+i * sz+o]? = some c by rw [← hc]; congr 1; omega)]
 exact hk
def Arr (sz:Nat) (h:aA) (v:AV) (cs:List AV) (len:Nat):Prop:=
 (v = .sl none 0 none∧len=0∧cs=[])∨∃ id b,v = .sl (some ⟨id,cs.length,0⟩) len none∧h[id]? = some b∧b.cells=cs∧cs.length=len * sz∧b.sz=sz∧b.floor≤cs.length∧b.ro=false∧b.gl=false
theorem Arr.rd {sz:Nat} {h:aA} {v:AV} {cs:List AV} {len:Nat} (A:Arr sz h v cs len):Rd sz h v cs len:=by
 rcases A with h1 | ⟨id,b,rfl,h2,rfl,h4,h5,h6,h7⟩
 ·exact .inl h1
 ·refine .inr ⟨id, _, 0, none, b, rfl, h2, .inl h5, h6, Nat.le_refl _, by omega, ?_⟩
  rw [List.drop_zero, ← h4,List.take_length]
theorem Arr.upd {sz:Nat} {M:Nat→Prop} {h h':aA} {v:AV} {cs:List AV} {len:Nat} (A:Arr sz h v cs len) (U:Upd M h h') (hM:∀ id,aQ v id→¬ M id):Arr sz h' v cs len:=by
 rcases A with h1 | ⟨id,b,rfl,h2,h3⟩
 ·exact .inl h1
 ·exact .inr ⟨id,b,rfl,(U.2 id (aI h2) (hM id rfl)).trans h2,h3⟩
theorem Arr.append {sz bytes : Nat} {h : aA} {v x : AV} {cs ns : List AV} {len k : Nat} (A : Arr sz h v cs len) (hz : 0 < sz) {K : AV → aA → Prop}
  (hx:∀ K:List AV→Nat→Prop,K ns k→eF sz x h K) (hns:ns.length=k * sz) (hok:ns.all AV.cellOK=true) (hlen:(len+k) * bytes≤140737488355328) (hl2:len+k≤9223372036854775807)
  (hk:∀ v' h',Upd (aQ v) h h'→Arr sz h' v' (cs++ns) (len+k)→(∀ id,aQ v' id→aQ v id∨h.length≤id)→K v' h'):bU ty sz bytes v x h K:=by
 refine ⟨hz,hx _ ?_⟩
 rcases A with ⟨rfl,rfl,rfl⟩ | ⟨id,b,rfl,h2,rfl,h4,h5,h6,h7,h8⟩
 ·refine ⟨by simpa using hlen, by omega, ?_⟩
  split
  ·rename_i h0
   subst h0
   have:ns=[]:=List.eq_nil_of_length_eq_zero (by simpa using hns)
   subst this
   exact hk _ _ (Upd.refl _ _) (.inl ⟨rfl,rfl,rfl⟩) fun id hi=>.inl hi
  ·refine hk _ _ ((Upd.app _ _).mono fun _ _ h=>h.elim) (.inr ⟨h.length,aZ ns sz false ty,by simp,by simp,rfl,by simpa using hns,rfl,Nat.le_refl _,rfl,rfl⟩) fun id hi=>.inr (by cases hi; exact Nat.le_refl _)
 ·have hid := aI h2
  refine ⟨hlen,by omega,b,h2,h5,⟨h6,Nat.le_refl _,by simp only; omega⟩, ?_⟩
  have hcells:(b.cells.drop 0).take (len * sz)=b.cells:=by rw [List.drop_zero, ← h4,List.take_length]
  by_cases ht:k=0
  ·subst ht
   have:ns=[]:=List.eq_nil_of_length_eq_zero (by simpa using hns)
   subst this
   refine .inl ⟨rfl,hk _ _ (Upd.refl _ _) ?_ fun id hi=>.inl hi⟩
   rw [List.append_nil]
   exact .inr ⟨id,b,rfl,h2,rfl,h4,h5,h6,h7,h8⟩
  ·have htp : 0 < k := Nat.pos_of_ne_zero ht
   have hmul:(len+k) * sz=len * sz+k * sz:=Nat.add_mul _ _ _
   cases hex:b.ex with
   | true =>
    have hkz:0<k * sz:=Nat.mul_pos htp hz
    refine .inr (.inl ⟨htp,.inr ⟨rfl,rfl,rfl,by simp only; omega⟩, ?_⟩)
    rw [hcells]
    refine hk _ _ ((Upd.app _ _).mono fun _ _ h=>h.elim) (.inr ⟨h.length,aZ (b.cells++ns) sz false ty,rfl,by simp,rfl,by simp [aZ,hns,h4,hmul],rfl,by simp [aZ],rfl,rfl⟩) fun id hi=>.inr (by cases hi; exact Nat.le_refl _)
   | false =>
    refine .inr (.inr (.inr (.inl ⟨htp,h7,rfl,rfl,h4.symm,rfl,rfl,h8,hok, ?_⟩)))
    refine hk _ _ ((Upd.set _ _ _).mono fun i _ h=>h.symm) (.inr ⟨id,{ b with cells:=b.cells++ns,ty:=eV b.ty ty },rfl,by simp [hid,hex],rfl,by simp [hns,h4,hmul],h5,by simp; omega,h7,h8⟩) fun id hi=>.inl hi
theorem eS {sz len:Nat} {zeros cs:List AV} {parts:List (Nat × Nat × AV)} {h:aA} {K:AV→aA→Prop} (hf:e6 zeros parts=some cs) (hl:cs.length=len * sz)
  (hk:∀ v h',h'.length=h.length+1→Upd (fun _=>False) h h'→Rd sz h' v cs len→(∀ id,aQ v id→h.length≤id)→K v h'):bQ sz len zeros parts h K:=by
 unfold bQ
 rw [hf]
 refine ⟨hl,hk _ _ (by simp) (Upd.app _ _) (.inr ⟨h.length,cs.length,0,none,aZ cs sz true,rfl,by simp,.inl rfl,Nat.le_refl _,Nat.le_refl _,by omega, ?_⟩) fun id hi=>by cases hi; exact Nat.le_refl _⟩
 simp [aZ, ← hl]
theorem Arr.push {sz bytes:Nat} {h:aA} {v x:AV} {cs zeros:List AV} {len:Nat} (A:Arr sz h v cs len) (hz:0<sz) {K:AV→aA→Prop} (hf:e6 zeros [(0,sz,x)]=some x.parts) (hxl:x.parts.length=sz) (hok:x.parts.all AV.cellOK=true)
  (hlen:(len+1) * bytes≤140737488355328) (hl2:len+1≤9223372036854775807)
  (hk:∀ v' h',Upd (aQ v) h h'→Arr sz h' v' (cs++x.parts) (len+1)→(∀ id,aQ v' id→aQ v id∨h.length≤id)→K v' h') :
  bQ sz 1 zeros [(0,sz,x)] h fun y h'=>bU ty sz bytes v y h' K:=by
 refine eS hf (by omega) fun y h1 hl1 U1 R1 F1=>?_
 refine (A.upd U1 fun _ _ h=>h).append hz (ns:=x.parts) (k:=1) (fun K hK=>R1.news hK) (by omega) hok hlen hl2 fun v' h' U2 A2 F2=>hk v' h' ((U1.mono fun _ _ h=>h.elim).trans U2 fun _ _ h=>h) A2 fun id hi=>?_
 rcases F2 id hi with h | h
 ·exact .inl h
 ·exact .inr (by omega)
def Byt (h:aA) (v:AV) (l:List UInt8):Prop:=Rd 1 h v (l.map byteAV) l.length
theorem Byt.str {h:aA} {v:AV} {l:List UInt8} (B:Byt h v l) {K:List UInt8→Prop} (hk:K l):dA v h K:=by
 refine Rd.sl B ⟨qF l, ?_⟩
 rw [tP]; exact hk
theorem rM {l:List UInt8} {lo:Nat} {K:List UInt8→Prop} (h:lo≤l.length) (hk:K (l.drop lo)):bW (.s l) (some (.i .i64 lo)) none K:=by
 refine ⟨by omega,by simpa using h,Nat.le_refl _, ?_⟩
 simpa using hk
theorem k7 {l:List UInt8} {lo hi:Nat} {K:List UInt8→Prop} (h:lo≤hi) (h2:hi≤l.length) (hk:K ((l.take hi).drop lo)):bW (.s l) (some (.i .i64 lo)) (some (.i .i64 hi)) K:=by
 refine ⟨by omega,by omega,by simpa using h,by simpa using h2, ?_⟩
 simpa using hk
theorem sV {l:List UInt8} {hi:Nat} {K:List UInt8→Prop} (h2:hi≤l.length) (hk:K (l.take hi)):bW (.s l) none (some (.i .i64 hi)) K:=by
 refine ⟨by omega,by simp,by simpa using h2, ?_⟩
 simpa using hk
theorem aCB {v w:AV} {K:AV→AV→Prop} (hk:K v w):aCZ [v,w] K:=hk
end Go.GAM
namespace Go.GAM
open Go.RowKit
def nB (w : World) (szOf : Nat → Nat) : Value → AV
 | .bool x=>.b x
 | .int k n=>.i k n
 | .string s=>.s s.data.toList
 | .pointer none=>.p none
 | .pointer (some a) => match w.shape? a.block, a.spot with
  | some (_,n),none=>.p (some ⟨a.block,n,a.off⟩)
  | _,_=>.u
 | .slice none 0 0=>.sl none 0 none
 | .slice (some a) len cap => if cap = 0 then (if len = 0 then .sl (some ⟨w.heap.size, 0, 0⟩) 0 (some 0) else .u) else
  match w.shape? a.block,a.spot with
  | some (_,n),none=>if len≤cap∧a.off+cap * szOf a.block≤n then .sl (some ⟨a.block,n,a.off⟩) len (some cap) else .u
  | _,_=>.u
 | .nilFunc=>.nf
 | .nilIface=>.ni
 | .map none=>.mp none
 | _=>.u
def rW (w:World) (szOf:Nat→Nat):Value→AV
 | .agg cs=>.ag (cs.toList.map (nB w szOf))
 | .iface t v=>.ifc t (nB w szOf v)
 | v=>nB w szOf v
def pX (w:World) (szOf:Nat→Nat) (B:Nat):ABlk:=match w.heap[B]? with
 | some (.cells c _ _)=>⟨c.toList.map (rW w szOf),szOf B,c.size,false,true,true,none,none⟩
 | _=>cI
def gS (w:World) (szOf:Nat→Nat):aA:=(List.range w.heap.size).map (pX w szOf)++[cI]
def muC (w:World) (szOf:Nat→Nat):Mu:=fun id ver=>
 if id=w.heap.size then (if ver=0 then some ⟨0,0,0,1⟩ else none) else
 match w.shape? id with
 | some (_,n)=>if ver=n then some ⟨id,0,n,szOf id⟩ else none
 | none=>none
def aB1 (w:World):Nat→Option Nat:=fun B=>if (w.shape? B).isSome then some B else none
section
variable {w:World} {szOf:Nat→Nat}
theorem pU {B:Nat} {t:TypeId} {n:Nat} (h:w.shape? B=some (t,n)):∃ c fr,w.heap[B]? = some (.cells c t fr)∧c.size=n:=by
 unfold World.shape? at h
 split at h
 ·rename_i c el fr hh
  simp only [Option.some.injEq,Prod.mk.injEq] at h
  obtain ⟨rfl,rfl⟩:=h
  exact ⟨c,fr,hh,rfl⟩
 ·cases h
theorem pD {B:Nat} {x:TypeId × Nat} (h:w.shape? B=some x):B<w.heap.size:=by
 obtain ⟨c,fr,hh,_⟩:=pU (t:=x.1) (n:=x.2) h
 exact (Array.getElem?_eq_some_iff.1 hh).1
theorem rH {B:Nat} {t:TypeId} {n:Nat} (h:w.shape? B=some (t,n)):muC w szOf B n=some ⟨B,0,n,szOf B⟩:=by
 have:=pD h
 unfold muC
 rw [if_neg (by omega),h]
 simp
theorem mH (v : Value) : aL (muC w szOf) (nB w szOf v) v := by
  cases v <;> first | exact .u _ | exact .b _ | exact .i _ _ | exact .s _ _ rfl | exact .nf | exact .ni | skip
  case pointer a=>
    cases a with
    | none=>exact .pn
    | some a =>
      obtain ⟨B,off,spot⟩:=a
      simp only [nB]
      split
      · rename_i t n hs
        exact .p _ _ _ (rH hs) (by simp)
      · exact .u _
  case slice a len cap=>
    cases a with
    | none =>
      cases len with
      | succ l=>exact .u _
      | zero => cases cap with
        | succ c=>exact .u _
        | zero=>exact .sn
    | some a =>
      obtain ⟨B,off,spot⟩:=a
      simp only [nB]
      split
      · rename_i hc
        subst hc
        split
        · rename_i hl
          subst hl
          exact .sl _ _ _ 0 _ ⟨0,0,0,1⟩ (by unfold muC; simp) (Nat.le_refl _) (by simp) (by simp) (by simp) (by simp)
        · exact .u _
      · split
        · rename_i t n hs
          split
          · rename_i hl
            exact .sl _ _ _ cap _ _ (rH hs) hl.1 hl.2 (by simp) (by simp) (by simp)
          · exact .u _
        · exact .u _
  case map r=>cases r <;> first | exact .mpn | exact .u _
theorem o9:∀ vs:List Value,VRels (muC w szOf) (vs.map (nB w szOf)) vs
 | []=>.nil
 | v :: vs=>.cons _ _ _ _ (mH v) (o9 vs)
theorem aA8 (v:Value):aL (muC w szOf) (rW w szOf v) v:=by
 cases v <;> simp only [rW] <;> first | exact mH _ | exact .ag _ _ (o9 _) | exact .ifc _ _ _ (mH _)
theorem tD {B:Nat} (h:B<w.heap.size):(gS w szOf)[B]? = some (pX w szOf B):=by
 unfold gS
 rw [List.getElem?_append_left (by simpa using h)]
 simp [h]
theorem zA:(gS w szOf).length=w.heap.size+1:=by simp [gS]
theorem zK (w : World) (szOf : Nat → Nat) : Rel w (fun B => B < w.heap.size) (muC w szOf) (aB1 w) (gS w szOf) w where
 os:=rfl
 tape:=rfl
 output:=rfl
 size0:=Nat.le_refl _
 fz:=fun B hB=>⟨hB,rfl⟩
 ownlt:=fun B id h=>by
  unfold aB1 at h
  split at h
  ·rename_i hs
   obtain ⟨x,hx⟩:=Option.isSome_iff_exists.1 hs
   exact pD hx
  ·cases h
 mulen := fun id ver l h => by
  unfold muC at h
  split at h
  ·rename_i he
   subst he
   exact ⟨cI,by simp [gS],by simp [cI]⟩
  ·split at h
   ·rename_i t n hs
    obtain ⟨c,fr,hh,hc⟩:=pU hs
    refine ⟨pX w szOf id,tD (pD hs),fun _=>?_⟩
    split at h
    ·rename_i hv
     unfold pX
     rw [hh]
     simp [hv,hc]
    ·cases h
   ·cases h
 blk := fun id b hb hl => by
  rcases Nat.lt_or_ge id w.heap.size with hi | hi
  ·rw [tD hi] at hb
   cases hb
   unfold pX at hl ⊢
   split at hl
   ·rename_i c el fr hh
    have hs:w.shape? id=some (el,c.size):=by unfold World.shape?; rw [hh]
    refine ⟨⟨id,0,c.size,szOf id⟩, ?_⟩
    have hlen:(c.toList.map (rW w szOf)).length=c.size:=by simp
    refine { cur:=by simp only [hlen]; exact rH hs,owned:=by simp [aB1,hs],sz:=rfl,len:=by simp,ex:=by simp,ro:=by simp,gl:=by simp,nomap:=rfl,tyok:=fun t ht=>(by cases ht),row:=⟨c,el,fr,hh,by simp⟩,free:=by simp,vers:=fun ver h1 h2 l' hl'=>?_ }
    have hv:ver=c.size:=by simp only [hlen] at h2; simp only at h1; omega
    subst hv
    rw [rH hs] at hl'
    cases hl'
    refine { own:=by simp [aB1,hs],sz:=rfl,le:=Nat.le_refl _,base:=fun _=>rfl,cells:=fun j hj=>?_ }
    refine ⟨c[j],by simp [World.cell?,hh,hj], ?_⟩
    have e:(c.toList.map (rW w szOf)).getD j .u=rW w szOf c[j]:=by simp [List.getD,hj]
    simp only [e]
    exact aA8 _
   ·exact absurd hl (by simp [cI])
  ·exfalso
   rcases Nat.lt_or_ge id (w.heap.size+1) with h2 | h2
   ·have : id = w.heap.size := by omega
    subst this
    simp [gS] at hb
    subst hb
    simp [cI] at hl
   ·rw [List.getElem?_eq_none (by rw [zA]; omega)] at hb; cases hb
 maps:=fun id b es hb he=>by
  exfalso
  have hm:b∈gS w szOf:=List.mem_of_getElem? hb
  unfold gS at hm
  rcases List.mem_append.1 hm with h1 | h1
  ·obtain ⟨B, _, rfl⟩ := List.mem_map.1 h1
   unfold pX at he
   split at he <;> cases he
  ·simp at h1; subst h1; cases he
end
def Yes:AV→aA→Prop:=fun v _=>v = .b true
end Go.GAM
namespace Go.GAM
open Go.RowKit Go.ChangeShapes
section
variable {H:Type} {enc:TypeId × Value→H} {P:Program} {w:World} {szOf:Nat→Nat}
end
end Go.GAM
namespace Go.GAM
variable {ty:Option TypeId}
open Go.RowKit
theorem Upd.ext {h h':aA} (U:Upd (fun _=>False) h h'):Ext h h':=⟨U.1,fun i hi=>U.2 i hi fun h=>h⟩
theorem aC0 {α:Type} {l r:List α} {i:Nat} {c:α} (h:l.drop i=c :: r):i<l.length:=by
 rcases Nat.lt_or_ge i l.length with h1 | h1
 ·exact h1
 ·rw [List.drop_eq_nil_of_le h1] at h; cases h
theorem yZ {α:Type} {l r:List α} {i:Nat} {c:α} (h:l.drop i=c :: r):l.drop (i+1)=r:=by
 have:(l.drop i).drop 1=r:=by rw [h] <;> rfl
 rwa [List.drop_drop] at this
theorem aBT {α:Type} {l:List α} {i:Nat} (h:l.drop i=[]):l.length≤i:=by
 have:=congrArg List.length h
 simp at this; omega
def Stk (h:aA) (v:AV) (l:List AV):Prop:=
 (v = .sl none 0 none∧l=[])∨∃ id b,v = .sl (some ⟨id,b.cells.length,0⟩) l.length none∧h[id]? = some b∧b.sz=1∧l.length≤b.cells.length∧b.cells.take l.length=l∧b.floor≤b.cells.length∧b.ro=false∧b.gl=false
theorem Stk.rd {h:aA} {v:AV} {l:List AV} (S:Stk h v l):Rd 1 h v l l.length:=by
 rcases S with ⟨rfl,rfl⟩ | ⟨id,b,rfl,h1,h2,h3,h4,h5,h6,h7⟩
 ·exact .inl ⟨rfl,rfl,rfl⟩
 ·exact .inr ⟨id,_,0,none,b,rfl,h1,.inl h2,h5,Nat.le_refl _,by omega,by rw [List.drop_zero,Nat.mul_one]; exact h4⟩
theorem Stk.upd {M:Nat→Prop} {h h':aA} {v:AV} {l:List AV} (S:Stk h v l) (U:Upd M h h') (hM:∀ i,aQ v i→¬ M i):Stk h' v l:=by
 rcases S with h1 | ⟨id,b,rfl,h1,h2⟩
 ·exact .inl h1
 ·exact .inr ⟨id,b,rfl,(U.2 id (aI h1) (hM id rfl)).trans h1,h2⟩
theorem Stk.push {bytes : Nat} {h : aA} {v x : AV} {l zeros : List AV} (S : Stk h v l) (hf : e6 zeros [(0, 1, x)] = some [x]) (hx : x.cellOK = true) (hlen : (l.length + 1) * bytes ≤ 140737488355328) (hl2 : l.length + 1 ≤ 9223372036854775807) {K : AV → aA → Prop}
  (hk:∀ v' h',Upd (aQ v) h h'→Stk h' v' (l++[x])→(∀ i,aQ v' i→aQ v i∨h.length≤i)→K v' h'):bQ 1 1 zeros [(0,1,x)] h fun y h'=>bU ty 1 bytes v y h' K:=by
 refine eS hf rfl fun y h1 hl1 U1 R1 F1=>⟨Nat.one_pos,R1.news ?_⟩
 have S1:=S.upd U1 fun _ _ h=>h
 rcases S1 with ⟨rfl,rfl⟩ | ⟨id,b,rfl,g1,g2,g3,g4,g5,g6,g7⟩
 ·refine ⟨by simpa using hlen, by omega, ?_⟩
  rw [if_neg (by decide)]
  exact hk _ _ ((U1.mono fun _ _ h=>h.elim).trans (Upd.app _ _) fun _ _ h=>h.elim) (.inr ⟨h1.length,aZ [x] 1 false ty,by simp [aZ],by simp,rfl,by simp [aZ],by simp [aZ],by simp [aZ],rfl,rfl⟩) fun i hi=>.inr (by have e:h1.length=i:=hi; omega)
 ·have hid := aI g1
  have hidh:id<h.length:=Rd.lt S.rd (id:=id) rfl
  refine ⟨hlen,by omega,b,g1,g2,⟨g5,Nat.le_refl _,by simp only; omega⟩, ?_⟩
  by_cases hfull:l.length=b.cells.length
  ·cases hex : b.ex with
   | true =>
    refine .inr (.inl ⟨Nat.one_pos,.inr ⟨rfl,rfl,rfl,by simp only; omega⟩, ?_⟩)
    refine hk _ _ ((U1.mono fun _ _ h=>h.elim).trans (Upd.app _ _) fun _ _ h=>h.elim) (.inr ⟨h1.length,aZ (l++[x]) 1 false ty, ?_, ?_,rfl,by simp [aZ],by simp only [aZ,List.length_append]; exact List.take_of_length_le (by simp),by simp [aZ],rfl,rfl⟩) fun i hi=>.inr (by have e:h1.length=i:=hi; omega)
    ·simp [aZ,g4,g3]
    ·simp [g4]
   | false =>
    refine .inr (.inr (.inr (.inl ⟨Nat.one_pos,g6,rfl,rfl,by omega,rfl,rfl,g7,by simp [hx], ?_⟩)))
    have hcl:b.cells=l:=by rw [hfull,List.take_length] at g4; exact g4
    refine hk _ _ ((U1.mono fun _ _ h=>h.elim).trans (Upd.set _ _ _) fun i _ h=>h.symm) (.inr ⟨id,{ b with cells:=b.cells++[x],ty:=eV b.ty ty }, ?_,by simp [hid,hex],g2,by simp; omega, ?_,by simp; omega,g6,g7⟩) fun i hi=>.inl hi
    ·simp
    ·simp only [hcl]
     rw [List.take_of_length_le (by simp)]
  ·refine .inr (.inr (.inl ⟨Nat.one_pos, g6, rfl, by simp only; omega, .inl rfl, by simp [hx], ?_⟩))
   refine hk _ _ ((U1.mono fun _ _ h=>h.elim).trans (Upd.set _ _ _) fun i _ h=>h.symm) (.inr ⟨id,{ b with cells:=wr b.cells (0+l.length * 1) [x],floor:=b.cells.length }, ?_,show (h1.set id _)[id]? = some _ from List.getElem?_set_self hid,g2, ?_, ?_, ?_,g6,g7⟩) fun i hi=>.inl hi
   ·simp [wr]
   ·simp [wr]; omega
   ·simp only [wr, Nat.zero_add, Nat.mul_one, List.length_append, List.length_cons, List.length_nil]
    apply List.ext_getElem?
    intro i
    by_cases h1:i<l.length
    ·rw [List.getElem?_take_of_lt (by omega), List.getElem?_set_ne (by omega), List.getElem?_append_left h1]
     conv=>rhs; rw [← g4]
     rw [List.getElem?_take_of_lt h1]
    ·by_cases h2 : i = l.length
     ·subst h2
      rw [List.getElem?_take_of_lt (by omega),List.getElem?_set_self (by omega),List.getElem?_append_right (by omega)]
      simp
     ·rw [List.getElem?_eq_none (by simp; omega),List.getElem?_eq_none (by simp; omega)]
   ·simp [wr]
theorem Rd.cell {sz:Nat} {h:aA} {v:AV} {cs:List AV} {len:Nat} (R:Rd sz h v cs len) {k:IntKind} {i:Nat} {c:AV} (hz:0<sz) (hi:i<len) (hc:cs[i * sz]? = some c) {K:AV→Prop} (hk:K c) :
  aX sz v (.i k (i:Int)) h fun a=>aB a h K:=by
 rcases R with ⟨rfl,rfl,rfl⟩ | ⟨id,ver,off,cap,b,rfl,h2,h3,h4,h5,h6,h7⟩
 ·omega
 ·have A : aD1 sz h id ver off b cs len := ⟨h2, h3, h4, h5, h6, h7⟩
  exact aD2 A hi (aCQ (o:=0) A hi hz (by simpa using hc) hk)
theorem lP {x:Nat} (h:x<2 ^ 64):(BitVec.ofInt 64 (x:Int)).toNat=x:=by
 simp [BitVec.toNat_ofInt]; omega
theorem xA {x y:Nat} (hx:x<2 ^ 62) (hy:y<2 ^ 62):bP .or .i64 x y=((x ||| y:Nat):Int):=by
 have h:x ||| y<2 ^ 62:=Nat.or_lt_two_pow hx hy
 show IntKind.wrap .i64 (((BitVec.ofInt 64 (x:Int)) ||| (BitVec.ofInt 64 (y:Int))).toNat:Int)=_
 rw [BitVec.toNat_or,lP (by omega),lP (by omega),aW (by omega) (by omega)]
theorem jC {x y:Nat} (hx:x<2 ^ 62) (hy:y<2 ^ 62):bP .and .i64 x y=((x &&& y:Nat):Int):=by
 have h:x &&& y<2 ^ 62:=Nat.and_lt_two_pow _ hy
 show IntKind.wrap .i64 (((BitVec.ofInt 64 (x:Int)) &&& (BitVec.ofInt 64 (y:Int))).toNat:Int)=_
 rw [BitVec.toNat_and,lP (by omega),lP (by omega),aW (by omega) (by omega)]
theorem mN {a b:Nat} {K:Int→Prop} (hb:b≤64) (h:a * 2 ^ b<2 ^ 62) (hk:K ((a * 2 ^ b:Nat):Int)):nQ .i64 a b K:=by
 refine ⟨by omega, ?_⟩
 have e:(a:Int) * 2 ^ (min (b:Int).toNat IntKind.i64.bits)=((a * 2 ^ b:Nat):Int):=by
  rw [Int.toNat_natCast,show IntKind.i64.bits=64 from rfl,Nat.min_eq_left hb]; simp
 rw [e,aW (by omega) (by omega)]; exact hk
theorem sA {a b:Nat} {k:IntKind} {K:Int→Prop} (hb:b≤k.bits) (hk:K ((a / 2 ^ b:Nat):Int)):lU k a b K:=by
 refine ⟨by omega, ?_⟩
 have e:(a:Int).fdiv (2 ^ (min (b:Int).toNat k.bits))=((a / 2 ^ b:Nat):Int):=by
  rw [Int.toNat_natCast,Nat.min_eq_left hb]
  have h2:((2:Int) ^ b)=((2 ^ b:Nat):Int):=by simp
  rw [h2,Int.fdiv_eq_ediv_of_nonneg _ (Int.natCast_nonneg (2 ^ b))] <;> rfl
 rw [e]; exact hk
end Go.GAM
namespace Go.GAM
open Go.RowKit
section
variable {H:Type} {enc:TypeId × Value→H} {P:Program} {w:World} {szOf:Nat→Nat}
end
theorem Rd.byte {h:aA} {v:AV} {l:List UInt8} {len:Nat} (R:Rd 1 h v (l.map byteAV) len) {k:IntKind} {i:Nat} {x:UInt8} (hx:l[i]? = some x) {K:Int→Prop} (hk:K (x.toNat:Int)) :
  aX 1 v (.i k (i:Int)) h fun a=>aB a h fun y=>asI .u8 y K:=by
 have hl:=R.length
 rw [List.length_map,Nat.mul_one] at hl
 exact R.cell Nat.one_pos (by have:=aI hx; omega) (c:=byteAV x) (by rw [Nat.mul_one,List.getElem?_map,hx] <;> rfl) (kS hk)
end Go.GAM
namespace Go.GAM
open Go.RowKit Go.ChangeShapes
section
variable {H:Type} {enc:TypeId × Value→H} {P:Program} {w:World} {szOf:Nat→Nat}
theorem vE {n:String} {d:DataW Unit} {l:List (String × DataW Unit)} (hm:(n,d)∈l) (hL:laidMet P l w) :
  ∃ g t cs fuel p,P.globalNamed n=some g∧(P.globals[g]?).map (·.type)=some t∧w.var? P n=some cs∧DataW.trod (fun _=>()) P w 0 (fun _=>true) false fuel t cs.toList=some (d,p):=by
 obtain ⟨ps,h,hx⟩:=hL
 clear hx
 induction l generalizing ps with
 | nil=>cases hm
 | cons x l ih =>
  obtain ⟨n',d'⟩:=x
  obtain ⟨g,t,cs,fuel,p,q,h1,h2,h3,h4,h5,h6⟩:=h
  rcases List.mem_cons.1 hm with h | h
  ·cases h; exact ⟨g,t,cs,fuel,p,h1,h2,h3,h4⟩
  ·exact ih h _ h5
theorem yB {n:String} {g:Nat} {cs:Array Value} (hg:P.globalNamed n=some g) (hv:w.var? P n=some cs):∃ t fr,w.heap[g]? = some (.cells cs t fr):=by
 unfold World.var? at hv
 rw [hg] at hv
 simp only [Option.bind_some] at hv
 split at hv
 ·rename_i c t fr h
  cases hv
  exact ⟨t,fr,h⟩
 ·cases hv
end
theorem Rd.cutAt {sz:Nat} {h:aA} {v:AV} {cs:List AV} {len:Nat} (R:Rd sz h v cs len) (hz:0<sz) {lo:Option AV} {lo' hi:Nat} (hlo:lo=none∧lo'=0∨lo=some (.i .i64 lo')) (h1:lo'≤hi) (h2:hi≤len) (z1:sz=1:=by rfl) :
  ∃ v',Rd sz h v' ((cs.take (hi * sz)).drop (lo' * sz)) (hi - lo')∧∀ (K:AV→Prop),K v'→bJ sz v lo (some (.i .i64 (hi:Int))) none h K:=by
 rcases R with ⟨rfl,h0,rfl⟩ | ⟨id,ver,off,cap,b,rfl,g2,g3,g4,g5,g6,g7⟩
 ·have : hi = 0 := by omega
  subst this
  have:lo'=0:=by omega
  subst this
  refine ⟨.sl none 0 none,.inl ⟨rfl,rfl,by simp⟩,fun K hk=>⟨by simp, ?_⟩⟩
  rcases hlo with ⟨rfl,_⟩ | rfl
  ·exact ⟨rfl,rfl,rfl,fun h=>by simp at h,hk⟩
  ·exact ⟨by simp,rfl,rfl,rfl,fun h=>by simp at h,hk⟩
 ·have e2 : hi * sz ≤ len * sz := Nat.mul_le_mul_right _ h2
  have e1:lo' * sz≤hi * sz:=Nat.mul_le_mul_right _ h1
  have e3:(hi - lo') * sz=hi * sz - lo' * sz:=Nat.sub_mul _ _ _
  refine ⟨.sl (some ⟨id,ver,off+lo' * sz⟩) (hi - lo') (cap.map (· - lo')),.inr ⟨id,ver,off+lo' * sz,_,b,rfl,g2,g3,g4,g5,by omega, ?_⟩,fun K hk=>?_⟩
  ·rw [← g7,List.take_take,Nat.min_eq_left e2,List.drop_take,List.drop_drop,e3]
  ·refine ⟨hz, fun h => by simp at h, by omega, ?_⟩
   rcases hlo with ⟨rfl,rfl⟩ | rfl
   ·exact ⟨by omega,b,g2,by omega,g4,.inl (g3.elim (fun x=>x) fun x=>x.trans z1.symm),.inl (by simpa using h2),by simpa using hk⟩
   ·exact ⟨by omega,by simpa using h1,b,g2,by omega,g4,.inl (g3.elim (fun x=>x) fun x=>x.trans z1.symm),.inl (by simpa using h2),by simpa using hk⟩
end Go.GAM
namespace Go.GAM
variable {ty:Option TypeId}
open Go.RowKit
theorem inc {i:Nat} {K:Int→Prop} (h:i<9223372036854775807) (hk:K ((i+1:Nat):Int)):aO (IntKind.wrap .i64 ((i:Int)+1)) K:=
 aM (n:=((i+1:Nat):Int)) (by rw [aW (by omega) (by omega)]; omega) hk
theorem dM {e n:Int} {K:Int→Prop} (h:e=n) (h0 : -9223372036854775808≤n) (h1:n<9223372036854775808) (hk:K n):aO (IntKind.wrap .i64 e) K:=
 aM (by rw [h,aW h0 h1]) hk
theorem fH {α:Type} {l:List α} {i:Nat} {c:α} (hc:l[i]? = some c):l.take (i+1)=l.take i++[c]:=by
 rw [List.take_add_one,hc] <;> rfl
theorem vW {α:Type} {l r:List α} {i:Nat} {c:α} (h:l.drop i=c :: r):l[i]? = some c:=by
 have:(l.drop i)[0]? = some c:=by rw [h] <;> rfl
 simpa using this
theorem cR {R:aS} {f:Nat} {first cap vs:List AV} {h:aA} {K:AV→aA→Prop} (hf:Nat.blt f yid0=true) (hk:R f (first++vs++cap) h K):bV R (.fn (.func f) first cap) vs h K:=by
 unfold bV
 simp only
 unfold kC
 exact bA hf hk
theorem t6 (z:AV):∀ n,(List.replicate n [z]).flatten=List.replicate n z
 | 0=>rfl
 | n+1=>by rw [List.replicate_succ,List.flatten_cons,t6 z n,List.replicate_succ] <;> rfl
end Go.GAM
namespace Go.GAM
open Go.RowKit
end Go.GAM
namespace Go.GAM
open Go.RowKit
section
variable {P:Program} {α:Type} [DecidableEq α]
def gE (κ:α→AV) (kv:List (α × AV)):List (AV × AV):=kv.map fun p=>(κ p.1,p.2)
def lkI:List (α × AV)→α→Nat→Option (Nat × AV)
 | [],_,_=>none
 | (k,v) :: r,x,i=>if x=k then some (i,v) else lkI r x (i+1)
def lkM (kv:List (α × AV)) (x:α):Option AV:=(lkI kv x 0).map (·.2)
def upM:List (α × AV)→α→AV→List (α × AV)
 | [],x,v=>[(x,v)]
 | (k,w) :: r,x,v=>if x=k then (k,v) :: r else (k,w) :: upM r x v
theorem xB (x:α):∀ (kv:List (α × AV)) (i j:Nat),(lkI kv x i).map (·.2)=(lkI kv x j).map (·.2)
 | [],_,_=>rfl
 | (k, v) :: r, i, j => by
  unfold lkI
  split
  ·rfl
  ·exact xB x r _ _
theorem jU (k:α) (v:AV) (r:List (α × AV)) (x:α):lkM ((k,v) :: r) x=if x=k then some v else lkM r x:=by
 unfold lkM
 rw [lkI]
 split
 ·rfl
 ·exact xB x r _ _
theorem aAN (x:α) (v:AV) (y:α):∀ kv:List (α × AV),lkM (upM kv x v) y=if y=x then some v else lkM kv y
 | []=>by rw [upM,jU]
 | (k, w) :: r => by
  unfold upM
  by_cases h:x=k
  ·subst h
   rw [if_pos rfl,jU,jU]
   split <;> rfl
  ·rw [if_neg h, jU, jU, aAN x v y r]
   by_cases hy:y=k
   ·subst hy; rw [if_pos rfl,if_pos rfl,if_neg (fun e=>h e.symm)]
   ·rw [if_neg hy,if_neg hy]
def tO (P:Program) (kt:TypeId) (κ:α→AV):Prop:=∀ a b,aEq P 64 kt (κ a) (κ b)=some (decide (a=b))
theorem oO {kt:TypeId} {κ:α→AV} (hκ:tO P kt κ) (x:α):∀ (kv:List (α × AV)) (i:Nat),iU P kt (κ x) (gE κ kv) i=some (lkI kv x i)
 | [],_=>rfl
 | (k, v) :: r, i => by
  have e:=oO hκ x r (i+1)
  show iU P kt (κ x) ((κ k,v) :: gE κ r) i=_
  rw [iU]
  show (match aEq P 64 kt (κ x) (κ k) with
   | some true=>some (some (i,v))
   | some false=>iU P kt (κ x) (gE κ r) (i+1)
   | none=>none)=_
  rw [hκ x k,lkI]
  by_cases h:x=k
  ·rw [decide_eq_true h,if_pos h]
  ·rw [decide_eq_false h,if_neg h]; exact e
def jB (κ:α→AV) (h:aA) (id:Nat) (kv:List (α × AV)):Prop:=h[id]? = some (eK (gE κ kv))
theorem jB.lt {κ:α→AV} {h:aA} {id:Nat} {kv:List (α × AV)} (M:jB κ h id kv):id<h.length:=aI M
theorem jB.upd {κ:α→AV} {M:Nat→Prop} {h h':aA} {id:Nat} {kv:List (α × AV)} (A:jB κ h id kv) (U:Upd M h h') (hM:¬ M id):jB κ h' id kv:=(U.2 id A.lt hM).trans A
theorem vB (κ:α→AV) {h:aA} {K:AV→aA→Prop} (hk:∀ h',h'.length=h.length+1→Upd (fun _=>False) h h'→jB κ h' h.length []→K (.mp (some h.length)) h'):kX h K:=
 hk _ (by simp) (Upd.app _ _) (by unfold jB; simp [gE])
theorem mM {κ:α→AV} {h:aA} {id:Nat} {kv:List (α × AV)} {kt el:TypeId} {x:α} {z:AV} {K:AV→Prop} (M:jB κ h id kv) (hκ:tO P kt κ) (hv:zY P kt (κ x)=true) (hz:uF P el=some z) (hk:K ((lkM kv x).getD z)):eP P kt el false (.mp (some id)) (κ x) h K:=by
 refine ⟨hv, ?_⟩
 have e:xI (.mp (some id)) h=some (gE κ kv):=by show ((h[id]?).bind (·.mp)).bind aEK=_; rw [M] <;> rfl
 rw [e]
 simp only
 rw [oO hκ]
 unfold lkM at hk
 cases hl:lkI kv x 0 with
 | none=>rw [hl] at hk; simp only; rw [hz]; exact hk
 | some p=>rw [hl] at hk; exact hk
theorem aAZ {κ : α → AV} (x : α) (v : AV) : ∀ (kv : List (α × AV)) (i : Nat), match lkI kv x i with
  | none=>upM kv x v=kv++[(x,v)]
  | some (j,_)=>i≤j∧kv[j - i]?.map (·.1)=some x∧upM kv x v=kv.set (j - i) (x,v)
 | [],i=>rfl
 | (k, w) :: r, i => by
  have ih:=aAZ (κ:=κ) x v r (i+1)
  rw [lkI]
  by_cases h:x=k
  ·subst h
   rw [if_pos rfl]
   exact ⟨Nat.le_refl _,by simp,by simp [upM]⟩
  ·rw [if_neg h]
   cases hl:lkI r x (i+1) with
   | none=>rw [hl] at ih; simp only at ih ⊢; rw [upM,if_neg h,ih] <;> rfl
   | some p =>
    obtain ⟨j,u1⟩:=p
    rw [hl] at ih
    simp only at ih ⊢
    obtain ⟨h1,h2,h3⟩:=ih
    obtain ⟨m,rfl⟩:∃ m,j=i+1+m:=⟨j - (i+1),by omega⟩
    rw [show i+1+m - (i+1)=m by omega] at h2 h3
    rw [show i+1+m - i=m+1 by omega,upM,if_neg h,h3]
    exact ⟨by omega,by simpa using h2,by simp⟩
theorem z0 {κ:α→AV} {h:aA} {id:Nat} {kv:List (α × AV)} {kt:TypeId} {x:α} {v:AV} {K:aA→Prop} (M:jB κ h id kv) (hκ:tO P kt κ) (hv:zY P kt (κ x)=true) (hp:qS (κ x)=true)
  (hk:∀ h',h'.length=h.length→Upd (· = id) h h'→jB κ h' id (upM kv x v)→K h'):gB P kt (.mp (some id)) (κ x) v h K:=by
 refine ⟨hv,hp,_,_,M,rfl, ?_⟩
 rw [oO hκ]
 have hu:=aAZ (κ:=κ) x v kv 0
 have fin:∀ es,es=gE κ (upM kv x v)→K (h.set id (eK es)):=by
  rintro es rfl
  exact hk _ (by simp) (Upd.set _ _ _) (List.getElem?_set_self M.lt)
 cases hl:lkI kv x 0 with
 | none =>
  rw [hl] at hu
  exact fin _ (by simp only at hu; rw [hu]; simp [gE])
 | some p =>
  obtain ⟨j,u1⟩:=p
  rw [hl] at hu
  simp only [Nat.sub_zero] at hu
  obtain ⟨_,h2,h3⟩:=hu
  refine ⟨?_,fin _ (by rw [h3]; simp [gE,List.map_set])⟩
  obtain ⟨q,hq,hqx⟩:=Option.map_eq_some_iff.1 h2
  exact ⟨q.2,by unfold gE; rw [List.getElem?_map,hq]; simp [hqx]⟩
theorem yI {kt:TypeId} (hu:P.underlying kt=some .string):tO P kt (fun l:List UInt8=>.s l):=fun a b=>by
 rw [wR (d:=63) hu]
 show some (a == b)=_
 congr 1
 rw [Bool.eq_iff_iff]; simp
end
section
variable {P:Program}
end
end Go.GAM
namespace Go.GAM
section
variable {P:Program} {w0:World} {Fz:Nat→Prop} {μ:Mu} {own:Nat→Option Nat} {h:aA} {w:World}
theorem aBJ {f:FuncId} {fn:Func} {ex:Array Value→Sem Value} (hf:P.funcs[f]? = some fn) (hn:(fn.name == "runtime.NumGoroutine")=false) (hb:fn.body.isNone=true)
  (h1:Extern.findNext fn=none) (h2:Extern.find fn=some ex) {args:Array Value} {v:Value} {w w':World} (he:(ex args).run P w = .ok v w'):(callFunc f args).run P w = .ok (.value v) w':=by
 have hn':fn.name ≠ "runtime.NumGoroutine":=by simpa using hn
 have hb':fn.body=none:=by simpa using hb
 have hm:∀ (m:Mark) (k:Sem Unit) (w:World),Sem.run P (Sem.mark m k) w=Sem.run P k w:=fun _ _ _=>rfl
 unfold callFunc
 simp [go_sem,hf,hn',hb',h1,h2,mark,hm,he]
def aDR (P : Program) (ex : Array Value → Sem Value) (X : List AV → aA → (AV → aA → Prop) → Prop) : Prop :=
 ∀ (w0 : World) (Fz : Nat → Prop) (μ : Mu) (own : Nat → Option Nat) (h : aA) (w : World) (args : List AV) (cargs : List Value) (K : AV → aA → Prop), Rel w0 Fz μ own h w → VRels μ args cargs → X args h K →
  ∃ cv w',(ex cargs.toArray).run P w = .ok cv w'∧iH w0 Fz μ K cv w'
structure aBK (P:Program) (f:FuncId) (ex:Array Value→Sem Value):Prop where
 is:∃ fn,P.funcs[f]? = some fn∧(fn.name == "runtime.NumGoroutine")=false∧fn.body.isNone=true∧Extern.findNext fn=none∧Extern.find fn=some ex
theorem aBK.sim {f:FuncId} {ex:Array Value→Sem Value} {X:List AV→aA→(AV→aA→Prop)→Prop} (A:aBK P f ex) (E:aDR P ex X) (hlt:f<yid0) {μb:Mu} {args:List AV} {h:aA} {K:AV→aA→Prop} (hk:X args h K):wO P w0 Fz μb f args h K:=by
 intro μ own w cargs hsb R hc
 rw [if_pos hlt]
 obtain ⟨fn,h1,h2,h3,h4,h5⟩:=A.is
 obtain ⟨cv,w',e1,e2⟩:=E w0 Fz μ own h w args cargs K R hc hk
 exact .inr ⟨cv,w',aBJ h1 h2 h3 h4 h5 e1,e2⟩
end
end Go.GAM
namespace Go.GAM
def eN (E:TypeId) (h:aA) (v:AV) (l:List UInt8):Prop:=
 (v = .sl none 0 none∧l=[])∨∃ id b,v = .sl (some ⟨id,l.length,0⟩) l.length none∧h[id]? = some b∧b.cells=l.map byteAV∧b.sz=1∧b.floor≤l.length∧b.ro=false∧b.ex=false∧b.gl=false∧b.ty=some E∧l≠[]
theorem eN.upd {E:TypeId} {M:Nat→Prop} {h h':aA} {v:AV} {l:List UInt8} (B:eN E h v l) (U:Upd M h h') (hM:∀ i,aQ v i→¬ M i):eN E h' v l:=by
 rcases B with B | ⟨id,b,rfl,h1,h2⟩
 ·exact .inl B
 ·exact .inr ⟨id,b,rfl,(U.2 id (aI h1) (hM id rfl)).trans h1,h2⟩
theorem eN.lt {E:TypeId} {h:aA} {v:AV} {l:List UInt8} (B:eN E h v l) {i:Nat} (hi:aQ v i):i<h.length:=by
 rcases B with ⟨rfl,_⟩ | ⟨id,b,rfl,h1,h2⟩
 ·exact hi.elim
 ·cases hi; exact aI h1
theorem eN.append {E:TypeId} {h:aA} {v x:AV} {l t:List UInt8} (B:eN E h v l) (hx:∀ K:List AV→Nat→Prop,K (t.map byteAV) t.length→eF 1 x h K) (hlen:l.length+t.length≤140737488355328) {K:AV→aA→Prop}
  (hk:∀ v' h',Upd (aQ v) h h'→eN E h' v' (l++t)→(∀ i,aQ v' i→aQ v i∨h.length≤i)→K v' h'):bU (some E) 1 1 v x h K:=by
 refine ⟨by decide,hx _ ?_⟩
 have hok:(t.map byteAV).all AV.cellOK=true:=by
  rw [List.all_eq_true]; intro x hx
  obtain ⟨c,_,rfl⟩:=List.mem_map.1 hx
  rfl
 rcases B with ⟨rfl,rfl⟩ | ⟨id,b,rfl,h1,h2,h3,h4,h5,h6,h7,h8,h9⟩
 ·refine ⟨by simp only [List.length_nil] at hlen; omega, by simp only [List.length_nil] at hlen; omega, ?_⟩
  by_cases ht:t=[]
  ·subst ht
   show K (.sl none 0 none) h
   exact hk _ _ (Upd.refl _ _) (.inl ⟨rfl,rfl⟩) fun i hi=>.inl hi
  ·have htl : t.length ≠ 0 := by simpa using ht
   rw [if_neg htl]
   refine hk _ _ ((Upd.app _ _).mono fun _ _ h=>h.elim) (.inr ⟨h.length,aZ (t.map byteAV) 1 false (some E),by simp,by simp,rfl,rfl,by simp [aZ],rfl,rfl,rfl,rfl,by simpa using ht⟩) fun i hi=>.inr ?_
   cases hi; exact Nat.le_refl _
 ·have hidl := aI h1
  have hbl:b.cells.length=l.length:=by rw [h2]; simp
  have hll:0<l.length:=List.length_pos_iff.2 h9
  refine ⟨by omega,by omega,b,h1,h3,⟨h4,by rw [hbl]; exact Nat.le_refl _,by simp⟩, ?_⟩
  by_cases ht:t=[]
  ·subst ht
   left
   exact ⟨rfl,hk _ _ (Upd.refl _ _) (.inr ⟨id,b,by simp,h1,by simpa using h2,h3,by simpa using h4,h5,h6,h7,h8,by simpa using h9⟩) fun i hi=>.inl hi⟩
  ·have htl : 0 < t.length := List.length_pos_iff.2 ht
   right; right; right; left
   refine ⟨htl,h5,hbl.symm,rfl,by rw [hbl]; simp,rfl,h6,h7,hok, ?_⟩
   have hty:eV b.ty (some E)=some E:=by rw [h8]; simp [eV]
   refine hk _ _ ((Upd.set _ _ _).mono fun i _ h=>h.symm) (.inr ⟨id,{ b with cells:=b.cells++t.map byteAV,ty:=eV b.ty (some E) },by simp [hbl],List.getElem?_set_self hidl,by simp [h2],h3,by simp; omega,h5,h6,h7,hty,by simp [h9]⟩) fun i hi=>.inl ?_
   exact hi
section
variable {P:Program} {T E:TypeId} {h:aA} {id off:Nat} {cs:List AV} {buf:AV} {l:List UInt8}
theorem sS {t:TypeId} {K:AV→Prop} (ht:kG P t=true) (hk:K (.b true)):dN P .eql t (.p none) (.p none) K:=by
 simp only [dN,ht,cond_true]; exact hk
theorem eM {t:TypeId} {a:AA} {K:AV→Prop} (ht:kG P t=true) (hk:K (.b false)):dN P .eql t (.p (some a)) (.p none) K:=by
 simp only [dN,ht,cond_true]; exact hk
end
end Go.GAM
namespace Go.GAM
abbrev xJ:=List AV→aA→(AV→aA→Prop)→Prop
def aCN (T:List (FuncId × xJ)):aS:=fun f args h K=>∃ X,(f,X)∈T∧X args h K
section
variable {P:Program} {w0:World} {Fz:Nat→Prop} {μ:Mu} {own:Nat→Option Nat} {h:aA} {w:World}
def aEW (P:Program) (r:FuncId × xJ):Prop:=r.1<yid0∧∃ ex,aBK P r.1 ex∧aDR P ex r.2
theorem vU {T:List (FuncId × xJ)} (hT:∀ r∈T,aEW P r):jI P (aCN T):=by
 rintro w0 Fz μb f args h K ⟨X,hm,hk⟩
 obtain ⟨hlt,ex,hA,hE⟩:=hT _ hm
 exact hA.sim hE hlt hk
end
open Go.RowKit in
theorem sT {P:Program} {X:aS} (hm:P.follows .mixedOrders=true) (hsz:P.funcs.size≤yid0) {w:World} (hX:b6 P w (fun B=>B<w.heap.size) (fun _ _=>none) X) {f:FuncId} (hb:mR P f=true) {szOf:Nat→Nat} {avs:List AV} {args:Array Value}
  (hv:VRels (muC w szOf) avs args.toList) (hk:dR P X f avs (gS w szOf) Yes):Calls P f args w fun e w'=>e = .returned (.bool true)∧Below w.heap.size w w':=by
 have hlt:f<yid0:=by
  unfold mR at hb
  split at hb
  ·rename_i fn hf; exact Nat.lt_of_lt_of_le (Array.getElem?_eq_some_iff.1 hf).1 hsz
  ·cases hb
 have hs:=gL hm hsz hX f avs _ _ hk (muC w szOf) (aB1 w) w args.toList (fun _ _ _ h=>by cases h) (zK w szOf) hv
 rw [if_pos hlt] at hs
 have hrun:=pR hb args w
 rcases hs with ⟨g,as',h1,h2⟩ | ⟨v,w',h1,h2⟩
 ·rw [Array.toArray_toList, hrun] at h1
  cases h1
  refine h2.mono fun e w' ⟨v,he,v',μ',own',h',g1,g2,g3,g4⟩=>?_
  subst he
  have g1:v' = .b true:=g1
  subst g1
  cases g2
  exact ⟨rfl,g3.os,g3.tape,g3.output,g3.size0,fun k hk=>(g3.fz k hk).2⟩
 ·rw [Array.toArray_toList,hrun] at h1; cases h1
end Go.GAM
set_option maxRecDepth 20000
namespace Go.Proofs.YtpaphfeihpgamaaDoor
open Go.GAM
theorem mixedOK:prog.follows .mixedOrders=true:=by kernel_rfl
theorem sizeOK:prog.funcs.size≤yid0:=Nat.le_of_ble_eq_true (by kernel_rfl)
def aCO:List (FuncId × xJ):=[]
theorem aCP:∀ r∈aCO,aEW prog r:=fun r hr=>by cases hr
theorem oM:jI prog (aCN aCO):=vU aCP
end Go.Proofs.YtpaphfeihpgamaaDoor
namespace Go.GAM
open Go.RowKit Go.ChangeShapes
section
variable {H:Type} {enc:TypeId × Value→H} {P:Program} {w:World} {szOf:Nat→Nat}
end
end Go.GAM
namespace Go.GAM
open Go.RowKit Go.ChangeShapes
theorem Upd.own {h h1 h2:aA} {id:Nat} (a:Upd (fun _=>False) h h1) (b:Upd (· = id) h1 h2) (hid:h.length≤id):Upd (fun _=>False) h h2:=a.trans b fun i hi e=>by omega
theorem Upd.ownP {M:Nat→Prop} {h h1 h2:aA} (a:Upd (fun _=>False) h h1) (b:Upd M h1 h2) (hM:∀ i,M i→h.length≤i):Upd (fun _=>False) h h2:=a.trans b fun i hi e=>by have:=hM i e; omega
theorem Upd.then {h h1 h2:aA} (a:Upd (fun _=>False) h h1) (b:Upd (fun _=>False) h1 h2):Upd (fun _=>False) h h2:=a.trans b fun _ _ h=>h
theorem aDW {zeros cs:List AV} {parts:List (Nat × Nat × AV)} {K:AV→Prop} (hf:e6 zeros parts=some cs) (hk:K (.ag cs)):iD zeros parts K:=by
 unfold iD; rw [hf]; exact hk
def RdI (sz:Nat) (h:aA) (v:AV) (cs:List AV) (len:Nat):Prop:=
 (v = .sl none 0 none∧len=0∧cs=[])∨(len=0∧cs=[]∧∃ a c,v = .sl (some a) 0 c)∨∃ id ver off cap b,v = .sl (some ⟨id,ver,off⟩) len cap∧h[id]? = some b∧b.floor≤ver∧ver≤b.cells.length∧off+len * sz≤ver∧(b.cells.drop off).take (len * sz)=cs
theorem Rd.i {sz:Nat} {h:aA} {v:AV} {cs:List AV} {len:Nat} (R:Rd sz h v cs len):RdI sz h v cs len:=by
 rcases R with h1 | ⟨id,ver,off,cap,b,h1,h2,h3,h4⟩
 ·exact .inl h1
 ·exact .inr (.inr ⟨id,ver,off,cap,b,h1,h2,h4⟩)
theorem RdI.ext {sz:Nat} {h h':aA} {v:AV} {cs:List AV} {len:Nat} (R:RdI sz h v cs len) (U:Upd (fun _=>False) h h'):RdI sz h' v cs len:=by
 rcases R with h1 | h1 | ⟨id,ver,off,cap,b,rfl,h2,h3⟩
 ·exact .inl h1
 ·exact .inr (.inl h1)
 ·exact .inr (.inr ⟨id,ver,off,cap,b,rfl,(U.2 id (aI h2) fun h=>h).trans h2,h3⟩)
theorem RdI.len {sz:Nat} {h:aA} {v:AV} {cs:List AV} {len:Nat} (R:RdI sz h v cs len) {K:Int→Prop} (hk:K len):bX v K:=by
 rcases R with ⟨rfl,rfl,rfl⟩ | ⟨rfl,_,a,c,rfl⟩ | ⟨id,ver,off,cap,b,rfl,h2⟩ <;> exact hk
def aBL (sz:Nat) (h:aA) (p:AV) (cs:List AV):Prop:=∃ id ver off,p = .p (some ⟨id,ver,off⟩)∧∃ b:ABlk,h[id]? = some b∧b.floor≤ver∧ver≤b.cells.length∧off+sz≤ver∧(b.cells.drop off).take sz=cs
theorem RdI.at {sz:Nat} {h:aA} {v:AV} {cs:List AV} {len:Nat} (R:RdI sz h v cs len) {i:Nat} (h1:i<len):∃ p,aBL sz h p ((cs.drop (i * sz)).take sz)∧∀ (k:IntKind) (h':aA) (K:AV→Prop),Upd (fun _=>False) h h'→K p→aX sz v (.i k (i:Int)) h' K:=by
 rcases R with ⟨rfl,rfl,rfl⟩ | ⟨rfl,_⟩ | ⟨id,ver,off,cap,b,rfl,h2,h4,h5,h6,rfl⟩
 ·omega
 ·omega
 ·have e1 : (i + 1) * sz ≤ len * sz := Nat.mul_le_mul_right _ (by omega)
  rw [Nat.add_mul] at e1
  refine ⟨.p (some ⟨id,ver,off+i * sz⟩),⟨id,ver,off+i * sz,rfl,b,h2,h4,h5,by omega, ?_⟩,fun k h' K U hk=>?_⟩
  ·rw [List.drop_take,List.drop_drop,List.take_take,Nat.min_eq_left (by omega)]
  ·refine ⟨by omega, by omega, ⟨b, (U.2 id (aI h2) fun h => h).trans h2, h4, by omega⟩, ?_⟩
   simpa using hk
theorem aBL.loadN {sz:Nat} {h:aA} {p:AV} {cs:List AV} (A:aBL sz h p cs) {K:AV→Prop} (hk:K (.ag cs)):cP sz p h K:=by
 obtain ⟨id,ver,off,rfl,b,h1,h2,h3,h4,rfl⟩:=A
 exact ⟨b,h1,⟨h2,h3,h4⟩,hk⟩
theorem aBL.load1 {h:aA} {p:AV} {c:AV} (A:aBL 1 h p [c]) {K:AV→Prop} (hk:K c):aB p h K:=by
 obtain ⟨id,ver,off,rfl,b,h1,h2,h3,h4,h5⟩:=A
 refine ⟨b,h1,⟨h2,h3,h4⟩, ?_⟩
 have:b.cells[off]? = some c:=by
  have:((b.cells.drop off).take 1)[0]? = some c:=by rw [h5] <;> rfl
  rw [List.getElem?_take_of_lt (by omega),List.getElem?_drop] at this
  simpa using this
 show K (b.cells.getD off .u)
 rw [getD_some this]; exact hk
theorem RdI.news {sz:Nat} {h:aA} {v:AV} {cs:List AV} {len:Nat} (R:RdI sz h v cs len) {K:List AV→Nat→Prop} (hk:K cs len):eF sz v h K:=by
 rcases R with ⟨rfl,rfl,rfl⟩ | ⟨rfl,rfl,a,c,rfl⟩ | ⟨id,ver,off,cap,b,rfl,h2,h3,h4,h5,h6⟩
 ·exact hk
 ·exact .inl ⟨rfl,hk⟩
 ·refine .inr ⟨b, h2, ⟨h3, h4, h5⟩, ?_⟩
  rw [h6]; exact hk
section
variable {H:Type} {enc:TypeId × Value→H} {P:Program} {w:World} {t:TypeId} {cs:List Value}
def InW (enc:TypeId × Value→H) (P:Program) (w:World) (t:TypeId) (cs:List Value):Prop:=
 ∃ fuel d p,DataW.trod enc P w 0 (fun _=>true) true fuel t cs=some (d,p)∧∀ m∈d.weights P t,m≤reachBytes
theorem eW {m:Nat}:∀ (ts:List TypeId) (ds:List (DataW H)) (i:Nat) (t:TypeId) (d:DataW H),ts[i]? = some t→ds[i]? = some d→m∈d.weights P t→m∈DataW.weightsEach P ts ds
 | [],_,_,_,_,h,_,_=>by simp at h
 | _ :: _,[],_,_,_,_,h,_=>by simp at h
 | t' :: ts, d' :: ds, 0, t, d, h1, h2, h => by
  simp at h1 h2; subst h1; subst h2
  unfold DataW.weightsEach
  exact List.mem_append_left _ h
 | t' :: ts, d' :: ds, i + 1, t, d, h1, h2, h => by
  unfold DataW.weightsEach
  exact List.mem_append_right _ (eW ts ds i t d (by simpa using h1) (by simpa using h2) h)
theorem InW.int {k:IntKind} (ht:P.underlying t=some (.int k)) (h:InW enc P w t cs):∃ n,cs=[.int k n]∧(Lit.int k n).wf=true:=by
 obtain ⟨fuel,d,p,h1,h2⟩:=h
 obtain ⟨n,e1,_,e3⟩:=DataW.trod_int ht h1
 exact ⟨n,e1,e3⟩
theorem InW.struct {fs:Array Field} (ht:P.underlying t=some (.struct fs)) (h:InW enc P w t cs):cs.length=P.cellsOf t∧∀ (i:Nat) (f:Field),fs[i]? = some f→InW enc P w f.type ((cs.drop f.offset).take (P.cellsOf f.type)):=by
 obtain ⟨fuel,d,p,h1,h2⟩:=h
 obtain ⟨xs,n,_,hx,hlen,hl,hf⟩:=DataW.trod_struct ht h1
 refine ⟨hlen,fun i f hi=>?_⟩
 have hi':i<fs.size:=(Array.getElem?_eq_some_iff.1 hi).1
 have hxi:xs[i]? = some (xs[i]'(by omega)):=List.getElem?_eq_getElem _
 generalize xs[i]'(by omega)=y at hxi
 obtain ⟨d',p'⟩:=y
 refine ⟨n,d',p',(hf i f hi).trans hxi,fun m hm=>h2 m ?_⟩
 have hd:d = .agg (xs.map (·.1)):=congrArg Prod.fst hx
 subst hd
 unfold DataW.weights
 rw [ht]
 refine eW _ _ i f.type d' ?_ ?_ hm
 ·rw [List.getElem?_map,Array.getElem?_toList,hi] <;> rfl
 ·rw [List.getElem?_map,hxi] <;> rfl
theorem nK:∀ {ts:List TypeId} {vs:List Value} {ds:List (DataW H)} {ps:List MemPlace},DataW.TrodAll enc P w 0 (fun _=>true) true ts vs ds ps→∀ (i:Nat) (t:TypeId) (v:Value),ts[i]? = some t→vs[i]? = some v→∃ d p,ds[i]? = some d∧DataW.Trod enc P w 0 (fun _=>true) true t v d p
 | [],_,_,_,_,i,t,v,h,_=>by simp at h
 | _ :: _,[],_,_,_,i,t,v,_,h=>by simp at h
 | _ :: _,_ :: _,[],_,h,_,_,_,_,_=>by simp [DataW.TrodAll] at h
 | t' :: ts, v' :: vs, d' :: ds, ps, h, 0, t, v, h1, h2 => by
  simp at h1 h2; subst h1; subst h2
  obtain ⟨p,q,g1,_⟩:=h
  exact ⟨d',p,rfl,g1⟩
 | t' :: ts, v' :: vs, d' :: ds, ps, h, i + 1, t, v, h1, h2 => by
  obtain ⟨p,q,_,g2,_⟩:=h
  exact nK g2 i t v (by simpa using h1) (by simpa using h2)
theorem sized_reads {f:Func} {vars:List String} {ap:Bool} {args:Array Value} {ds gs:List (DataW H)} {before:List MemPlace} {vts:List TypeId} (hW:DataW.Whole enc P f.params.toList vars ap w args.toList ds gs before)
  (hw:(DataW.weightsEach P (f.params.toList++vts) (ds++gs)).all (· ≤ reachBytes)=true) (i:Nat) (t:TypeId) (v:Value) (h1:f.params[i]? = some t) (h2:args[i]? = some v):InW enc P w t v.cells.toList:=by
 obtain ⟨p,q,hA,_⟩:=hW
 have h1':f.params.toList[i]? = some t:=by rw [Array.getElem?_toList]; exact h1
 obtain ⟨d,p',g1,fuel,g2⟩:=nK hA i t v h1' (by rw [Array.getElem?_toList]; exact h2)
 refine ⟨fuel,d,p',g2,fun m hm=>?_⟩
 have:=List.all_eq_true.1 hw m (eW _ _ i t d ?_ ?_ hm)
 ·simpa using this
 ·rw [List.getElem?_append_left (aI h1')]; exact h1'
 ·rw [List.getElem?_append_left (aI g1)]; exact g1
end
end Go.GAM
namespace Go.GAM
theorem bI {a:AA} {K:AV→Prop}:aY (.p (some a)) K=K (.p (some a)):=rfl
theorem bH {id ver off o:Nat} {K:AV→Prop}:aC o (.p (some ⟨id,ver,off⟩)) K=K (.p (some ⟨id,ver,off+o⟩)):=rfl
theorem gQ {n:Int} {K:Int→Prop}:asI .i64 (.i .i64 n) K=K n:=rfl
theorem d6 {a:AV} {l:List AV} {K:AV→Prop}:aN 0 (.tu (a :: l)) K=K a:=propext ⟨fun h=>h.2,fun h=>⟨by simp,h⟩⟩
theorem d7 {a b:AV} {l:List AV} {K:AV→Prop}:aN 1 (.tu (a :: b :: l)) K=K b:=propext ⟨fun h=>h.2,fun h=>⟨by simp,h⟩⟩
theorem aD4 {a b c:AV} {l:List AV} {K:AV→Prop}:aN 2 (.tu (a :: b :: c :: l)) K=K c:=propext ⟨fun h=>h.2,fun h=>⟨by simp,h⟩⟩
theorem mB {v:AV} {A:Prop}:(v=v∧A)=A:=by simp
theorem aFI {h:aA} {id n o:Nat} {cs:List AV} {v:AV} {K:AV→Prop} (R:bC h id cs) (hn:n=cs.length) (hc:cs[o]? = some v):aB (.p (some ⟨id,n,o⟩)) h K=K v:=by
 refine propext ⟨fun hk=>?_,fun hk=>aE R hn hc hk⟩
 obtain ⟨b,h1,_,h2⟩:=hk
 obtain ⟨b',g1,g2,_⟩:=R
 have h1:h[id]? = some b:=h1
 rw [g1] at h1
 cases h1
 have h2:K (b.cells.getD o .u):=h2
 rw [g2,getD_some hc] at h2
 exact h2
def ptr (v:AV) (sz i o:Nat):AV:=match v with
 | .sl (some a) _ _=>.p (some ⟨a.id,a.ver,a.off+i * sz+o⟩)
 | _=>.u
theorem aEY {sz:Nat} {h:aA} {v:AV} {cs:List AV} {len:Nat} (R:RdI sz h v cs len) {k:IntKind} {n:Int} (h0:0≤n) (h1:n<len) {K:AV→Prop}:aX sz v (.i k n) h K=K (ptr v sz n.toNat 0):=by
 rcases R with ⟨rfl,rfl,rfl⟩ | ⟨rfl,_⟩ | ⟨id,ver,off,cap,b,rfl,h2,h4,h5,h6,h7⟩
 ·omega
 ·omega
 ·exact propext ⟨fun hk=>hk.2.2.2,fun hk=>⟨h0,h1,⟨b,h2,h4,by omega⟩,hk⟩⟩
theorem aFG {v:AV} {sz i o:Nat} {h:aA} {cs:List AV} {len:Nat} {c:AV} (R:RdI sz h v cs len) (hi:i<len) (ho:o<sz) (hc:cs[i * sz+o]? = some c) {K:AV→Prop}:aB (ptr v sz i o) h K=K c:=by
 rcases R with ⟨rfl,rfl,rfl⟩ | ⟨rfl,_⟩ | ⟨id,ver,off,cap,b,rfl,h2,h4,h5,h6,h7⟩
 ·omega
 ·omega
 ·have e1 : (i + 1) * sz ≤ len * sz := Nat.mul_le_mul_right _ (by omega)
  rw [Nat.add_mul] at e1
  have hcell:b.cells.getD (off+i * sz+o) .u=c:=by
   rw [← h7,List.getElem?_take_of_lt (by omega),List.getElem?_drop] at hc
   exact getD_some (by rw [← hc]; congr 1; omega)
  refine propext ⟨fun hk=>?_,fun hk=>⟨b,h2,⟨h4,h5,by simp only; omega⟩,by simp only; rw [hcell]; exact hk⟩⟩
  obtain ⟨b',g1,_,g2⟩:=hk
  have g1:h[id]? = some b':=g1
  rw [h2] at g1
  cases g1
  have g2:K (b.cells.getD (off+i * sz+o) .u):=g2
  rw [hcell] at g2
  exact g2
theorem RdI.upd {sz:Nat} {M:Nat→Prop} {h h':aA} {v:AV} {cs:List AV} {len:Nat} (R:RdI sz h v cs len) (U:Upd M h h') (hM:∀ id,aQ v id→¬ M id):RdI sz h' v cs len:=by
 rcases R with h1 | h1 | ⟨id,ver,off,cap,b,rfl,h2,h3⟩
 ·exact .inl h1
 ·exact .inr (.inl h1)
 ·exact .inr (.inr ⟨id,ver,off,cap,b,rfl,(U.2 id (aI h2) (hM id rfl)).trans h2,h3⟩)
theorem Stk.app1 {ty : Option TypeId} {bytes : Nat} {h : aA} {v x y : AV} {l : List AV} (S : Stk h v l) (R1 : Rd 1 h y [x] 1) (hx : x.cellOK = true) (hlen : (l.length + 1) * bytes ≤ 140737488355328) (hl2 : l.length + 1 ≤ 9223372036854775807) {K : AV → aA → Prop}
  (hk:∀ v' h',Upd (aQ v) h h'→Stk h' v' (l++[x])→(∀ i,aQ v' i→aQ v i∨h.length≤i)→K v' h'):bU ty 1 bytes v y h K:=by
 refine ⟨Nat.one_pos,R1.news ?_⟩
 rcases S with ⟨rfl,rfl⟩ | ⟨id,b,rfl,g1,g2,g3,g4,g5,g6,g7⟩
 ·refine ⟨by simpa using hlen, by omega, ?_⟩
  rw [if_neg (by decide)]
  exact hk _ _ ((Upd.app _ _).mono fun _ _ h=>h.elim) (.inr ⟨h.length,aZ [x] 1 false ty,by simp [aZ],by simp,rfl,by simp [aZ],by simp [aZ],by simp [aZ],rfl,rfl⟩) fun i hi=>.inr (by have e:h.length=i:=hi; omega)
 ·have hid := aI g1
  refine ⟨hlen,by omega,b,g1,g2,⟨g5,Nat.le_refl _,by simp only; omega⟩, ?_⟩
  by_cases hfull:l.length=b.cells.length
  ·cases hex : b.ex with
   | true =>
    refine .inr (.inl ⟨Nat.one_pos,.inr ⟨rfl,rfl,rfl,by simp only; omega⟩, ?_⟩)
    refine hk _ _ ((Upd.app _ _).mono fun _ _ h=>h.elim) (.inr ⟨h.length,aZ (l++[x]) 1 false ty, ?_, ?_,rfl,by simp [aZ],by simp only [aZ,List.length_append]; exact List.take_of_length_le (by simp),by simp [aZ],rfl,rfl⟩) fun i hi=>.inr (by have e:h.length=i:=hi; omega)
    ·simp [aZ,g4,g3]
    ·simp [g4]
   | false =>
    refine .inr (.inr (.inr (.inl ⟨Nat.one_pos,g6,rfl,rfl,by omega,rfl,rfl,g7,by simp [hx], ?_⟩)))
    have hcl:b.cells=l:=by rw [hfull,List.take_length] at g4; exact g4
    refine hk _ _ ((Upd.set _ _ _).mono fun i _ h=>h.symm) (.inr ⟨id,{ b with cells:=b.cells++[x],ty:=eV b.ty ty }, ?_,by simp [hid,hex],g2,by simp; omega, ?_,by simp; omega,g6,g7⟩) fun i hi=>.inl hi
    ·simp
    ·simp only [hcl]
     rw [List.take_of_length_le (by simp)]
  ·refine .inr (.inr (.inl ⟨Nat.one_pos, g6, rfl, by simp only; omega, .inl rfl, by simp [hx], ?_⟩))
   refine hk _ _ ((Upd.set _ _ _).mono fun i _ h=>h.symm) (.inr ⟨id,{ b with cells:=wr b.cells (0+l.length * 1) [x],floor:=b.cells.length }, ?_,show (h.set id _)[id]? = some _ from List.getElem?_set_self hid,g2, ?_, ?_, ?_,g6,g7⟩) fun i hi=>.inl hi
   ·simp [wr]
   ·simp [wr]; omega
   ·simp only [wr, Nat.zero_add, Nat.mul_one, List.length_append, List.length_cons, List.length_nil]
    apply List.ext_getElem?
    intro i
    by_cases h1:i<l.length
    ·rw [List.getElem?_take_of_lt (by omega), List.getElem?_set_ne (by omega), List.getElem?_append_left h1]
     conv=>rhs; rw [← g4]
     rw [List.getElem?_take_of_lt h1]
    ·by_cases h2 : i = l.length
     ·subst h2
      rw [List.getElem?_take_of_lt (by omega),List.getElem?_set_self (by omega),List.getElem?_append_right (by omega)]
      simp
     ·rw [List.getElem?_eq_none (by simp; omega),List.getElem?_eq_none (by simp; omega)]
   ·simp [wr]
end Go.GAM
namespace Go.Proofs.YtpaphfeihpgamaaDoor
open Go.GAM
open Go.Infl (bS cZ b8 Out Lim)
structure DR where
 past:AV
 total:Nat
 fresh:AV
 input:Nat
 last:Bool
 done:Bool
 bad:Bool
 skip:Bool
 rest:List UInt8
 acc:Nat
 have':Nat
 need:Nat
 code:AV
 next:AV
abbrev iN (n:Nat):AV:=.i .i64 (n:Int)
def DR.cells (L:Lim) (r:DR):List AV:=[iN L.output,iN L.ratio,r.past,iN r.total,r.fresh,iN r.input,.b r.last,.b r.done,.b r.bad,.b r.skip,.s r.rest,iN r.acc,iN r.have',iN r.need,r.code,r.next]
abbrev dp (d:Nat):AV:=.p (some ⟨d,16,0⟩)
abbrev cp (c:Nat):AV:=.p (some ⟨c,52,0⟩)
abbrev Fn (f:FuncId) (cap:List AV):AV:=.fn (.func f) [] cap
def bB (l:List Nat):List AV:=l.map fun n:Nat=>.i .i64 (n:Int)
def Mut (d:Nat) (r:DR) (i:Nat):Prop:=i=d∨aQ r.past i∨aQ r.fresh i
structure Dec (L:Lim) (h:aA) (F:Nat→Prop) (d:Nat) (r:DR) (out:List UInt8) (told:Nat):Prop where
 recd:bC h d (r.cells L)
 past:Stk h r.past (out.map byteAV)
 fresh:Stk h r.fresh ((out.drop told).map byteAV)
 total:r.total=out.length
 told:told≤out.length
 d1:¬ aQ r.past d
 d2:¬ aQ r.fresh d
 d3:∀ i,aQ r.past i→¬ aQ r.fresh i
 lim:L.output≤65536∧L.ratio≤1100
 inp:r.input≤1099511627776
 len:out.length≤65536
 f:∀ i,Mut d r i→F i
theorem Dec.lt {L:Lim} {h:aA} {F:Nat→Prop} {d:Nat} {r:DR} {out:List UInt8} {told:Nat} (D:Dec L h F d r out told) {i:Nat} (hi:Mut d r i):i<h.length:=by
 rcases hi with rfl | hi | hi
 ·exact D.recd.lt
 ·exact D.past.rd.lt hi
 ·exact D.fresh.rd.lt hi
theorem Dec.upd {L:Lim} {h h':aA} {F:Nat→Prop} {d:Nat} {r:DR} {out:List UInt8} {told:Nat} (D:Dec L h F d r out told) {M:Nat→Prop} (U:Upd M h h') (hM:∀ i,Mut d r i→¬ M i):Dec L h' F d r out told:=
 { D with recd:=D.recd.upd U (hM d (.inl rfl)),past:=D.past.upd U fun i hi=>hM i (.inr (.inl hi)),fresh:=D.fresh.upd U fun i hi=>hM i (.inr (.inr hi)) }
theorem Dec.ext {L:Lim} {h h':aA} {F:Nat→Prop} {d:Nat} {r:DR} {out:List UInt8} {told:Nat} (D:Dec L h F d r out told) (U:Upd (fun _=>False) h h'):Dec L h' F d r out told:=D.upd U fun _ _ h=>h
theorem Dec.with {L:Lim} {h h':aA} {F:Nat→Prop} {d:Nat} {r r':DR} {out:List UInt8} {told:Nat} (D:Dec L h F d r out told) (U:Upd (· = d) h h') (R:bC h' d (r'.cells L)) (h1:r'.past=r.past) (h2:r'.fresh=r.fresh) (h3:r'.total=r.total) (h4:r'.input=r.input):Dec L h' F d r' out told:=
 { recd:=R,past:=by rw [h1]; exact D.past.upd U fun i hi e=>D.d1 (e ▸ hi),fresh:=by rw [h2]; exact D.fresh.upd U fun i hi e=>D.d2 (e ▸ hi),total:=by rw [h3]; exact D.total,told:=D.told,d1:=by rw [h1]; exact D.d1,d2:=by rw [h2]; exact D.d2,d3:=by rw [h1,h2]; exact D.d3,lim:=D.lim,inp:=by rw [h4]; exact D.inp,len:=D.len,f:=fun i hi=>D.f i (by unfold Mut at hi ⊢; rw [h1,h2] at hi; exact hi) }
def Bx (h:aA) (G:Nat→Prop) (b v:AV):Prop:=∃ id,b = .p (some ⟨id,1,0⟩)∧bC h id [v]∧G id
theorem Bx.upd {h h':aA} {G G' N:Nat→Prop} {b v:AV} (B:Bx h G b v) (U:Upd N h h') (hN:∀ i,G i→¬ N i) (hG:∀ i,i<h.length→G i→G' i):Bx h' G' b v:=by
 obtain ⟨id,e,R,g⟩:=B
 exact ⟨id,e,R.upd U (hN id g),hG id R.lt g⟩
theorem Bx.ld {h:aA} {G:Nat→Prop} {b v:AV} {K:AV→Prop} (B:Bx h G b v):aB b h K=K v:=by
 obtain ⟨id,rfl,R,g⟩:=B
 exact aFI R rfl rfl
theorem Bx.new {h h1:aA} {G:Nat→Prop} {v:AV} (R:bC h1 h.length [v]) (hG:G h.length):Bx h1 G (.p (some ⟨h.length,1,0⟩)) v:=⟨_,rfl,R,hG⟩
def cT (l:List Nat) (n:Nat):Nat:=((List.range n).map (Huff.cnt l)).sum
def iY (n:Nat):List Nat→Nat→List Nat
 | [],_=>[]
 | x :: r,i=>if x=n then i :: iY n r (i+1) else iY n r (i+1)
def vI (l:List Nat) (n:Nat):List Nat:=iY n l 0
def eG (l:List Nat) (n:Nat):List Nat:=(List.range n).flatMap fun k=>vI l (k+1)
def cS (l:List Nat) (sym:AV) (n x:Nat):List AV:=bB ((List.range 16).map (Huff.cnt l))++bB ((List.range 16).map (Huff.fst l))++[sym]++bB ((List.range 16).map (cT l))++[iN (Huff.longest l),iN x,iN n]
structure bZ (h:aA) (G:Nat→Prop) (id:Nat) (l:List Nat) (sym:AV) (n x:Nat):Prop where
 recd:bC h id (cS l sym n x)
 syms:RdI 1 h sym (bB (eG l 15)) (eG l 15).length
 g:G id
 gs:∀ i,aQ sym i→G i∧i≠id∧i<h.length
 ok:Huff.checkP l=0
 len:l.length≤320
 le:∀ x∈l,x≤15
theorem bZ.upd {h h':aA} {G G' N:Nat→Prop} {id n x:Nat} {l:List Nat} {sym:AV} (A:bZ h G id l sym n x) (U:Upd N h h') (hN:∀ i,G i→¬ N i) (hG:∀ i,i<h.length→G i→G' i):bZ h' G' id l sym n x:=
 { A with recd:=A.recd.upd U (hN id A.g),syms:=A.syms.upd U fun i hi=>hN i (A.gs i hi).1,g:=hG id A.recd.lt A.g,gs:=fun i hi=>⟨hG i (A.gs i hi).2.2 (A.gs i hi).1,(A.gs i hi).2.1,Nat.lt_of_lt_of_le (A.gs i hi).2.2 U.1⟩ }
def dG (h:aA) (G:Nat→Prop) (v:AV) (l:List Nat):Prop:=∃ id b,v = .sl (some ⟨id,l.length,0⟩) l.length none∧h[id]? = some b∧b.cells=bB l∧b.floor≤l.length∧b.ro=false∧b.sz=1∧G id
theorem dG.upd {h h':aA} {G G' N:Nat→Prop} {v:AV} {l:List Nat} (A:dG h G v l) (U:Upd N h h') (hN:∀ i,G i→¬ N i) (hG:∀ i,i<h.length→G i→G' i):dG h' G' v l:=by
 obtain ⟨id,b,e,h1,h2,h3,h4,h5,g⟩:=A
 exact ⟨id,b,e,(U.2 id (aI h1) (hN id g)).trans h1,h2,h3,h4,h5,hG id (aI h1) g⟩
def Exa (h:aA) (v:AV) (l:List Nat):Prop:=
 (v = .sl none 0 none∧l=[])∨∃ id b,v = .sl (some ⟨id,l.length,0⟩) l.length none∧h[id]? = some b∧b.sz=1∧b.cells=bB l∧b.floor≤l.length∧b.ro=false∧b.gl=false
theorem Exa.upd {M:Nat→Prop} {h h':aA} {v:AV} {l:List Nat} (S:Exa h v l) (U:Upd M h h') (hM:∀ i,aQ v i→¬ M i):Exa h' v l:=by
 rcases S with h1 | ⟨id,b,rfl,h1,h2⟩
 ·exact .inl h1
 ·exact .inr ⟨id,b,rfl,(U.2 id (aI h1) (hM id rfl)).trans h1,h2⟩
theorem Exa.lt {h:aA} {v:AV} {l:List Nat} (S:Exa h v l) {i:Nat} (hi:aQ v i):i<h.length:=by
 rcases S with ⟨rfl,_⟩ | ⟨id,b,rfl,h1,h2⟩
 ·exact hi.elim
 ·have e : id = i := hi
  exact e ▸ aI h1
def Lst (h:aA) (G:Nat→Prop) (v:AV) (l:List Nat):Prop:=Exa h v l∧∀ i,aQ v i→G i
theorem Lst.upd {h h':aA} {G G' N:Nat→Prop} {v:AV} {l:List Nat} (A:Lst h G v l) (U:Upd N h h') (hN:∀ i,G i→¬ N i) (hG:∀ i,i<h.length→G i→G' i):Lst h' G' v l:=
 ⟨A.1.upd U fun i hi=>hN i (A.2 i hi),fun i hi=>hG i (A.1.lt hi) (A.2 i hi)⟩
def Two (h:aA) (G:Nat→Prop) (ia:Nat) (syma:AV) (a:List Nat) (ib:Nat) (symb:AV) (b:List Nat):Prop:=
 bZ h (fun i=>G i∧i≠ib) ia a syma 0 0∧bZ h (fun i=>G i∧i≠ia) ib b symb 0 0
theorem Two.upd {h h':aA} {G G' N:Nat→Prop} {ia ib:Nat} {syma symb:AV} {a b:List Nat} (A:Two h G ia syma a ib symb b) (U:Upd N h h') (hN:∀ i,G i→¬ N i) (hG:∀ i,i<h.length→G i→G' i):Two h' G' ia syma a ib symb b:=
 ⟨A.1.upd U (fun i hi=>hN i hi.1) fun i hl hi=>⟨hG i hl hi.1,hi.2⟩,A.2.upd U (fun i hi=>hN i hi.1) fun i hl hi=>⟨hG i hl hi.1,hi.2⟩⟩
def Clo (h:aA) (G:Nat→Prop) (d:Nat) (ic:Nat) (sym:AV):b8→AV→Prop
 | .block,v=>∃ bd,v=Fn Y57.id [bd]∧Bx h G bd (dp d)
 | .stored1,v=>∃ bd,v=Fn Y62.id [bd]∧Bx h G bd (dp d)
 | .stored2 n,v=>∃ bn bd,v=Fn Y55.id [bn,bd]∧Bx h G bn (iN n)∧Bx h G bd (dp d)
 | .raw n,v=>∃ bd bn,v=Fn Y58.id [bd,bn]∧Bx h G bd (dp d)∧Bx h G bn (iN n)
 | .lit a b,v=>∃ bd ba bb ib symb,v=Fn Y61.id [bd,ba,bb]∧Bx h G bd (dp d)∧Bx h G ba (cp ic)∧Bx h G bb (cp ib)∧bZ h G ib b symb 0 0∧¬ aQ sym ib
 | .more a b n,v=>∃ bd bb bn ba ia syma ib symb,v=Fn Y51.id [bd,bb,bn,ba]∧Bx h G bd (dp d)∧Bx h G bb (cp ib)∧Bx h G bn (iN n)∧Bx h G ba (cp ia)∧Two h G ia syma a ib symb b
 | .far a b n,v=>∃ bd bn bm ba bb n0 m ia syma,v=Fn Y64.id [bd,bn,bm,ba,bb]∧n=n0+m∧Bx h G bd (dp d)∧Bx h G bn (iN n0)∧Bx h G bm (iN m)∧Bx h G ba (cp ia)∧Bx h G bb (cp ic)∧bZ h G ia a syma 0 0∧¬ aQ sym ia
 | .farMore a b n f,v=>∃ bd bn bm bf ba bb n0 m ia syma ib symb,v=Fn Y49.id [bd,bn,bm,bf,ba,bb]∧n=n0+m∧Bx h G bd (dp d)∧Bx h G bn (iN n0)∧Bx h G bm (iN m)∧Bx h G bf (iN f)∧Bx h G ba (cp ia)∧Bx h G bb (cp ib)∧Two h G ia syma a ib symb b
 | .dyn1,v=>∃ bd,v=Fn Y47.id [bd]∧Bx h G bd (dp d)
 | .dyn2 lits,v=>∃ bd bl,v=Fn Y60.id [bd,bl]∧Bx h G bd (dp d)∧Bx h G bl (iN lits)
 | .dyn3 lits dists,v=>∃ bd bl bs,v=Fn Y54.id [bd,bl,bs]∧Bx h G bd (dp d)∧Bx h G bl (iN lits)∧Bx h G bs (iN dists)
 | .third l i n lits dists,v=>∃ bl bi bd bn bt bs lv,v=Fn Y50.id [bl,bi,bd,bn,bt,bs]∧dG h G lv l∧Bx h (fun i=>G i∧¬ aQ lv i) bl lv∧Bx h (fun i=>G i∧¬ aQ lv i) bi (iN i)∧Bx h (fun i=>G i∧¬ aQ lv i) bd (dp d)∧Bx h (fun i=>G i∧¬ aQ lv i) bn (iN n)∧Bx h (fun i=>G i∧¬ aQ lv i) bt (iN lits)∧Bx h (fun i=>G i∧¬ aQ lv i) bs (iN dists)
 | .lens c l lits dists,v=>∃ bd bc bl bt bs br lv,v=Fn Y24.id [bd,bc,bl,bt,bs,br]∧Lst h G lv l∧(∀ i,aQ lv i→¬ aQ sym i)∧Bx h (fun i=>G i∧¬ aQ lv i) bd (dp d)∧Bx h (fun i=>G i∧¬ aQ lv i) bc (cp ic)∧Bx h (fun i=>G i∧¬ aQ lv i) bl lv∧Bx h (fun i=>G i∧¬ aQ lv i) bt (iN lits)∧Bx h (fun i=>G i∧¬ aQ lv i) bs (iN dists)∧Bx h (fun i=>G i∧¬ aQ lv i) br (Fn Y39.id [bd,bl,bt,bs,bc])
 | .rep c l lits dists m x,v=>∃ bl bm bt bs bd bc bx ic symc lv,v=Fn Y63.id [bl,bm,bt,bs,bd,bc,bx]∧Lst h (fun i=>G i∧i≠ic∧¬ aQ symc i) lv l∧bZ h G ic c symc 0 0∧Bx h (fun i=>G i∧¬ aQ lv i) bl lv∧Bx h (fun i=>G i∧¬ aQ lv i) bm (iN m)∧Bx h (fun i=>G i∧¬ aQ lv i) bt (iN lits)∧Bx h (fun i=>G i∧¬ aQ lv i) bs (iN dists)∧Bx h (fun i=>G i∧¬ aQ lv i) bd (dp d)∧Bx h (fun i=>G i∧¬ aQ lv i) bc (cp ic)∧Bx h (fun i=>G i∧¬ aQ lv i) bx (iN x)
theorem Clo.upd {h h':aA} {G G' N:Nat→Prop} {d ic:Nat} {sym:AV} {c:b8} {v:AV} (A:Clo h G d ic sym c v) (U:Upd N h h') (hN:∀ i,G i→¬ N i) (hG:∀ i,i<h.length→G i→G' i):Clo h' G' d ic sym c v:=by
 have b:∀ {x y},Bx h G x y→Bx h' G' x y:=fun B=>B.upd U hN hG
 have b2:∀ {x y} {S:Nat→Prop},Bx h (fun i=>G i∧¬ S i) x y→Bx h' (fun i=>G' i∧¬ S i) x y:=fun B=>B.upd U (fun i hi=>hN i hi.1) fun i hl hi=>⟨hG i hl hi.1,hi.2⟩
 have k:∀ {i l s n x},bZ h G i l s n x→bZ h' G' i l s n x:=fun B=>B.upd U hN hG
 have tw:∀ {ia syma a ib symb b},Two h G ia syma a ib symb b→Two h' G' ia syma a ib symb b:=fun B=>B.upd U hN hG
 cases c with
 | block=>obtain ⟨bd,e,h1⟩:=A; exact ⟨bd,e,b h1⟩
 | stored1=>obtain ⟨bd,e,h1⟩:=A; exact ⟨bd,e,b h1⟩
 | stored2 n=>obtain ⟨bn,bd,e,h1,h2⟩:=A; exact ⟨bn,bd,e,b h1,b h2⟩
 | raw n=>obtain ⟨bn,bd,e,h1,h2⟩:=A; exact ⟨bn,bd,e,b h1,b h2⟩
 | lit x y=>obtain ⟨bd,ba,bb,ib,symb,e,h1,h2,h3,h4,h5⟩:=A; exact ⟨bd,ba,bb,ib,symb,e,b h1,b h2,b h3,k h4,h5⟩
 | more x y n=>obtain ⟨bd,bb,bn,ba,ia,syma,ib,symb,e,h1,h2,h3,h4,h5⟩:=A; exact ⟨bd,bb,bn,ba,ia,syma,ib,symb,e,b h1,b h2,b h3,b h4,tw h5⟩
 | far x y n=>obtain ⟨bd,bn,bm,ba,bb,n0,m,ia,syma,e,hn,h1,h2,h3,h4,h5,h6,h7⟩:=A; exact ⟨bd,bn,bm,ba,bb,n0,m,ia,syma,e,hn,b h1,b h2,b h3,b h4,b h5,k h6,h7⟩
 | farMore x y n f=>obtain ⟨bd,bn,bm,bf,ba,bb,n0,m,ia,syma,ib,symb,e,hn,h1,h2,h3,h4,h5,h6,h7⟩:=A; exact ⟨bd,bn,bm,bf,ba,bb,n0,m,ia,syma,ib,symb,e,hn,b h1,b h2,b h3,b h4,b h5,b h6,tw h7⟩
 | dyn1=>obtain ⟨bd,e,h1⟩:=A; exact ⟨bd,e,b h1⟩
 | dyn2 lits=>obtain ⟨bd,bl,e,h1,h2⟩:=A; exact ⟨bd,bl,e,b h1,b h2⟩
 | dyn3 lits dists=>obtain ⟨bd,bl,bs,e,h1,h2,h3⟩:=A; exact ⟨bd,bl,bs,e,b h1,b h2,b h3⟩
 | third l i n lits dists=>obtain ⟨bl,bi,bd,bn,bt,bs,lv,e,h0,h1,h2,h3,h4,h5,h6⟩:=A; exact ⟨bl,bi,bd,bn,bt,bs,lv,e,h0.upd U hN hG,b2 h1,b2 h2,b2 h3,b2 h4,b2 h5,b2 h6⟩
 | lens x l lits dists=>obtain ⟨bd,bc,bl,bt,bs,br,lv,e,h0,h00,h1,h2,h3,h4,h5,h6⟩:=A; exact ⟨bd,bc,bl,bt,bs,br,lv,e,h0.upd U hN hG,h00,b2 h1,b2 h2,b2 h3,b2 h4,b2 h5,b2 h6⟩
 | rep x l lits dists m y=>obtain ⟨bl,bm,bt,bs,bd,bc,bx,ic,symc,lv,e,h0,h00,h1,h2,h3,h4,h5,h6,h7⟩:=A; exact ⟨bl,bm,bt,bs,bd,bc,bx,ic,symc,lv,e,h0.upd U (fun i hi=>hN i hi.1) (fun i hl hi=>⟨hG i hl hi.1,hi.2⟩),k h00,b2 h1,b2 h2,b2 h3,b2 h4,b2 h5,b2 h6,b2 h7⟩
def Gd (F:Nat→Prop) (d:Nat) (r:DR) (i:Nat):Prop:=F i∧¬ Mut d r i
def jA:b8→Option (List Nat)
 | .lit a _=>some a
 | .far _ b _=>some b
 | .lens c _ _ _=>some c
 | _=>none
def m6 (h:aA) (F:Nat→Prop) (d:Nat) (r:DR):cZ→b8→Prop
 | .num need have' acc,c=>jA c=none∧r.code = .p none∧r.need=need∧r.have'=have'∧r.acc=acc∧Clo h (Gd F d r) d 0 (.p none) c r.next
 | .sym l n x,c=>jA c=some l∧∃ ic sym,r.code=cp ic∧bZ h (Gd F d r) ic l sym n x∧Clo h (fun i=>Gd F d r i∧i≠ic) d ic sym c r.next
def fit:b8→Nat→Prop
 | .block,v=>v<8
 | .stored1,v=>v<65536
 | .stored2 n,v=>n<65536∧v<65536
 | .raw n,v=>0<n∧n<65536∧v<256
 | .lit a b,v=>v<320
 | .more a b n,v=>n+v≤300
 | .far a b n,v=>n≤300∧v<320
 | .farMore a b n f,v=>n≤300∧0<f∧f+v≤32768
 | .dyn1,v=>v<32
 | .dyn2 lits,v=>lits≤286∧v<32
 | .dyn3 lits dists,v=>lits≤286∧dists≤30∧v<16
 | .third l i n lits dists,v=>lits≤286∧dists≤30∧l.length=19∧i<n∧n≤19∧(∀ x∈l,x<8)∧v<8
 | .lens c l lits dists,v=>c.length≤19∧lits≤286∧dists≤30∧l.length<lits+dists∧(∀ x∈l,x<16)∧v<19
 | .rep c l lits dists m x,v=>c.length≤19∧lits≤286∧dists≤30∧l.length<lits+dists∧(∀ x∈l,x<16)∧x<16∧0<m∧m+v≤138
def short:b8→Prop
 | .more .. | .farMore ..=>True
 | _=>False
def uS:cZ→b8→Prop
 | .num need have' acc,c=>need≤16∧acc<2 ^ have'∧(have'<need∨need=0∧have'=0∧short c)∧∀ v,v<2 ^ need→fit c v
 | .sym l n x,c=>n≤15∧x<2 ^ n∧∀ v,v<l.length→fit c v
def eno:Nat→Int
 | 1=>2
 | 2=>16
 | _=>2
def St (h:aA) (F:Nat→Prop) (d:Nat) (r:DR):Out→Int→Prop
 | .wait k w c,e=>e=0∧r.last=k.last∧r.skip=k.skip∧r.done=false∧m6 h F d r w c∧uS w c
 | .done k,e=>e=0∧r.done=true
 | .err x k,e=>e=eno x∧(x=1∨x=2)∧r.done=false
structure cN (M:Nat→Prop) (L:Lim) (h:aA) (F:Nat→Prop) (d:Nat) (r:DR) (told:Nat) (o:Out) (e:Int) (h':aA) (r':DR):Prop where
 upd:Upd M h h'
 keep:∀ i,i<h.length→Mut d r' i→Mut d r i
 dec:Dec L h' F d r' o.core.out told
 inp:r'.input=r.input
 bad:r'.bad=r.bad
 rest:r'.rest=r.rest
 st:St h' F d r' o e
theorem cN.from {M N:Nat→Prop} {L:Lim} {h h1 h':aA} {F:Nat→Prop} {d:Nat} {r r1 r':DR} {told:Nat} {o:Out} {e:Int} (P:cN M L h1 F d r1 told o e h' r') (U:Upd N h h1) (hN:∀ i,i<h.length→N i→M i) (hk:∀ i,i<h.length→Mut d r1 i→Mut d r i) (e1:r1.input=r.input) (e2:r1.bad=r.bad) (e3:r1.rest=r.rest):cN M L h F d r told o e h' r':=
 ⟨(U.mono hN).trans P.upd fun _ _ h=>h,fun i hi hm=>hk i hi (P.keep i (Nat.lt_of_lt_of_le hi U.1) hm),P.dec,P.inp.trans e1,P.bad.trans e2,P.rest.trans e3,P.st⟩
theorem cN.mono {M N:Nat→Prop} {L:Lim} {h h':aA} {F:Nat→Prop} {d:Nat} {r r':DR} {told:Nat} {o:Out} {e:Int} (P:cN M L h F d r told o e h' r') (hN:∀ i,i<h.length→M i→N i):cN N L h F d r told o e h' r':={ P with upd:=P.upd.mono hN }
end Go.Proofs.YtpaphfeihpgamaaDoor
namespace Go.Proofs.YtpaphfeihpgamaaDoor
open Go.GAM
open Go.Infl (bS cZ b8 Out Lim)
theorem ltr {a b:Nat} (h:Nat.ble (a+1) b=true):a<b:=Nat.le_of_ble_eq_true h
section
variable [XR] {h:aA} {Q:AV→aA→Prop} {L:Lim} {F:Nat→Prop} {d:Nat} {r:DR} {out:List UInt8} {told:Nat}
theorem Dec.gd (D:Dec L h F d r out told) (hF:∀ i,h.length≤i→F i) {i:Nat} (hi:h.length≤i):Gd F d r i:=⟨hF i hi,fun m=>absurd (D.lt m) (by omega)⟩
theorem aAL (D:Dec L h F d r out told) {n:Nat} {f:FuncId} {cap:List AV} (hq:∀ h',h'.length=h.length→Upd (· = d) h h'→Dec L h' F d { r with acc:=0,have':=0,need:=n,code:=.p none,next:=Fn f cap } out told→Q (iN 0) h'):C Y27.id [dp d,iN n,Fn f cap] h Q:=by
 refine Y27.call ?_
 simp only [Y27.t,bI,bH]
 refine aR D.recd rfl (ltr rfl) (hk:=fun h1 l1 U1 R1=>?_)
 refine aR R1 rfl (ltr rfl) (hk:=fun h2 l2 U2 R2=>?_)
 refine aR R2 rfl (ltr rfl) (hk:=fun h3 l3 U3 R3=>?_)
 refine aR R3 rfl (ltr rfl) (hk:=fun h4 l4 U4 R4=>?_)
 refine aR R4 rfl (ltr rfl) (hk:=fun h5 l5 U5 R5=>?_)
 have U:=(((U1.trans U2 fun _ _ h=>h).trans U3 fun _ _ h=>h).trans U4 fun _ _ h=>h).trans U5 fun _ _ h=>h
 exact .inl (hq h5 (by omega) U (D.with U R5 rfl rfl rfl rfl))
theorem dI (D:Dec L h F d r out told) (hd:r.done=false) {n:Nat} {c:b8} {f:FuncId} {cap:List AV} (hc:Clo h (Gd F d r) d 0 (.p none) c (Fn f cap)) (hf:uS (.num n 0 0) c)
  (hq:∀ h' r',cN (· = d) L h F d r told (.wait ⟨out,r.last,r.skip⟩ (.num n 0 0) c) 0 h' r'→Q (iN 0) h') (hco:jA c=none:=by rfl):C Y27.id [dp d,iN n,Fn f cap] h Q:=
 aAL D fun h' hl U D'=>hq h' { r with acc:=0,have':=0,need:=n,code:=.p none,next:=Fn f cap } ⟨U,fun _ _ h=>h,D',rfl,rfl,rfl,rfl,rfl,rfl,hd,⟨hco,rfl,rfl,rfl,rfl,hc.upd U (fun i hi e=>hi.2 (.inl e)) fun _ _ h=>h⟩,hf⟩
theorem oR (D:Dec L h F d r out told) (hd:r.done=false) {l:List Nat} {ic:Nat} {sym:AV} {c:b8} {f:FuncId} {cap:List AV} (hk:bZ h (Gd F d r) ic l sym 0 0) (hc:Clo h (fun i=>Gd F d r i∧i≠ic) d ic sym c (Fn f cap)) (hf:uS (.sym l 0 0) c)
  (hq:∀ h' r',cN (· = d) L h F d r told (.wait ⟨out,r.last,r.skip⟩ (.sym l 0 0) c) 0 h' r'→Q (iN 0) h') (hco:jA c=some l:=by rfl):C Y35.id [dp d,cp ic,Fn f cap] h Q:=by
 refine Y35.call ?_
 simp only [Y35.t,bI,bH]
 refine aR D.recd rfl (ltr rfl) (hk:=fun h1 l1 U1 R1=>?_)
 refine aR R1 rfl (ltr rfl) (hk:=fun h2 l2 U2 R2=>?_)
 have U:=U1.trans U2 fun _ _ h=>h
 exact .inl (hq h2 { r with code:=cp ic,next:=Fn f cap } ⟨U,fun _ _ h=>h,D.with U R2 rfl rfl rfl rfl,rfl,rfl,rfl,rfl,rfl,rfl,hd,⟨hco,ic,sym,rfl,hk.upd U (fun i hi e=>hi.2 (.inl e)) fun _ _ h=>h,hc.upd U (fun i hi e=>hi.1.2 (.inl e)) fun _ _ h=>h⟩,hf⟩)
theorem yU:uS (.num 3 0 0) .block:=⟨by decide,by decide,.inl (by decide),fun v hv=>hv⟩
theorem rX (D:Dec L h F d r out told) (hF:∀ i,h.length≤i→F i) (hd:r.done=false) (hq:∀ e h' r',cN (· = d) L h F d r told (Infl.block ⟨out,r.last,r.skip⟩) e h' r'→Q (.i .i64 e) h'):C Y36.id [dp d] h Q:=by
 refine Y36.call ?_
 simp only [Y36.t]
 refine bT (hk:=fun h1 l1 U1 R1=>?_)
 have D1:=D.ext U1
 have B:Bx h1 (Gd F d r) (.p (some ⟨h.length,1,0⟩)) (dp d):=Bx.new R1 (D.gd hF (Nat.le_refl _))
 refine aE R1 rfl rfl ?_
 simp only [bI,bH]
 refine aE D1.recd rfl rfl (bE ?_)
 refine aP (fun e=>?_) fun e=>?_
 ·refine aE R1 rfl rfl ?_
  simp only [bI,bH]
  refine aR D1.recd rfl (ltr rfl) (hk:=fun h2 l2 U2 R2=>?_)
  refine .inl (hq 0 h2 { r with done:=true } ⟨(U1.mono fun _ _ h=>h.elim).trans U2 fun _ _ h=>h,fun _ _ h=>h, ?_,rfl,rfl,rfl, ?_⟩)
  ·unfold Infl.block
   rw [if_pos e]
   exact D1.with U2 R2 rfl rfl rfl rfl
  ·unfold Infl.block
   rw [if_pos e]
   exact ⟨rfl,rfl⟩
 ·refine aE R1 rfl rfl ?_
  refine dI D1 hd (c:=.block) ⟨_,rfl,B⟩ yU fun h2 r2 P=>?_
  refine aD (.inl (hq 0 h2 r2 ?_))
  unfold Infl.block
  rw [if_neg (by simp [e])]
  exact P.from U1 (fun _ _ h=>h.elim) (fun _ _ h=>h) rfl rfl rfl
theorem aB7 {n:Nat} (h0:n≠0) (h1:n<65536):uS (.num 8 0 0) (.raw n):=⟨by decide,by decide,.inl (by decide),fun v hv=>⟨by omega,h1,hv⟩⟩
theorem aDP {n:Nat} (hn:n<65536) (D:Dec L h F d r out told) (hF:∀ i,h.length≤i→F i) (hd:r.done=false) (hq:∀ e h' r',cN (· = d) L h F d r told (Infl.raw ⟨out,r.last,r.skip⟩ n) e h' r'→Q (.i .i64 e) h'):C Y46.id [dp d,iN n] h Q:=by
 refine Y46.call ?_
 simp only [Y46.t]
 refine bT (hk:=fun h1 l1 U1 R1=>?_)
 refine bT (hk:=fun h2 l2 U2 R2=>?_)
 have U:=U1.then U2
 have D2:=D.ext U
 have R1:=R1.upd U2 fun h=>h
 have B:Bx h2 (Gd F d r) (.p (some ⟨h.length,1,0⟩)) (dp d):=⟨_,rfl,R1,D.gd hF (Nat.le_refl _)⟩
 have B2:Bx h2 (Gd F d r) (.p (some ⟨h1.length,1,0⟩)) (iN n):=⟨_,rfl,R2,D.gd hF (by omega)⟩
 refine aE R2 rfl rfl (aD ?_)
 refine aP (fun e=>?_) fun e=>?_
 ·have e : n = 0 := by simpa using e
  refine aE R1 rfl rfl ?_
  refine rX D2 (fun i hi=>hF i (by omega)) hd fun e h3 r3 P=>aD (.inl (hq _ h3 r3 ?_))
  unfold Infl.raw
  rw [if_pos ‹n=0›]
  exact P.from U (fun _ _ h=>h.elim) (fun _ _ h=>h) rfl rfl rfl
 ·have e : n ≠ 0 := by simpa using e
  refine aE R1 rfl rfl ?_
  refine dI D2 hd (c:=.raw n) ⟨_,_,rfl,B,B2⟩ (aB7 e hn) fun h3 r3 P=>aD (.inl (hq 0 h3 r3 ?_))
  unfold Infl.raw
  rw [if_neg e]
  exact P.from U (fun _ _ h=>h.elim) (fun _ _ h=>h) rfl rfl rfl
theorem aA1 (D:Dec L h F d r out told) (hF:∀ i,h.length≤i→F i) (hd:r.done=false) (hq:∀ e h' r',cN (· = d) L h F d r told (.wait ⟨out,r.last,r.skip⟩ (.num 16 0 0) .stored1) e h' r'→Q (.i .i64 e) h'):C Y56.id [dp d] h Q:=by
 refine Y56.call ?_
 simp only [Y56.t]
 refine bT (hk:=fun h1 l1 U1 R1=>?_)
 refine aE R1 rfl rfl ?_
 refine dI (D.ext U1) hd (c:=.stored1) ⟨_,rfl,Bx.new R1 (D.gd hF (Nat.le_refl _))⟩ ⟨by decide,by decide,.inl (by decide),fun v hv=>hv⟩ fun h2 r2 P=>aD (.inl (hq 0 h2 r2 ?_))
 exact P.from U1 (fun _ _ h=>h.elim) (fun _ _ h=>h) rfl rfl rfl
theorem y9 (D:Dec L h F d r out told) (hF:∀ i,h.length≤i→F i) (hd:r.done=false) (hq:∀ e h' r',cN (· = d) L h F d r told (.wait ⟨out,r.last,r.skip⟩ (.num 5 0 0) .dyn1) e h' r'→Q (.i .i64 e) h'):C Y48.id [dp d] h Q:=by
 refine Y48.call ?_
 simp only [Y48.t]
 refine bT (hk:=fun h1 l1 U1 R1=>?_)
 refine aE R1 rfl rfl ?_
 refine dI (D.ext U1) hd (c:=.dyn1) ⟨_,rfl,Bx.new R1 (D.gd hF (Nat.le_refl _))⟩ ⟨by decide,by decide,.inl (by decide),fun v hv=>hv⟩ fun h2 r2 P=>aD (.inl (hq 0 h2 r2 ?_))
 exact P.from U1 (fun _ _ h=>h.elim) (fun _ _ h=>h) rfl rfl rfl
theorem y7 {x:Nat} {v:AV} (D:Dec L h F d r out told) (hF:∀ i,h.length≤i→F i) (hd:r.done=false) (hc:Clo h (Gd F d r) d 0 (.p none) .stored1 v) (hf:fit .stored1 x)
  (hq:∀ e h' r',cN F L h F d r told (Infl.apply L r.input ⟨out,r.last,r.skip⟩ x .stored1) e h' r'→Q (.i .i64 e) h'):bV C v [iN x] h Q:=by
 obtain ⟨bd,rfl,B⟩:=hc
 refine cR (by decide) (Y62.call ?_)
 simp only [Y62.t]
 refine bT (hk:=fun h1 l1 U1 R1=>?_)
 have B1:=B.upd U1 (fun _ _ h=>h) fun _ _ h=>h
 rw [B1.ld]
 refine dI (D.ext U1) hd (c:=.stored2 x) ⟨_,_,rfl,Bx.new R1 (D.gd hF (Nat.le_refl _)),B1⟩ ⟨by decide,by decide,.inl (by decide),fun v hv=>⟨hf,hv⟩⟩ fun h2 r2 P=>aD (.inl (hq 0 h2 r2 ?_))
 exact (P.from U1 (fun _ _ h=>h.elim) (fun _ _ h=>h) rfl rfl rfl).mono fun i _ e=>D.f i (.inl e)
theorem xU {x n:Nat} {v:AV} (D:Dec L h F d r out told) (hF:∀ i,h.length≤i→F i) (hd:r.done=false) (hc:Clo h (Gd F d r) d 0 (.p none) (.stored2 n) v) (hf:fit (.stored2 n) x)
  (hq:∀ e h' r',cN F L h F d r told (Infl.apply L r.input ⟨out,r.last,r.skip⟩ x (.stored2 n)) e h' r'→Q (.i .i64 e) h'):bV C v [iN x] h Q:=by
 obtain ⟨bn,bd,rfl,Bn,B⟩:=hc
 obtain ⟨hn,hx⟩:=hf
 refine cR (by decide) (Y55.call ?_)
 simp only [Y55.t,Bn.ld,B.ld,gQ]
 refine dM (n:=((65535 - n:Nat):Int)) (by omega) (by omega) (by omega) ?_
 refine aP (fun e=>?_) fun e=>?_
 ·have e : ¬ (x + n = 65535) := by simp at e; omega
  refine .inl (hq 2 h r ?_)
  simp only [Infl.apply]
  rw [if_neg e]
  exact ⟨Upd.refl _ _,fun _ _ h=>h,D,rfl,rfl,rfl,rfl,.inl rfl,hd⟩
 ·have e : x + n = 65535 := by simp at e; omega
  refine aDP hn D hF hd fun e1 h1 r1 P=>aD (.inl (hq _ h1 r1 ?_))
  simp only [Infl.apply]
  rw [if_pos e]
  exact P.mono fun i _ e=>D.f i (.inl e)
theorem aD8 {x:Nat} {v:AV} (D:Dec L h F d r out told) (hF:∀ i,h.length≤i→F i) (hd:r.done=false) (hc:Clo h (Gd F d r) d 0 (.p none) .dyn1 v) (hf:fit .dyn1 x)
  (hq:∀ e h' r',cN F L h F d r told (Infl.apply L r.input ⟨out,r.last,r.skip⟩ x .dyn1) e h' r'→Q (.i .i64 e) h'):bV C v [iN x] h Q:=by
 obtain ⟨bd,rfl,B⟩:=hc
 have hf:x<32:=hf
 refine cR (by decide) (Y47.call ?_)
 simp only [Y47.t]
 refine dM (n:=((x+257:Nat):Int)) (by omega) (by omega) (by omega) ?_
 refine cF fun h1 l1 U1 R1=>?_
 refine aR R1 rfl (ltr rfl) (hk:=fun h2 l2 U2 R2=>?_)
 have U:Upd (fun _=>False) h h2:=U1.own U2 (Nat.le_refl _)
 have B2:=B.upd U (fun _ _ h=>h) fun _ _ h=>h
 have Bn:Bx h2 (Gd F d r) (.p (some ⟨h.length,1,0⟩)) (iN (x+257)):=⟨_,rfl,R2,D.gd hF (Nat.le_refl _)⟩
 refine aE R2 rfl rfl (aD ?_)
 refine aP (fun e=>?_) fun e=>?_
 ·have e : 286 < x + 257 := by simp at e; omega
  refine .inl (hq 2 h2 r ?_)
  simp only [Infl.apply]
  rw [if_pos e]
  exact ⟨U.mono fun _ _ h=>h.elim,fun _ _ h=>h,D.ext U,rfl,rfl,rfl,rfl,.inl rfl,hd⟩
 ·have e : ¬ 286 < x + 257 := by simp at e; omega
  rw [B2.ld]
  refine dI (D.ext U) hd (c:=.dyn2 (x+257)) ⟨_,_,rfl,B2,Bn⟩ ⟨by decide,by decide,.inl (by decide),fun v hv=>⟨by omega,hv⟩⟩ fun h3 r3 P=>aD (.inl (hq 0 h3 r3 ?_))
  simp only [Infl.apply]
  rw [if_neg e]
  exact (P.from U (fun _ _ h=>h.elim) (fun _ _ h=>h) rfl rfl rfl).mono fun i _ e=>D.f i (.inl e)
theorem aEQ {x lits:Nat} {v:AV} (D:Dec L h F d r out told) (hF:∀ i,h.length≤i→F i) (hd:r.done=false) (hc:Clo h (Gd F d r) d 0 (.p none) (.dyn2 lits) v) (hf:fit (.dyn2 lits) x)
  (hq:∀ e h' r',cN F L h F d r told (Infl.apply L r.input ⟨out,r.last,r.skip⟩ x (.dyn2 lits)) e h' r'→Q (.i .i64 e) h'):bV C v [iN x] h Q:=by
 obtain ⟨bd,bl,rfl,B,Bl⟩:=hc
 obtain ⟨hl,hf⟩:=hf
 refine cR (by decide) (Y60.call ?_)
 simp only [Y60.t]
 refine dM (n:=((x+1:Nat):Int)) (by omega) (by omega) (by omega) ?_
 refine cF fun h1 l1 U1 R1=>?_
 refine aR R1 rfl (ltr rfl) (hk:=fun h2 l2 U2 R2=>?_)
 have U:Upd (fun _=>False) h h2:=U1.own U2 (Nat.le_refl _)
 have B2:=B.upd U (fun _ _ h=>h) fun _ _ h=>h
 have Bl2:=Bl.upd U (fun _ _ h=>h) fun _ _ h=>h
 have Bn:Bx h2 (Gd F d r) (.p (some ⟨h.length,1,0⟩)) (iN (x+1)):=⟨_,rfl,R2,D.gd hF (Nat.le_refl _)⟩
 refine aE R2 rfl rfl (aD ?_)
 refine aP (fun e=>?_) fun e=>?_
 ·have e : 30 < x + 1 := by simp at e; omega
  refine .inl (hq 2 h2 r ?_)
  simp only [Infl.apply]
  rw [if_pos e]
  exact ⟨U.mono fun _ _ h=>h.elim,fun _ _ h=>h,D.ext U,rfl,rfl,rfl,rfl,.inl rfl,hd⟩
 ·have e : ¬ 30 < x + 1 := by simp at e; omega
  rw [B2.ld]
  refine dI (D.ext U) hd (c:=.dyn3 lits (x+1)) ⟨_,_,_,rfl,B2,Bl2,Bn⟩ ⟨by decide,by decide,.inl (by decide),fun v hv=>⟨hl,by omega,hv⟩⟩ fun h3 r3 P=>aD (.inl (hq 0 h3 r3 ?_))
  simp only [Infl.apply]
  rw [if_neg e]
  exact (P.from U (fun _ _ h=>h.elim) (fun _ _ h=>h) rfl rfl rfl).mono fun i _ e=>D.f i (.inl e)
end
end Go.Proofs.YtpaphfeihpgamaaDoor
namespace Go.Proofs.YtpaphfeihpgamaaDoor
open Go.GAM
open Go.Infl (bS cZ b8 Out Lim)
section
variable [XR] {h:aA} {Q:AV→aA→Prop} {L:Lim} {F:Nat→Prop} {d:Nat} {r:DR} {out:List UInt8} {told:Nat}
theorem Stk.kind {h:aA} {v:AV} {l:List AV} (S:Stk h v l):v.parts=[v]∧v.sizeOK=true∧v.cellOK=true:=by
 rcases S with ⟨rfl,_⟩ | ⟨id,b,rfl,_⟩ <;> exact ⟨rfl,rfl,rfl⟩
theorem aA2 (D : Dec L h F d r out told) (hF : ∀ i, h.length ≤ i → F i) {c : UInt8} (hq0 : Infl.full L r.input out = true → Q (.i .i64 16) h)
    (hq1:Infl.full L r.input out=false→∀ p f h',Upd (Mut d r) h h'→(∀ i,i<h.length→Mut d { r with past:=p,total:=r.total+1,fresh:=f } i→Mut d r i)→Dec L h' F d { r with past:=p,total:=r.total+1,fresh:=f } (out++[c]) told→Q (.i .i64 0) h') :
    C Y16.id [dp d,.i .u8 (c.toNat:Int)] h Q:=by
  have ht:=D.total
  have hi:=D.inp
  obtain ⟨hl1,hl2⟩:=D.lim
  have hmul:L.ratio * r.input≤1100 * 1099511627776:=Nat.mul_le_mul hl2 hi
  have hld:=D.recd.lt
  have P0 : ∀ b, b = Infl.full L r.input out → Y16.p0 (aK h Q) (dp d) (c.toNat : Int) b h := by
    intro b hb
    refine Y16.i0 ?_
    simp only [Y16.t0,bI,bH, ← Y16.p1.eq_1]
    refine aP (fun e=>?_) fun e=>?_
    · exact .inl (hq0 (hb ▸ e))
    · have hfull : Infl.full L r.input out = false := hb ▸ e
      have hlen:out.length<65536:=by
        unfold Infl.full at hfull
        simp at hfull
        omega
      refine aE D.recd rfl rfl (aD (dM (n:=((r.total+1:Nat):Int)) (by omega) (by omega) (by omega) ?_))
      refine aR D.recd rfl (ltr rfl) (hk:=fun h1 l1 U1 R1=>?_)
      refine aE R1 rfl rfl ?_
      have S1:=D.fresh.upd U1 fun i hi e=>D.d2 (e ▸ hi)
      refine S1.push rfl rfl (by simp; have:=D.told; omega) (by simp; have:=D.told; omega) fun f h2 U2 S2 N2=>?_
      have R2:=R1.upd U2 D.d2
      refine aR R2 rfl (ltr rfl) (hv:=(Stk.kind S2).1) (hs:=(Stk.kind S2).2.1) (hc:=(Stk.kind S2).2.2) (hk:=fun h3 l3 U3 R3=>?_)
      refine aE R3 rfl rfl ?_
      have T1:=D.past.upd U1 fun i hi e=>D.d1 (e ▸ hi)
      have T2:=T1.upd U2 D.d3
      have T3:=T2.upd U3 fun i hi e=>D.d1 (e ▸ hi)
      refine T3.rd.len ?_
      refine aV (by simp; omega) ?_
      refine Y16.i1 ?_
      simp only [Y16.t1,bI,bH]
      refine aE R3 rfl rfl ?_
      refine T3.push rfl rfl (by simp; omega) (by simp; omega) fun p h4 U4 S4 N4=>?_
      have R4:=R3.upd U4 D.d1
      refine aR R4 rfl (ltr rfl) (hv:=(Stk.kind S4).1) (hs:=(Stk.kind S4).2.1) (hc:=(Stk.kind S4).2.2) (hk:=fun h5 l5 U5 R5=>?_)
      have hl12:=U2.1
      have hl34:=U4.1
      have fd:¬ aQ f d:=fun hs=>by rcases N2 d hs with g | g; exact D.d2 g; omega
      have pd:¬ aQ p d:=fun hs=>by rcases N4 d hs with g | g; exact D.d1 g; omega
      have S3:=S2.upd U3 fun i hi e=>fd (e ▸ hi)
      have pf:∀ i,aQ p i→¬ aQ f i:=by
        intro i hp hf
        have hfl:=S2.rd.lt hf
        rcases N4 i hp with g | g
        · rcases N2 i hf with g2 | g2
          · exact D.d3 i g g2
          · have:=D.past.rd.lt g; omega
        · omega
      have S4':=S3.upd U4 fun i hi e=>by
        rcases N2 i hi with g2 | g2
        · exact D.d3 i e g2
        · have:=D.past.rd.lt e; omega
      have S5:=S4'.upd U5 fun i hi e=>fd (e ▸ hi)
      have T5:=S4.upd U5 fun i hi e=>pd (e ▸ hi)
      refine .inl (hq1 hfull p f h5 ?_ ?_ ?_)
      · have a1 := (U1.mono (M' := Mut d r) fun i _ e => .inl e).trans U2 fun i _ e => .inr (.inr e)
        exact ((a1.trans U3 fun i _ e=>.inl e).trans U4 fun i _ e=>.inr (.inl e)).trans U5 fun i _ e=>.inl e
      · rintro i hi (e | e | e)
        · exact .inl e
        · rcases N4 i e with g | g
          · exact .inr (.inl g)
          · omega
        · rcases N2 i e with g | g
          · exact .inr (.inr g)
          · omega
      · have hto := D.told
        exact { recd := R5, past := by rw [List.map_append]; exact T5, fresh := by rw [List.drop_append_of_le_length hto, List.map_append]; exact S5, total := by simp [ht], told := by simp; omega, d1 := pd, d2 := fd, d3 := pf, lim := D.lim, inp := D.inp, len := by simp; omega,
                f := by
                  rintro i (e | e | e)
                  · exact D.f i (.inl e)
                  · rcases N4 i e with g | g
                    · exact D.f i (.inr (.inl g))
                    · exact hF i (by omega)
                  · rcases N2 i e with g | g
                    · exact D.f i (.inr (.inr g))
                    · exact hF i (by omega) }
  refine Y16.call ?_
  simp only [Y16.t,bI,bH, ← Y16.p0.eq_1]
  refine aE D.recd rfl rfl (aD (aE D.recd rfl rfl (aD ?_)))
  refine aP (fun e=>?_) fun e=>?_
  · refine P0 true ?_
    unfold Infl.full
    simp at e
    simp; omega
  · refine aE D.recd rfl rfl (aD (aE D.recd rfl rfl (aD (aE D.recd rfl rfl (aD ?_)))))
    refine dM (n:=((L.ratio * r.input:Nat):Int)) (by rw [Int.natCast_mul]) (by omega) (by omega) ?_
    refine dM (n:=((L.ratio * r.input+1024:Nat):Int)) (by omega) (by omega) (by omega) ?_
    refine P0 _ ?_
    unfold Infl.full
    simp at e
    have:¬ L.output≤out.length:=by omega
    simp only [this,decide_false,Bool.false_or]
    congr 1
    simp; omega
end
end Go.Proofs.YtpaphfeihpgamaaDoor
namespace Go.Proofs.YtpaphfeihpgamaaDoor
open Go.GAM
open Go.Infl (bS cZ b8 Out Lim)
theorem aDS {x:Nat} (h:x<256):IntKind.wrap .u8 (x:Int)=((UInt8.ofNat x).toNat:Int):=by
 rw [wN (by omega) (by omega)]; simp; omega
section
variable [XR] {h:aA} {Q:AV→aA→Prop} {L:Lim} {F:Nat→Prop} {d:Nat} {r:DR} {out:List UInt8} {told:Nat}
theorem eO {r r':DR} (hk:∀ i,i<h.length→Mut d r' i→Mut d r i):∀ i,i<h.length→Gd F d r i→Gd F d r' i:=fun i hl hi=>⟨hi.1,fun m=>hi.2 (hk i hl m)⟩
theorem aDG {h0' : aA} {far : Nat} (h0 : 0 < far) {n : Nat} (hn : n ≤ 300) : ∀ (m i : Nat) (h : aA) (r : DR) (k : bS), i + m = n → Dec L h F d r k.out told → (∀ i, h.length ≤ i → F i) → far ≤ k.out.length →
  (∀ e h' p f t,Upd (Mut d r) h h'→(∀ i,i<h.length→Mut d { r with past:=p,total:=t,fresh:=f } i→Mut d r i)→Dec L h' F d { r with past:=p,total:=t,fresh:=f } (Infl.copyP L r.input far m k).1.out told→((Infl.copyP L r.input far m k).2=true∧e=0∨(Infl.copyP L r.input far m k).2=false∧e=16)→Q (.i .i64 e) h') →
  Y21.p0 (aK h0' Q) (dp d) far n i h:=by
 intro m
 induction m with
 | zero =>
  intro i h r k hi D hF hf hq
  obtain rfl:i=n:=by omega
  refine Y21.i0 ?_
  simp only [Y21.t0]
  exact aV (by simp) (.inl (hq 0 h r.past r.fresh r.total (Upd.refl _ _) (fun _ _ h=>h) D (.inl ⟨rfl,rfl⟩)))
 | succ m ih =>
  intro i h r k hi D hF hf hq
  refine Y21.i0 ?_
  simp only [Y21.t0,bI,bH, ← Y21.p0.eq_1]
  refine bA (by simp; omega) ?_
  refine aE D.recd rfl rfl (aE D.recd rfl rfl (D.past.rd.len ?_))
  have hlen:=D.len
  simp only [List.length_map]
  refine dM (n:=((k.out.length - far:Nat):Int)) (by omega) (by omega) (by omega) ?_
  obtain ⟨c,hc⟩:∃ c,k.out[k.out.length - far]? = some c:=⟨_,List.getElem?_eq_getElem (by omega)⟩
  refine D.past.rd.byte (i:=k.out.length - far) hc ?_
  have hg:k.out.getD (k.out.length - far) 0=c:=by rw [List.getD_eq_getElem?_getD,hc] <;> rfl
  refine aA2 D hF (fun hfull=>?_) fun hfull p f h1 U1 K1 D1=>?_
  ·refine aD (bA rfl (.inl (hq 16 h r.past r.fresh r.total (Upd.refl _ _) (fun _ _ h => h) ?_ (.inr ?_))))
   ·unfold Infl.copyP Infl.putP
    rw [if_pos hfull]
    exact D
   ·unfold Infl.copyP Infl.putP
    rw [if_pos hfull]
    exact ⟨rfl,rfl⟩
  ·refine aD (aV rfl (inc (by omega) ?_))
   refine ih (i+1) h1 _ { k with out:=k.out++[c] } (by omega) D1 (fun i hi=>hF i (Nat.le_trans U1.1 hi)) (by simp; omega) fun e h2 p2 f2 t2 U2 K2 D2 he=>?_
   have hcp:Infl.copyP L r.input far (m+1) k=Infl.copyP L r.input far m { k with out:=k.out++[c] }:=by
    rw [Infl.copyP]
    unfold Infl.putP
    rw [if_neg (by simp [hfull]),hg]
   refine hq e h2 p2 f2 t2 (U1.trans U2 K1) (fun i hi hm=>K1 i hi (K2 i (Nat.lt_of_lt_of_le hi U1.1) hm)) (by rw [hcp]; exact D2) (by rw [hcp]; exact he)
theorem oG {input far:Nat}:∀ (m:Nat) (k:bS),(Infl.copyP L input far m k).1=⟨(Infl.copyP L input far m k).1.out,k.last,k.skip⟩
 | 0,k=>by rfl
 | m + 1, k => by
  rw [Infl.copyP]
  unfold Infl.putP
  by_cases hf:Infl.full L input k.out
  ·rw [if_pos hf]
  ·rw [if_neg hf]
   exact oG m _
theorem aED {far n:Nat} (h0:0<far) (hn:n≤300) (hfar:far≤32768) (D:Dec L h F d r out told) (hF:∀ i,h.length≤i→F i) (hq0:out.length<far→Q (.i .i64 2) h)
  (hq:far≤out.length→∀ e h' p f t,Upd (Mut d r) h h'→(∀ i,i<h.length→Mut d { r with past:=p,total:=t,fresh:=f } i→Mut d r i)→Dec L h' F d { r with past:=p,total:=t,fresh:=f } (Infl.copyP L r.input far n ⟨out,r.last,r.skip⟩).1.out told→((Infl.copyP L r.input far n ⟨out,r.last,r.skip⟩).2=true∧e=0∨(Infl.copyP L r.input far n ⟨out,r.last,r.skip⟩).2=false∧e=16)→Q (.i .i64 e) h') :
  C Y21.id [dp d,iN n,iN far] h Q:=by
 have ht:=D.total
 refine Y21.call ?_
 simp only [Y21.t,bI,bH, ← Y21.p0.eq_1]
 refine aE D.recd rfl rfl (aD ?_)
 refine aP (fun e=>?_) fun e=>?_
 ·exact .inl (hq0 (by simp at e; omega))
 ·have e : far ≤ out.length := by simp at e; omega
  exact aDG h0 hn n 0 h r ⟨out,r.last,r.skip⟩ (by omega) D hF e (hq e)
theorem aE7 {x n:Nat} {v:AV} (D:Dec L h F d r out told) (hF:∀ i,h.length≤i→F i) (hd:r.done=false) (hc:Clo h (Gd F d r) d 0 (.p none) (.raw n) v) (hf:fit (.raw n) x)
  (hq:∀ e h' r',cN F L h F d r told (Infl.apply L r.input ⟨out,r.last,r.skip⟩ x (.raw n)) e h' r'→Q (.i .i64 e) h'):bV C v [iN x] h Q:=by
 obtain ⟨bd,bn,rfl,B,Bn⟩:=hc
 obtain ⟨hn0,hn,hx⟩:=hf
 refine cR (by decide) (Y58.call ?_)
 simp only [Y58.t,B.ld,aDS hx]
 refine aA2 D hF (fun hfull=>?_) fun hfull p f h1 U1 K1 D1=>?_
 ·refine aD (bA rfl (.inl (hq 16 h r ?_)))
  simp only [Infl.apply,Infl.putP]
  rw [if_pos hfull]
  exact ⟨Upd.refl _ _,fun _ _ h=>h,D,rfl,rfl,rfl,rfl,.inr rfl,hd⟩
 ·refine aD (aV rfl ?_)
  have B1:=B.upd U1 (fun i hi hm=>hi.2 hm) (eO K1)
  have Bn1:=Bn.upd U1 (fun i hi hm=>hi.2 hm) (eO K1)
  rw [B1.ld,Bn1.ld]
  refine aD (dM (n:=((n - 1:Nat):Int)) (by omega) (by omega) (by omega) ?_)
  refine aDP (by omega) D1 (fun i hi=>hF i (Nat.le_trans U1.1 hi)) hd fun e h2 r2 P=>aD (.inl (hq e h2 r2 ?_))
  simp only [Infl.apply,Infl.putP]
  rw [if_neg (by simp [hfull])]
  exact (P.mono fun i _ e=>D1.f i (.inl e)).from U1 (fun i _ hm=>D.f i hm) K1 rfl rfl rfl
end
end Go.Proofs.YtpaphfeihpgamaaDoor
namespace Go.Proofs.YtpaphfeihpgamaaDoor
open Go.GAM
theorem j1 {h:aA} {v:AV} {l:List Nat} (R:RdI 1 h v (bB l) l.length) {k:IntKind} {i x:Nat} (hx:l[i]? = some x) {K:Int→Prop} (hk:K (x:Int)):aX 1 v (.i k (i:Int)) h fun a=>aB a h fun y=>asI .i64 y K:=by
 have hi:=aI hx
 rw [aEY R (by omega) (by omega),Int.toNat_natCast,aFG R hi Nat.one_pos (c:=.i .i64 (x:Int)) (by unfold bB; rw [Nat.mul_one,Nat.add_zero,List.getElem?_map,hx] <;> rfl)]
 exact hk
theorem aT (l:List Nat):(bB l).length=l.length:=by simp [bB]
theorem hP {l:List Nat} {i x:Nat} (hx:l[i]? = some x):(bB l)[i]? = some (iN x):=by unfold bB; rw [List.getElem?_map,hx] <;> rfl
theorem iZ (l:List Nat) (i x:Nat):(bB l).set i (iN x)=bB (l.set i x):=by unfold bB; rw [List.map_set]
theorem eQ (a b:List Nat):bB (a++b)=bB a++bB b:=by unfold bB; rw [List.map_append]
theorem jX (l:List Nat):(bB l).all AV.cellOK=true:=by
 rw [List.all_eq_true]; intro x hx
 obtain ⟨i,_,rfl⟩:=List.mem_map.1 hx
 rfl
theorem aBC (a b:Nat):mmI true (a:Int) (b:Int)=((max a b:Nat):Int):=by
 unfold mmI
 rw [cond_true]
 by_cases h:(b:Int) > a
 ·have : max a b = b := by omega
  rw [this,if_pos h]
 ·have : max a b = a := by omega
  rw [this,if_neg h]
theorem xE (x L:Nat):∀ l:List Nat,Huff.kr (l++[x]) L=Huff.kr l L+(if 0<x∧x≤L then 2 ^ (L - x) else 0)
 | []=>by simp [Huff.kr]
 | y :: l => by
  show _+Huff.kr (l++[x]) L=_+Huff.kr l L+_
  rw [xE x L l,Nat.add_assoc]
theorem aDO {L:Nat}:∀ l:List Nat,Huff.kr l L≤l.length * 2 ^ L
 | []=>by simp [Huff.kr]
 | y :: l => by
  have:=aDO (L:=L) l
  have h2:(if 0<y∧y≤L then 2 ^ (L - y) else 0)≤2 ^ L:=by
   split
   ·exact Nat.pow_le_pow_right (by decide) (by omega)
   ·exact Nat.zero_le _
  unfold Huff.kr
  rw [List.length_cons,Nat.succ_mul]
  omega
theorem zZ (x:Nat) (l:List Nat):Huff.used (l++[x])=Huff.used l+(if 0<x then 1 else 0):=by
 unfold Huff.used
 rw [List.countP_append]
 by_cases h:0<x <;> simp [h]
theorem sB (x:Nat) (l:List Nat):Huff.longest (l++[x])=max (Huff.longest l) x:=by
 unfold Huff.longest
 rw [List.foldl_append] <;> rfl
theorem aCX (l:List Nat):Huff.used l≤l.length:=List.countP_le_length
def gJ (l:List Nat):Int:=match Huff.checkP l with
 | 0=>0
 | 1=>2
 | _=>1
section
variable [XR] {h:aA} {Q:AV→aA→Prop} {v:AV} {l:List Nat}
theorem jZ {e:Bool} (he:e=decide (Huff.kr l 15<32768∧0<Huff.used l∧(1<Huff.used l∨1<Huff.longest l))) (hk:Huff.kr l 15≤32768) (hq:Q (.i .i64 (gJ l)) h):Y5.p3 (aK h Q) e h:=by
 refine Y5.i3 ?_
 simp only [Y5.t3]
 unfold gJ Huff.checkP at hq
 rw [if_neg (show ¬ 2 ^ 15<Huff.kr l 15 by omega)] at hq
 by_cases hc:Huff.kr l 15<2 ^ 15∧0<Huff.used l∧(1<Huff.used l∨1<Huff.longest l)
 ·rw [if_pos hc] at hq
  exact bA (by rw [he]; exact decide_eq_true hc) (.inl hq)
 ·rw [if_neg hc] at hq
  exact aV (by rw [he]; exact decide_eq_false hc) (.inl hq)
theorem uT (R : RdI 1 h v (bB l) l.length) (hl : l.length ≤ 320) (h15 : ∀ x ∈ l, x ≤ 15) (hq : Q (.i .i64 (gJ l)) h) : ∀ (m i : Nat), i + m = l.length →
    Y5.p0 (aK h Q) (Huff.kr (l.take i) 15) (Huff.used (l.take i)) (Huff.longest (l.take i)) v l.length i h:=by
  intro m
  induction m with
  | zero =>
    intro i hi
    obtain rfl:i=l.length:=by omega
    rw [List.take_length]
    refine Y5.i0 ?_
    simp only [Y5.t0, ← Y5.p3.eq_1]
    refine aV (by simp) ?_
    refine aP (fun e=>?_) fun e=>?_
    · have e : 32768 < Huff.kr l 15 := by simp at e; omega
      unfold gJ Huff.checkP at hq
      rw [if_pos (show 2 ^ 15<Huff.kr l 15 from e)] at hq
      exact .inl hq
    · have e : Huff.kr l 15 ≤ 32768 := by simp at e; omega
      refine aP ?_ ?_ <;> intro e1
      · refine aP (fun e2 => ?_) fun e2 => ?_
        · refine aP (fun e3 => ?_) fun e3 => ?_
          · refine jZ ?_ e hq
            simp at e1 e2 e3 ⊢; omega
          · refine jZ ?_ e hq
            simp only [decide_eq_true_eq,decide_eq_false_iff_not] at e1 e2 e3
            rw [decide_eq_decide]; omega
        · refine jZ ?_ e hq
          simp at e1 e2 ⊢; omega
      · refine jZ ?_ e hq
        simp at e1 ⊢; omega
  | succ m ih =>
    intro i hi
    obtain ⟨x,hx⟩:∃ x,l[i]? = some x:=⟨_,List.getElem?_eq_getElem (by omega)⟩
    have hx15:x≤15:=h15 x (List.mem_of_getElem? hx)
    have nxt:=ih (i+1) (by omega)
    rw [fH hx,xE,zZ,sB] at nxt
    have k1:=aDO (L:=15) (l.take i)
    have k2:=aCX (l.take i)
    rw [List.length_take] at k1 k2
    have k3:min i l.length * 2 ^ 15≤320 * 32768:=Nat.mul_le_mul (by omega) (by decide)
    refine Y5.i0 ?_
    simp only [Y5.t0, ← Y5.p1.eq_1]
    refine bA (by simp; omega) (j1 R hx ?_)
    refine aV (by simp) ?_
    refine Y5.i1 ?_
    simp only [Y5.t1, ← Y5.p2.eq_1]
    refine aV (by simp; omega) ?_
    refine aP (fun e=>?_) fun e=>?_
    · have e : 0 < x := by simp at e; omega
      rw [if_pos ⟨e,hx15⟩,if_pos e] at nxt
      have hp:2 ^ (15 - x)≤32768:=Nat.pow_le_pow_right (n:=2) (by decide) (show 15 - x≤15 by omega)
      have sh:∀ K:Int→Prop,K ((2 ^ (15 - x):Nat):Int)→nQ .i64 1 ((15 - x:Nat):Int) K:=fun K hk=>mN (a:=1) (b:=15 - x) (by omega) (by rw [Nat.one_mul]; omega) (by rw [Nat.one_mul]; exact hk)
      generalize 2 ^ (15 - x)=pw at hp nxt sh
      refine dM (n:=((15 - x:Nat):Int)) (by omega) (by omega) (by omega) ?_
      refine sh _ ?_
      refine dM (n:=((Huff.kr (l.take i) 15+pw:Nat):Int)) (by omega) (by omega) (by omega) (inc (by omega) ?_)
      rw [aBC]
      refine Y5.i2 ?_
      simp only [Y5.t2, ← Y5.p0.eq_1]
      exact inc (by omega) nxt
    · have e : x = 0 := by simp at e; omega
      subst e
      rw [if_neg (by omega),if_neg (by omega),Nat.add_zero,Nat.add_zero,Nat.max_zero] at nxt
      refine Y5.i2 ?_
      simp only [Y5.t2, ← Y5.p0.eq_1]
      exact inc (by omega) nxt
theorem wV (R:RdI 1 h v (bB l) l.length) (hl:l.length≤320) (h15:∀ x∈l,x≤15) (hq:Q (.i .i64 (gJ l)) h):C Y5.id [v] h Q:=by
 refine Y5.call ?_
 simp only [Y5.t, ← Y5.p0.eq_1]
 refine R.len (aV (by simp; omega) (R.len ?_))
 exact uT R hl h15 hq l.length 0 (by omega)
end
def d9 (l:List Nat):List Nat:=(List.range 16).map (Huff.cnt l)
def j6 (l:List Nat) (n:Nat):List Nat:=(List.range 16).map fun j=>if j<n then Huff.fst l j else 0
theorem b7 (l:List Nat):(d9 l).length=16:=by simp [d9]
theorem gN (l:List Nat) (n:Nat):(j6 l n).length=16:=by simp [j6]
theorem lL (l:List Nat) {n:Nat} (h:n<16):(d9 l)[n]? = some (Huff.cnt l n):=by simp [d9,h]
theorem rY (l:List Nat) {n k:Nat} (h:k<16) (h2:k<n):(j6 l n)[k]? = some (Huff.fst l k):=by simp [j6,h,h2]
theorem lK (l:List Nat) (x n:Nat):Huff.cnt (l++[x]) n=if 0<x∧n=x then Huff.cnt l n+1 else Huff.cnt l n:=by
 cases n with
 | zero =>
  rw [if_neg (by omega)] <;> rfl
 | succ n =>
  show List.countP _ _=if _ then List.countP _ _+1 else List.countP _ _
  rw [List.countP_append]
  by_cases h:x=n+1
  ·rw [if_pos ⟨by omega,h.symm⟩]; simp [h]
  ·rw [if_neg (by omega)]; simp [h]
theorem y8 {l:List Nat} {x:Nat} (h0:0<x) (h:x<16):(d9 l).set x (Huff.cnt l x+1)=d9 (l++[x]):=by
 refine List.ext_getElem? fun j=>?_
 rw [List.getElem?_set]
 by_cases hj:j<16
 ·have a1 := lL (l ++ [x]) hj
  have a2:=lL l hj
  rw [a1,a2,lK]
  by_cases e:x=j
  ·subst e; rw [if_pos rfl,if_pos (by rw [b7]; exact h),if_pos ⟨h0,rfl⟩]
  ·rw [if_neg e,if_neg (by omega)]
 ·have e1 : (d9 (l ++ [x]))[j]? = none := by rw [List.getElem?_eq_none]; rw [b7]; omega
  have e2:(d9 l)[j]? = none:=by rw [List.getElem?_eq_none]; rw [b7]; omega
  rw [if_neg (by omega),e1,e2]
theorem vO {l:List Nat}:d9 (l++[0])=d9 l:=by
 unfold d9
 exact List.map_congr_left fun j _=>by rw [lK,if_neg (by omega)]
theorem aBF {l:List Nat} {n:Nat} (h:n<16):(j6 l n).set n (Huff.fst l n)=j6 l (n+1):=by
 refine List.ext_getElem? fun j=>?_
 rw [List.getElem?_set]
 by_cases hj:j<16
 ·by_cases e : n = j
  ·subst e; rw [if_pos rfl,if_pos (by rw [gN]; exact h),rY _ h (by omega)]
  ·rw [if_neg e]
   simp [j6,hj]
   by_cases hjn:j<n
   ·rw [if_pos hjn,if_pos (by omega)]
   ·rw [if_neg hjn,if_neg (by omega)]
 ·have e1 : (j6 l (n + 1))[j]? = none := by rw [List.getElem?_eq_none]; rw [gN]; omega
  have e2:(j6 l n)[j]? = none:=by rw [List.getElem?_eq_none]; rw [gN]; omega
  rw [if_neg (by omega),e1,e2]
theorem aA6 (l:List Nat):j6 l 16=(List.range 16).map (Huff.fst l):=List.map_congr_left fun j hj=>by rw [if_pos (List.mem_range.1 hj)]
theorem aAG (l:List Nat):j6 l 1=List.replicate 16 0:=by
 refine List.ext_getElem? fun j=>?_
 by_cases hj:j<16
 ·by_cases e : j = 0
  ·subst e; rw [rY _ (by omega) (by omega)] <;> rfl
  ·rw [show (j6 l 1)[j]? = some 0 from by simp [j6,hj,e]]; rw [List.getElem?_replicate,if_pos hj]
 ·rw [List.getElem?_eq_none (by rw [gN]; omega),List.getElem?_eq_none (by simp; omega)]
theorem kJ (l:List Nat):∀ n,Huff.cnt l n≤l.length
 | 0=>Nat.zero_le _
 | n+1=>List.countP_le_length
theorem aAV (l:List Nat):∀ n,Huff.fst l n≤l.length * (2 ^ (n+1) - 2)
 | 0=>Nat.zero_le _
 | n + 1 => by
  have:=aAV l n
  have h2:=kJ l n
  have hp:2≤2 ^ (n+1):=by rw [Nat.pow_succ]; have:=Nat.pow_pos (n:=n) (show 0<2 by decide); omega
  show 2 * (Huff.fst l n+Huff.cnt l n)≤_
  have e:2 ^ (n+1+1) - 2=2 * (2 ^ (n+1) - 2)+2:=by rw [Nat.pow_succ]; omega
  rw [e]
  generalize 2 ^ (n+1) - 2=P at *
  have:l.length * (2 * P+2)=2 * (l.length * P)+2 * l.length:=by rw [Nat.mul_add,Nat.mul_left_comm,Nat.mul_comm l.length 2]
  omega
theorem rE {l:List Nat} (hl:l.length≤320) {n:Nat} (hn:n≤15):Huff.fst l n≤320 * 65536:=by
 refine Nat.le_trans (aAV l n) (Nat.mul_le_mul hl ?_)
 have:2 ^ (n+1)≤65536:=Nat.pow_le_pow_right (n:=2) (by decide) (show n+1≤16 by omega)
 omega
def tab (c f:List Nat):List AV:=bB c++bB f
theorem dT {c f:List Nat} (hc:c.length=16) (hf:f.length=16):32=(tab c f).length:=by simp [tab,aT,hc,hf]
theorem rV {c f:List Nat} (hc:c.length=16) {n x:Nat} (hx:c[n]? = some x):(tab c f)[n]? = some (iN x):=by
 have:=aI hx
 unfold tab
 rw [List.getElem?_append_left (by rw [aT]; omega)]; exact hP hx
theorem xH {c f:List Nat} (hc:c.length=16) {n x:Nat} (hx:f[n]? = some x):(tab c f)[16+n]? = some (iN x):=by
 unfold tab
 rw [List.getElem?_append_right (by rw [aT]; omega),aT,hc,Nat.add_sub_cancel_left]; exact hP hx
theorem aBV {c f:List Nat} (hc:c.length=16) {n x:Nat} (hn:n<16):(tab c f).set n (iN x)=tab (c.set n x) f:=by
 unfold tab
 rw [List.set_append_left _ _ (by rw [aT]; omega),iZ]
theorem aAI {c f:List Nat} (hc:c.length=16) {n x:Nat}:(tab c f).set (16+n) (iN x)=tab c (f.set n x):=by
 unfold tab
 rw [List.set_append_right _ _ (by rw [aT]; omega),aT,hc,Nat.add_sub_cancel_left,iZ]
theorem aD0 (c f:List Nat):(tab c f).all AV.cellOK=true:=by unfold tab; rw [List.all_append,jX,jX] <;> rfl
section
variable [XR] {h:aA} {Q:AV→aA→Prop} {v:AV} {l:List Nat}
theorem zH (hl : l.length ≤ 320) {h0 : aA} {a b : Nat} (hab : a ≠ b) (ha : h0.length ≤ a) (hb : h0.length ≤ b) (hq : ∀ h', Upd (fun _ => False) h0 h' → Q (.ag (tab (d9 l) ((List.range 16).map (Huff.fst l)))) h') :
  ∀ (m n:Nat) (h:aA) (ca:List AV),n+m=16→1≤n→Upd (fun _=>False) h0 h→bC h a ca→ca.length=32→bC h b (tab (d9 l) (j6 l n))→Y7.p2 (aK h0 Q) (.p (some ⟨a,32,0⟩)) (.p (some ⟨b,32,0⟩)) n h:=by
 intro m
 induction m with
 | zero =>
  intro n h ca hn h1 U Ra hca Rb
  obtain rfl:n=16:=by omega
  rw [aA6] at Rb
  refine Y7.i2 ?_
  simp only [Y7.t2]
  refine aV (by simp) ?_
  have tl:=dT (b7 l) (f:=(List.range 16).map (Huff.fst l)) (by simp)
  refine dH Rb tl (gY Ra hca.symm tl.symm (aD0 _ _) fun h1 l1 U1 R1=>dH R1 tl ?_)
  exact .inl (hq h1 (U.own U1 ha))
 | succ m ih =>
  intro n h ca hn h1 U Ra hca Rb
  refine Y7.i2 ?_
  simp only [Y7.t2,bH, ← Y7.p2.eq_1]
  refine bA (by simp; omega) ?_
  have tl:=dT (b7 l) (gN l n)
  have c1:=kJ l (n - 1)
  have f1:=rE hl (n:=n - 1) (by omega)
  refine dM (n:=((n - 1:Nat):Int)) (by omega) (by omega) (by omega) ?_
  refine ⟨by omega,by omega, ?_⟩
  refine aE Rb tl (o:=0+16+((n - 1:Nat):Int).toNat * 1) (v:=iN (Huff.fst l (n - 1))) ?_ (aD ?_)
  ·rw [Int.toNat_natCast,Nat.mul_one,Nat.zero_add]; exact xH (b7 l) (rY l (by omega) (by omega))
  refine dM (n:=((n - 1:Nat):Int)) (by omega) (by omega) (by omega) ?_
  refine ⟨by omega,by omega, ?_⟩
  refine aE Rb tl (o:=0+0+((n - 1:Nat):Int).toNat * 1) (v:=iN (Huff.cnt l (n - 1))) ?_ (aD ?_)
  ·rw [Int.toNat_natCast,Nat.mul_one,Nat.zero_add]; exact rV (b7 l) (lL l (by omega))
  refine dM (n:=((Huff.fst l (n - 1)+Huff.cnt l (n - 1):Nat):Int)) (by omega) (by omega) (by omega) ?_
  have sh:∀ K:Int→Prop,K ((Huff.fst l n:Nat):Int)→nQ .i64 ((Huff.fst l (n - 1)+Huff.cnt l (n - 1):Nat):Int) 1 K:=fun K hk=>by
   obtain ⟨k,rfl⟩:∃ k,n=k+1:=⟨n - 1,by omega⟩
   refine mN (b:=1) (by omega) (by simp at c1 f1 ⊢; omega) ?_
   have:(Huff.fst l (k+1 - 1)+Huff.cnt l (k+1 - 1)) * 2 ^ 1=Huff.fst l (k+1):=by
    show _=2 * (Huff.fst l k+Huff.cnt l k)
    simp; omega
   rw [this]; exact hk
  refine sh _ ?_
  refine ⟨by omega,by omega, ?_⟩
  refine aR Rb tl (o:=0+16+(n:Int).toNat * 1) (by rw [← tl]; simp; omega) (hk:=fun h1 l1 U1 R1=>?_)
  refine inc (by omega) (ih (n+1) h1 ca (by omega) (by omega) (U.own U1 hb) (Ra.upd U1 hab) hca ?_)
  rw [Int.toNat_natCast,Nat.mul_one,Nat.zero_add,aAI (b7 l),aBF (by omega)] at R1
  exact R1
theorem zE (hl:l.length≤320) (h15:∀ x∈l,x≤15) {h0:aA} (R0:RdI 1 h0 v (bB l) l.length) {a b:Nat} (hab:a≠b) (ha:h0.length≤a) (hb:h0.length≤b) (hq:∀ h',Upd (fun _=>False) h0 h'→Q (.ag (tab (d9 l) ((List.range 16).map (Huff.fst l)))) h') :
  ∀ (m i:Nat) (h:aA) (ca:List AV),i+m=l.length→Upd (fun _=>False) h0 h→bC h a ca→ca.length=32→bC h b (tab (d9 (l.take i)) (j6 l 1))→Y7.p0 (aK h0 Q) (.p (some ⟨a,32,0⟩)) (.p (some ⟨b,32,0⟩)) v l.length i h:=by
 intro m
 induction m with
 | zero =>
  intro i h ca hi U Ra hca Rb
  obtain rfl:i=l.length:=by omega
  rw [List.take_length] at Rb
  refine Y7.i0 ?_
  simp only [Y7.t0, ← Y7.p2.eq_1]
  exact aV (by simp) (zH hl hab ha hb hq 15 1 h ca (by omega) (by omega) U Ra hca Rb)
 | succ m ih =>
  intro i h ca hi U Ra hca Rb
  obtain ⟨x,hx⟩:∃ x,l[i]? = some x:=⟨_,List.getElem?_eq_getElem (by omega)⟩
  have hx15:x≤15:=h15 x (List.mem_of_getElem? hx)
  have c1:=kJ (l.take i) x
  rw [List.length_take] at c1
  have nxt:∀ h',Upd (fun _=>False) h0 h'→bC h' a ca→bC h' b (tab (d9 (l.take (i+1))) (j6 l 1))→Y7.p1 (aK h0 Q) (.p (some ⟨a,32,0⟩)) (.p (some ⟨b,32,0⟩)) v l.length i h':=fun h' U' Ra' Rb'=>by
   refine Y7.i1 ?_
   simp only [Y7.t1, ← Y7.p0.eq_1]
   exact inc (by omega) (ih (i+1) h' ca (by omega) U' Ra' hca Rb')
  rw [fH hx] at nxt
  refine Y7.i0 ?_
  simp only [Y7.t0,bH, ← Y7.p1.eq_1]
  refine bA (by simp; omega) (j1 (R0.ext U) hx ?_)
  have tl:=dT (b7 (l.take i)) (gN l 1)
  refine aP (fun e=>?_) fun e=>?_
  ·have e : 0 < x := by simp at e; omega
   refine ⟨by omega,by omega, ?_⟩
   refine aE Rb tl (o:=0+0+(x:Int).toNat * 1) (v:=iN (Huff.cnt (l.take i) x)) ?_ (aD (inc (by omega) ?_))
   ·rw [Int.toNat_natCast,Nat.mul_one,Nat.zero_add]; exact rV (b7 _) (lL _ (by omega))
   refine ⟨by omega,by omega, ?_⟩
   refine aR Rb tl (o:=0+0+(x:Int).toNat * 1) (by rw [← tl]; simp; omega) (hk:=fun h1 l1 U1 R1=>?_)
   refine nxt h1 (U.own U1 hb) (Ra.upd U1 hab) ?_
   rw [Int.toNat_natCast,Nat.mul_one,Nat.zero_add,Nat.zero_add,aBV (b7 _) (by omega),y8 e (by omega)] at R1
   exact R1
  ·have e : x = 0 := by simp at e; omega
   subst e
   rw [vO] at nxt
   exact nxt h U Ra Rb
theorem xD (hl:l.length≤320) (h15:∀ x∈l,x≤15) (R:RdI 1 h v (bB l) l.length) (hq:∀ h',Upd (fun _=>False) h h'→Q (.ag (tab (d9 l) ((List.range 16).map (Huff.fst l)))) h'):C Y7.id [v] h Q:=by
 refine Y7.call ?_
 simp only [Y7.t, ← Y7.p0.eq_1]
 refine cF fun h1 l1 U1 R1=>cF fun h2 l2 U2 R2=>R.len ?_
 have U:=U1.then U2
 refine zE hl h15 R (by omega) (Nat.le_refl _) (by omega) hq l.length 0 h2 _ (by omega) U (R1.upd U2 fun h=>h) rfl ?_
 rw [aAG]
 exact R2
end
end Go.Proofs.YtpaphfeihpgamaaDoor
namespace Go.Proofs.YtpaphfeihpgamaaDoor
open Go.GAM
theorem mG (n x:Nat):∀ (r:List Nat) (i:Nat),iY n (r++[x]) i=iY n r i++(if x=n then [i+r.length] else [])
 | [], i => by
  by_cases h:x=n <;> simp [iY,h]
 | y :: r, i => by
  have:=mG n x r (i+1)
  have e:i+1+r.length=i+(r.length+1):=by omega
  rw [e] at this
  simp only [List.cons_append,iY,List.length_cons]
  by_cases h:y=n
  ·rw [if_pos h,if_pos h,this] <;> rfl
  ·rw [if_neg h,if_neg h,this]
theorem lT (n:Nat):∀ (r:List Nat) (i:Nat),(iY n r i).length=r.countP (· == n)
 | [],i=>rfl
 | y :: r, i => by
  unfold iY
  rw [List.countP_cons]
  by_cases h:y=n
  ·rw [if_pos h,List.length_cons,lT n r]; simp [h]
  ·rw [if_neg h,lT n r]; simp [h]
theorem jJ (n:Nat):∀ (r:List Nat) (i k:Nat),Huff.pickFrom n r i k=(iY n r i)[k]?
 | [],i,k=>by simp [Huff.pickFrom,iY]
 | y :: r, i, k => by
  unfold Huff.pickFrom iY
  by_cases h:y=n
  ·rw [if_pos h, if_pos h]
   cases k with
   | zero=>rfl
   | succ k=>rw [if_neg (by omega),jJ n r] <;> rfl
  ·rw [if_neg h,if_neg h,jJ n r]
theorem aDB (l:List Nat) (n k:Nat):Huff.pick l n k=(vI l n)[k]?:=jJ n l 0 k
theorem s0 (l:List Nat) (n:Nat):(vI l (n+1)).length=Huff.cnt l (n+1):=lT _ _ _
theorem fT (l:List Nat) (n:Nat):eG l (n+1)=eG l n++vI l (n+1):=by simp [eG,List.range_succ]
theorem nC (l:List Nat) (n:Nat):cT l (n+1)=cT l n+Huff.cnt l n:=by simp [cT,List.range_succ]
theorem fQ (l:List Nat):∀ n,(eG l n).length=cT l (n+1)
 | 0=>rfl
 | n+1=>by rw [fT,List.length_append,fQ l n,s0,nC l (n+1)]
theorem mI (l:List Nat):∀ n,cT l n≤n * l.length
 | 0=>Nat.zero_le _
 | n + 1 => by
  have:=mI l n
  have:=kJ l n
  rw [nC,Nat.succ_mul]; omega
theorem o6 (l:List Nat) (n:Nat):∀ m, ∃ t,eG l (n+m)=eG l n++t
 | 0=>⟨[],by simp⟩
 | m + 1 => by
  obtain ⟨t,ht⟩:=o6 l n m
  exact ⟨t++vI l (n+m+1),by rw [show n+(m+1)=n+m+1 by omega,fT,ht,List.append_assoc]⟩
theorem aCK {l:List Nat} {n k j:Nat} (h0:0<n) (h:n≤15) (hp:Huff.pick l n k=some j):(eG l 15)[cT l n+k]? = some j:=by
 obtain ⟨n,rfl⟩:∃ m,n=m+1:=⟨n - 1,by omega⟩
 obtain ⟨t,ht⟩:=o6 l (n+1) (15 - (n+1))
 rw [show n+1+(15 - (n+1))=15 by omega,fT l n] at ht
 rw [aDB] at hp
 have hlt:=aI hp
 rw [ht,List.append_assoc,List.getElem?_append_right (by rw [fQ]; omega),fQ,Nat.add_sub_cancel_left,List.getElem?_append_left hlt]
 exact hp
def lg (l:List Nat):Nat→Nat
 | 0=>0
 | n+1=>if vI l (n+1)=[] then lg l n else n+1
theorem iP {l : List Nat} (h15 : ∀ x ∈ l, x ≤ 15) : lg l 15 = Huff.longest l := by
 have key:∀ n,lg l n≤n∧(∀ x∈l,x≤n→x≤lg l n)∧(lg l n=0∨lg l n∈l):=by
  intro n
  induction n with
  | zero=>exact ⟨Nat.le_refl _,fun x _ h=>h,.inl rfl⟩
  | succ n ih =>
   unfold lg
   have hc:=s0 l n
   by_cases he:vI l (n+1)=[]
   ·rw [if_pos he]
    rw [he] at hc
    have h0:List.countP (· == n+1) l=0:=hc.symm
    refine ⟨by omega,fun x hx hxn=>?_,ih.2.2⟩
    have:¬ x=n+1:=by have:=List.countP_eq_zero.1 h0 x hx; simpa using this
    exact ih.2.1 x hx (by omega)
   ·rw [if_neg he]
    refine ⟨Nat.le_refl _,fun x _ h=>h,.inr ?_⟩
    have:0<List.countP (· == n+1) l:=by
     have e:Huff.cnt l (n+1)=List.countP (· == n+1) l:=rfl
     rw [← e, ← hc]
     exact List.length_pos_iff.2 he
    obtain ⟨x,hx,hxe⟩:=List.countP_pos_iff.1 this
    have:x=n+1:=by simpa using hxe
    exact this ▸ hx
 obtain ⟨h1,h2,h3⟩:=key 15
 have a:Huff.longest l≤lg l 15:=by
  have:∀ (r:List Nat) (a b:Nat),a≤b→(∀ x∈r,x≤b)→r.foldl max a≤b:=by
   intro r
   induction r with
   | nil=>intro a b h _; exact h
   | cons y r ih=>intro a b h hr; exact ih _ _ (by have:=hr y (by simp); omega) fun x hx=>hr x (by simp [hx])
  exact this l 0 _ (Nat.zero_le _) fun x hx=>h2 x hx (h15 x hx)
 have b:lg l 15≤Huff.longest l:=by
  rcases h3 with h | h
  ·rw [h]; exact Nat.zero_le _
  ·exact Huff.le_longest h
 omega
def d8 (l:List Nat) (n:Nat):List Nat:=(List.range 16).map fun j=>if j<n then cT l j else 0
theorem dX (l:List Nat) (n:Nat):(d8 l n).length=16:=by simp [d8]
theorem qH (l:List Nat) {n k:Nat} (h:k<16) (h2:k<n):(d8 l n)[k]? = some (cT l k):=by simp [d8,h,h2]
theorem vM {l:List Nat} {n:Nat} (h:n<16):(d8 l n).set n (cT l n)=d8 l (n+1):=by
 refine List.ext_getElem? fun j=>?_
 rw [List.getElem?_set]
 by_cases hj:j<16
 ·by_cases e : n = j
  ·subst e; rw [if_pos rfl,if_pos (by rw [dX]; exact h),qH _ h (by omega)]
  ·rw [if_neg e]
   simp [d8,hj]
   by_cases hjn:j<n
   ·rw [if_pos hjn,if_pos (by omega)]
   ·rw [if_neg hjn,if_neg (by omega)]
 ·rw [if_neg (by omega),List.getElem?_eq_none (by rw [dX]; omega),List.getElem?_eq_none (by rw [dX]; omega)]
theorem uO (l:List Nat):d8 l 16=(List.range 16).map (cT l):=List.map_congr_left fun j hj=>by rw [if_pos (List.mem_range.1 hj)]
theorem uP (l:List Nat):d8 l 1=List.replicate 16 0:=by
 refine List.ext_getElem? fun j=>?_
 by_cases hj:j<16
 ·by_cases e : j = 0
  ·subst e; rw [qH _ (by omega) (by omega)] <;> rfl
  ·rw [show (d8 l 1)[j]? = some 0 from by simp [d8,hj,e]]; rw [List.getElem?_replicate,if_pos hj]
 ·rw [List.getElem?_eq_none (by rw [dX]; omega),List.getElem?_eq_none (by simp; omega)]
def dU (c f:List Nat) (sym:AV) (s:List Nat) (g x n:Nat):List AV:=(tab c f++[sym])++(bB s++[iN g,iN x,iN n])
section
variable {c f s:List Nat} {sym:AV} {g x n:Nat}
theorem g9 (hc:c.length=16) (hf:f.length=16):(tab c f++[sym]).length=33:=by rw [List.length_append, ← dT hc hf] <;> rfl
theorem cJ (hc:c.length=16) (hf:f.length=16) (hs:s.length=16):52=(dU c f sym s g x n).length:=by
 unfold dU
 rw [List.length_append,g9 hc hf,List.length_append,aT,hs] <;> rfl
theorem aDE (hc:c.length=16) (hf:f.length=16) {i y:Nat} (hx:c[i]? = some y):(dU c f sym s g x n)[i]? = some (iN y):=by
 have:=aI hx
 unfold dU
 rw [List.getElem?_append_left (by rw [g9 hc hf]; omega),List.getElem?_append_left (by rw [← dT hc hf]; omega)]; exact rV hc hx
theorem sH (hc:c.length=16) (hf:f.length=16) {i y:Nat} (hx:f[i]? = some y):(dU c f sym s g x n)[16+i]? = some (iN y):=by
 have:=aI hx
 unfold dU
 rw [List.getElem?_append_left (by rw [g9 hc hf]; omega),List.getElem?_append_left (by rw [← dT hc hf]; omega)]; exact xH hc hx
theorem rN (hc:c.length=16) (hf:f.length=16):(dU c f sym s g x n)[32]? = some sym:=by
 unfold dU
 rw [List.getElem?_append_left (by rw [g9 hc hf]; omega),List.getElem?_append_right (by rw [← dT hc hf]; omega), ← dT hc hf] <;> rfl
theorem zL (hc:c.length=16) (hf:f.length=16) {i y:Nat} (hx:s[i]? = some y):(dU c f sym s g x n)[33+i]? = some (iN y):=by
 have:=aI hx
 unfold dU
 rw [List.getElem?_append_right (by rw [g9 hc hf]; omega),g9 hc hf,Nat.add_sub_cancel_left,List.getElem?_append_left (by rw [aT]; omega)]; exact hP hx
theorem eT (hc:c.length=16) (hf:f.length=16) (hs:s.length=16) {i:Nat}:(dU c f sym s g x n)[49+i]? = [iN g,iN x,iN n][i]?:=by
 unfold dU
 rw [List.getElem?_append_right (by rw [g9 hc hf]; omega),g9 hc hf,List.getElem?_append_right (by rw [aT]; omega),aT,hs]
 congr 1
 omega
theorem zX (hc:c.length=16) (hf:f.length=16) {v:AV}:(dU c f sym s g x n).set 32 v=dU c f v s g x n:=by
 unfold dU
 rw [List.set_append_left _ _ (by rw [g9 hc hf]; omega),List.set_append_right _ _ (by rw [← dT hc hf]; omega), ← dT hc hf] <;> rfl
theorem aAY (hc:c.length=16) (hf:f.length=16) {i y:Nat} (hi:i<s.length):(dU c f sym s g x n).set (33+i) (iN y)=dU c f sym (s.set i y) g x n:=by
 unfold dU
 rw [List.set_append_right _ _ (by rw [g9 hc hf]; omega),g9 hc hf,Nat.add_sub_cancel_left,List.set_append_left _ _ (by rw [aT]; exact hi),iZ]
theorem jO (hc:c.length=16) (hf:f.length=16) (hs:s.length=16) {i:Nat} {v:AV}:(dU c f sym s g x n).set (49+i) v=(tab c f++[sym])++(bB s++[iN g,iN x,iN n].set i v):=by
 unfold dU
 rw [List.set_append_right _ _ (by rw [g9 hc hf]; omega),g9 hc hf,List.set_append_right _ _ (by rw [aT]; omega),aT,hs,show 49+i - 33 - 16=i by omega]
end
theorem tG:∀ (cs pre z1 z2:List AV),z1.length=cs.length→(cs.zipIdx pre.length).foldl (fun a (p:AV × Nat)=>a.set (0+p.2) p.1) (pre++(z1++z2))=pre++(cs++z2)
 | [], pre, z1, z2, h => by
  have:z1=[]:=List.eq_nil_of_length_eq_zero h
  subst this; rfl
 | c :: cs,pre,[],z2,h=>by simp at h
 | c :: cs, pre, z :: z1, z2, h => by
  rw [List.zipIdx_cons,List.foldl_cons]
  have e:(pre++(z :: z1++z2)).set (0+pre.length) c=(pre++[c])++(z1++z2):=by
   rw [Nat.zero_add,List.set_append_right _ _ (Nat.le_refl _)]; simp
  have:=tG cs (pre++[c]) z1 z2 (by simpa using h)
  simp only at this ⊢
  rw [e]
  rw [show (pre++[c]).length=pre.length+1 by simp] at this
  rw [this]; simp
theorem uM {z1 z2 cs:List AV} (h:z1.length=cs.length):e6 (z1++z2) [(0,cs.length,.ag cs)]=some (cs++z2):=by
 unfold e6
 have hc:((AV.ag cs).sizeOK&&(AV.ag cs).parts.length == cs.length&&decide (0+(AV.ag cs).parts.length≤(z1++z2).length))=true:=by
  have e1:(AV.ag cs).parts=cs:=rfl
  have e2:(AV.ag cs).sizeOK=true:=rfl
  rw [e1,e2]; simp; omega
 simp only [hc,if_true]
 unfold e6
 congr 1
 exact tG cs [] z1 z2 h
theorem aDZ {c f:List Nat} (hc:c.length=16) (hf:f.length=16):e6 (List.replicate 32 (iN 0)++([.sl none 0 none]++List.replicate 19 (iN 0))) [(0,32,.ag (tab c f))]=some (dU c f (.sl none 0 none) (List.replicate 16 0) 0 0 0):=by
 have:=uM (z1:=List.replicate 32 (iN 0)) (z2:=[.sl none 0 none]++List.replicate 19 (iN 0)) (cs:=tab c f) (by rw [← dT hc hf]; simp)
 rw [← dT hc hf] at this
 rw [this]
 unfold dU
 rw [List.append_assoc] <;> rfl
theorem dZ (l:List Nat) (sym:AV) (n x:Nat):cS l sym n x=dU (d9 l) ((List.range 16).map (Huff.fst l)) sym ((List.range 16).map (cT l)) (Huff.longest l) x n:=by
 simp [cS,dU,tab,d9]
section
variable [XR] {h:aA} {Q:AV→aA→Prop} {v:AV} {l:List Nat}
theorem xX:((List.range 16).map (Huff.fst l)).length=16:=by simp
theorem aB6 (hl : l.length ≤ 320) (h15 : ∀ x ∈ l, x ≤ 15) (hok : Huff.checkP l = 0) {h0 : aA} (R0 : RdI 1 h0 v (bB l) l.length) {id : Nat} (hid : h0.length ≤ id) (hq : ∀ h' sym, Upd (fun _ => False) h0 h' → bZ h' (fun i => h0.length ≤ i) id l sym 0 0 → Q (.tu [cp id, iN 0]) h') :
  ∀ (m n:Nat) (h:aA) (sym:AV),n+1+m=16→Upd (fun _=>False) h0 h→bC h id (dU (d9 l) ((List.range 16).map (Huff.fst l)) sym (d8 l (n+1)) (lg l n) 0 0)→Stk h sym (bB (eG l n))→(∀ i,aQ sym i→h0.length≤i∧i≠id) →
  Y6.p0 (aK h0 Q) v (cp id) ((n+1:Nat):Int) h:=by
 intro m
 induction m with
 | zero =>
  intro n h sym hn U R S N
  obtain rfl:n=15:=by omega
  refine Y6.i0 ?_
  simp only [Y6.t0]
  refine aV (by simp) (.inl (hq h sym U ?_))
  refine ⟨?_, ?_,hid,fun i hi=>⟨(N i hi).1,(N i hi).2,S.rd.lt hi⟩,hok,hl,h15⟩
  ·rw [dZ, ← iP h15, ← uO]; exact R
  ·have := S.rd.i
   rw [aT] at this
   exact this
 | succ m ih =>
  intro n h sym hn U R S N
  have hst:=mI l (n+1)
  have hst2:(n+1) * l.length≤15 * 320:=Nat.mul_le_mul (by omega) hl
  refine Y6.i0 ?_
  simp only [Y6.t0,bI,bH, ← Y6.p1.eq_1]
  refine bA (by simp; omega) ?_
  have cl:=b7 l
  have fl:=xX (l:=l)
  have sl:=dX l (n+1)
  refine aE R (cJ cl fl sl) (rN cl fl) (S.rd.len ?_)
  refine ⟨by omega,by omega, ?_⟩
  refine aR R (cJ cl fl sl) (o:=0+33+((n+1:Nat):Int).toNat * 1) (by rw [← cJ cl fl sl]; simp; omega) (hk:=fun h1 l1 U1 R1=>?_)
  rw [Int.toNat_natCast,Nat.mul_one,Nat.zero_add,aT,fQ,aAY cl fl (by rw [dX]; omega),vM (by omega)] at R1
  have inn:∀ (k i:Nat) (h:aA) (sym:AV),i+k=l.length→Upd (fun _=>False) h0 h→bC h id (dU (d9 l) ((List.range 16).map (Huff.fst l)) sym (d8 l (n+2)) (if iY (n+1) (l.take i) 0=[] then lg l n else n+1) 0 0) →
    Stk h sym (bB (eG l n++iY (n+1) (l.take i) 0))→(∀ i,aQ sym i→h0.length≤i∧i≠id)→Y6.p1 (aK h0 Q) v (cp id) ((n+1:Nat):Int) v l.length i h:=by
   intro k
   induction k with
   | zero =>
    intro i h sym hi U R S N
    obtain rfl:i=l.length:=by omega
    rw [List.take_length] at R S
    refine Y6.i1 ?_
    simp only [Y6.t1, ← Y6.p0.eq_1]
    refine aV (by simp) (inc (by omega) (ih (n+1) h sym (by omega) U R ?_ N))
    rw [fT]; exact S
   | succ k ihk =>
    intro i h sym hi U R S N
    obtain ⟨x,hx⟩:∃ x,l[i]? = some x:=⟨_,List.getElem?_eq_getElem (by omega)⟩
    have sl:=dX l (n+2)
    have nxt:∀ h' sym',Upd (fun _=>False) h0 h'→bC h' id (dU (d9 l) ((List.range 16).map (Huff.fst l)) sym' (d8 l (n+2)) (if iY (n+1) (l.take i++[x]) 0=[] then lg l n else n+1) 0 0) →
      Stk h' sym' (bB (eG l n++iY (n+1) (l.take i++[x]) 0))→(∀ i,aQ sym' i→h0.length≤i∧i≠id)→Y6.p2 (aK h0 Q) v (cp id) ((n+1:Nat):Int) v l.length i h':=fun h' sym' U' R' S' N'=>by
     refine Y6.i2 ?_
     simp only [Y6.t2, ← Y6.p1.eq_1]
     rw [← fH hx] at R' S'
     exact inc (by omega) (ihk (i+1) h' sym' (by omega) U' R' S' N')
    refine Y6.i1 ?_
    simp only [Y6.t1,bI,bH, ← Y6.p2.eq_1]
    refine bA (by simp; omega) (j1 (R0.ext U) hx ?_)
    refine aP ?_ ?_ <;> intro e
    ·have e : x = n + 1 := by simp at e; omega
     rw [mG,if_pos e] at nxt
     have hil:(iY (n+1) (l.take i) 0).length≤320:=by rw [lT]; refine Nat.le_trans List.countP_le_length ?_; simp; omega
     have hll:(eG l n).length≤4800:=by rw [fQ]; omega
     refine aE R (cJ cl fl sl) (rN cl fl) ?_
     refine S.push rfl rfl (by rw [aT]; simp; omega) (by rw [aT]; simp; omega) fun sym' h2 U2 S2 N2=>?_
     have R2:=R.upd U2 fun hh=>(N id hh).2 rfl
     refine aR R2 (cJ cl fl sl) (by rw [← cJ cl fl sl]; omega) (hv:=by rcases S2 with ⟨rfl,_⟩ | ⟨id,b,rfl,_⟩ <;> rfl) (hs:=by rcases S2 with ⟨rfl,_⟩ | ⟨id,b,rfl,_⟩ <;> rfl) (hc:=by rcases S2 with ⟨rfl,_⟩ | ⟨id,b,rfl,_⟩ <;> rfl) (hk:=fun h3 l3 U3 R3=>?_)
     rw [Nat.zero_add,zX cl fl] at R3
     refine aR R3 (cJ cl fl sl) (by rw [← cJ cl fl sl]; omega) (hk:=fun h4 l4 U4 R4=>?_)
     rw [Nat.zero_add,show 49=49+0 from rfl,jO cl fl sl] at R4
     have hidh:=R.lt
     have ne:∀ i,aQ sym' i→h0.length≤i∧i≠id:=fun i hi=>by
      rcases N2 i hi with g | g
      ·exact N i g
      ·have:=U.1; exact ⟨by omega,by omega⟩
     refine nxt h4 sym' (((U.ownP U2 fun i hi=>(N i hi).1).own U3 hid).own U4 hid) ?_ ?_ ne
     ·rw [if_neg (by simp)]; exact R4
     ·rw [← List.append_assoc, eQ, show bB [0 + (l.take i).length] = [iN i] by simp [bB]; omega]
      exact (S2.upd U3 fun i hi e=>(ne i hi).2 e).upd U4 fun i hi e=>(ne i hi).2 e
    ·have e : ¬ x = n + 1 := by simp at e; omega
     rw [mG,if_neg e,List.append_nil] at nxt
     exact nxt h sym U R S N
  refine R0.len ?_
  refine inn l.length 0 h1 sym (by omega) (U.own U1 hid) ?_ ?_ N
  ·exact R1
  ·rw [show iY (n+1) (l.take 0) 0=[] from rfl,List.append_nil]; exact S.upd U1 fun i hi e=>(N i hi).2 e
theorem oD (R:RdI 1 h v (bB l) l.length) (hl:l.length≤320) (h15:∀ x∈l,x≤15) (hq0:Huff.checkP l≠0→∀ e:Int,e≠0→Q (.tu [.p none,.i .i64 e]) h)
  (hq:Huff.checkP l=0→∀ h' id sym,Upd (fun _=>False) h h'→bZ h' (fun i=>h.length≤i) id l sym 0 0→Q (.tu [cp id,iN 0]) h'):C Y6.id [v] h Q:=by
 refine Y6.call ?_
 simp only [Y6.t, ← Y6.p0.eq_1]
 refine wV R hl h15 (aD ?_)
 by_cases hok:Huff.checkP l=0
 ·have e : gJ l = 0 := by simp only [gJ, hok]
  rw [e]
  refine aV rfl (xD hl h15 R fun h1 U1=>?_)
  refine aDW (aDZ (c:=d9 l) (f:=(List.range 16).map (Huff.fst l)) (b7 l) xX) ?_
  refine bT (hk:=fun h2 l2 U2 R2=>?_)
  have U:=U1.then U2
  have hlen:(AV.ag (dU (d9 l) ((List.range 16).map (Huff.fst l)) (.sl none 0 none) (List.replicate 16 0) 0 0 0)).parts.length=52:=(cJ (b7 l) xX (by simp)).symm
  rw [hlen]
  refine aB6 hl h15 hok R (id:=h1.length) U1.1 (fun h' sym=>hq hok h' _ sym) 15 0 h2 _ (by omega) U ?_ (.inl ⟨rfl,rfl⟩) fun i hi=>hi.elim
  rw [uP]
  exact R2
 ·have e : gJ l ≠ 0 := by
   unfold gJ
   split
   ·contradiction
   ·decide
   ·decide
  refine bA (by simp [e]) (.inl (hq0 hok _ e))
theorem aEA (x:Nat) {b:Nat} (hb:b<2):2 * x ||| b=2 * x+b:=(Nat.two_pow_add_eq_or_of_lt (i:=1) hb x).symm
theorem aCA {b:Nat} (hb:b<2):b &&& 1=b:=by
 obtain rfl | rfl:b=0∨b=1:=by omega
 ·rfl
 ·rfl
theorem aAH {h0':aA} {G:Nat→Prop} {id n x s:Nat} {sym:AV} {b:Bool} {e:Int} {ca:List AV} (hc:cS l sym 0 0=(ca.set 50 (iN 0)).set 51 (iN 0)) (hl:ca.length=52) (R:bC h id ca) (hq:∀ h',Upd (· = id) h h'→bC h' id (cS l sym 0 0)→Q (.tu [iN s,.b b,.i .i64 e]) h') :
  Y15.p1 (aK h0' Q) (cp id) s b e h:=by
 refine Y15.i1 ?_
 simp only [Y15.t1,bI,bH]
 refine aR R hl.symm (by rw [hl]; omega) (hk:=fun h1 l1 U1 R1=>?_)
 refine aR R1 (by simp [hl]) (by simp [hl]) (hk:=fun h2 l2 U2 R2=>?_)
 refine .inl (hq h2 (U1.trans U2 fun _ _ h=>h) ?_)
 rw [hc]
 exact R2
end
end Go.Proofs.YtpaphfeihpgamaaDoor
namespace Go.Proofs.YtpaphfeihpgamaaDoor
open Go.GAM
section
variable [XR] {h:aA} {Q:AV→aA→Prop} {l:List Nat}
omit [XR] in
theorem wD {f:Nat→Nat} {n:Nat} (h:n<16):((List.range 16).map f)[n]? = some (f n):=by simp [h]
theorem aC9 {h0' : aA} {G : Nat → Prop} {id N X : Nat} {sym : AV} {t : Bool} (A : bZ h G id l sym N X) (hN0 : 0 < N) (hN : N ≤ 16) (hX : X < 2 ^ 16) (ht : t = decide (N ≤ Huff.longest l ∧ X - Huff.fst l N < Huff.cnt l N ∧ Huff.fst l N ≤ X))
  (hq:∀ h',Upd (· = id) h h'→match Huff.stepP l N X with
   | .sym i=>bC h' id (cS l sym 0 0)→i<l.length→Q (.tu [iN i,.b true,iN 0]) h'
   | .more=>bC h' id (cS l sym N X)→Q (.tu [iN 0,.b false,iN 0]) h'
   | .bad=>bC h' id (cS l sym 0 0)→Q (.tu [iN 0,.b false,iN 2]) h'):Y15.p0 (aK h0' Q) (cp id) 0 false 0 N t h:=by
 have R:=A.recd
 have hlong:Huff.longest l≤15:=by
  rw [← iP A.le]
  have:∀ n,lg l n≤n:=by
   intro n
   induction n with
   | zero=>exact Nat.le_refl _
   | succ n ih=>unfold lg; split <;> omega
  exact this 15
 have cl:=b7 l
 have fl:=xX (l:=l)
 have sl:((List.range 16).map (cT l)).length=16:=by simp
 rw [dZ] at R
 have tl:=cJ (sym:=sym) (g:=Huff.longest l) (x:=X) (n:=N) cl fl sl
 have fin:∀ {s:Nat} {b:Bool} {e:Int},(∀ h',Upd (· = id) h h'→bC h' id (cS l sym 0 0)→Q (.tu [iN s,.b b,.i .i64 e]) h')→Y15.p1 (aK h0' Q) (cp id) s b e h:=fun {s b e} hf=>by
  refine aAH (l:=l) (sym:=sym) (G:=G) (n:=N) (x:=X) ?_ tl.symm R hf
  rw [dZ,show 50=49+1 from rfl,show 51=49+2 from rfl,jO cl fl sl]
  have:=jO (c:=d9 l) (f:=(List.range 16).map (Huff.fst l)) (sym:=sym) (s:=(List.range 16).map (cT l)) (g:=Huff.longest l) (x:=0) (n:=N) (i:=2) (v:=iN 0) cl fl sl
  unfold dU at this ⊢
  exact this.symm
 refine Y15.i0 ?_
 simp only [Y15.t0,bI,bH, ← Y15.p1.eq_1]
 by_cases hc:N≤Huff.longest l∧X - Huff.fst l N<Huff.cnt l N∧Huff.fst l N≤X
 ·rw [decide_eq_true hc] at ht
  refine bA ht ?_
  obtain ⟨hc1,hc2,hc3⟩:=hc
  obtain ⟨j,hj,_,hjl,_⟩:=Huff.pick_some hN0 hc2
  have hst:Huff.stepP l N X = .sym j:=by
   unfold Huff.stepP
   rw [if_pos ⟨hc1,hc2,hc3⟩,hj] <;> rfl
  rw [hst] at hq
  have hsy:=aCK hN0 (by omega) hj
  have hsl:=aI hsy
  have b1:=mI l N
  have b2:N * l.length≤16 * 320:=Nat.mul_le_mul hN A.len
  have b3:=kJ l N
  have b4:=A.len
  refine aE R tl (rN cl fl) ?_
  refine ⟨by omega,by omega, ?_⟩
  refine aE R tl (o:=33+(N:Int).toNat * 1) (v:=iN (cT l N)) ?_ (aD ?_)
  ·rw [Int.toNat_natCast,Nat.mul_one]; exact zL cl fl (wD (by omega))
  refine aE R tl (o:=49+1) (eT cl fl sl) (aD ?_)
  refine dM (n:=((cT l N+X:Nat):Int)) (by omega) (by omega) (by omega) ?_
  refine ⟨by omega,by omega, ?_⟩
  refine aE R tl (o:=16+(N:Int).toNat * 1) (v:=iN (Huff.fst l N)) ?_ (aD ?_)
  ·rw [Int.toNat_natCast,Nat.mul_one]; exact sH cl fl (wD (by omega))
  refine dM (n:=((cT l N+(X - Huff.fst l N):Nat):Int)) (by omega) (by omega) (by omega) ?_
  refine j1 A.syms hsy ?_
  exact fin fun h' U R'=>hq h' U R' hjl
 ·rw [decide_eq_false hc] at ht
  refine aV ht ?_
  refine aE R tl (o:=49+0) (eT cl fl sl) (aD ?_)
  refine aP ?_ ?_ <;> intro e
  ·have e : N < Huff.longest l := by simp at e; omega
   have hst:Huff.stepP l N X = .more:=by
    unfold Huff.stepP
    rw [if_neg hc,if_pos e]
   rw [hst] at hq
   exact .inl (hq h (Upd.refl _ _) A.recd)
  ·have e : ¬ N < Huff.longest l := by simp at e; omega
   have hst:Huff.stepP l N X = .bad:=by
    unfold Huff.stepP
    rw [if_neg hc,if_neg e]
   rw [hst] at hq
   exact fin (s:=0) (b:=false) (e:=2) fun h' U R'=>hq h' U R'
theorem aEM {G:Nat→Prop} {id n x b:Nat} {sym:AV} (A:bZ h G id l sym n x) (hn:n≤15) (hx:x<2 ^ n) (hb:b<2)
  (hq:∀ h',Upd (· = id) h h'→match Huff.stepP l (n+1) (2 * x+b) with
   | .sym i=>bC h' id (cS l sym 0 0)→i<l.length→Q (.tu [iN i,.b true,iN 0]) h'
   | .more=>bC h' id (cS l sym (n+1) (2 * x+b))→Q (.tu [iN 0,.b false,iN 0]) h'
   | .bad=>bC h' id (cS l sym 0 0)→Q (.tu [iN 0,.b false,iN 2]) h'):C Y15.id [cp id,iN b] h Q:=by
 have R:=A.recd
 have cl:=b7 l
 have fl:=xX (l:=l)
 have sl:((List.range 16).map (cT l)).length=16:=by simp
 rw [dZ] at R
 have tl:=cJ (sym:=sym) (g:=Huff.longest l) (x:=x) (n:=n) cl fl sl
 have hx15:x<2 ^ 15:=Nat.lt_of_lt_of_le hx (Nat.pow_le_pow_right (by decide) hn)
 refine Y15.call ?_
 simp only [Y15.t, ← Y15.p0.eq_1]
 refine eM (by kernel_rfl) (bE (aV rfl ?_))
 simp only [bI,bH]
 refine aE R tl (o:=49+1) (eT cl fl sl) (aD ?_)
 have sh:∀ K:Int→Prop,K ((2 * x:Nat):Int)→nQ .i64 (x:Int) 1 K:=fun K hk=>mN (b:=1) (by omega) (by omega) (by rw [show x * 2 ^ 1=2 * x by omega]; exact hk)
 refine sh _ ?_
 have hand:bP .and .i64 (b:Int) 1=(b:Int):=by
  have:=jC (x:=b) (y:=1) (by omega) (by decide)
  rw [aCA hb] at this
  exact this
 rw [hand]
 have hor:bP .or .i64 ((2 * x:Nat):Int) (b:Int)=((2 * x+b:Nat):Int):=by
  rw [xA (by omega) (by omega),aEA x hb]
 refine aM hor ?_
 refine aE R tl (o:=49+2) (eT cl fl sl) (aD (inc (by omega) ?_))
 refine aR R tl (o:=49+1) (by rw [← tl]; omega) (hk:=fun h1 l1 U1 R1=>?_)
 rw [jO cl fl sl] at R1
 have R1:bC h1 id (dU (d9 l) ((List.range 16).map (Huff.fst l)) sym ((List.range 16).map (cT l)) (Huff.longest l) (2 * x+b) n):=R1
 refine aR R1 (cJ cl fl sl) (o:=49+2) (by rw [← cJ cl fl sl]; omega) (hk:=fun h2 l2 U2 R2=>?_)
 rw [jO cl fl sl] at R2
 have R2:bC h2 id (dU (d9 l) ((List.range 16).map (Huff.fst l)) sym ((List.range 16).map (cT l)) (Huff.longest l) (2 * x+b) (n+1)):=R2
 have U:=U1.trans U2 fun _ _ h=>h
 have A2:bZ h2 G id l sym (n+1) (2 * x+b):={ A with recd:=by rw [dZ]; exact R2,syms:=A.syms.upd U fun i hi e=>(A.gs i hi).2.1 e,gs:=fun i hi=>⟨(A.gs i hi).1,(A.gs i hi).2.1,Nat.lt_of_lt_of_le (A.gs i hi).2.2 U.1⟩ }
 have tl2:=cJ (sym:=sym) (g:=Huff.longest l) (x:=2 * x+b) (n:=n+1) cl fl sl
 have fb:=rE A.len (n:=n+1)
 have hlong:Huff.longest l≤15:=by
  rw [← iP A.le]
  have:∀ n,lg l n≤n:=by
   intro n
   induction n with
   | zero=>exact Nat.le_refl _
   | succ n ih=>unfold lg; split <;> omega
  exact this 15
 have P0:∀ t,t=decide (n+1≤Huff.longest l∧2 * x+b - Huff.fst l (n+1)<Huff.cnt l (n+1)∧Huff.fst l (n+1)≤2 * x+b)→Y15.p0 (aK h Q) (cp id) 0 false 0 ((n+1:Nat):Int) t h2:=fun t ht=>
  aC9 A2 (by omega) (by omega) (by omega) ht fun h' U'=>hq h' (U.trans U' fun _ _ h=>h)
 refine aE R2 tl2 (o:=49+2) (eT cl fl sl) (aD ?_)
 refine aE R2 tl2 (o:=49+0) (eT cl fl sl) (aD ?_)
 refine aP ?_ ?_ <;> intro e
 ·have e : n + 1 ≤ Huff.longest l := by simp at e; omega
  have fb:=fb (by omega)
  have b3:=kJ l (n+1)
  have b4:=A.len
  refine aE R2 tl2 (o:=49+1) (eT cl fl sl) (aD ?_)
  refine ⟨by omega,by omega, ?_⟩
  refine aE R2 tl2 (o:=16+((n+1:Nat):Int).toNat * 1) (v:=iN (Huff.fst l (n+1))) ?_ (aD ?_)
  ·rw [Int.toNat_natCast,Nat.mul_one]; exact sH cl fl (wD (by omega))
  refine dM (n:=((2 * x+b:Nat):Int) - (Huff.fst l (n+1):Nat)) rfl (by omega) (by omega) ?_
  refine ⟨by omega,by omega, ?_⟩
  refine aE R2 tl2 (o:=0+((n+1:Nat):Int).toNat * 1) (v:=iN (Huff.cnt l (n+1))) ?_ (aD ?_)
  ·rw [Int.toNat_natCast,Nat.mul_one,Nat.zero_add]; exact aDE cl fl (lL l (by omega))
  refine aP ?_ ?_ <;> intro e2
  ·refine aE R2 tl2 (o := 49 + 1) (eT cl fl sl) (aD ?_)
   refine ⟨by omega,by omega, ?_⟩
   refine aE R2 tl2 (o:=16+((n+1:Nat):Int).toNat * 1) (v:=iN (Huff.fst l (n+1))) ?_ (aD ?_)
   ·rw [Int.toNat_natCast,Nat.mul_one]; exact sH cl fl (wD (by omega))
   refine P0 _ ?_
   simp only [decide_eq_true_eq] at e2
   rw [decide_eq_decide]; omega
  ·refine P0 _ ?_
   simp only [decide_eq_false_iff_not] at e2
   refine (decide_eq_false ?_).symm
   omega
 ·have e : ¬ n + 1 ≤ Huff.longest l := by simp at e; omega
  refine P0 _ (decide_eq_false fun hh=>e hh.1).symm
end
end Go.Proofs.YtpaphfeihpgamaaDoor
