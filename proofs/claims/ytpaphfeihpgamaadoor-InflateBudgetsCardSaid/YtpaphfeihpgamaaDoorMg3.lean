/- Lemmas (several texts in one). -/
import Derived.Below
import Derived.ChangeArms
import Derived.ChangeSlices
import Derived.DataElems
import Derived.LaidMore
import Derived.Lib.Bytealg
import Derived.Test.YtpaphfeihpgamaaDoorMg2
set_option linter.unusedVariables false
set_option linter.unusedSectionVars false
set_option maxRecDepth 100000
namespace Go.Proofs.YtpaphfeihpgamaaDoor
open Go.GAM
variable [XR]
noncomputable def Y4.body:Code:=(Tryd.f79.body).getD .skip
def Y4.ann:Ann:=(sl [0] (sq [0] (sl [0,10] (.br (sl [2] lf) lf)) (sl [0,3,4,5] (sq [3,4,5] (sl [3,4,5,11,12,13] (.one (.loop 1 [3,4,5,11,12,13] (sl [3,4,5,11,12,13,14] (sq [3,4,5,11,12,13] bl (.seq 3 [3,4,5,11,12,13] (.one (sl [3,4,5,7,11,12,13] (sq [3,4,5,7,11,12,13] (.seq 2 [3,4,5,7,11,12,13,22] lf (.br (sl [2] lf) lf)) (sl [3,4,5,7,11,12,13,24] (.br (sl [3,4,5,7,11,12,13] (sl [3,4,5,7,11,12,13] lf)) lf))))) lf)))))) (sq [] (.one (sl [3,4,5,36] (.br (sl [2] lf) (.seq 4 [39] lf (.br (sl [2] lf) lf))))) (sl [2] lf))))))
theorem Y4.dist:aH (places Y4.ann Y4.body)=true:=by kernel_rfl
noncomputable def Y4.J (Q:AV→aA→Prop):JT:=bL prog C Tryd.f79 Y4.ann Y4.body Q
def Y4.p1 (Q:AV→aA→Prop) (x3 x4 x5 x7:Int) (x11:AV) (x12 x13:Int) (x22:Bool) (h:aA):Prop:=Y4.J Q 2 [(3,(AV.i .i64 x3)),(4,(AV.i .i64 x4)),(5,(AV.i .i64 x5)),(7,(AV.i .i64 x7)),(11,x11),(12,(AV.i .i64 x12)),(13,(AV.i .i64 x13)),(22,(AV.b x22))] h
def Y4.p2 (Q:AV→aA→Prop) (x3 x4 x5:Int) (x11:AV) (x12 x13:Int) (h:aA):Prop:=Y4.J Q 3 [(3,(AV.i .i64 x3)),(4,(AV.i .i64 x4)),(5,(AV.i .i64 x5)),(11,x11),(12,(AV.i .i64 x12)),(13,(AV.i .i64 x13))] h
def Y4.p0 (Q:AV→aA→Prop) (x3 x4 x5:Int) (x11:AV) (x12 x13:Int) (h:aA):Prop:=Y4.J Q 1 [(3,(AV.i .i64 x3)),(4,(AV.i .i64 x4)),(5,(AV.i .i64 x5)),(11,x11),(12,(AV.i .i64 x12)),(13,(AV.i .i64 x13))] h
def Y4.p3 (Q:AV→aA→Prop) (x39:Bool) (h:aA):Prop:=Y4.J Q 4 [(39,(AV.b x39))] h
def Y4.t1 (Q:AV→aA→Prop) (x3 x4 x5 x7:Int) (x11:AV) (x12 x13:Int) (x22:Bool) (h:aA) (J:JT):Prop:=
(bif x22 then
(Q (AV.i .i64 4) h)
else
((bif (decide ((0:Int)<x7)) then
(aN (IntKind.wrap .i64 (15 - x7)) fun n20=>
nY .i64 1 n20 fun n21=>
aN (IntKind.wrap .i64 (x3+n21)) fun n22=>
aN (IntKind.wrap .i64 (x4+1)) fun n24=>
J 3 [(3,(AV.i .i64 n22)),(4,(AV.i .i64 n24)),(5,(AV.i .i64 (mmI true x5 x7))),(11,x11),(12,(AV.i .i64 x12)),(13,(AV.i .i64 x13))] h)
else
(J 3 [(3,(AV.i .i64 x3)),(4,(AV.i .i64 x4)),(5,(AV.i .i64 x5)),(11,x11),(12,(AV.i .i64 x12)),(13,(AV.i .i64 x13))] h))))
theorem Y4.i1 {Q x3 x4 x5 x7 x11 x12 x13 x22 h} (H:Y4.t1 Q x3 x4 x5 x7 x11 x12 x13 x22 h (Y4.J Q)):Y4.p1 Q x3 x4 x5 x7 x11 x12 x13 x22 h:=gR Y4.J Tryd.f79 Y4.dist [1,1,1,0,1,0,0,1,1,0,0,1,0,1] H
def Y4.t2 (Q:AV→aA→Prop) (x3 x4 x5:Int) (x11:AV) (x12 x13:Int) (h:aA) (J:JT):Prop:=
aN (IntKind.wrap .i64 (x13+1)) fun n28=>
J 1 [(3,(AV.i .i64 x3)),(4,(AV.i .i64 x4)),(5,(AV.i .i64 x5)),(11,x11),(12,(AV.i .i64 x12)),(13,(AV.i .i64 n28))] h
theorem Y4.i2 {Q x3 x4 x5 x11 x12 x13 h} (H:Y4.t2 Q x3 x4 x5 x11 x12 x13 h (Y4.J Q)):Y4.p2 Q x3 x4 x5 x11 x12 x13 h:=gR Y4.J Tryd.f79 Y4.dist [1,1,1,0,1,0,0,1,1,1] H
def Y4.t0 (Q:AV→aA→Prop) (x3 x4 x5:Int) (x11:AV) (x12 x13:Int) (h:aA) (J:JT):Prop:=
(bif (decide ((x13:Int)<x12)) then
(aW 1 x11 (AV.i .i64 x13) h fun v11=>
aB v11 h fun v12=>
asI .i64 v12 fun n13=>
(bif (decide ((n13:Int)<0)) then
(J 2 [(3,(AV.i .i64 x3)),(4,(AV.i .i64 x4)),(5,(AV.i .i64 x5)),(7,(AV.i .i64 n13)),(11,x11),(12,(AV.i .i64 x12)),(13,(AV.i .i64 x13)),(22,(AV.b true))] h)
else
(J 2 [(3,(AV.i .i64 x3)),(4,(AV.i .i64 x4)),(5,(AV.i .i64 x5)),(7,(AV.i .i64 n13)),(11,x11),(12,(AV.i .i64 x12)),(13,(AV.i .i64 x13)),(22,(AV.b (decide ((15:Int)<n13))))] h)))
else
((bif (decide ((32768:Int)<x3)) then
(Q (AV.i .i64 2) h)
else
((bif (decide ((x3:Int)<32768)) then
((bif (decide ((0:Int)<x4)) then
((bif (decide ((1:Int)<x4)) then
(J 4 [(39,(AV.b true))] h)
else
(J 4 [(39,(AV.b (decide ((1:Int)<x5))))] h)))
else
(J 4 [(39,(AV.b false))] h)))
else
(J 4 [(39,(AV.b false))] h))))))
theorem Y4.i0 {Q x3 x4 x5 x11 x12 x13 h} (H:Y4.t0 Q x3 x4 x5 x11 x12 x13 h (Y4.J Q)):Y4.p0 Q x3 x4 x5 x11 x12 x13 h:=gH Y4.J Tryd.f79 Y4.dist [1,1,1,0,1,0] H
def Y4.t3 (Q:AV→aA→Prop) (x39:Bool) (h:aA) (J:JT):Prop:=
(bif x39 then
(Q (AV.i .i64 1) h)
else
(Q (AV.i .i64 0) h))
theorem Y4.i3 {Q x39 h} (H:Y4.t3 Q x39 h (Y4.J Q)):Y4.p3 Q x39 h:=gR Y4.J Tryd.f79 Y4.dist [1,1,1,1,0,0,1,1,1] H
def Y4.t (Q:AV→aA→Prop) (x0:AV) (h:aA) (J:JT):Prop:=
bV x0 fun n1=>
(bif (decide ((320:Int)<n1)) then
(Q (AV.i .i64 3) h)
else
(bV x0 fun n6=>
J 1 [(3,(AV.i .i64 0)),(4,(AV.i .i64 0)),(5,(AV.i .i64 0)),(11,x0),(12,(AV.i .i64 n6)),(13,(AV.i .i64 0))] h))
theorem Y4.call {K x0 h} (H:Y4.t (aK h K) x0 h (Y4.J (aK h K))):C Y4.id [x0] h K:=
 gC Y4.J Tryd.func79 Y4.dist H
noncomputable def Y6.body:Code:=(Tryd.f80.body).getD .skip
def Y6.ann:Ann:=(sl [0,2] (sl [0,2,3] (sq [2,3] (sl [2,3,7,8,9] (.one (.loop 1 [2,3,7,8,9] (sl [2,3,7,8,9,10] (sq [2,3,7,8,9] bl (.seq 2 [2,3,7,8,9] (.one (sl [2,3,5,7,8,9] (sl [2,3,5,7,8,9,14] bl))) lf)))))) (sq [2,3] (sl [2,3,6] (.one (.loop 3 [2,3,6] (sq [2,3,6] (sl [2,3,6,24] bl) (sq [2,3,6] (.one (.ord (nn 0 15 (.eff 15 .done .stop)))) lf))))) (sl [2] lf)))))
theorem Y6.dist:aH (places Y6.ann Y6.body)=true:=by kernel_rfl
noncomputable def Y6.J (Q:AV→aA→Prop):JT:=bL prog C Tryd.f80 Y6.ann Y6.body Q
def Y6.p1 (Q:AV→aA→Prop) (x2 x3 x7:AV) (x8 x9:Int) (h:aA):Prop:=Y6.J Q 2 [(2,x2),(3,x3),(7,x7),(8,(AV.i .i64 x8)),(9,(AV.i .i64 x9))] h
def Y6.p0 (Q:AV→aA→Prop) (x2 x3 x7:AV) (x8 x9:Int) (h:aA):Prop:=Y6.J Q 1 [(2,x2),(3,x3),(7,x7),(8,(AV.i .i64 x8)),(9,(AV.i .i64 x9))] h
def Y6.p2 (Q:AV→aA→Prop) (x2 x3:AV) (x6:Int) (h:aA):Prop:=Y6.J Q 3 [(2,x2),(3,x3),(6,(AV.i .i64 x6))] h
def Y6.t1 (Q:AV→aA→Prop) (x2 x3 x7:AV) (x8 x9:Int) (h:aA) (J:JT):Prop:=
aN (IntKind.wrap .i64 (x9+1)) fun n26=>
J 1 [(2,x2),(3,x3),(7,x7),(8,(AV.i .i64 x8)),(9,(AV.i .i64 n26))] h
theorem Y6.i1 {Q x2 x3 x7 x8 x9 h} (H:Y6.t1 Q x2 x3 x7 x8 x9 h (Y6.J Q)):Y6.p1 Q x2 x3 x7 x8 x9 h:=gR Y6.J Tryd.f80 Y6.dist [1,1,0,1,0,0,1,1,1] H
def Y6.t0 (Q:AV→aA→Prop) (x2 x3 x7:AV) (x8 x9:Int) (h:aA) (J:JT):Prop:=
(bif (decide ((x9:Int)<x8)) then
(aW 1 x7 (AV.i .i64 x9) h fun v11=>
aB v11 h fun v12=>
asI .i64 v12 fun n13=>
(bif (decide ((0:Int)<n13)) then
(aC 0 x3 fun v16=>
bG 16 1 v16 (AV.i .i64 n13) fun v17=>
aB v17 h fun v18=>
asI .i64 v18 fun n19=>
aN (IntKind.wrap .i64 (n19+1)) fun n20=>
aC 0 x3 fun v21=>
bG 16 1 v21 (AV.i .i64 n13) fun v22=>
aU 1 v22 (AV.i .i64 n20) h fun h23=>
J 2 [(2,x2),(3,x3),(7,x7),(8,(AV.i .i64 x8)),(9,(AV.i .i64 x9))] h23)
else
(J 2 [(2,x2),(3,x3),(7,x7),(8,(AV.i .i64 x8)),(9,(AV.i .i64 x9))] h)))
else
(J 3 [(2,x2),(3,x3),(6,(AV.i .i64 1))] h))
theorem Y6.i0 {Q x2 x3 x7 x8 x9 h} (H:Y6.t0 Q x2 x3 x7 x8 x9 h (Y6.J Q)):Y6.p0 Q x2 x3 x7 x8 x9 h:=gH Y6.J Tryd.f80 Y6.dist [1,1,0,1,0] H
def Y6.t2 (Q:AV→aA→Prop) (x2 x3:AV) (x6:Int) (h:aA) (J:JT):Prop:=
(bif (decide ((x6:Int)≤15)) then
(aN (IntKind.wrap .i64 (x6 - 1)) fun n32=>
aC 16 x3 fun v33=>
bG 16 1 v33 (AV.i .i64 n32) fun v34=>
aB v34 h fun v35=>
asI .i64 v35 fun n36=>
aN (IntKind.wrap .i64 (x6 - 1)) fun n37=>
aC 0 x3 fun v38=>
bG 16 1 v38 (AV.i .i64 n37) fun v39=>
aB v39 h fun v40=>
asI .i64 v40 fun n41=>
aN (IntKind.wrap .i64 (n36+n41)) fun n42=>
nY .i64 n42 1 fun n43=>
aC 16 x3 fun v44=>
bG 16 1 v44 (AV.i .i64 x6) fun v45=>
aU 1 v45 (AV.i .i64 n43) h fun h46=>
aN (IntKind.wrap .i64 (x6+1)) fun n48=>
J 3 [(2,x2),(3,x3),(6,(AV.i .i64 n48))] h46)
else
(dW 32 x3 h fun v50=>
aU 32 x2 v50 h fun h51=>
dW 32 x2 h51 fun v53=>
Q v53 h51))
theorem Y6.i2 {Q x2 x3 x6 h} (H:Y6.t2 Q x2 x3 x6 h (Y6.J Q)):Y6.p2 Q x2 x3 x6 h:=gH Y6.J Tryd.f80 Y6.dist [1,1,1,0,1,0] H
def Y6.t (Q:AV→aA→Prop) (x0:AV) (h:aA) (J:JT):Prop:=
cV (some 120) [(AV.i .i64 0),(AV.i .i64 0),(AV.i .i64 0),(AV.i .i64 0),(AV.i .i64 0),(AV.i .i64 0),(AV.i .i64 0),(AV.i .i64 0),(AV.i .i64 0),(AV.i .i64 0),(AV.i .i64 0),(AV.i .i64 0),(AV.i .i64 0),(AV.i .i64 0),(AV.i .i64 0),(AV.i .i64 0),(AV.i .i64 0),(AV.i .i64 0),(AV.i .i64 0),(AV.i .i64 0),(AV.i .i64 0),(AV.i .i64 0),(AV.i .i64 0),(AV.i .i64 0),(AV.i .i64 0),(AV.i .i64 0),(AV.i .i64 0),(AV.i .i64 0),(AV.i .i64 0),(AV.i .i64 0),(AV.i .i64 0),(AV.i .i64 0)] h fun v0 h1=>
cV (some 120) [(AV.i .i64 0),(AV.i .i64 0),(AV.i .i64 0),(AV.i .i64 0),(AV.i .i64 0),(AV.i .i64 0),(AV.i .i64 0),(AV.i .i64 0),(AV.i .i64 0),(AV.i .i64 0),(AV.i .i64 0),(AV.i .i64 0),(AV.i .i64 0),(AV.i .i64 0),(AV.i .i64 0),(AV.i .i64 0),(AV.i .i64 0),(AV.i .i64 0),(AV.i .i64 0),(AV.i .i64 0),(AV.i .i64 0),(AV.i .i64 0),(AV.i .i64 0),(AV.i .i64 0),(AV.i .i64 0),(AV.i .i64 0),(AV.i .i64 0),(AV.i .i64 0),(AV.i .i64 0),(AV.i .i64 0),(AV.i .i64 0),(AV.i .i64 0)] h1 fun v3 h4=>
bV x0 fun n6=>
J 1 [(2,v0),(3,v3),(7,x0),(8,(AV.i .i64 n6)),(9,(AV.i .i64 0))] h4
theorem Y6.call {K x0 h} (H:Y6.t (aK h K) x0 h (Y6.J (aK h K))):C Y6.id [x0] h K:=
 gC Y6.J Tryd.func80 Y6.dist H
noncomputable def Y31.body:Code:=(Tryd.f85.body).getD .skip
def Y31.ann:Ann:=(sl [0] (sq [2] (.ord (nn 0 11 .done)) lf))
theorem Y31.dist:aH (places Y31.ann Y31.body)=true:=by kernel_rfl
noncomputable def Y31.J (Q:AV→aA→Prop):JT:=bL prog C Tryd.f85 Y31.ann Y31.body Q
def Y31.t (Q:AV→aA→Prop) (x0:AV) (h:aA) (J:JT):Prop:=
aZ x0 fun v1=>
aC 0 v1 fun v2=>
aB v2 h fun v3=>
bV v3 fun n4=>
aZ x0 fun v5=>
aC 1 v5 fun v6=>
aB v6 h fun v7=>
asI .i64 v7 fun n8=>
aN (IntKind.wrap .i64 (n4 - n8)) fun n9=>
Q (AV.i .i64 n9) h
theorem Y31.call {K x0 h} (H:Y31.t (aK h K) x0 h (Y31.J (aK h K))):C Y31.id [x0] h K:=
 gC Y31.J Tryd.func85 Y31.dist H
noncomputable def Y54.body:Code:=(Tryd.f88.body).getD .skip
def Y54.ann:Ann:=(sl [0,1] (sq [0,1] (.br (sl [6,7] (sl [4,5] lf)) lf) (sl [8,9] (sl [4,5] lf))))
theorem Y54.dist:aH (places Y54.ann Y54.body)=true:=by kernel_rfl
noncomputable def Y54.J (Q:AV→aA→Prop):JT:=bL prog C Tryd.f88 Y54.ann Y54.body Q
def Y54.t (Q:AV→aA→Prop) (x0 x1:Int) (h:aA) (J:JT):Prop:=
C Y65.id [(AV.i .u64 x0),(AV.i .u64 x1)] h fun v2 h3=>
aP 0 v2 fun v4=>
asI .u64 v4 fun n5=>
aP 1 v2 fun v6=>
asI .u64 v6 fun n7=>
Q (AV.tu [(AV.i .u64 n5),(AV.i .u64 n7)]) h3
theorem Y54.call {K x0 x1 h} (H:Y54.t (aK h K) x0 x1 h (Y54.J (aK h K))):C Y54.id [(AV.i .u64 x0),(AV.i .u64 x1)] h K:=
 gC Y54.J Tryd.func88 Y54.dist H
noncomputable def Y66.body:Code:=(Tryd.f89.body).getD .skip
def Y66.ann:Ann:=(sl [1] (sl [2] lf))
theorem Y66.dist:aH (places Y66.ann Y66.body)=true:=by kernel_rfl
noncomputable def Y66.J (Q:AV→aA→Prop):JT:=bL prog C Tryd.f89 Y66.ann Y66.body Q
def Y66.t (Q:AV→aA→Prop) (x0:AV) (h:aA) (J:JT):Prop:=
dF none x0 h fun v0 h1=>
Q (AV.fn (.func Y22.id) [] [v0]) h1
theorem Y66.call {K x0 h} (H:Y66.t (aK h K) x0 h (Y66.J (aK h K))):C Y66.id [x0] h K:=
 gC Y66.J Tryd.func89 Y66.dist H
noncomputable def Y47.body:Code:=(Tryd.f90.body).getD .skip
def Y47.ann:Ann:=(sl [1,2] (sl [3] lf))
theorem Y47.dist:aH (places Y47.ann Y47.body)=true:=by kernel_rfl
noncomputable def Y47.J (Q:AV→aA→Prop):JT:=bL prog C Tryd.f90 Y47.ann Y47.body Q
def Y47.t (Q:AV→aA→Prop) (x0:Int) (x1:AV) (h:aA) (J:JT):Prop:=
dF none (AV.i .i64 x0) h fun v0 h1=>
aB x1 h1 fun v3=>
C Y27.id [v3,(AV.i .i64 16),(AV.fn (.func Y55.id) [] [v0,x1])] h1 fun v4 h5=>
asI .i64 v4 fun n6=>
Q (AV.i .i64 n6) h5
theorem Y47.call {K x0 x1 h} (H:Y47.t (aK h K) x0 x1 h (Y47.J (aK h K))):C Y47.id [(AV.i .i64 x0),x1] h K:=
 gC Y47.J Tryd.func90 Y47.dist H
noncomputable def Y55.body:Code:=(Tryd.f91.body).getD .skip
def Y55.ann:Ann:=(sl [0,1,2] (sq [1,2] (sl [1,2,8] (.br (sl [4] lf) lf)) (sl [4] lf)))
theorem Y55.dist:aH (places Y55.ann Y55.body)=true:=by kernel_rfl
noncomputable def Y55.J (Q:AV→aA→Prop):JT:=bL prog C Tryd.f91 Y55.ann Y55.body Q
def Y55.t (Q:AV→aA→Prop) (x0:Int) (x1 x2:AV) (h:aA) (J:JT):Prop:=
aB x1 h fun v1=>
asI .i64 v1 fun n2=>
aN (IntKind.wrap .i64 (65535 - n2)) fun n3=>
(bif (!decide ((x0:Int)=n3)) then
(Q (AV.i .i64 2) h)
else
(aB x2 h fun v7=>
aB x1 h fun v8=>
asI .i64 v8 fun n9=>
C Y44.id [v7,(AV.i .i64 n9)] h fun v10 h11=>
asI .i64 v10 fun n12=>
Q (AV.i .i64 n12) h11))
theorem Y55.call {K x0 x1 x2 h} (H:Y55.t (aK h K) x0 x1 x2 h (Y55.J (aK h K))):C Y55.id [(AV.i .i64 x0),x1,x2] h K:=
 gC Y55.J Tryd.func91 Y55.dist H
noncomputable def Y44.body:Code:=(Tryd.f92.body).getD .skip
def Y44.ann:Ann:=(sl [2,3] (sq [2,3] (sl [2,3,6] (.br (sl [4] lf) lf)) (sl [4] lf)))
theorem Y44.dist:aH (places Y44.ann Y44.body)=true:=by kernel_rfl
noncomputable def Y44.J (Q:AV→aA→Prop):JT:=bL prog C Tryd.f92 Y44.ann Y44.body Q
def Y44.t (Q:AV→aA→Prop) (x0:AV) (x1:Int) (h:aA) (J:JT):Prop:=
dF none x0 h fun v0 h1=>
dF none (AV.i .i64 x1) h1 fun v2 h3=>
aB v2 h3 fun v5=>
asI .i64 v5 fun n6=>
(bif (decide ((n6:Int)=0)) then
(aB v0 h3 fun v8=>
C Y32.id [v8] h3 fun v9 h10=>
asI .i64 v9 fun n11=>
Q (AV.i .i64 n11) h10)
else
(aB v0 h3 fun v14=>
C Y27.id [v14,(AV.i .i64 8),(AV.fn (.func Y56.id) [] [v0,v2])] h3 fun v15 h16=>
asI .i64 v15 fun n17=>
Q (AV.i .i64 n17) h16))
theorem Y44.call {K x0 x1 h} (H:Y44.t (aK h K) x0 x1 h (Y44.J (aK h K))):C Y44.id [x0,(AV.i .i64 x1)] h K:=
 gC Y44.J Tryd.func92 Y44.dist H
noncomputable def Y45.body:Code:=(Tryd.f93.body).getD .skip
def Y45.ann:Ann:=(sl [0,1,2] (sl [0,2,7,8] (sq [0,2,7] (sl [0,2,7,16] (.br (sl [6] lf) lf)) (sl [0,7,8,9] (sq [0,7,9] (sl [0,7,9,23] (.br (sl [6] lf) lf)) (sl [6] lf))))))
theorem Y45.dist:aH (places Y45.ann Y45.body)=true:=by kernel_rfl
noncomputable def Y45.J (Q:AV→aA→Prop):JT:=bL prog C Tryd.f93 Y45.ann Y45.body Q
def Y45.t (Q:AV→aA→Prop) (x0 x1 x2:AV) (h:aA) (J:JT):Prop:=
C Y5.id [x1] h fun v1 h2=>
aP 0 v1 fun v3=>
aP 1 v1 fun v4=>
asI .i64 v4 fun n5=>
(bif (!decide ((n5:Int)=0)) then
(Q (AV.i .i64 2) h2)
else
(C Y5.id [x2] h2 fun v10 h11=>
aP 0 v10 fun v12=>
aP 1 v10 fun v13=>
asI .i64 v13 fun n14=>
(bif (!decide ((n14:Int)=0)) then
(Q (AV.i .i64 2) h11)
else
(C Y36.id [x0,v3,v12] h11 fun v19 h20=>
asI .i64 v19 fun n21=>
Q (AV.i .i64 n21) h20))))
theorem Y45.call {K x0 x1 x2 h} (H:Y45.t (aK h K) x0 x1 x2 h (Y45.J (aK h K))):C Y45.id [x0,x1,x2] h K:=
 gC Y45.J Tryd.func93 Y45.dist H
noncomputable def Y63.body:Code:=(Tryd.f94.body).getD .skip
def Y63.ann:Ann:=(sl [0,1] (sl [1,4] (sq [1,4] (sl [1,4,8] (.br (sl [3] lf) lf)) (sl [3] lf))))
theorem Y63.dist:aH (places Y63.ann Y63.body)=true:=by kernel_rfl
noncomputable def Y63.J (Q:AV→aA→Prop):JT:=bL prog C Tryd.f94 Y63.ann Y63.body Q
def Y63.t (Q:AV→aA→Prop) (x0:Int) (x1:AV) (h:aA) (J:JT):Prop:=
aN (IntKind.wrap .i64 (x0+257)) fun n1=>
cV none [(AV.i .i64 0)] h fun v2 h3=>
aU 1 v2 (AV.i .i64 n1) h3 fun h4=>
aB v2 h4 fun v6=>
asI .i64 v6 fun n7=>
(bif (decide ((286:Int)<n7)) then
(Q (AV.i .i64 2) h4)
else
(aB x1 h4 fun v11=>
C Y27.id [v11,(AV.i .i64 5),(AV.fn (.func Y58.id) [] [x1,v2])] h4 fun v12 h13=>
asI .i64 v12 fun n14=>
Q (AV.i .i64 n14) h13))
theorem Y63.call {K x0 x1 h} (H:Y63.t (aK h K) x0 x1 h (Y63.J (aK h K))):C Y63.id [(AV.i .i64 x0),x1] h K:=
 gC Y63.J Tryd.func94 Y63.dist H
noncomputable def Y58.body:Code:=(Tryd.f95.body).getD .skip
def Y58.ann:Ann:=(sl [0,1,2] (sl [1,2,5] (sq [1,2,5] (sl [1,2,5,9] (.br (sl [4] lf) lf)) (sl [4] lf))))
theorem Y58.dist:aH (places Y58.ann Y58.body)=true:=by kernel_rfl
noncomputable def Y58.J (Q:AV→aA→Prop):JT:=bL prog C Tryd.f95 Y58.ann Y58.body Q
def Y58.t (Q:AV→aA→Prop) (x0:Int) (x1 x2:AV) (h:aA) (J:JT):Prop:=
aN (IntKind.wrap .i64 (x0+1)) fun n1=>
cV none [(AV.i .i64 0)] h fun v2 h3=>
aU 1 v2 (AV.i .i64 n1) h3 fun h4=>
aB v2 h4 fun v6=>
asI .i64 v6 fun n7=>
(bif (decide ((30:Int)<n7)) then
(Q (AV.i .i64 2) h4)
else
(aB x1 h4 fun v11=>
C Y27.id [v11,(AV.i .i64 4),(AV.fn (.func Y61.id) [] [x1,x2,v2])] h4 fun v12 h13=>
asI .i64 v12 fun n14=>
Q (AV.i .i64 n14) h13))
theorem Y58.call {K x0 x1 x2 h} (H:Y58.t (aK h K) x0 x1 x2 h (Y58.J (aK h K))):C Y58.id [(AV.i .i64 x0),x1,x2] h K:=
 gC Y58.J Tryd.func95 Y58.dist H
noncomputable def Y61.body:Code:=(Tryd.f96.body).getD .skip
def Y61.ann:Ann:=(sl [0,1,2,3] (sq [5] (.ord (.neu 0 (nn 2 4 (.eff 1 (.eff 6 (.neu 7 .done) .stop) .stop)))) lf))
theorem Y61.dist:aH (places Y61.ann Y61.body)=true:=by kernel_rfl
noncomputable def Y61.J (Q:AV→aA→Prop):JT:=bL prog C Tryd.f96 Y61.ann Y61.body Q
def Y61.t (Q:AV→aA→Prop) (x0:Int) (x1 x2 x3:AV) (h:aA) (J:JT):Prop:=
aB x1 h fun v1=>
aN (IntKind.wrap .i64 (x0+4)) fun n2=>
aB x2 h fun v3=>
asI .i64 v3 fun n4=>
aB x3 h fun v5=>
asI .i64 v5 fun n6=>
nM 1 8 [(AV.i .i64 0)] (AV.i .i64 19) (AV.i .i64 19) h fun v7 h8=>
aB x3 h8 fun v9=>
asI .i64 v9 fun n10=>
((AV.i .i64 n6)=(AV.i .i64 n10) ∧
(aB x2 h8 fun v11=>
asI .i64 v11 fun n12=>
((AV.i .i64 n4)=(AV.i .i64 n12) ∧
(aB x1 h8 fun v13=>
(v1=v13 ∧
(C Y41.id [v1,v7,(AV.i .i64 0),(AV.i .i64 n2),(AV.i .i64 n4),(AV.i .i64 n6)] h8 fun v14 h15=>
asI .i64 v14 fun n16=>
Q (AV.i .i64 n16) h15))))))
theorem Y61.call {K x0 x1 x2 x3 h} (H:Y61.t (aK h K) x0 x1 x2 x3 h (Y61.J (aK h K))):C Y61.id [(AV.i .i64 x0),x1,x2,x3] h K:=
 gC Y61.J Tryd.func96 Y61.dist H
noncomputable def Y41.body:Code:=(Tryd.f97.body).getD .skip
def Y41.ann:Ann:=(sl [6,7,8,9,10,11] (sq [6,7,8,9,10,11] (sl [6,7,8,9,10,11,17] (.br (sl [6,10,11,13,14] (sq [6,10,11,13] (sl [6,10,11,13,24] (.br (sl [12] lf) lf)) (sl [12] lf))) lf)) (sl [12] lf)))
theorem Y41.dist:aH (places Y41.ann Y41.body)=true:=by kernel_rfl
noncomputable def Y41.J (Q:AV→aA→Prop):JT:=bL prog C Tryd.f97 Y41.ann Y41.body Q
def Y41.t (Q:AV→aA→Prop) (x0 x1:AV) (x2 x3 x4 x5:Int) (h:aA) (J:JT):Prop:=
dF none x0 h fun v0 h1=>
dF none x1 h1 fun v2 h3=>
dF none (AV.i .i64 x2) h3 fun v4 h5=>
dF none (AV.i .i64 x3) h5 fun v6 h7=>
dF none (AV.i .i64 x4) h7 fun v8 h9=>
dF none (AV.i .i64 x5) h9 fun v10 h11=>
aB v4 h11 fun v13=>
asI .i64 v13 fun n14=>
aB v6 h11 fun v15=>
asI .i64 v15 fun n16=>
(bif (decide ((n14:Int)=n16)) then
(aB v2 h11 fun v18=>
C Y5.id [v18] h11 fun v19 h20=>
aP 0 v19 fun v21=>
aP 1 v19 fun v22=>
asI .i64 v22 fun n23=>
(bif (!decide ((n23:Int)=0)) then
(Q (AV.i .i64 2) h20)
else
(aB v0 h20 fun v28=>
aB v8 h20 fun v29=>
asI .i64 v29 fun n30=>
aB v10 h20 fun v31=>
asI .i64 v31 fun n32=>
C Y38.id [v28,v21,(AV.sl none 0 none),(AV.i .i64 n30),(AV.i .i64 n32)] h20 fun v33 h34=>
asI .i64 v33 fun n35=>
Q (AV.i .i64 n35) h34)))
else
(aB v0 h11 fun v38=>
C Y27.id [v38,(AV.i .i64 3),(AV.fn (.func Y52.id) [] [v2,v4,v0,v6,v8,v10])] h11 fun v39 h40=>
asI .i64 v39 fun n41=>
Q (AV.i .i64 n41) h40))
theorem Y41.call {K x0 x1 x2 x3 x4 x5 h} (H:Y41.t (aK h K) x0 x1 x2 x3 x4 x5 h (Y41.J (aK h K))):C Y41.id [x0,x1,(AV.i .i64 x2),(AV.i .i64 x3),(AV.i .i64 x4),(AV.i .i64 x5)] h K:=
 gC Y41.J Tryd.func97 Y41.dist H
noncomputable def Y65.body:Code:=(Tryd.f104.body).getD .skip
def Y65.ann:Ann:=(sl [0,1] (sl [0,1,6] (sl [0,1,6,7] (sl [0,1,6,7,8] (sl [0,1,6,7,8,9] (sl [0,1,6,7,8,9,10] (sl [0,1,6,7,9,11] (sl [0,1,6,7,9,11,12] (sl [0,1,6,7,9,12,13] (sl [0,1,7,9,12,13] (sl [0,1,4] (sl [4,5] lf))))))))))))
theorem Y65.dist:aH (places Y65.ann Y65.body)=true:=by kernel_rfl
noncomputable def Y65.J (Q:AV→aA→Prop):JT:=bL prog C Tryd.f104 Y65.ann Y65.body Q
def Y65.t (Q:AV→aA→Prop) (x0 x1:Int) (h:aA) (J:JT):Prop:=
aN (bQ .and .u64 x0 4294967295) fun n1=>
lR .u64 x0 32 fun n3=>
aN (bQ .and .u64 x1 4294967295) fun n5=>
lR .u64 x1 32 fun n7=>
aN (IntKind.wrap .u64 (n1 * n5)) fun n9=>
aN (IntKind.wrap .u64 (n3 * n5)) fun n11=>
lR .u64 n9 32 fun n12=>
aN (IntKind.wrap .u64 (n11+n12)) fun n13=>
aN (bQ .and .u64 n13 4294967295) fun n15=>
lR .u64 n13 32 fun n17=>
aN (IntKind.wrap .u64 (n1 * n7)) fun n19=>
aN (IntKind.wrap .u64 (n15+n19)) fun n20=>
aN (IntKind.wrap .u64 (n3 * n7)) fun n22=>
aN (IntKind.wrap .u64 (n22+n17)) fun n23=>
lR .u64 n20 32 fun n24=>
aN (IntKind.wrap .u64 (n23+n24)) fun n25=>
aN (IntKind.wrap .u64 (x0 * x1)) fun n27=>
Q (AV.tu [(AV.i .u64 n25),(AV.i .u64 n27)]) h
theorem Y65.call {K x0 x1 h} (H:Y65.t (aK h K) x0 x1 h (Y65.J (aK h K))):C Y65.id [(AV.i .u64 x0),(AV.i .u64 x1)] h K:=
 gC Y65.J Tryd.func104 Y65.dist H
noncomputable def Y22.body:Code:=(Tryd.f105.body).getD .skip
def Y22.ann:Ann:=(sl [0,1,3] (.one (.loop 1 [0,1,3] (sq [0,1,3] (sl [0,1,3,8] bl) (sq [0,1,3] (.one (sl [0,1,3,18] bl)) lf)))))
theorem Y22.dist:aH (places Y22.ann Y22.body)=true:=by kernel_rfl
noncomputable def Y22.J (Q:AV→aA→Prop):JT:=bL prog C Tryd.f105 Y22.ann Y22.body Q
def Y22.p0 (Q:AV→aA→Prop) (x0 x1:AV) (x3:Int) (h:aA):Prop:=Y22.J Q 1 [(0,x0),(1,x1),(3,(AV.i .i64 x3))] h
def Y22.t0 (Q:AV→aA→Prop) (x0 x1:AV) (x3:Int) (h:aA) (J:JT):Prop:=
(bif (decide ((0:Int)≤x3)) then
(aB x1 h fun v6=>
aW 1 v6 (AV.i .i64 x3) h fun v7=>
aB v7 h fun v8=>
asI .i64 v8 fun n9=>
bU C x0 [(AV.i .i64 x3),(AV.i .i64 n9)] h fun v10 h11=>
asB v10 fun c12=>
(bif (!c12) then
(Q (AV.tu []) h11)
else
(aN (IntKind.wrap .i64 (x3 - 1)) fun n15=>
J 1 [(0,x0),(1,x1),(3,(AV.i .i64 n15))] h11)))
else
(Q (AV.tu []) h))
theorem Y22.i0 {Q x0 x1 x3 h} (H:Y22.t0 Q x0 x1 x3 h (Y22.J Q)):Y22.p0 Q x0 x1 x3 h:=gH Y22.J Tryd.f105 Y22.dist [1,0] H
def Y22.t (Q:AV→aA→Prop) (x0 x1:AV) (h:aA) (J:JT):Prop:=
aB x1 h fun v0=>
bV v0 fun n1=>
aN (IntKind.wrap .i64 (n1 - 1)) fun n2=>
J 1 [(0,x0),(1,x1),(3,(AV.i .i64 n2))] h
theorem Y22.call {K x0 x1 h} (H:Y22.t (aK h K) x0 x1 h (Y22.J (aK h K))):C Y22.id [x0,x1] h K:=
 gC Y22.J Tryd.func105 Y22.dist H
noncomputable def Y56.body:Code:=(Tryd.f106.body).getD .skip
def Y56.ann:Ann:=(sl [0,1,2] (sq [1,2] (sl [1,2,5] (sl [1,2,5,11] (.br (sl [4] lf) lf))) (sl [4] lf)))
theorem Y56.dist:aH (places Y56.ann Y56.body)=true:=by kernel_rfl
noncomputable def Y56.J (Q:AV→aA→Prop):JT:=bL prog C Tryd.f106 Y56.ann Y56.body Q
def Y56.t (Q:AV→aA→Prop) (x0:Int) (x1 x2:AV) (h:aA) (J:JT):Prop:=
aB x1 h fun v1=>
C Y16.id [v1,(AV.i .u8 (IntKind.wrap .u8 x0))] h fun v2 h3=>
asI .i64 v2 fun n4=>
(bif (!decide ((n4:Int)=0)) then
(Q (AV.i .i64 n4) h3)
else
(aB x1 h3 fun v9=>
aB x2 h3 fun v10=>
asI .i64 v10 fun n11=>
aN (IntKind.wrap .i64 (n11 - 1)) fun n12=>
C Y44.id [v9,(AV.i .i64 n12)] h3 fun v13 h14=>
asI .i64 v13 fun n15=>
Q (AV.i .i64 n15) h14))
theorem Y56.call {K x0 x1 x2 h} (H:Y56.t (aK h K) x0 x1 x2 h (Y56.J (aK h K))):C Y56.id [(AV.i .i64 x0),x1,x2] h K:=
 gC Y56.J Tryd.func106 Y56.dist H
noncomputable def Y16.body:Code:=(Tryd.f107.body).getD .skip
def Y16.ann:Ann:=(sl [0,1] (sq [0,1] (.seq 1 [0,1,32] (.ord (nn 0 28 .done)) (.br (sl [4] lf) lf)) (sl [0,1] (sl [0,1] (.seq 2 [0,1] (sl [0,1,55] bl) (sl [] (sl [4] lf)))))))
theorem Y16.dist:aH (places Y16.ann Y16.body)=true:=by kernel_rfl
noncomputable def Y16.J (Q:AV→aA→Prop):JT:=bL prog C Tryd.f107 Y16.ann Y16.body Q
def Y16.p0 (Q:AV→aA→Prop) (x0:AV) (x1:Int) (x32:Bool) (h:aA):Prop:=Y16.J Q 1 [(0,x0),(1,(AV.i .u8 x1)),(32,(AV.b x32))] h
def Y16.p1 (Q:AV→aA→Prop) (x0:AV) (x1:Int) (h:aA):Prop:=Y16.J Q 2 [(0,x0),(1,(AV.i .u8 x1))] h
def Y16.t0 (Q:AV→aA→Prop) (x0:AV) (x1:Int) (x32:Bool) (h:aA) (J:JT):Prop:=
(bif x32 then
(Q (AV.i .i64 16) h)
else
(aZ x0 fun v29=>
aC 3 v29 fun v30=>
aB v30 h fun v31=>
asI .i64 v31 fun n32=>
aN (IntKind.wrap .i64 (n32+1)) fun n33=>
aZ x0 fun v34=>
aC 3 v34 fun v35=>
aU 1 v35 (AV.i .i64 n33) h fun h36=>
aZ x0 fun v38=>
aC 4 v38 fun v39=>
aB v39 h36 fun v40=>
bP 1 1 [(AV.i .u8 0)] [(0,1,(AV.i .u8 x1))] h36 fun v41 h42=>
bT (some 5) 1 1 v40 v41 h42 fun v43 h44=>
aZ x0 fun v45=>
aC 4 v45 fun v46=>
aU 1 v46 v43 h44 fun h47=>
aZ x0 fun v49=>
aC 2 v49 fun v50=>
aB v50 h47 fun v51=>
bV v51 fun n52=>
(bif (decide ((65536:Int)≤n52)) then
(aZ x0 fun v54=>
aC 2 v54 fun v55=>
aB v55 h47 fun v56=>
bJ 1 v56 (some (AV.i .i64 32768)) none none h47 fun v57=>
C Y68.id [v57] h47 fun v58 h59=>
aZ x0 fun v60=>
aC 2 v60 fun v61=>
aU 1 v61 v58 h59 fun h62=>
J 2 [(0,x0),(1,(AV.i .u8 x1))] h62)
else
(J 2 [(0,x0),(1,(AV.i .u8 x1))] h47))))
theorem Y16.i0 {Q x0 x1 x32 h} (H:Y16.t0 Q x0 x1 x32 h (Y16.J Q)):Y16.p0 Q x0 x1 x32 h:=gR Y16.J Tryd.f107 Y16.dist [1,0,1] H
def Y16.t1 (Q:AV→aA→Prop) (x0:AV) (x1:Int) (h:aA) (J:JT):Prop:=
aZ x0 fun v65=>
aC 2 v65 fun v66=>
aB v66 h fun v67=>
bP 1 1 [(AV.i .u8 0)] [(0,1,(AV.i .u8 x1))] h fun v68 h69=>
bT (some 5) 1 1 v67 v68 h69 fun v70 h71=>
aZ x0 fun v72=>
aC 2 v72 fun v73=>
aU 1 v73 v70 h71 fun h74=>
Q (AV.i .i64 0) h74
theorem Y16.i1 {Q x0 x1 h} (H:Y16.t1 Q x0 x1 h (Y16.J Q)):Y16.p1 Q x0 x1 h:=gR Y16.J Tryd.f107 Y16.dist [1,1,1,1,1] H
def Y16.t (Q:AV→aA→Prop) (x0:AV) (x1:Int) (h:aA) (J:JT):Prop:=
aZ x0 fun v1=>
aC 3 v1 fun v2=>
aB v2 h fun v3=>
asI .i64 v3 fun n4=>
aZ x0 fun v5=>
aC 0 v5 fun v6=>
aC 0 v6 fun v7=>
aB v7 h fun v8=>
asI .i64 v8 fun n9=>
(bif (decide ((n9:Int)≤n4)) then
(J 1 [(0,x0),(1,(AV.i .u8 x1)),(32,(AV.b true))] h)
else
(aZ x0 fun v11=>
aC 3 v11 fun v12=>
aB v12 h fun v13=>
asI .i64 v13 fun n14=>
aZ x0 fun v15=>
aC 0 v15 fun v16=>
aC 1 v16 fun v17=>
aB v17 h fun v18=>
asI .i64 v18 fun n19=>
aZ x0 fun v20=>
aC 5 v20 fun v21=>
aB v21 h fun v22=>
asI .i64 v22 fun n23=>
aN (IntKind.wrap .i64 (n19 * n23)) fun n24=>
aN (IntKind.wrap .i64 (n24+1024)) fun n25=>
J 1 [(0,x0),(1,(AV.i .u8 x1)),(32,(AV.b (decide ((n25:Int)≤n14))))] h))
theorem Y16.call {K x0 x1 h} (H:Y16.t (aK h K) x0 x1 h (Y16.J (aK h K))):C Y16.id [x0,(AV.i .u8 x1)] h K:=
 gC Y16.J Tryd.func107 Y16.dist H
noncomputable def Y5.body:Code:=(Tryd.f108.body).getD .skip
def Y5.ann:Ann:=(sl [0] (sq [0] (sl [0,4] (sl [0,4,12] (.br (sl [2,3] lf) lf))) (sl [0,5] (sq [5] (sl [0,5,6] (.one (.loop 1 [0,5,6] (sq [0,5,6] (sl [0,5,6,19] bl) (sq [0,5,6] (.one (sq [0,5,6] (.ord (nn 0 10 (.eff 10 .done .stop))) (sl [0,5,6,32,33,34] (.one (.loop 2 [0,5,6,32,33,34] (sl [0,5,6,32,33,34,35] (sq [0,5,6,32,33,34] bl (.seq 3 [0,5,6,32,33,34] (.one (sl [0,5,6,7,8,32,33,34] (sl [0,5,6,7,32,33,34,41] (.br (sl [0,5,6,32,33,34] lf) lf)))) lf)))))))) lf))))) (sl [2,3] lf)))))
theorem Y5.dist:aH (places Y5.ann Y5.body)=true:=by kernel_rfl
noncomputable def Y5.J (Q:AV→aA→Prop):JT:=bL prog C Tryd.f108 Y5.ann Y5.body Q
def Y5.p2 (Q:AV→aA→Prop) (x0 x5:AV) (x6:Int) (x32:AV) (x33 x34:Int) (h:aA):Prop:=Y5.J Q 3 [(0,x0),(5,x5),(6,(AV.i .i64 x6)),(32,x32),(33,(AV.i .i64 x33)),(34,(AV.i .i64 x34))] h
def Y5.p1 (Q:AV→aA→Prop) (x0 x5:AV) (x6:Int) (x32:AV) (x33 x34:Int) (h:aA):Prop:=Y5.J Q 2 [(0,x0),(5,x5),(6,(AV.i .i64 x6)),(32,x32),(33,(AV.i .i64 x33)),(34,(AV.i .i64 x34))] h
def Y5.p0 (Q:AV→aA→Prop) (x0 x5:AV) (x6:Int) (h:aA):Prop:=Y5.J Q 1 [(0,x0),(5,x5),(6,(AV.i .i64 x6))] h
def Y5.t2 (Q:AV→aA→Prop) (x0 x5:AV) (x6:Int) (x32:AV) (x33 x34:Int) (h:aA) (J:JT):Prop:=
aN (IntKind.wrap .i64 (x34+1)) fun n53=>
J 2 [(0,x0),(5,x5),(6,(AV.i .i64 x6)),(32,x32),(33,(AV.i .i64 x33)),(34,(AV.i .i64 n53))] h
theorem Y5.i2 {Q x0 x5 x6 x32 x33 x34 h} (H:Y5.t2 Q x0 x5 x6 x32 x33 x34 h (Y5.J Q)):Y5.p2 Q x0 x5 x6 x32 x33 x34 h:=gR Y5.J Tryd.f108 Y5.dist [1,1,1,0,1,0,0,1,0,0,1,1,0,0,1,1,1] H
def Y5.t1 (Q:AV→aA→Prop) (x0 x5:AV) (x6:Int) (x32:AV) (x33 x34:Int) (h:aA) (J:JT):Prop:=
(bif (decide ((x34:Int)<x33)) then
(aW 1 x32 (AV.i .i64 x34) h fun v32=>
aB v32 h fun v33=>
asI .i64 v33 fun n34=>
(bif (decide ((n34:Int)=x6)) then
(aZ x5 fun v37=>
aC 32 v37 fun v38=>
aB v38 h fun v39=>
bP 1 1 [(AV.i .i64 0)] [(0,1,(AV.i .i64 x34))] h fun v40 h41=>
bT none 1 8 v39 v40 h41 fun v42 h43=>
aZ x5 fun v44=>
aC 32 v44 fun v45=>
aU 1 v45 v42 h43 fun h46=>
aZ x5 fun v48=>
aC 49 v48 fun v49=>
aU 1 v49 (AV.i .i64 x6) h46 fun h50=>
J 3 [(0,x0),(5,x5),(6,(AV.i .i64 x6)),(32,x32),(33,(AV.i .i64 x33)),(34,(AV.i .i64 x34))] h50)
else
(J 3 [(0,x0),(5,x5),(6,(AV.i .i64 x6)),(32,x32),(33,(AV.i .i64 x33)),(34,(AV.i .i64 x34))] h)))
else
(aN (IntKind.wrap .i64 (x6+1)) fun n55=>
J 1 [(0,x0),(5,x5),(6,(AV.i .i64 n55))] h))
theorem Y5.i1 {Q x0 x5 x6 x32 x33 x34 h} (H:Y5.t1 Q x0 x5 x6 x32 x33 x34 h (Y5.J Q)):Y5.p1 Q x0 x5 x6 x32 x33 x34 h:=gH Y5.J Tryd.f108 Y5.dist [1,1,1,0,1,0,0,1,0,0,1,1,0] H
def Y5.t0 (Q:AV→aA→Prop) (x0 x5:AV) (x6:Int) (h:aA) (J:JT):Prop:=
(bif (decide ((x6:Int)≤15)) then
(aZ x5 fun v18=>
aC 32 v18 fun v19=>
aB v19 h fun v20=>
bV v20 fun n21=>
aZ x5 fun v22=>
aC 33 v22 fun v23=>
bG 16 1 v23 (AV.i .i64 x6) fun v24=>
aU 1 v24 (AV.i .i64 n21) h fun h25=>
bV x0 fun n27=>
J 2 [(0,x0),(5,x5),(6,(AV.i .i64 x6)),(32,x0),(33,(AV.i .i64 n27)),(34,(AV.i .i64 0))] h25)
else
(Q (AV.tu [x5,(AV.i .i64 0)]) h))
theorem Y5.i0 {Q x0 x5 x6 h} (H:Y5.t0 Q x0 x5 x6 h (Y5.J Q)):Y5.p0 Q x0 x5 x6 h:=gH Y5.J Tryd.f108 Y5.dist [1,1,1,0,1,0] H
def Y5.t (Q:AV→aA→Prop) (x0:AV) (h:aA) (J:JT):Prop:=
C Y4.id [x0] h fun v1 h2=>
asI .i64 v1 fun n3=>
(bif (!decide ((n3:Int)=0)) then
(Q (AV.tu [(AV.p none),(AV.i .i64 n3)]) h2)
else
(C Y6.id [x0] h2 fun v8 h9=>
iG [(AV.i .i64 0),(AV.i .i64 0),(AV.i .i64 0),(AV.i .i64 0),(AV.i .i64 0),(AV.i .i64 0),(AV.i .i64 0),(AV.i .i64 0),(AV.i .i64 0),(AV.i .i64 0),(AV.i .i64 0),(AV.i .i64 0),(AV.i .i64 0),(AV.i .i64 0),(AV.i .i64 0),(AV.i .i64 0),(AV.i .i64 0),(AV.i .i64 0),(AV.i .i64 0),(AV.i .i64 0),(AV.i .i64 0),(AV.i .i64 0),(AV.i .i64 0),(AV.i .i64 0),(AV.i .i64 0),(AV.i .i64 0),(AV.i .i64 0),(AV.i .i64 0),(AV.i .i64 0),(AV.i .i64 0),(AV.i .i64 0),(AV.i .i64 0),(AV.sl none 0 none),(AV.i .i64 0),(AV.i .i64 0),(AV.i .i64 0),(AV.i .i64 0),(AV.i .i64 0),(AV.i .i64 0),(AV.i .i64 0),(AV.i .i64 0),(AV.i .i64 0),(AV.i .i64 0),(AV.i .i64 0),(AV.i .i64 0),(AV.i .i64 0),(AV.i .i64 0),(AV.i .i64 0),(AV.i .i64 0),(AV.i .i64 0),(AV.i .i64 0),(AV.i .i64 0)] [(0,32,v8)] fun v10=>
dF (some 136) v10 h9 fun v11 h12=>
J 1 [(0,x0),(5,v11),(6,(AV.i .i64 1))] h12))
theorem Y5.call {K x0 h} (H:Y5.t (aK h K) x0 h (Y5.J (aK h K))):C Y5.id [x0] h K:=
 gC Y5.J Tryd.func108 Y5.dist H
noncomputable def Y36.body:Code:=(Tryd.f109.body).getD .skip
def Y36.ann:Ann:=(sl [3,4,5] (sl [6] lf))
theorem Y36.dist:aH (places Y36.ann Y36.body)=true:=by kernel_rfl
noncomputable def Y36.J (Q:AV→aA→Prop):JT:=bL prog C Tryd.f109 Y36.ann Y36.body Q
def Y36.t (Q:AV→aA→Prop) (x0 x1 x2:AV) (h:aA) (J:JT):Prop:=
dF none x0 h fun v0 h1=>
dF none x1 h1 fun v2 h3=>
dF none x2 h3 fun v4 h5=>
aB v0 h5 fun v7=>
aB v2 h5 fun v8=>
C Y35.id [v7,v8,(AV.fn (.func Y48.id) [] [v0,v2,v4])] h5 fun v9 h10=>
asI .i64 v9 fun n11=>
Q (AV.i .i64 n11) h10
theorem Y36.call {K x0 x1 x2 h} (H:Y36.t (aK h K) x0 x1 x2 h (Y36.J (aK h K))):C Y36.id [x0,x1,x2] h K:=
 gC Y36.J Tryd.func109 Y36.dist H
noncomputable def Y38.body:Code:=(Tryd.f110.body).getD .skip
def Y38.ann:Ann:=(sl [5,6,7,8,9] (sq [5,6,7,8,9] (sl [5,6,7,8,9,17] (.br (sq [10] (.ord (nn 0 7 (.eff 7 (.neu 8 .done) .stop))) lf) lf)) (sl [5,6,7,8,9,11] (sl [10] lf))))
theorem Y38.dist:aH (places Y38.ann Y38.body)=true:=by kernel_rfl
noncomputable def Y38.J (Q:AV→aA→Prop):JT:=bL prog C Tryd.f110 Y38.ann Y38.body Q
def Y38.t (Q:AV→aA→Prop) (x0 x1 x2:AV) (x3 x4:Int) (h:aA) (J:JT):Prop:=
dF none x0 h fun v0 h1=>
dF none x1 h1 fun v2 h3=>
dF none x2 h3 fun v4 h5=>
dF none (AV.i .i64 x3) h5 fun v6 h7=>
dF none (AV.i .i64 x4) h7 fun v8 h9=>
aB v4 h9 fun v11=>
bV v11 fun n12=>
aB v6 h9 fun v13=>
asI .i64 v13 fun n14=>
aB v8 h9 fun v15=>
asI .i64 v15 fun n16=>
aN (IntKind.wrap .i64 (n14+n16)) fun n17=>
(bif (decide ((n12:Int)=n17)) then
(aB v0 h9 fun v19=>
aB v4 h9 fun v20=>
aB v6 h9 fun v21=>
asI .i64 v21 fun n22=>
bJ 1 v20 none (some (AV.i .i64 n22)) none h9 fun v23=>
aB v4 h9 fun v24=>
aB v6 h9 fun v25=>
asI .i64 v25 fun n26=>
bJ 1 v24 (some (AV.i .i64 n26)) none none h9 fun v27=>
C Y45.id [v19,v23,v27] h9 fun v28 h29=>
asI .i64 v28 fun n30=>
Q (AV.i .i64 n30) h29)
else
(cV none [AV.nf] h9 fun v33 h34=>
aU 1 v33 (AV.fn (.func Y39.id) [] [v0,v4,v6,v8,v2]) h34 fun h35=>
aB v0 h35 fun v37=>
aB v2 h35 fun v38=>
C Y35.id [v37,v38,(AV.fn (.func Y23.id) [] [v0,v2,v4,v6,v8,v33])] h35 fun v39 h40=>
asI .i64 v39 fun n41=>
Q (AV.i .i64 n41) h40))
theorem Y38.call {K x0 x1 x2 x3 x4 h} (H:Y38.t (aK h K) x0 x1 x2 x3 x4 h (Y38.J (aK h K))):C Y38.id [x0,x1,x2,(AV.i .i64 x3),(AV.i .i64 x4)] h K:=
 gC Y38.J Tryd.func110 Y38.dist H
noncomputable def Y52.body:Code:=(Tryd.f111.body).getD .skip
def Y52.ann:Ann:=(sl [0,1,2,3,4,5,6] (sq [1,2,3,4,5,6] (.ord (nn 0 6 (.eff 6 .done .stop))) (sl [8] lf)))
theorem Y52.dist:aH (places Y52.ann Y52.body)=true:=by kernel_rfl
noncomputable def Y52.J (Q:AV→aA→Prop):JT:=bL prog C Tryd.f111 Y52.ann Y52.body Q
def Y52.t (Q:AV→aA→Prop) (x0:Int) (x1 x2 x3 x4 x5 x6:AV) (h:aA) (J:JT):Prop:=
aB x1 h fun v1=>
aB x2 h fun v2=>
asI .i64 v2 fun n3=>
bG 19 1 (aAO h 0) (AV.i .i64 n3) fun v4=>
aB v4 h fun v5=>
asI .i64 v5 fun n6=>
aW 1 v1 (AV.i .i64 n6) h fun v7=>
aU 1 v7 (AV.i .i64 x0) h fun h8=>
aB x3 h8 fun v10=>
aB x1 h8 fun v11=>
aB x2 h8 fun v12=>
asI .i64 v12 fun n13=>
aN (IntKind.wrap .i64 (n13+1)) fun n14=>
aB x4 h8 fun v15=>
asI .i64 v15 fun n16=>
aB x5 h8 fun v17=>
asI .i64 v17 fun n18=>
aB x6 h8 fun v19=>
asI .i64 v19 fun n20=>
C Y41.id [v10,v11,(AV.i .i64 n14),(AV.i .i64 n16),(AV.i .i64 n18),(AV.i .i64 n20)] h8 fun v21 h22=>
asI .i64 v21 fun n23=>
Q (AV.i .i64 n23) h22
theorem Y52.call {K x0 x1 x2 x3 x4 x5 x6 h} (H:Y52.t (aK h K) x0 x1 x2 x3 x4 x5 x6 h (Y52.J (aK h K))):C Y52.id [(AV.i .i64 x0),x1,x2,x3,x4,x5,x6] h K:=
 gC Y52.J Tryd.func111 Y52.dist H
noncomputable def Y35.body:Code:=(Tryd.f113.body).getD .skip
def Y35.ann:Ann:=(sl [0,1,2] (sl [] (sl [6] lf)))
theorem Y35.dist:aH (places Y35.ann Y35.body)=true:=by kernel_rfl
noncomputable def Y35.J (Q:AV→aA→Prop):JT:=bL prog C Tryd.f113 Y35.ann Y35.body Q
def Y35.t (Q:AV→aA→Prop) (x0 x1 x2:AV) (h:aA) (J:JT):Prop:=
aZ x0 fun v1=>
aC 14 v1 fun v2=>
aU 1 v2 x1 h fun h3=>
aZ x0 fun v4=>
aC 15 v4 fun v5=>
aU 1 v5 x2 h3 fun h6=>
Q (AV.i .i64 0) h6
theorem Y35.call {K x0 x1 x2 h} (H:Y35.t (aK h K) x0 x1 x2 h (Y35.J (aK h K))):C Y35.id [x0,x1,x2] h K:=
 gC Y35.J Tryd.func113 Y35.dist H
noncomputable def Y48.body:Code:=(Tryd.f114.body).getD .skip
def Y48.ann:Ann:=(sl [0,1,2,3] (sq [0,1,2,3] (.one (sl [0,1,2,3,9] (.br (sq [1,2,3] (sl [1,2,3,6] (sl [1,2,3,6,17] (.br (sl [5] lf) lf))) (sl [5] lf)) (sl [0,1,2,3,23] (.br (sl [5] lf) (sl [0,1,2,3,28] (.br (sl [5] lf) lf))))))) (sl [1,2,3,7,8] (sl [5] lf))))
theorem Y48.dist:aH (places Y48.ann Y48.body)=true:=by kernel_rfl
noncomputable def Y48.J (Q:AV→aA→Prop):JT:=bL prog C Tryd.f114 Y48.ann Y48.body Q
def Y48.t (Q:AV→aA→Prop) (x0:Int) (x1 x2 x3:AV) (h:aA) (J:JT):Prop:=
(bif (decide ((x0:Int)<256)) then
(aB x1 h fun v2=>
C Y16.id [v2,(AV.i .u8 (IntKind.wrap .u8 x0))] h fun v3 h4=>
asI .i64 v3 fun n5=>
(bif (!decide ((n5:Int)=0)) then
(Q (AV.i .i64 n5) h4)
else
(aB x1 h4 fun v10=>
aB x2 h4 fun v11=>
aB x3 h4 fun v12=>
C Y36.id [v10,v11,v12] h4 fun v13 h14=>
asI .i64 v13 fun n15=>
Q (AV.i .i64 n15) h14)))
else
((bif (decide ((x0:Int)=256)) then
(aB x1 h fun v18=>
C Y32.id [v18] h fun v19 h20=>
asI .i64 v19 fun n21=>
Q (AV.i .i64 n21) h20)
else
((bif (decide ((285:Int)<x0)) then
(Q (AV.i .i64 2) h)
else
(C Y33.id [(AV.i .i64 x0)] h fun v26 h27=>
aP 0 v26 fun v28=>
asI .i64 v28 fun n29=>
aP 1 v26 fun v30=>
asI .i64 v30 fun n31=>
cV none [(AV.i .i64 0)] h27 fun v32 h33=>
aU 1 v32 (AV.i .i64 n29) h33 fun h34=>
aB x1 h34 fun v36=>
C Y27.id [v36,(AV.i .i64 n31),(AV.fn (.func Y53.id) [] [x1,x3,v32,x2])] h34 fun v37 h38=>
asI .i64 v37 fun n39=>
Q (AV.i .i64 n39) h38))))))
theorem Y48.call {K x0 x1 x2 x3 h} (H:Y48.t (aK h K) x0 x1 x2 x3 h (Y48.J (aK h K))):C Y48.id [(AV.i .i64 x0),x1,x2,x3] h K:=
 gC Y48.J Tryd.func114 Y48.dist H
noncomputable def Y53.body:Code:=(Tryd.f115.body).getD .skip
def Y53.ann:Ann:=(sl [1,2,3,4,5] (sl [6] lf))
theorem Y53.dist:aH (places Y53.ann Y53.body)=true:=by kernel_rfl
noncomputable def Y53.J (Q:AV→aA→Prop):JT:=bL prog C Tryd.f115 Y53.ann Y53.body Q
def Y53.t (Q:AV→aA→Prop) (x0:Int) (x1 x2 x3 x4:AV) (h:aA) (J:JT):Prop:=
dF none (AV.i .i64 x0) h fun v0 h1=>
aB x1 h1 fun v3=>
aB x2 h1 fun v4=>
C Y35.id [v3,v4,(AV.fn (.func Y64.id) [] [x1,x3,v0,x4,x2])] h1 fun v5 h6=>
asI .i64 v5 fun n7=>
Q (AV.i .i64 n7) h6
theorem Y53.call {K x0 x1 x2 x3 x4 h} (H:Y53.t (aK h K) x0 x1 x2 x3 x4 h (Y53.J (aK h K))):C Y53.id [(AV.i .i64 x0),x1,x2,x3,x4] h K:=
 gC Y53.J Tryd.func115 Y53.dist H
noncomputable def Y64.body:Code:=(Tryd.f116.body).getD .skip
def Y64.ann:Ann:=(sl [0,1,2,3,4,5] (sq [0,1,2,3,4,5] (sl [0,1,2,3,4,5,11] (.br (sl [7] lf) lf)) (sl [1,2,3,4,5,8,9] (sl [7] lf))))
theorem Y64.dist:aH (places Y64.ann Y64.body)=true:=by kernel_rfl
noncomputable def Y64.J (Q:AV→aA→Prop):JT:=bL prog C Tryd.f116 Y64.ann Y64.body Q
def Y64.t (Q:AV→aA→Prop) (x0:Int) (x1 x2 x3 x4 x5:AV) (h:aA) (J:JT):Prop:=
(bif (decide ((29:Int)<x0)) then
(Q (AV.i .i64 2) h)
else
(C Y37.id [(AV.i .i64 x0)] h fun v4 h5=>
aP 0 v4 fun v6=>
asI .i64 v6 fun n7=>
aP 1 v4 fun v8=>
asI .i64 v8 fun n9=>
cV none [(AV.i .i64 0)] h5 fun v10 h11=>
aU 1 v10 (AV.i .i64 n7) h11 fun h12=>
aB x1 h12 fun v14=>
C Y27.id [v14,(AV.i .i64 n9),(AV.fn (.func Y51.id) [] [x1,x2,x3,v10,x4,x5])] h12 fun v15 h16=>
asI .i64 v15 fun n17=>
Q (AV.i .i64 n17) h16))
theorem Y64.call {K x0 x1 x2 x3 x4 x5 h} (H:Y64.t (aK h K) x0 x1 x2 x3 x4 x5 h (Y64.J (aK h K))):C Y64.id [(AV.i .i64 x0),x1,x2,x3,x4,x5] h K:=
 gC Y64.J Tryd.func116 Y64.dist H
noncomputable def Y51.body:Code:=(Tryd.f117.body).getD .skip
def Y51.ann:Ann:=(sl [0,1,2,3,4,5,6] (sq [1,5,6] (sl [1,5,6,9] (sl [1,5,6,9,19] (.br (sl [8] lf) lf))) (sl [8] lf)))
theorem Y51.dist:aH (places Y51.ann Y51.body)=true:=by kernel_rfl
noncomputable def Y51.J (Q:AV→aA→Prop):JT:=bL prog C Tryd.f117 Y51.ann Y51.body Q
def Y51.t (Q:AV→aA→Prop) (x0:Int) (x1 x2 x3 x4 x5 x6:AV) (h:aA) (J:JT):Prop:=
aB x1 h fun v1=>
aB x2 h fun v2=>
asI .i64 v2 fun n3=>
aB x3 h fun v4=>
asI .i64 v4 fun n5=>
aN (IntKind.wrap .i64 (n3+n5)) fun n6=>
aB x4 h fun v7=>
asI .i64 v7 fun n8=>
aN (IntKind.wrap .i64 (n8+x0)) fun n9=>
C Y20.id [v1,(AV.i .i64 n6),(AV.i .i64 n9)] h fun v10 h11=>
asI .i64 v10 fun n12=>
(bif (!decide ((n12:Int)=0)) then
(Q (AV.i .i64 n12) h11)
else
(aB x1 h11 fun v17=>
aB x5 h11 fun v18=>
aB x6 h11 fun v19=>
C Y36.id [v17,v18,v19] h11 fun v20 h21=>
asI .i64 v20 fun n22=>
Q (AV.i .i64 n22) h21))
theorem Y51.call {K x0 x1 x2 x3 x4 x5 x6 h} (H:Y51.t (aK h K) x0 x1 x2 x3 x4 x5 x6 h (Y51.J (aK h K))):C Y51.id [(AV.i .i64 x0),x1,x2,x3,x4,x5,x6] h K:=
 gC Y51.J Tryd.func117 Y51.dist H
noncomputable def Y20.body:Code:=(Tryd.f118.body).getD .skip
def Y20.ann:Ann:=(sl [0,1,2] (sq [0,1,2] (sl [0,1,2,13] (.br (sl [6] lf) lf)) (sq [] (sl [0,2,14,15] (.one (.loop 1 [0,2,14,15] (sl [0,2,14,15,16] (sq [0,2,14,15] bl (sq [0,2,14,15] (.one (sq [0,2,7,14,15] (.ord (nn 0 14 (.eff 14 (.neu 15 .done) .stop))) (sl [0,2,7,14,15,33] (.br (sl [6] lf) lf)))) lf)))))) (sl [6] lf))))
theorem Y20.dist:aH (places Y20.ann Y20.body)=true:=by kernel_rfl
noncomputable def Y20.J (Q:AV→aA→Prop):JT:=bL prog C Tryd.f118 Y20.ann Y20.body Q
def Y20.p0 (Q:AV→aA→Prop) (x0:AV) (x2 x14 x15:Int) (h:aA):Prop:=Y20.J Q 1 [(0,x0),(2,(AV.i .i64 x2)),(14,(AV.i .i64 x14)),(15,(AV.i .i64 x15))] h
def Y20.t0 (Q:AV→aA→Prop) (x0:AV) (x2 x14 x15:Int) (h:aA) (J:JT):Prop:=
(bif (decide ((x15:Int)<x14)) then
(aZ x0 fun v12=>
aC 2 v12 fun v13=>
aB v13 h fun v14=>
aZ x0 fun v15=>
aC 2 v15 fun v16=>
aB v16 h fun v17=>
bV v17 fun n18=>
aN (IntKind.wrap .i64 (n18 - x2)) fun n19=>
aW 1 v14 (AV.i .i64 n19) h fun v20=>
aB v20 h fun v21=>
asI .u8 v21 fun n22=>
C Y16.id [x0,(AV.i .u8 n22)] h fun v23 h24=>
asI .i64 v23 fun n25=>
(bif (!decide ((n25:Int)=0)) then
(Q (AV.i .i64 n25) h24)
else
(aN (IntKind.wrap .i64 (x15+1)) fun n30=>
J 1 [(0,x0),(2,(AV.i .i64 x2)),(14,(AV.i .i64 x14)),(15,(AV.i .i64 n30))] h24)))
else
(Q (AV.i .i64 0) h))
theorem Y20.i0 {Q x0 x2 x14 x15 h} (H:Y20.t0 Q x0 x2 x14 x15 h (Y20.J Q)):Y20.p0 Q x0 x2 x14 x15 h:=gH Y20.J Tryd.f118 Y20.dist [1,1,0,1,0] H
def Y20.t (Q:AV→aA→Prop) (x0:AV) (x1 x2:Int) (h:aA) (J:JT):Prop:=
aZ x0 fun v1=>
aC 3 v1 fun v2=>
aB v2 h fun v3=>
asI .i64 v3 fun n4=>
(bif (decide ((n4:Int)<x2)) then
(Q (AV.i .i64 2) h)
else
(J 1 [(0,x0),(2,(AV.i .i64 x2)),(14,(AV.i .i64 x1)),(15,(AV.i .i64 0))] h))
theorem Y20.call {K x0 x1 x2 h} (H:Y20.t (aK h K) x0 x1 x2 h (Y20.J (aK h K))):C Y20.id [x0,(AV.i .i64 x1),(AV.i .i64 x2)] h K:=
 gC Y20.J Tryd.func118 Y20.dist H
noncomputable def Y39.body:Code:=(Tryd.f119.body).getD .skip
def Y39.ann:Ann:=(sl [0,3,4,5,6,7,9,10] (sl [11] lf))
theorem Y39.dist:aH (places Y39.ann Y39.body)=true:=by kernel_rfl
noncomputable def Y39.J (Q:AV→aA→Prop):JT:=bL prog C Tryd.f119 Y39.ann Y39.body Q
def Y39.t (Q:AV→aA→Prop) (x0 x1 x2:Int) (x3 x4 x5 x6 x7:AV) (h:aA) (J:JT):Prop:=
dF none (AV.i .i64 x1) h fun v0 h1=>
dF none (AV.i .i64 x2) h1 fun v2 h3=>
aB x3 h3 fun v5=>
C Y27.id [v5,(AV.i .i64 x0),(AV.fn (.func Y49.id) [] [x4,v0,x5,x6,x3,x7,v2])] h3 fun v6 h7=>
asI .i64 v6 fun n8=>
Q (AV.i .i64 n8) h7
theorem Y39.call {K x0 x1 x2 x3 x4 x5 x6 x7 h} (H:Y39.t (aK h K) x0 x1 x2 x3 x4 x5 x6 x7 h (Y39.J (aK h K))):C Y39.id [(AV.i .i64 x0),(AV.i .i64 x1),(AV.i .i64 x2),x3,x4,x5,x6,x7] h K:=
 gC Y39.J Tryd.func119 Y39.dist H
noncomputable def Y49.body:Code:=(Tryd.f120.body).getD .skip
def Y49.ann:Ann:=(sl [0,1,2,3,4,5,6,7] (sq [0,1,2,3,4,5,6,7] (sl [0,1,2,3,4,5,6,7,19] (.br (sl [9] lf) lf)) (sq [9] (.ord (nn 0 4 (nn 5 3 (nn 10 2 (.eff 4 (.eff 8 (.eff 9 (.eff 12 (.neu 13 .done) .stop) .stop) .stop) .stop))))) lf)))
theorem Y49.dist:aH (places Y49.ann Y49.body)=true:=by kernel_rfl
noncomputable def Y49.J (Q:AV→aA→Prop):JT:=bL prog C Tryd.f120 Y49.ann Y49.body Q
def Y49.t (Q:AV→aA→Prop) (x0:Int) (x1 x2 x3 x4 x5 x6 x7:AV) (h:aA) (J:JT):Prop:=
aB x1 h fun v1=>
bV v1 fun n2=>
aB x2 h fun v3=>
asI .i64 v3 fun n4=>
aN (IntKind.wrap .i64 (n2+n4)) fun n5=>
aN (IntKind.wrap .i64 (n5+x0)) fun n6=>
aB x3 h fun v7=>
asI .i64 v7 fun n8=>
aB x4 h fun v9=>
asI .i64 v9 fun n10=>
aN (IntKind.wrap .i64 (n8+n10)) fun n11=>
(bif (decide ((n11:Int)<n6)) then
(Q (AV.i .i64 2) h)
else
(aB x5 h fun v15=>
aB x6 h fun v16=>
aB x1 h fun v17=>
aB x7 h fun v18=>
asI .i64 v18 fun n19=>
aB x2 h fun v20=>
asI .i64 v20 fun n21=>
aN (IntKind.wrap .i64 (n21+x0)) fun n22=>
aB x3 h fun v23=>
asI .i64 v23 fun n24=>
aB x4 h fun v25=>
asI .i64 v25 fun n26=>
bP 1 1 [(AV.i .i64 0)] [(0,1,(AV.i .i64 n19))] h fun v27 h28=>
aB x4 h28 fun v29=>
asI .i64 v29 fun n30=>
((AV.i .i64 n26)=(AV.i .i64 n30) ∧
(aB x3 h28 fun v31=>
asI .i64 v31 fun n32=>
((AV.i .i64 n24)=(AV.i .i64 n32) ∧
(aB x2 h28 fun v33=>
asI .i64 v33 fun n34=>
((AV.i .i64 n21)=(AV.i .i64 n34) ∧
(aB x1 h28 fun v35=>
(v17=v35 ∧
(aB x6 h28 fun v36=>
(v16=v36 ∧
(aB x5 h28 fun v37=>
(v15=v37 ∧
(C Y15.id [v27,(AV.i .i64 n22)] h28 fun v38 h39=>
aB x4 h39 fun v40=>
asI .i64 v40 fun n41=>
((AV.i .i64 n26)=(AV.i .i64 n41) ∧
(aB x3 h39 fun v42=>
asI .i64 v42 fun n43=>
((AV.i .i64 n24)=(AV.i .i64 n43) ∧
(aB x1 h39 fun v44=>
(v17=v44 ∧
(aB x6 h39 fun v45=>
(v16=v45 ∧
(aB x5 h39 fun v46=>
(v15=v46 ∧
(bT none 1 8 v17 v38 h39 fun v47 h48=>
aB x4 h48 fun v49=>
asI .i64 v49 fun n50=>
((AV.i .i64 n26)=(AV.i .i64 n50) ∧
(aB x3 h48 fun v51=>
asI .i64 v51 fun n52=>
((AV.i .i64 n24)=(AV.i .i64 n52) ∧
(aB x6 h48 fun v53=>
(v16=v53 ∧
(aB x5 h48 fun v54=>
(v15=v54 ∧
(C Y38.id [v15,v16,v47,(AV.i .i64 n24),(AV.i .i64 n26)] h48 fun v55 h56=>
asI .i64 v55 fun n57=>
Q (AV.i .i64 n57) h56))))))))))))))))))))))))))))))))
theorem Y49.call {K x0 x1 x2 x3 x4 x5 x6 x7 h} (H:Y49.t (aK h K) x0 x1 x2 x3 x4 x5 x6 x7 h (Y49.J (aK h K))):C Y49.id [(AV.i .i64 x0),x1,x2,x3,x4,x5,x6,x7] h K:=
 gC Y49.J Tryd.func120 Y49.dist H
noncomputable def Y23.body:Code:=(Tryd.f121.body).getD .skip
def Y23.ann:Ann:=(sl [0,1,2,3,4,5,6] (sq [6] (.one (sl [0,1,2,3,4,5,6,9] (.br (sq [8] (.ord (nn 0 4 (nn 6 2 (.eff 4 (.eff 5 (.eff 8 (.neu 9 .done) .stop) .stop) .stop)))) lf) (.seq 1 [0,3,6,21] lf (.br (sl [8] lf) (sl [0,3,6,29] (.br (sq [8] (.ord (nn 0 7 (.eff 7 (.neu 8 .done) .stop))) lf) (sl [6,40] (.br (sl [8] lf) lf))))))))) (sl [8] lf)))
theorem Y23.dist:aH (places Y23.ann Y23.body)=true:=by kernel_rfl
noncomputable def Y23.J (Q:AV→aA→Prop):JT:=bL prog C Tryd.f121 Y23.ann Y23.body Q
def Y23.p0 (Q:AV→aA→Prop) (x0:Int) (x3 x6:AV) (x21:Bool) (h:aA):Prop:=Y23.J Q 1 [(0,(AV.i .i64 x0)),(3,x3),(6,x6),(21,(AV.b x21))] h
def Y23.t0 (Q:AV→aA→Prop) (x0:Int) (x3 x6:AV) (x21:Bool) (h:aA) (J:JT):Prop:=
(bif x21 then
(Q (AV.i .i64 2) h)
else
((bif (decide ((x0:Int)=16)) then
(aB x6 h fun v36=>
aB x3 h fun v37=>
aB x3 h fun v38=>
bV v38 fun n39=>
aN (IntKind.wrap .i64 (n39 - 1)) fun n40=>
aW 1 v37 (AV.i .i64 n40) h fun v41=>
aB v41 h fun v42=>
asI .i64 v42 fun n43=>
bU C v36 [(AV.i .i64 2),(AV.i .i64 3),(AV.i .i64 n43)] h fun v44 h45=>
asI .i64 v44 fun n46=>
Q (AV.i .i64 n46) h45)
else
((bif (decide ((x0:Int)=17)) then
(aB x6 h fun v49=>
bU C v49 [(AV.i .i64 3),(AV.i .i64 3),(AV.i .i64 0)] h fun v50 h51=>
asI .i64 v50 fun n52=>
Q (AV.i .i64 n52) h51)
else
(aB x6 h fun v55=>
bU C v55 [(AV.i .i64 7),(AV.i .i64 11),(AV.i .i64 0)] h fun v56 h57=>
asI .i64 v56 fun n58=>
Q (AV.i .i64 n58) h57))))))
theorem Y23.i0 {Q x0 x3 x6 x21 h} (H:Y23.t0 Q x0 x3 x6 x21 h (Y23.J Q)):Y23.p0 Q x0 x3 x6 x21 h:=gR Y23.J Tryd.f121 Y23.dist [1,0,0,1,1,1] H
def Y23.t (Q:AV→aA→Prop) (x0:Int) (x1 x2 x3 x4 x5 x6:AV) (h:aA) (J:JT):Prop:=
(bif (decide ((x0:Int)<16)) then
(aB x1 h fun v2=>
aB x2 h fun v3=>
aB x3 h fun v4=>
aB x4 h fun v5=>
asI .i64 v5 fun n6=>
aB x5 h fun v7=>
asI .i64 v7 fun n8=>
bP 1 1 [(AV.i .i64 0)] [(0,1,(AV.i .i64 x0))] h fun v9 h10=>
aB x5 h10 fun v11=>
asI .i64 v11 fun n12=>
((AV.i .i64 n8)=(AV.i .i64 n12) ∧
(aB x4 h10 fun v13=>
asI .i64 v13 fun n14=>
((AV.i .i64 n6)=(AV.i .i64 n14) ∧
(aB x3 h10 fun v15=>
(v4=v15 ∧
(aB x2 h10 fun v16=>
(v3=v16 ∧
(aB x1 h10 fun v17=>
(v2=v17 ∧
(bT none 1 8 v4 v9 h10 fun v18 h19=>
aB x5 h19 fun v20=>
asI .i64 v20 fun n21=>
((AV.i .i64 n8)=(AV.i .i64 n21) ∧
(aB x4 h19 fun v22=>
asI .i64 v22 fun n23=>
((AV.i .i64 n6)=(AV.i .i64 n23) ∧
(aB x2 h19 fun v24=>
(v3=v24 ∧
(aB x1 h19 fun v25=>
(v2=v25 ∧
(C Y38.id [v2,v3,v18,(AV.i .i64 n6),(AV.i .i64 n8)] h19 fun v26 h27=>
asI .i64 v26 fun n28=>
Q (AV.i .i64 n28) h27)))))))))))))))))))
else
((bif (decide ((x0:Int)=16)) then
(aB x3 h fun v30=>
bV v30 fun n31=>
J 1 [(0,(AV.i .i64 x0)),(3,x3),(6,x6),(21,(AV.b (decide ((n31:Int)=0))))] h)
else
(J 1 [(0,(AV.i .i64 x0)),(3,x3),(6,x6),(21,(AV.b false))] h))))
theorem Y23.call {K x0 x1 x2 x3 x4 x5 x6 h} (H:Y23.t (aK h K) x0 x1 x2 x3 x4 x5 x6 h (Y23.J (aK h K))):C Y23.id [(AV.i .i64 x0),x1,x2,x3,x4,x5,x6] h K:=
 gC Y23.J Tryd.func121 Y23.dist H
end Go.Proofs.YtpaphfeihpgamaaDoor
namespace Go.Proofs.YtpaphfeihpgamaaDoor
open Go.GAM
variable [XR]
noncomputable def Y18.body:Code:=(Tryd.f6.body).getD .skip
def Y18.ann:Ann:=(sl [0,1] (sq [0,1] (sl [0,1,12] (.br (sl [4] lf) lf)) (sl [0,1,5] (sq [0,1,5] (sl [0,1,5,19] (.br (sl [4] lf) lf)) (sl [0,1,5,6,7] (sq [0,1,5,6,7] (sl [0,1,5,6,7,31] (.br (.seq 1 [4] lf lf) lf)) (sl [0,1,6,7,9] (.seq 2 [4] lf lf))))))))
theorem Y18.dist:aH (places Y18.ann Y18.body)=true:=by kernel_rfl
noncomputable def Y18.J (Q:AV→aA→Prop):JT:=bL prog C Tryd.f6 Y18.ann Y18.body Q
def Y18.p0 (Q:AV→aA→Prop) (x4:Bool) (h:aA):Prop:=Y18.J Q 1 [(4,(AV.b x4))] h
def Y18.p1 (Q:AV→aA→Prop) (x4:Bool) (h:aA):Prop:=Y18.J Q 2 [(4,(AV.b x4))] h
def Y18.t0 (Q:AV→aA→Prop) (x4:Bool) (h:aA) (J:JT):Prop:=
Q (AV.b x4) h
theorem Y18.i0 {Q x4 h} (H:Y18.t0 Q x4 h (Y18.J Q)):Y18.p0 Q x4 h:=gR Y18.J Tryd.f6 Y18.dist [1,1,1,1,1,0,1,0,1] H
def Y18.t1 (Q:AV→aA→Prop) (x4:Bool) (h:aA) (J:JT):Prop:=
Q (AV.b x4) h
theorem Y18.i1 {Q x4 h} (H:Y18.t1 Q x4 h (Y18.J Q)):Y18.p1 Q x4 h:=gR Y18.J Tryd.f6 Y18.dist [1,1,1,1,1,1,1,1] H
def Y18.t (Q:AV→aA→Prop) (x0:List UInt8) (x1:Int) (h:aA) (J:JT):Prop:=
(bif (decide ((3000:Int)<(x0.length:Int))) then
(C Y21.id [] h fun v2 h3=>
asB v2 fun c4=>
Q (AV.b c4) h3)
else
(C Y42.id [(AV.ag [(AV.i .i64 (IntKind.wrap .i64 x1)),(AV.i .i64 1100)])] h fun v7 h8=>
dT prog .eql 32 v7 (AV.p none) fun v10=>
asB v10 fun c11=>
(bif c11 then
(Q (AV.b false) h8)
else
(C Y34.id [(AV.s x0)] h8 fun v15 h16=>
asS v15 fun l17=>
C Y0.id [v7,(AV.s l17)] h16 fun v18 h19=>
aP 0 v18 fun v20=>
asS v20 fun l21=>
aP 1 v18 fun v22=>
asI .i64 v22 fun n23=>
aCN (decide (((x0.length:Int):Int)≤(IntKind.wrap .i64 x1))) fun c25=>
(bif c25 then
((bif (decide ((l21:List UInt8)=x0)) then
((bif (decide ((n23:Int)=0)) then
(C Y25.id [v7] h19 fun v27 h28=>
asB v27 fun c29=>
(bif c29 then
(C Y21.id [] h28 fun v30 h31=>
asB v30 fun c32=>
J 1 [(4,(AV.b c32))] h31)
else
(J 1 [(4,(AV.b false))] h28)))
else
(J 1 [(4,(AV.b false))] h19)))
else
(J 1 [(4,(AV.b false))] h19)))
else
(C Y0.id [v7,(AV.s [97])] h19 fun v38 h39=>
aP 0 v38 fun v40=>
asS v40 fun l41=>
aP 1 v38 fun v42=>
asI .i64 v42 fun n43=>
(bif (decide ((n23:Int)=16)) then
(aCN (decide (((l21.length:Int):Int)=(IntKind.wrap .i64 x1))) fun c45=>
(bif c45 then
(b8 (AV.s x0) none (some (AV.i .i64 (l21.length:Int))) fun l46=>
(bif (decide ((l21:List UInt8)=l46)) then
((bif (decide ((n43:Int)=10)) then
(C Y21.id [] h39 fun v47 h48=>
asB v47 fun c49=>
J 2 [(4,(AV.b c49))] h48)
else
(J 2 [(4,(AV.b false))] h39)))
else
(J 2 [(4,(AV.b false))] h39)))
else
(J 2 [(4,(AV.b false))] h39)))
else
(J 2 [(4,(AV.b false))] h39))))))))
theorem Y18.call {K x0 x1 h} (H:Y18.t (aK h K) x0 x1 h (Y18.J (aK h K))):C Y18.id [(AV.s x0),(AV.i .u16 x1)] h K:=
 gC Y18.J Tryd.func6 Y18.dist H
end Go.Proofs.YtpaphfeihpgamaaDoor
namespace Go.Huff
def cnt (l:List Nat):Nat→Nat
 | 0=>0
 | n+1=>l.countP (· == n+1)
def fst (l:List Nat):Nat→Nat
 | 0=>0
 | n+1=>2 * (fst l n+cnt l n)
def fin (l:List Nat) (n:Nat):Nat:=fst l n+cnt l n
theorem aBH (l:List Nat) (n:Nat):fin l (n+1)=2 * fin l n+cnt l (n+1):=rfl
def codeAt (l:List Nat) (i:Nat):Nat:=fst l (l.getD i 0)+(l.take i).countP (· == l.getD i 0)
def pickFrom (n:Nat):List Nat→Nat→Nat→Option Nat
 | [],_,_=>none
 | x :: r,i,k=>if x=n then (if k=0 then some i else pickFrom n r (i+1) (k - 1)) else pickFrom n r (i+1) k
def pick (l:List Nat) (n k:Nat):Option Nat:=pickFrom n l 0 k
theorem gE (n : Nat) : ∀ (r pre : List Nat) (k i : Nat), pickFrom n r pre.length k = some i → (pre ++ r).getD i 0 = n ∧ i < (pre ++ r).length ∧ ((pre ++ r).take i).countP (· == n) = pre.countP (· == n) + k
 | [],pre,k,i,h=>by simp [pickFrom] at h
 | x :: r, pre, k, i, h => by
  have e:pre++x :: r=(pre++[x])++r:=by simp
  have el:(pre++[x]).length=pre.length+1:=by simp
  unfold pickFrom at h
  split at h
  ·rename_i hx
   split at h
   ·rename_i hk
    cases h
    refine ⟨by simp [List.getD_eq_getElem?_getD,hx],by simp, ?_⟩
    rw [List.take_left,hk] <;> rfl
   ·rename_i hk
    rw [← el] at h
    have:=gE n r (pre++[x]) (k - 1) i h
    rw [e]
    refine ⟨this.1,this.2.1,this.2.2.trans ?_⟩
    rw [List.countP_append,hx]
    simp
    omega
  ·rename_i hx
   rw [← el] at h
   have:=gE n r (pre++[x]) k i h
   rw [e]
   refine ⟨this.1,this.2.1,this.2.2.trans ?_⟩
   rw [List.countP_append]
   simp [hx]
theorem gF (n : Nat) : ∀ (r : List Nat) (i k : Nat), k < r.countP (· == n) → ∃ j, pickFrom n r i k = some j
 | [],i,k,h=>by simp at h
 | x :: r, i, k, h => by
  unfold pickFrom
  rw [List.countP_cons] at h
  by_cases hx:x=n
  ·rw [if_pos hx]
   by_cases hk:k=0
   ·rw [if_pos hk]; exact ⟨_,rfl⟩
   ·rw [if_neg hk]
    refine gF n r _ _ ?_
    simp [hx] at h; omega
  ·rw [if_neg hx]
   refine gF n r _ _ ?_
   simpa [hx] using h
theorem pick_some {l:List Nat} {n k:Nat} (hn:0<n) (h:k<cnt l n):∃ j,pick l n k=some j∧l.getD j 0=n∧j<l.length∧codeAt l j=fst l n+k:=by
 obtain ⟨n,rfl⟩:∃ m,n=m+1:=⟨n - 1,by omega⟩
 obtain ⟨j,hj⟩:=gF (n+1) l 0 k h
 have:=gE (n+1) l [] k j hj
 simp only [List.nil_append,List.countP_nil,Nat.zero_add] at this
 refine ⟨j,hj,this.1,this.2.1, ?_⟩
 unfold codeAt
 rw [this.1,this.2.2]
theorem aAZ (p:Nat→Bool) (l:List Nat) {i j:Nat} (h:i≤j):(l.take i).countP p≤(l.take j).countP p:=by
 have:l.take i=(l.take j).take i:=by rw [List.take_take,Nat.min_eq_left h]
 rw [this]
 exact List.Sublist.countP_le (List.take_sublist _ _)
theorem tK {p:Nat→Bool} {l:List Nat} {i j:Nat} (h:i<j) (hi:i<l.length) (hp:p (l.getD i 0)=true):(l.take i).countP p<(l.take j).countP p:=by
 have h1:=aAZ p l (i:=i+1) (j:=j) h
 have h2:(l.take (i+1)).countP p=(l.take i).countP p+1:=by
  rw [List.take_add_one,List.countP_append,List.getElem?_eq_getElem hi]
  have:l.getD i 0=l[i]:=by simp [List.getD_eq_getElem?_getD,hi]
  rw [this] at hp
  simp [hp]
 omega
theorem aBD {l:List Nat} {i j:Nat} (hi:i<l.length) (hj:j<l.length) (hl:l.getD i 0=l.getD j 0) (hc:codeAt l i=codeAt l j):i=j:=by
 unfold codeAt at hc
 rw [hl] at hc
 rcases Nat.lt_trichotomy i j with h | h | h
 ·have := tK (p := (· == l.getD j 0)) h hi (by rw [hl]; simp)
  omega
 ·exact h
 ·have := tK (p := (· == l.getD j 0)) h hj (by simp)
  omega
theorem tC {l:List Nat} {i:Nat} (hi:i<l.length) (h0:0<l.getD i 0):fst l (l.getD i 0)≤codeAt l i∧codeAt l i<fin l (l.getD i 0):=by
 refine ⟨Nat.le_add_right _ _, ?_⟩
 unfold codeAt fin
 obtain ⟨n,hn⟩:∃ m,l.getD i 0=m+1:=⟨l.getD i 0 - 1,by omega⟩
 have:=tK (p:=(· == l.getD i 0)) (l:=l) (j:=l.length) hi hi (by simp)
 rw [List.take_length] at this
 rw [hn] at this ⊢
 show _<_+l.countP (· == n+1)
 omega
inductive Res where
 | sym (i:Nat)
 | more
 | bad
def longest (l:List Nat):Nat:=l.foldl max 0
theorem e6:∀ (l:List Nat) (a x:Nat),x=a∨x∈l→x≤l.foldl max a
 | [],a,x,h=>by simp at h; simp; omega
 | y :: r, a, x, h => by
  rw [List.foldl_cons]
  rcases h with h | h
  ·exact Nat.le_trans (by omega) (e6 r (max a y) (max a y) (.inl rfl))
  ·rcases List.mem_cons.1 h with h | h
   ·exact Nat.le_trans (by omega) (e6 r (max a y) (max a y) (.inl rfl))
   ·exact e6 r _ x (.inr h)
theorem le_longest {l:List Nat} {x:Nat} (h:x∈l):x≤longest l:=e6 l 0 x (.inr h)
def stepP (l:List Nat) (n c:Nat):Res:=
 if n≤longest l∧c - fst l n<cnt l n∧fst l n≤c then .sym ((pick l n (c - fst l n)).getD 0)
 else if n<longest l then .more else .bad
end Go.Huff
namespace Go.Huff
def kr:List Nat→Nat→Nat
 | [],_=>0
 | x :: r,L=>(if 0<x∧x≤L then 2 ^ (L - x) else 0)+kr r L
theorem sN (L : Nat) : ∀ l : List Nat, kr l (L + 1) = 2 * kr l L + l.countP (· == L + 1)
 | []=>rfl
 | x :: r => by
  unfold kr
  rw [sN L r,List.countP_cons]
  by_cases h0:0<x
  ·by_cases h1 : x ≤ L
   ·rw [if_pos ⟨h0, by omega⟩, if_pos ⟨h0, h1⟩, show L + 1 - x = (L - x) + 1 by omega, Nat.pow_succ]
    have:¬ x=L+1:=by omega
    simp [this]; omega
   ·by_cases h2 : x = L + 1
    ·subst h2
     rw [if_pos ⟨h0,Nat.le_refl _⟩,if_neg (by omega)]
     simp; omega
    ·rw [if_neg (by omega), if_neg (by omega)]
     simp [h2]
  ·rw [if_neg (by omega), if_neg (by omega)]
   have:¬ x=L+1:=by omega
   simp [this]
theorem xX:∀ l:List Nat,kr l 0=0
 | []=>rfl
 | x :: r=>by unfold kr; rw [xX r,if_neg (by omega)]
theorem aBX (l:List Nat):∀ L,fin l L=kr l L
 | 0=>(xX l).symm
 | L+1=>by rw [aBH,sN,aBX l L] <;> rfl
theorem aE3 {l:List Nat} {L:Nat} (h:∀ x∈l,x≤L):∀ d,kr l (L+d)=2 ^ d * kr l L
 | 0=>by simp
 | d + 1 => by
  rw [← Nat.add_assoc,sN,aE3 h d,Nat.pow_succ]
  have:l.countP (· == L+d+1)=0:=List.countP_eq_zero.2 fun x hx=>by have:=h x hx; simp; omega
  rw [this,Nat.add_zero, ← Nat.mul_assoc,Nat.mul_comm 2]
def used (l:List Nat):Nat:=l.countP (0 < ·)
def checkP (l:List Nat):Nat:=
 if 2 ^ 15<kr l 15 then 1 else if kr l 15<2 ^ 15∧0<used l∧(1<used l∨1<longest l) then 2 else 0
end Go.Huff
namespace Go.Infl
open Go.Huff
inductive bW where
 | block
 | stored1
 | stored2 (n:Nat)
 | raw (n:Nat)
 | lit (a b:List Nat)
 | more (a b:List Nat) (n:Nat)
 | far (a b:List Nat) (n:Nat)
 | farMore (a b:List Nat) (n d:Nat)
 | dyn1
 | dyn2 (lits:Nat)
 | dyn3 (lits dists:Nat)
 | third (l:List Nat) (at' n lits dists:Nat)
 | lens (c l:List Nat) (lits dists:Nat)
 | rep (c l:List Nat) (lits dists least value:Nat)
inductive dA where
 | num (need have' acc:Nat)
 | sym (l:List Nat) (n c:Nat)
structure bF where
 out:List UInt8
 last:Bool
 skip:Bool
inductive Out where
 | wait (k:bF) (w:dA) (c:bW)
 | done (k:bF)
 | err (e:Nat) (k:bF)
structure Lim where
 output:Nat
 ratio:Nat
def full (L:Lim) (input:Nat) (o:List UInt8):Bool:=decide (L.output≤o.length)||decide (L.ratio * input+1024≤o.length)
def putP (L:Lim) (input:Nat) (k:bF) (c:UInt8):Option bF:=if full L input k.out then none else some { k with out:=k.out++[c] }
def copyP (L : Lim) (input : Nat) (d : Nat) : Nat → bF → bF × Bool
 | 0,k=>(k,true)
 | n + 1, k => match putP L input k (k.out.getD (k.out.length - d) 0) with
  | none=>(k,false)
  | some k'=>copyP L input d n k'
def least (x:Nat):Nat × Nat:=if x≤264 then (x - 254,0) else if x=285 then (258,0) else ((4+(x - 265) % 4) * 2 ^ ((x - 261) / 4)+3,(x - 261) / 4)
def farOf (x:Nat):Nat × Nat:=if x<4 then (x+1,0) else ((2+x % 2) * 2 ^ (x / 2 - 1)+1,x / 2 - 1)
def order:List Nat:=[16,17,18,0,8,7,9,6,10,5,11,4,12,3,13,2,14,1,15]
def fixedL:List Nat:=List.replicate 144 8++List.replicate 112 9++List.replicate 24 7++List.replicate 8 8
def fixedD:List Nat:=List.replicate 32 5
def block (k:bF):Out:=if k.last then .done k else .wait k (.num 3 0 0) .block
def raw (k:bF) (n:Nat):Out:=if n=0 then block k else .wait k (.num 8 0 0) (.raw n)
def litW (k:bF) (a b:List Nat):Out:=.wait k (.sym a 0 0) (.lit a b)
def codes (k:bF) (a b:List Nat):Out:=if checkP a=0∧checkP b=0 then litW k a b else .err 1 k
def lensW (k:bF) (c l:List Nat) (lits dists:Nat):Out:=if l.length=lits+dists then codes k (l.take lits) (l.drop lits) else .wait k (.sym c 0 0) (.lens c l lits dists)
def thirdW (k:bF) (l:List Nat) (i n lits dists:Nat):Out:=
 if i=n then (if checkP l=0 then lensW k l [] lits dists else .err 1 k) else .wait k (.num 3 0 0) (.third l i n lits dists)
def apply (L : Lim) (input : Nat) (k : bF) (v : Nat) : bW → Out
 | .block => match v / 2 with
  | 0=>.wait { k with last:=v % 2 == 1,skip:=true } (.num 16 0 0) .stored1
  | 1=>codes { k with last:=v % 2 == 1 } fixedL fixedD
  | 2=>.wait { k with last:=v % 2 == 1 } (.num 5 0 0) .dyn1
  | _=>.err 1 { k with last:=v % 2 == 1 }
 | .stored1=>.wait k (.num 16 0 0) (.stored2 v)
 | .stored2 n=>if v+n=65535 then raw k n else .err 1 k
 | .raw n => match putP L input k (UInt8.ofNat v) with
  | none=>.err 2 k
  | some k'=>raw k' (n - 1)
 | .lit a b =>
  if v<256 then (match putP L input k (UInt8.ofNat v) with
   | none=>.err 2 k
   | some k'=>litW k' a b)
  else if v=256 then block k
  else if 285<v then .err 1 k
  else .wait k (.num (least v).2 0 0) (.more a b (least v).1)
 | .more a b n=>.wait k (.sym b 0 0) (.far a b (n+v))
 | .far a b n=>if 29<v then .err 1 k else .wait k (.num (farOf v).2 0 0) (.farMore a b n (farOf v).1)
 | .farMore a b n d =>
  if k.out.length<d+v then .err 1 k else
  match copyP L input (d+v) n k with
  | (k',true)=>litW k' a b
  | (k',false)=>.err 2 k'
 | .dyn1=>if 286<v+257 then .err 1 k else .wait k (.num 5 0 0) (.dyn2 (v+257))
 | .dyn2 lits=>if 30<v+1 then .err 1 k else .wait k (.num 4 0 0) (.dyn3 lits (v+1))
 | .dyn3 lits dists=>thirdW k (List.replicate 19 0) 0 (v+4) lits dists
 | .third l i n lits dists=>thirdW k (l.set (order.getD i 0) v) (i+1) n lits dists
 | .lens c l lits dists =>
  if v<16 then lensW k c (l++[v]) lits dists
  else if v=16 then (if l=[] then .err 1 k else .wait k (.num 2 0 0) (.rep c l lits dists 3 (l.getLastD 0)))
  else if v=17 then .wait k (.num 3 0 0) (.rep c l lits dists 3 0)
  else .wait k (.num 7 0 0) (.rep c l lits dists 11 0)
 | .rep c l lits dists m x=>if lits+dists<l.length+(m+v) then .err 1 k else lensW k c (l++List.replicate (m+v) x) lits dists
def settle (L:Lim) (input:Nat):Nat→Out→Out
 | fuel+1,.wait k (.num 0 _ _) c=>settle L input fuel (apply L input k 0 c)
 | _,o=>o
def bitP (L : Lim) (input : Nat) (k : bF) (w : dA) (c : bW) (b : Nat) : Out :=
 match w with
 | .num need have' acc=>if have'+1<need then .wait k (.num need (have'+1) (acc+b * 2 ^ have')) c else settle L input 3 (apply L input k (acc+b * 2 ^ have') c)
 | .sym l n x => match stepP l (n + 1) (2 * x + b) with
  | .sym i=>settle L input 3 (apply L input k i c)
  | .more=>.wait k (.sym l (n+1) (2 * x+b)) c
  | .bad=>.err 1 k
structure Fin where
 out:List UInt8
 e:Nat
 pos:Nat
def cG:List Nat→Nat
 | []=>0
 | b :: r=>b+2 * cG r
theorem bit_num {L:Lim} {i:Nat} {k:bF} {n h a b:Nat} {c:bW}:bitP L i k (.num n h a) c b=if h+1<n then .wait k (.num n (h+1) (a+b * 2 ^ h)) c else settle L i 3 (apply L i k (a+b * 2 ^ h) c):=rfl
end Go.Infl
namespace Go.Infl
open Go.Huff
theorem bit_sym {L:Lim} {i:Nat} {k:bF} {l:List Nat} {n x b:Nat} {c:bW}:bitP L i k (.sym l n x) c b=match stepP l (n+1) (2 * x+b) with
  | .sym j=>settle L i 3 (apply L i k j c)
  | .more=>.wait k (.sym l (n+1) (2 * x+b)) c
  | .bad=>.err 1 k:=rfl
def Out.set:Out→Prop
 | .wait _ (.num n _ _) _=>0<n
 | _=>True
theorem settle_set {L:Lim} {i f:Nat} {o:Out} (h:o.set):settle L i f o=o:=by
 cases f with
 | zero=>rfl
 | succ f =>
  match o,h with
  | .wait k (.num (n+1) a b) c,_=>rfl
  | .wait k (.sym l n x) c,_=>rfl
  | .done k,_=>rfl
  | .err e k,_=>rfl
end Go.Infl
namespace Go.Infl
open Go.Huff
def run (L:Lim):List Nat→Nat→Out→Nat × Out
 | _,i,.done k=>(i,.done k)
 | _,i,.err e k=>(i,.err e k)
 | [],i,.wait k w c=>(i,.wait k w c)
 | b :: r,i,.wait k w c=>if k.skip∧i % 8≠0 then run L r (i+1) (.wait k w c) else run L r (i+1) (bitP L (i / 8+1) { k with skip:=false } w c b)
def Out.core:Out→bF
 | .wait k _ _ | .done k | .err _ k=>k
theorem run_done {L:Lim} {bs:List Nat} {i:Nat} {k:bF}:run L bs i (.done k)=(i,.done k):=by rw [run]
theorem run_err {L:Lim} {bs:List Nat} {i e:Nat} {k:bF}:run L bs i (.err e k)=(i,.err e k):=by rw [run]
theorem run_nil {L:Lim} {i:Nat} {o:Out}:run L [] i o=(i,o):=by cases o <;> rw [run]
theorem run_bit {L:Lim} {b:Nat} {r:List Nat} {i:Nat} {k:bF} {w:dA} {c:bW}:run L (b :: r) i (.wait k w c)=if k.skip∧i % 8≠0 then run L r (i+1) (.wait k w c) else run L r (i+1) (bitP L (i / 8+1) { k with skip:=false } w c b):=by rw [run]
theorem run_append {L:Lim}:∀ (a b:List Nat) (i:Nat) (o:Out),run L (a++b) i o=run L b (run L a i o).1 (run L a i o).2
 | a,b,i,.done k=>by rw [run_done,run_done,run_done]
 | a,b,i,.err e k=>by rw [run_err,run_err,run_err]
 | [],b,i,.wait k w c=>by rw [run_nil,List.nil_append]
 | x :: a, b, i, .wait k w c => by
  rw [List.cons_append,run_bit,run_bit]
  split
  ·exact run_append a b _ _
  ·exact run_append a b _ _
theorem run_pos {L:Lim}:∀ (bs:List Nat) (i:Nat) (o:Out) {k:bF} {w:dA} {c:bW},(run L bs i o).2 = .wait k w c→(run L bs i o).1=i+bs.length
 | bs,i,.done k,_,_,_,h=>by rw [run_done] at h; cases h
 | bs,i,.err e k,_,_,_,h=>by rw [run_err] at h; cases h
 | [],i,.wait k w c,_,_,_,h=>by rw [run_nil] <;> rfl
 | x :: a, i, .wait k w c, _, _, _, h => by
  rw [run_bit] at h ⊢
  split at h <;> rename_i hc
  ·rw [if_pos hc]; have:=run_pos a _ _ h; rw [this,List.length_cons]; omega
  ·rw [if_neg hc]; have:=run_pos a _ _ h; rw [this,List.length_cons]; omega
def gU (o:List UInt8) (x:Out):Prop:=∃ t,x.core.out=o++t
theorem gU.trans {o:List UInt8} {k:bF} {x:Out} (h1:∃ t,k.out=o++t) (h2:gU k.out x):gU o x:=by
 obtain ⟨t,ht⟩:=h1
 obtain ⟨u,hu⟩:=h2
 exact ⟨t++u,by rw [hu,ht,List.append_assoc]⟩
theorem qY (k:bF):gU k.out (block k):=by unfold block; split <;> exact ⟨[],(List.append_nil _).symm⟩
theorem rY (k:bF) (n:Nat):gU k.out (raw k n):=by unfold raw; split; exact qY k; exact ⟨[],(List.append_nil _).symm⟩
theorem qZ (k:bF) (a b:List Nat):gU k.out (codes k a b):=by unfold codes; split <;> exact ⟨[],(List.append_nil _).symm⟩
theorem p8 (k:bF) (c l:List Nat) (x y:Nat):gU k.out (lensW k c l x y):=by unfold lensW; split; exact qZ _ _ _; exact ⟨[],(List.append_nil _).symm⟩
theorem rJ (k:bF) (l:List Nat) (i n x y:Nat):gU k.out (thirdW k l i n x y):=by
 unfold thirdW
 split
 ·split
  ·exact p8 _ _ _ _ _
  ·exact ⟨[],(List.append_nil _).symm⟩
 ·exact ⟨[],(List.append_nil _).symm⟩
theorem sI {L:Lim} {i:Nat} {k k':bF} {c:UInt8} (h:putP L i k c=some k'):k'.out=k.out++[c]:=by
 unfold putP at h
 split at h
 ·cases h
 ·cases h; rfl
theorem qC {L:Lim} {i d:Nat}:∀ (n:Nat) (k:bF), ∃ t,(copyP L i d n k).1.out=k.out++t
 | 0,k=>⟨[],(List.append_nil _).symm⟩
 | n + 1, k => by
  unfold copyP
  cases h:putP L i k (k.out.getD (k.out.length - d) 0) with
  | none=>exact ⟨[],(List.append_nil _).symm⟩
  | some k' =>
   obtain ⟨t,ht⟩:=qC (L:=L) (i:=i) (d:=d) n k'
   exact ⟨_ :: t,by rw [ht,sI h]; simp; rfl⟩
theorem lZ (L : Lim) (i : Nat) (k : bF) (v : Nat) (c : bW) : gU k.out (apply L i k v c) := by
 have z:∀ k':bF,k'.out=k.out→∀ x:Out,gU k'.out x→gU k.out x:=fun k' h x hx=>h ▸ hx
 have n:∃ t,k.out=k.out++t:=⟨[],(List.append_nil _).symm⟩
 cases c with
 | block =>
  rw [apply]
  split
  ·exact n
  ·exact qZ { k with last:=v % 2 == 1 } _ _
  ·exact n
  ·exact n
 | stored1=>exact n
 | stored2 m=>rw [apply]; split; exact rY _ _; exact n
 | raw m =>
  rw [apply]
  split
  ·exact n
  ·rename_i k' h
   exact gU.trans ⟨_,sI h⟩ (rY k' _)
 | lit a b =>
  rw [apply]
  split
  ·split
   ·exact n
   ·rename_i k' h
    exact ⟨_,sI h⟩
  ·split
   ·exact qY k
   ·split <;> exact n
 | more a b m=>exact n
 | far a b m=>rw [apply]; split <;> exact n
 | farMore a b m d =>
  rw [apply]
  split
  ·exact n
  ·have := qC (L := L) (i := i) (d := d + v) m k
   split <;> rename_i k' h <;> rw [h] at this <;> exact this
 | dyn1=>rw [apply]; split <;> exact n
 | dyn2 m=>rw [apply]; split <;> exact n
 | dyn3 a b=>exact rJ _ _ _ _ _ _
 | third l x m a b=>exact rJ _ _ _ _ _ _
 | lens c l a b =>
  rw [apply]
  split
  ·exact p8 _ _ _ _ _
  ·split
   ·split <;> exact n
   ·split <;> exact n
 | rep c l a b m x=>rw [apply]; split; exact n; exact p8 _ _ _ _ _
theorem fH (L:Lim) (i:Nat):∀ (f:Nat) (o:Out),gU o.core.out (settle L i f o)
 | 0,o=>⟨[],(List.append_nil _).symm⟩
 | f+1,.wait k (.num 0 x y) c=>gU.trans (lZ L i k 0 c) (fH L i f (apply L i k 0 c))
 | f+1,.wait k (.num (n+1) x y) c=>⟨[],(List.append_nil _).symm⟩
 | f+1,.wait k (.sym l n x) c=>⟨[],(List.append_nil _).symm⟩
 | f+1,.done k=>⟨[],(List.append_nil _).symm⟩
 | f+1,.err e k=>⟨[],(List.append_nil _).symm⟩
theorem aDJ (L:Lim) (i:Nat) (k:bF) (w:dA) (c:bW) (b:Nat):gU k.out (bitP L i k w c b):=by
 cases w with
 | num n h a =>
  rw [bit_num]
  split
  ·exact ⟨[],(List.append_nil _).symm⟩
  ·exact gU.trans (lZ L i k _ c) (fH L i 3 _)
 | sym l n x =>
  rw [bit_sym]
  split
  ·exact gU.trans (lZ L i k _ c) (fH L i 3 _)
  ·exact ⟨[],(List.append_nil _).symm⟩
  ·exact ⟨[],(List.append_nil _).symm⟩
theorem ext_run (L:Lim):∀ (bs:List Nat) (i:Nat) (o:Out),gU o.core.out (run L bs i o).2
 | bs,i,.done k=>by rw [run_done]; exact ⟨[],(List.append_nil _).symm⟩
 | bs,i,.err e k=>by rw [run_err]; exact ⟨[],(List.append_nil _).symm⟩
 | [],i,.wait k w c=>by rw [run_nil]; exact ⟨[],(List.append_nil _).symm⟩
 | x :: a, i, .wait k w c => by
  rw [run_bit]
  split
  ·exact ext_run L a _ (.wait k w c)
  ·exact gU.trans (aDJ L (i / 8+1) { k with skip:=false } w c x) (ext_run L a _ _)
end Go.Infl
namespace Go.Huff
theorem tF (l:List Nat) (m:Nat):∀ d,fin l m * 2 ^ (d+1)≤fst l (m+(d+1))
 | 0=>by show _≤2 * fin l m; omega
 | d + 1 => by
  have h:=tF l m d
  have:fst l (m+(d+1+1))=2 * fin l (m+(d+1)):=rfl
  rw [this,Nat.pow_succ]
  have h2:fst l (m+(d+1))≤fin l (m+(d+1)):=Nat.le_add_right _ _
  have:fin l m * (2 ^ (d+1) * 2)=2 * (fin l m * 2 ^ (d+1)):=by rw [← Nat.mul_assoc,Nat.mul_comm]
  omega
theorem nP {l:List Nat} {j:Nat} (hj:j<l.length):l.getD j 0∈l:=by
 rw [List.getD_eq_getElem?_getD,List.getElem?_eq_getElem hj]; exact List.getElem_mem hj
theorem zW {l:List Nat} {j m:Nat} (hj:j<l.length) (hm:m<l.getD j 0):stepP l m (codeAt l j / 2 ^ (l.getD j 0 - m)) = .more:=by
 have h1:=tF l m (l.getD j 0 - m - 1)
 rw [show m+(l.getD j 0 - m - 1+1)=l.getD j 0 by omega,show l.getD j 0 - m - 1+1=l.getD j 0 - m by omega] at h1
 have h2:=(tC hj (by omega)).1
 have h3:fin l m≤codeAt l j / 2 ^ (l.getD j 0 - m):=(Nat.le_div_iff_mul_le (Nat.pow_pos (by decide))).2 (Nat.le_trans h1 h2)
 have h4:=le_longest (nP hj)
 unfold stepP
 unfold fin at h3
 rw [if_neg (by omega),if_pos (by omega)]
theorem vR {l:List Nat} {j:Nat} (hj:j<l.length) (h0:0<l.getD j 0):stepP l (l.getD j 0) (codeAt l j) = .sym j:=by
 have h1:=tC hj h0
 have h4:=le_longest (nP hj)
 have h2:codeAt l j - fst l (l.getD j 0)<cnt l (l.getD j 0):=by unfold fin at h1; omega
 obtain ⟨j',g1,g2,g3,g4⟩:=pick_some h0 h2
 have:j'=j:=aBD g3 hj g2 (by omega)
 subst this
 unfold stepP
 rw [if_pos ⟨h4,h2,h1.1⟩,g1] <;> rfl
def hiBits (x:Nat):Nat→List Nat
 | 0=>[]
 | n+1=>x / 2 ^ n % 2 :: hiBits x n
def codeBits (l:List Nat) (j:Nat):List Nat:=hiBits (codeAt l j) (l.getD j 0)
def loBits:Nat→Nat→List Nat
 | _,0=>[]
 | x,n+1=>x % 2 :: loBits (x / 2) n
end Go.Huff
namespace Go.Infl
open Go.Huff
theorem hi_length (x:Nat):∀ n,(hiBits x n).length=n
 | 0=>rfl
 | n+1=>by rw [hiBits,List.length_cons,hi_length x n]
theorem lo_length:∀ (n x:Nat),(loBits x n).length=n
 | 0,_=>rfl
 | n+1,x=>by rw [loBits,List.length_cons,lo_length n]
theorem t5:∀ (n x:Nat),x<2 ^ n→cG (loBits x n)=x
 | 0, x, h => by
  have:x=0:=by simpa using h
  subst this; rfl
 | n + 1, x, h => by
  rw [loBits,cG,t5 n (x / 2) (by rw [Nat.pow_succ] at h; omega)]; omega
theorem yX {L:Lim} {b:Nat} {r:List Nat} {i:Nat} {k:bF} {l:List Nat} {n x:Nat} {c:bW} (hs:k.skip=false):run L (b :: r) i (.wait k (.sym l n x) c)=match stepP l (n+1) (2 * x+b) with
  | .sym j=>run L r (i+1) (settle L (i / 8+1) 3 (apply L (i / 8+1) k j c))
  | .more=>run L r (i+1) (.wait k (.sym l (n+1) (2 * x+b)) c)
  | .bad=>(i+1,.err 1 k):=by
 have hk:({ k with skip:=false }:bF)=k:=by cases k; simp only at hs; subst hs; rfl
 rw [run_bit,if_neg (by simp [hs]),hk,bit_sym]
 cases stepP l (n+1) (2 * x+b) with
 | sym j=>rfl
 | more=>rfl
 | bad=>rw [run_err]
theorem tP {L:Lim} {l:List Nat} {j:Nat} {rest:List Nat} {k:bF} {c:bW} (hj:j<l.length) (hs:k.skip=false):∀ (d i:Nat),d<l.getD j 0 →
  run L (hiBits (codeAt l j) (d+1)++rest) i (.wait k (.sym l (l.getD j 0 - (d+1)) (codeAt l j / 2 ^ (d+1))) c)=run L rest (i+(d+1)) (settle L ((i+d) / 8+1) 3 (apply L ((i+d) / 8+1) k j c))
 | 0, i, h => by
  rw [hiBits,hiBits,List.cons_append,yX hs]
  have e:2 * (codeAt l j / 2 ^ (0+1))+codeAt l j / 2 ^ 0 % 2=codeAt l j:=by simp; omega
  rw [e,show l.getD j 0 - (0+1)+1=l.getD j 0 by omega,vR hj (by omega)]
  first | done | rfl
 | d + 1, i, h => by
  rw [hiBits,List.cons_append,yX hs]
  have e:2 * (codeAt l j / 2 ^ (d+1+1))+codeAt l j / 2 ^ (d+1) % 2=codeAt l j / 2 ^ (d+1):=by
   have:codeAt l j / 2 ^ (d+1+1)=codeAt l j / 2 ^ (d+1) / 2:=by rw [Nat.pow_succ,Nat.div_div_eq_div_mul]
   rw [this]; omega
  have p:=zW hj (m:=l.getD j 0 - (d+1)) (by omega)
  rw [show l.getD j 0 - (l.getD j 0 - (d+1))=d+1 by omega] at p
  rw [e,show l.getD j 0 - (d+1+1)+1=l.getD j 0 - (d+1) by omega,p]
  have:=tP (L:=L) (rest:=rest) (c:=c) hj hs d (i+1) (by omega)
  rw [show i+1+(d+1)=i+(d+1+1) by omega,show i+1+d=i+(d+1) by omega] at this
  exact this
theorem aCE {l:List Nat} {j:Nat} (hj:j<l.length) (h0:0<l.getD j 0) (ok:∀ n,fin l n≤2 ^ n):codeAt l j / 2 ^ l.getD j 0=0:=
 Nat.div_eq_of_lt (Nat.lt_of_lt_of_le (tC hj h0).2 (ok _))
end Go.Infl
namespace Go.Infl
open Go.Huff
theorem sV {L : Lim} {c : bW} {rest : List Nat} : ∀ (bs : List Nat) (i : Nat) (k : bF) (h a : Nat), 0 < bs.length → k.skip = false →
  run L (bs++rest) i (.wait k (.num (h+bs.length) h a) c)=run L rest (i+bs.length) (settle L ((i+bs.length - 1) / 8+1) 3 (apply L ((i+bs.length - 1) / 8+1) k (a+2 ^ h * cG bs) c))
 | [],_,_,_,_,h0,_=>by simp at h0
 | b :: r, i, k, h, a, _, hs => by
  have hk:({ k with skip:=false }:bF)=k:=by cases k; simp only at hs; subst hs; rfl
  rw [List.cons_append,run_bit,if_neg (by simp [hs]),hk,bit_num]
  cases r with
  | nil =>
   rw [if_neg (by simp)]
   simp [cG,Nat.mul_comm]
  | cons b' r =>
   rw [if_pos (by simp)]
   have:=sV (L:=L) (c:=c) (rest:=rest) (b' :: r) (i+1) k (h+1) (a+b * 2 ^ h) (by simp) hs
   rw [show h+1+(b' :: r).length=h+(b :: b' :: r).length by simp; omega] at this
   rw [this]
   rw [show i+1+(b' :: r).length=i+(b :: b' :: r).length by simp; omega]
   have e:a+b * 2 ^ h+2 ^ (h+1) * cG (b' :: r)=a+2 ^ h * cG (b :: b' :: r):=by
    show a+b * 2 ^ h+2 ^ (h+1) * cG (b' :: r)=a+2 ^ h * (b+2 * cG (b' :: r))
    generalize cG (b' :: r)=N
    rw [Nat.pow_succ,Nat.mul_add,Nat.mul_comm b,Nat.mul_assoc,Nat.add_assoc]
   rw [e]
theorem aA6 {L:Lim} {c:bW} {rest:List Nat} {v n i inp f:Nat} {k:bF} (hv:v<2 ^ n) (hs:k.skip=false) (hi:n=0→inp=(i+n - 1) / 8+1) :
  run L (loBits v n++rest) i (settle L inp (f+1) (.wait k (.num n 0 0) c))=run L rest (i+n) (settle L ((i+n - 1) / 8+1) (if n=0 then f else 3) (apply L ((i+n - 1) / 8+1) k v c)):=by
 by_cases h0:n=0
 ·subst h0
  have:v=0:=by simpa using hv
  subst this
  rw [loBits,List.nil_append,if_pos rfl, ← hi rfl] <;> rfl
 ·rw [settle_set (by show 0 < n; omega), if_neg h0]
  have:=sV (L:=L) (c:=c) (rest:=rest) (loBits v n) i k 0 0 (by rw [lo_length]; omega) hs
  rw [lo_length,Nat.zero_add,t5 n v hv] at this
  rw [this]; simp
theorem iO {L:Lim} {c:bW} {rest:List Nat} {l:List Nat} {j i:Nat} {k:bF} (hj:j<l.length) (h0:0<l.getD j 0) (ok:∀ n,fin l n≤2 ^ n) (hs:k.skip=false) :
  run L (codeBits l j++rest) i (.wait k (.sym l 0 0) c)=run L rest (i+l.getD j 0) (settle L ((i+l.getD j 0 - 1) / 8+1) 3 (apply L ((i+l.getD j 0 - 1) / 8+1) k j c)):=by
 have h:=tP (L:=L) (rest:=rest) (c:=c) hj hs (l.getD j 0 - 1) i (by omega)
 rw [show l.getD j 0 - 1+1=l.getD j 0 by omega,Nat.sub_self,aCE hj h0 ok,show i+(l.getD j 0 - 1)=i+l.getD j 0 - 1 by omega] at h
 exact h
def lenSym (n:Nat):Nat:=if n=258 then 285 else ((List.range 28).map (· + 257)).foldl (fun o s=>if (least s).1≤n then s else o) 257
theorem lenSym_ok:∀ n,3≤n→n≤258→257≤lenSym n∧lenSym n≤285∧(least (lenSym n)).1≤n∧n - (least (lenSym n)).1<2 ^ (least (lenSym n)).2:=by
 have h:((List.range 259).all fun n=>decide (3≤n→257≤lenSym n∧lenSym n≤285∧(least (lenSym n)).1≤n∧n - (least (lenSym n)).1<2 ^ (least (lenSym n)).2))=true:=by decide +kernel
 intro n h1 h2
 have:=List.all_eq_true.1 h n (by simp; omega)
 exact (of_decide_eq_true this) h1
def farSym (d:Nat):Nat:=(List.range 30).foldl (fun o s=>if (farOf s).1≤d then s else o) 0
theorem aAF : ∀ (t d : Nat), t < 30 → (farOf t).1 ≤ d → (t = 29 ∨ d < (farOf (t + 1)).1) → farSym d = t := by
 have hm:((List.range 30).all fun t=>(List.range 30).all fun s=>decide (s≤t→(farOf s).1≤(farOf t).1)&&decide (t<s→(farOf (t+1)).1≤(farOf s).1))=true:=by decide +kernel
 have mono:∀ t s,t<30→s<30→(s≤t→(farOf s).1≤(farOf t).1)∧(t<s→(farOf (t+1)).1≤(farOf s).1):=fun t s ht hs=>by
  have:=List.all_eq_true.1 (List.all_eq_true.1 hm t (by simpa using ht)) s (by simpa using hs)
  simp only [Bool.and_eq_true,decide_eq_true_eq] at this
  exact this
 intro t d ht h1 h2
 have key:∀ n,n≤30→(List.range n).foldl (fun o s=>if (farOf s).1≤d then s else o) 0=min t (n - 1):=by
  intro n
  induction n with
  | zero=>intro _; simp
  | succ n ih =>
   intro hn
   rw [List.range_succ,List.foldl_append,ih (by omega)]
   simp only [List.foldl_cons,List.foldl_nil]
   by_cases hnt:n≤t
   ·rw [if_pos (Nat.le_trans ((mono t n ht (by omega)).1 hnt) h1)]; omega
   ·have := (mono t n ht (by omega)).2 (by omega)
    rw [if_neg (by omega)]; omega
 have:=key 30 (Nat.le_refl _)
 unfold farSym
 rw [this]; omega
theorem farSym_ok {d : Nat} (h1 : 1 ≤ d) (h2 : d ≤ 32768) : farSym d < 30 ∧ (farOf (farSym d)).1 ≤ d ∧ d - (farOf (farSym d)).1 < 2 ^ (farOf (farSym d)).2 := by
 have hs:((List.range 30).all fun t=>decide ((farOf (t+1)).1=(farOf t).1+2 ^ (farOf t).2))=true:=by decide +kernel
 have step:∀ t,t<30→(farOf (t+1)).1=(farOf t).1+2 ^ (farOf t).2:=fun t ht=>of_decide_eq_true (List.all_eq_true.1 hs t (by simpa using ht))
 have ex:∀ n,n≤30→d<(farOf n).1→∃ t,t<n∧(farOf t).1≤d∧d<(farOf (t+1)).1:=by
  intro n
  induction n with
  | zero=>intro _ h; exact absurd h (by show ¬ d<1; omega)
  | succ n ih =>
   intro hn h
   by_cases hh:d<(farOf n).1
   ·obtain ⟨t, g1, g2⟩ := ih (by omega) hh
    exact ⟨t,by omega,g2⟩
   ·exact ⟨n,by omega,by omega,h⟩
 have e30:(farOf 30).1=32769:=by decide
 obtain ⟨t,g1,g2,g3⟩:=ex 30 (Nat.le_refl _) (by omega)
 have:=aAF t d g1 g2 (.inr g3)
 rw [this]
 have:=step t g1
 exact ⟨g1,g2,by omega⟩
end Go.Infl
namespace Go.Infl
open Go.Huff
inductive Item where
 | byte (c:UInt8)
 | copy (n d:Nat)
def encItem (a b:List Nat):Item→List Nat
 | .byte c=>codeBits a c.toNat
 | .copy n d=>codeBits a (lenSym n)++(loBits (n - (least (lenSym n)).1) (least (lenSym n)).2++(codeBits b (farSym d)++loBits (d - (farOf (farSym d)).1) (farOf (farSym d)).2))
def lX (d:Nat):Nat→List UInt8→List UInt8
 | 0,o=>o
 | n+1,o=>lX d n (o++[o.getD (o.length - d) 0])
def play (o:List UInt8):Item→List UInt8
 | .byte c=>o++[c]
 | .copy n d=>lX d n o
def Has (a b:List Nat):Item→Prop
 | .byte c=>c.toNat<a.length∧0<a.getD c.toNat 0
 | .copy n d=>(lenSym n<a.length∧0<a.getD (lenSym n) 0)∧farSym d<b.length∧0<b.getD (farSym d) 0
def Fits (o:List UInt8):Item→Prop
 | .byte _=>True
 | .copy n d=>3≤n∧n≤258∧1≤d∧d≤32768∧d≤o.length
theorem mW (d:Nat):∀ (n:Nat) (o:List UInt8),(lX d n o).length=o.length+n
 | 0,_=>rfl
 | n+1,o=>by rw [lX,mW d n]; simp; omega
theorem uO {L:Lim} {inp d:Nat}:∀ (n:Nat) (k:bF),(∀ o:List UInt8,o.length<k.out.length+n→full L inp o=false)→copyP L inp d n k=({ k with out:=lX d n k.out },true)
 | 0,k,_=>rfl
 | n + 1, k, h => by
  have hf:=h k.out (by omega)
  unfold copyP putP
  rw [hf]
  simp only [Bool.false_eq_true,if_false]
  rw [uO n _ fun o ho=>h o (by simp at ho; omega)]
  first | done | rfl
theorem aA8 {L:Lim} {a b rest:List Nat} {x:Item} {i:Nat} {k:bF} (hs:k.skip=false) (ha:∀ n,fin a n≤2 ^ n) (hb:∀ n,fin b n≤2 ^ n) (hx:Has a b x) (hf:Fits k.out x)
  (room:∀ o:List UInt8,o.length<(play k.out x).length→full L ((i+(encItem a b x).length - 1) / 8+1) o=false) :
  run L (encItem a b x++rest) i (litW k a b)=run L rest (i+(encItem a b x).length) (litW { k with out:=play k.out x } a b):=by
 cases x with
 | byte c =>
  have hl:(codeBits a c.toNat).length=a.getD c.toNat 0:=hi_length _ _
  unfold litW encItem
  rw [iO hx.1 hx.2 ha hs,hl]
  have hc:c.toNat<256:=c.toNat_lt
  have hfull:full L ((i+a.getD c.toNat 0 - 1) / 8+1) k.out=false:=by
   have:=room k.out (by show _<(k.out++[c]).length; simp)
   unfold encItem at this
   rwa [hl] at this
  rw [apply,if_pos hc]
  unfold putP
  rw [hfull]
  simp only [Bool.false_eq_true,if_false,UInt8.ofNat_toNat]
  rw [settle_set (by unfold litW; trivial)]
  first | done | rfl
 | copy n d =>
  obtain ⟨⟨h1,h2⟩,h3,h4⟩:=hx
  obtain ⟨f1,f2,f3,f4,f5⟩:=hf
  obtain ⟨l1,l2,l3,l4⟩:=lenSym_ok n f1 f2
  obtain ⟨d1,d2,d3⟩:=farSym_ok f3 f4
  have e1:(codeBits a (lenSym n)).length=a.getD (lenSym n) 0:=hi_length _ _
  have e2:(codeBits b (farSym d)).length=b.getD (farSym d) 0:=hi_length _ _
  have el:(encItem a b (.copy n d)).length=a.getD (lenSym n) 0+((least (lenSym n)).2+(b.getD (farSym d) 0+(farOf (farSym d)).2)):=by
   unfold encItem
   simp only [List.length_append,e1,e2,lo_length]
  rw [el] at room ⊢
  unfold litW encItem
  rw [List.append_assoc,iO h1 h2 ha hs,apply,if_neg (by omega),if_neg (by omega),if_neg (by omega)]
  rw [List.append_assoc,aA6 (f:=2) l4 hs (fun h=>by rw [h] <;> rfl),apply,settle_set (by trivial),show (least (lenSym n)).1+(n - (least (lenSym n)).1)=n by omega]
  rw [List.append_assoc,iO h3 h4 hb hs,apply,if_neg (by omega)]
  rw [aA6 (f:=2) d3 hs (fun h=>by rw [h] <;> rfl),apply,show (farOf (farSym d)).1+(d - (farOf (farSym d)).1)=d by omega,if_neg (show ¬ k.out.length<d by omega)]
  have ei:i+a.getD (lenSym n) 0+(least (lenSym n)).2+b.getD (farSym d) 0+(farOf (farSym d)).2=i+(a.getD (lenSym n) 0+((least (lenSym n)).2+(b.getD (farSym d) 0+(farOf (farSym d)).2))):=by omega
  rw [ei,uO n k fun o ho=>room o (by show _<(lX d n k.out).length; rw [mW]; exact ho)]
  show run L rest _ (settle L _ _ (litW { k with out:=lX d n k.out } a b))=_
  rw [settle_set (by unfold litW; trivial)]
  first | done | rfl
def encItems (a b:List Nat) (l:List Item):List Nat:=l.flatMap (encItem a b)
def fW (o:List UInt8) (l:List Item):List UInt8:=l.foldl play o
def lK:List UInt8→List Item→Prop
 | _,[]=>True
 | o,x :: r=>Fits o x∧lK (play o x) r
theorem aC7 (o:List UInt8) (x:Item):o.length≤(play o x).length:=by
 cases x with
 | byte c=>simp [play]
 | copy n d=>rw [play,mW]; omega
theorem nX:∀ (l:List Item) (o:List UInt8),o.length≤(fW o l).length
 | [],o=>Nat.le_refl _
 | x :: r,o=>Nat.le_trans (aC7 o x) (nX r (play o x))
theorem aEE {a b:List Nat} {x:Item} (hx:Has a b x):0<(encItem a b x).length:=by
 cases x with
 | byte c=>show 0<(codeBits a c.toNat).length; rw [codeBits,hi_length]; exact hx.2
 | copy n d=>unfold encItem; rw [List.length_append,codeBits,hi_length]; have:=hx.1.2; omega
theorem rU {L:Lim} {a b rest:List Nat} (ha:∀ n,fin a n≤2 ^ n) (hb:∀ n,fin b n≤2 ^ n):∀ (l:List Item) (i:Nat) (k:bF),k.skip=false→(∀ x∈l,Has a b x)→lK k.out l→(∀ x∈l,9≤i+(encItem a b x).length) →
  (∀ (o:List UInt8) (inp:Nat),2≤inp→o.length<(fW k.out l).length→full L inp o=false) →
  run L (encItems a b l++rest) i (litW k a b)=run L rest (i+(encItems a b l).length) (litW { k with out:=fW k.out l } a b)
 | [],i,k,_,_,_,_,_=>rfl
 | x :: r, i, k, hs, hx, hf, hi, room => by
  have h0:=hx x (by simp)
  have hp:=aEE h0
  have h9:=hi x (by simp)
  show run L ((encItem a b x++encItems a b r)++rest) i _=run L rest (i+(encItem a b x++encItems a b r).length) _
  rw [List.append_assoc,aA8 hs ha hb h0 hf.1 fun o ho=>room o _ (by omega) (Nat.lt_of_lt_of_le ho (nX r (play k.out x)))]
  rw [rU ha hb r _ { k with out:=play k.out x } hs (fun y hy=>hx y (by simp [hy])) hf.2 (fun y hy=>by have:=hi y (by simp [hy]); omega) room,List.length_append,Nat.add_assoc]
  first | done | rfl
end Go.Infl
namespace Go.Infl
open Go.Huff
def start:Out:=.wait ⟨[],false,false⟩ (.num 3 0 0) .block
theorem aB8:checkP fixedL=0∧checkP fixedD=0:=by decide +kernel
theorem tZ:longest fixedL=9:=by decide +kernel
theorem uF:longest fixedD=5:=by decide +kernel
theorem fixedL_len:fixedL.length=288:=by decide +kernel
theorem xC:fixedD.length=32:=by decide +kernel
theorem fI:∀ j,j<288→7≤fixedL.getD j 0∧fixedL.getD j 0≤9:=by
 have h:((List.range 288).all fun j=>decide (7≤fixedL.getD j 0∧fixedL.getD j 0≤9))=true:=by decide +kernel
 intro j hj
 exact of_decide_eq_true (List.all_eq_true.1 h j (by simpa using hj))
theorem vZ:∀ j,j<32→fixedD.getD j 0=5:=by
 have h:((List.range 32).all fun j=>decide (fixedD.getD j 0=5))=true:=by decide +kernel
 intro j hj
 exact of_decide_eq_true (List.all_eq_true.1 h j (by simpa using hj))
theorem aBS {l:List Nat} {L:Nat} (h:fin l L≤2 ^ L) (hb:longest l≤L):∀ n,fin l n≤2 ^ n:=by
 intro n
 rcases Nat.lt_or_ge n L with hn | hn
 ·have := tF l n (L - n - 1)
  rw [show n+(L - n - 1+1)=L by omega,show L - n - 1+1=L - n by omega] at this
  have h2:fst l L≤fin l L:=Nat.le_add_right _ _
  have e:2 ^ L=2 ^ n * 2 ^ (L - n):=by rw [← Nat.pow_add]; congr 1; omega
  rw [e] at h
  exact Nat.le_of_mul_le_mul_right (Nat.le_trans this (Nat.le_trans h2 h)) (Nat.pow_pos (by decide))
 ·obtain ⟨d, rfl⟩ : ∃ d, n = L + d := ⟨n - L, by omega⟩
  rw [aBX] at h ⊢
  rw [aE3 (fun x hx=>Nat.le_trans (le_longest hx) hb) d,Nat.pow_add,Nat.mul_comm (2 ^ L)]
  exact Nat.mul_le_mul_left _ h
theorem oX:∀ n,fin fixedL n≤2 ^ n:=aBS (L:=9) (by decide +kernel) (by rw [tZ]; exact Nat.le_refl _)
theorem xA:∀ n,fin fixedD n≤2 ^ n:=aBS (L:=5) (by decide +kernel) (by rw [uF]; exact Nat.le_refl _)
theorem rO {o:List UInt8} {x:Item} (h:Fits o x):Has fixedL fixedD x:=by
 cases x with
 | byte c=>exact ⟨by rw [fixedL_len]; have:=c.toNat_lt; omega,by have:=(fI c.toNat (by have:=c.toNat_lt; omega)).1; omega⟩
 | copy n d =>
  obtain ⟨f1,f2,f3,f4,f5⟩:=h
  obtain ⟨l1,l2,_⟩:=lenSym_ok n f1 f2
  obtain ⟨d1,_⟩:=farSym_ok f3 f4
  exact ⟨⟨by rw [fixedL_len]; omega,by have:=(fI (lenSym n) (by omega)).1; omega⟩,by rw [xC]; omega,by rw [vZ _ (by omega)]; omega⟩
theorem aAW {o:List UInt8} {x:Item} (h:Fits o x):7≤(encItem fixedL fixedD x).length:=by
 have hx:=rO h
 cases x with
 | byte c=>show 7≤(codeBits fixedL c.toNat).length; rw [codeBits,hi_length]; exact (fI _ (by have:=c.toNat_lt; omega)).1
 | copy n d =>
  have:=(fI (lenSym n) (by rw [← fixedL_len]; exact hx.1.1)).1
  unfold encItem; rw [List.length_append,codeBits,hi_length]; omega
theorem uE:∀ {l:List Item} {o:List UInt8},lK o l→∀ x∈l, ∃ o',Fits o' x
 | [],_,_,x,h=>by cases h
 | y :: r, o, hf, x, h => by
  rcases List.mem_cons.1 h with rfl | h
  ·exact ⟨o,hf.1⟩
  ·exact uE hf.2 x h
def fixedBits (l:List Item):List Nat:=loBits 3 3++(encItems fixedL fixedD l++codeBits fixedL 256)
theorem zZ {L:Lim} {l:List Item} {rest:List Nat} (hf:lK [] l) (room:∀ (o:List UInt8) (inp:Nat),2≤inp→o.length<(fW [] l).length→full L inp o=false) :
  run L (fixedBits l++rest) 0 start=((fixedBits l).length,.done ⟨fW [] l,true,false⟩):=by
 have h1:=sV (L:=L) (c:=.block) (rest:=(encItems fixedL fixedD l++codeBits fixedL 256)++rest) (loBits 3 3) 0 ⟨[],false,false⟩ 0 0 (by decide) rfl
 unfold fixedBits
 rw [List.append_assoc]
 show run L _ 0 (.wait _ (.num (0+(loBits 3 3).length) 0 0) .block)=_
 rw [h1]
 have e:apply L ((0+(loBits 3 3).length - 1) / 8+1) ⟨[],false,false⟩ (0+2 ^ 0 * cG (loBits 3 3)) .block=litW ⟨[],true,false⟩ fixedL fixedD:=by
  show codes ⟨[],true,false⟩ fixedL fixedD=_
  unfold codes
  rw [if_pos aB8]
 rw [e,settle_set (by unfold litW; trivial),List.append_assoc]
 have ex:=uE hf
 rw [rU oX xA l (0+(loBits 3 3).length) ⟨[],true,false⟩ rfl (fun x hx=>by obtain ⟨o,ho⟩:=ex x hx; exact rO ho) hf (fun x hx=>by
  obtain ⟨o,ho⟩:=ex x hx
  have:=aAW ho
  rw [lo_length]; omega) room]
 have h7:=(fI 256 (by decide)).1
 unfold litW
 rw [iO (by rw [fixedL_len]; decide) (by omega) oX rfl,apply,if_neg (by decide),if_pos rfl]
 show run L rest _ (settle L _ 3 (.done _))=_
 rw [settle_set (by trivial),run_done]
 simp only [List.length_append,codeBits,hi_length,lo_length]
 congr 1
end Go.Infl
namespace Go.Infl
open Go.Huff
def bitsOf (s:List UInt8):List Nat:=s.flatMap fun b=>loBits b.toNat 8
theorem bits_len:∀ s:List UInt8,(bitsOf s).length=8 * s.length
 | []=>rfl
 | b :: r => by
  show (loBits b.toNat 8++bitsOf r).length=_
  rw [List.length_append,lo_length,bits_len r,List.length_cons]; omega
theorem run_aligned {L:Lim} {b i:Nat} {r:List Nat} {k:bF} {w:dA} {c:bW} (hi:i % 8=0):run L (b :: r) i (.wait k w c)=run L (b :: r) i (.wait { k with skip:=false } w c):=by
 rw [run_bit,run_bit,if_neg (by simp [hi]),if_neg (by simp)]
theorem aCU:∀ (a b x:Nat),loBits x (a+b)=loBits x a++loBits (x / 2 ^ a) b
 | 0,b,x=>by simp [loBits]
 | a + 1, b, x => by
  rw [show a+1+b=(a+b)+1 by omega,loBits,loBits,aCU a b,List.cons_append,Nat.div_div_eq_div_mul,Nat.pow_succ,Nat.mul_comm (2 ^ a)]
def storedBytes (s:List UInt8):List UInt8:=[1,UInt8.ofNat (s.length % 256),UInt8.ofNat (s.length / 256),UInt8.ofNat (255 - s.length % 256),UInt8.ofNat (255 - s.length / 256)]++s
end Go.Infl
namespace Go.Infl
open Go.Huff
def lM (m:Nat) (x' x:Out):Prop:=(x'=x∧x.core.out.length≤m)∨∃ k,x' = .err 2 k∧k.out.length=m∧∃ t,t≠[]∧x.core.out=k.out++t
section
variable {L:Lim} {m:Nat}
theorem lM.same {x:Out} (h:x.core.out.length≤m):lM m x x:=.inl ⟨rfl,h⟩
theorem lM.put {i:Nat} {k:bF} {c:UInt8} {f:bF→Out} (hm:m≤L.output) (hk:k.out.length≤m) (hf:∀ k',gU k'.out (f k')) (ih:∀ k',putP L i k c=some k'→k'.out.length≤m→lM m (f k') (f k')) :
  lM m (match putP { L with output:=m } i k c with | none=>.err 2 k | some k'=>f k') (match putP L i k c with | none=>.err 2 k | some k'=>f k'):=by
 unfold putP
 by_cases hlt:k.out.length<m
 ·have e : full { L with output := m } i k.out = full L i k.out := by
   unfold full
   rw [decide_eq_false (show ¬ m≤k.out.length by omega),decide_eq_false (show ¬ L.output≤k.out.length by omega)]
  rw [e]
  cases hq:full L i k.out with
  | true=>exact .same hk
  | false =>
   exact ih _ (by unfold putP; rw [hq] <;> rfl) (by simp; omega)
 ·have hfull : full { L with output := m } i k.out = true := by
   unfold full
   rw [decide_eq_true (show m≤k.out.length by omega)] <;> rfl
  rw [hfull]
  cases hq:full L i k.out with
  | true=>exact .same hk
  | false =>
   obtain ⟨t,ht⟩:=hf { k with out:=k.out++[c] }
   exact .inr ⟨k,rfl,by omega,c :: t,by simp,by simpa using ht⟩
theorem rR (hm : m ≤ L.output) {i d : Nat} : ∀ (n : Nat) (k : bF), k.out.length ≤ m →
  (copyP { L with output:=m } i d n k=copyP L i d n k∧(copyP L i d n k).1.out.length≤m)∨∃ k',copyP { L with output:=m } i d n k=(k',false)∧k'.out.length=m∧∃ t,t≠[]∧(copyP L i d n k).1.out=k'.out++t
 | 0,k,hk=>.inl ⟨rfl,hk⟩
 | n + 1, k, hk => by
  unfold copyP putP
  by_cases hlt:k.out.length<m
  ·have e : full { L with output := m } i k.out = full L i k.out := by
    unfold full
    rw [decide_eq_false (show ¬ m≤k.out.length by omega),decide_eq_false (show ¬ L.output≤k.out.length by omega)]
   rw [e]
   cases hq:full L i k.out with
   | true=>exact .inl ⟨rfl,hk⟩
   | false=>exact rR hm n { k with out:=k.out++[k.out.getD (k.out.length - d) 0] } (by simp; omega)
  ·have hfull : full { L with output := m } i k.out = true := by
    unfold full
    rw [decide_eq_true (show m≤k.out.length by omega)] <;> rfl
   rw [hfull]
   cases hq:full L i k.out with
   | true=>exact .inl ⟨rfl,hk⟩
   | false =>
    obtain ⟨t,ht⟩:=qC (L:=L) (i:=i) (d:=d) n { k with out:=k.out++[k.out.getD (k.out.length - d) 0] }
    exact .inr ⟨k,rfl,by omega,_ :: t,by simp,by simpa using ht⟩
theorem rQ {k:bF} (h:k.out.length≤m):(block k).core.out.length≤m:=by unfold block; split <;> exact h
theorem yI {k:bF} {n:Nat} (h:k.out.length≤m):(raw k n).core.out.length≤m:=by unfold raw; split; exact rQ h; exact h
theorem rK {k:bF} {a b:List Nat} (h:k.out.length≤m):(codes k a b).core.out.length≤m:=by unfold codes; split <;> exact h
theorem pK {k:bF} {c l:List Nat} {x y:Nat} (h:k.out.length≤m):(lensW k c l x y).core.out.length≤m:=by unfold lensW; split; exact rK h; exact h
theorem rS {k:bF} {l:List Nat} {i n x y:Nat} (h:k.out.length≤m):(thirdW k l i n x y).core.out.length≤m:=by
 unfold thirdW
 split
 ·split
  ·exact pK h
  ·exact h
 ·exact h
theorem kR (hm : m ≤ L.output) {i v : Nat} {k : bF} (hk : k.out.length ≤ m) (c : bW) : lM m (apply { L with output := m } i k v c) (apply L i k v c) := by
 cases c with
 | block =>
  refine .same ?_
  rw [apply]
  split
  ·exact hk
  ·exact rK hk
  ·exact hk
  ·exact hk
 | stored1=>exact .same hk
 | stored2 n=>refine .same ?_; rw [apply]; split; exact yI hk; exact hk
 | raw n=>exact lM.put (f:=fun k'=>raw k' (n - 1)) hm hk (fun k'=>rY k' _) fun k' _ h=>.same (yI h)
 | lit a b =>
  rw [apply,apply]
  by_cases h1:v<256
  ·rw [if_pos h1, if_pos h1]
   exact lM.put (f:=fun k'=>litW k' a b) hm hk (fun k'=>⟨[],(List.append_nil _).symm⟩) fun k' _ h=>.same h
  ·rw [if_neg h1, if_neg h1]
   refine .same ?_
   split
   ·exact rQ hk
   ·split <;> exact hk
 | more a b n=>exact .same hk
 | far a b n=>refine .same ?_; rw [apply]; split <;> exact hk
 | farMore a b n d =>
  rw [apply,apply]
  by_cases h1:k.out.length<d+v
  ·rw [if_pos h1,if_pos h1]; exact .same hk
  ·rw [if_neg h1, if_neg h1]
   rcases rR (L:=L) (i:=i) (d:=d+v) hm n k hk with ⟨g1,g2⟩ | ⟨k',g1,g2,t,g3,g4⟩
   ·rw [g1]
    refine .same ?_
    split <;> rename_i q hq <;> rw [hq] at g2 <;> exact g2
   ·rw [g1]
    refine .inr ⟨k',rfl,g2,t,g3, ?_⟩
    split <;> rename_i q hq <;> rw [hq] at g4 <;> exact g4
 | dyn1=>refine .same ?_; rw [apply]; split <;> exact hk
 | dyn2 n=>refine .same ?_; rw [apply]; split <;> exact hk
 | dyn3 a b=>exact .same (rS hk)
 | third l x n a b=>exact .same (rS hk)
 | lens c l a b =>
  refine .same ?_
  rw [apply]
  split
  ·exact pK hk
  ·split
   ·split <;> exact hk
   ·split <;> exact hk
 | rep c l a b n x=>refine .same ?_; rw [apply]; split; exact hk; exact pK hk
theorem pL {i e f:Nat} {k:bF}:settle L i f (.err e k) = .err e k:=settle_set (by trivial)
theorem nI (hm : m ≤ L.output) {i : Nat} : ∀ (f : Nat) (x' x : Out), lM m x' x → lM m (settle { L with output := m } i f x') (settle L i f x)
  | f, x', x, h => by
    rcases h with ⟨rfl,hl⟩ | ⟨k,rfl,g2,t,g3,g4⟩
    · induction f generalizing x' with
      | zero=>exact .same hl
      | succ f ih =>
        match x',hl with
        | .wait k (.num (n+1) a b) c,hl=>exact .same hl
        | .wait k (.sym l n x) c,hl=>exact .same hl
        | .done k,hl=>exact .same hl
        | .err e k,hl=>exact .same hl
        | .wait k (.num 0 a b) c, hl =>
          show lM m (settle _ i f (apply _ i k 0 c)) (settle L i f (apply L i k 0 c))
          rcases kR (L:=L) (i:=i) (v:=0) (k:=k) hm hl c with ⟨h1,h2⟩ | ⟨k',h1,h2,t,h3,h4⟩
          · rw [h1]; exact ih _ h2
          · rw [h1, pL]
            obtain ⟨u,hu⟩:=fH L i f (apply L i k 0 c)
            exact .inr ⟨k',rfl,h2,t++u,by simp [h3],by rw [hu,h4,List.append_assoc]⟩
    · rw [pL]
      obtain ⟨u,hu⟩:=fH L i f x
      exact .inr ⟨k,rfl,g2,t++u,by simp [g3],by rw [hu,g4,List.append_assoc]⟩
theorem aB5 (hm:m≤L.output) {i b:Nat} {k:bF} {w:dA} {c:bW} (hk:k.out.length≤m):lM m (bitP { L with output:=m } i k w c b) (bitP L i k w c b):=by
 cases w with
 | num n h a =>
  rw [bit_num,bit_num]
  split
  ·exact .same hk
  ·exact nI hm 3 _ _ (kR hm hk c)
 | sym l n x =>
  rw [bit_sym,bit_sym]
  split
  ·exact nI hm 3 _ _ (kR hm hk c)
  ·exact .same hk
  ·exact .same hk
theorem pI (hm:m≤L.output):∀ (bs:List Nat) (i:Nat) (x' x:Out),lM m x' x→lM m (run { L with output:=m } bs i x').2 (run L bs i x).2
 | bs, i, x', x, .inr ⟨k, g1, g2, t, g3, g4⟩ => by
  subst g1
  rw [run_err]
  obtain ⟨u,hu⟩:=ext_run L bs i x
  exact .inr ⟨k,rfl,g2,t++u,by simp [g3],by rw [hu,g4,List.append_assoc]⟩
 | bs,i,x',.done k,.inl ⟨g1,hl⟩=>by subst g1; rw [run_done,run_done]; exact .same hl
 | bs,i,x',.err e k,.inl ⟨g1,hl⟩=>by subst g1; rw [run_err,run_err]; exact .same hl
 | [],i,x',.wait k w c,.inl ⟨g1,hl⟩=>by subst g1; rw [run_nil,run_nil]; exact .same hl
 | b :: r, i, x', .wait k w c, .inl ⟨g1, hl⟩ => by
  subst g1
  rw [run_bit,run_bit]
  split
  ·exact pI hm r _ _ _ (.same hl)
  ·exact pI hm r _ _ _ (aB5 hm hl)
end
end Go.Infl
namespace Go.Infl
theorem rB {s:List UInt8} {d:Nat} (hd:1≤d):∀ (n at':Nat),d≤at'→at'+n≤s.length→(∀ k,k<n→s[at'+k]? = s[at'+k - d]?)→lX d n (s.take at')=s.take (at'+n)
 | 0,at',_,_,_=>rfl
 | n + 1, at', h1, h2, h3 => by
  have e0:=h3 0 (by omega)
  rw [Nat.add_zero] at e0
  have hl:(s.take at').length=at':=by rw [List.length_take]; omega
  have e:s.take at'++[(s.take at').getD ((s.take at').length - d) 0]=s.take (at'+1):=by
   rw [hl,List.take_add_one,List.getElem?_eq_getElem (by omega:at'<s.length)]
   congr 1
   rw [List.getD_eq_getElem?_getD,List.getElem?_take_of_lt (by omega), ← e0,List.getElem?_eq_getElem (by omega:at'<s.length)]
   first | done | rfl
  rw [lX,e,rB hd n (at'+1) (by omega) (by omega) fun k hk=>by
   have:=h3 (k+1) (by omega)
   rw [show at'+(k+1)=at'+1+k by omega] at this
   exact this]
  rw [show at'+1+n=at'+(n+1) by omega]
inductive tL (s:List UInt8):Nat→List Item→Prop
 | nil:tL s s.length []
 | byte {at':Nat} {c:UInt8} {r:List Item} (hc:s[at']? = some c) (hr:tL s (at'+1) r):tL s at' (.byte c :: r)
 | copy {at' n d:Nat} {r:List Item} (h1:3≤n) (h2:n≤258) (h3:1≤d) (h4:d≤32768) (h5:d≤at') (h6:at'+n≤s.length) (he:∀ k,k<n→s[at'+k]? = s[at'+k - d]?) (hr:tL s (at'+n) r):tL s at' (.copy n d :: r)
theorem tL.play {s:List UInt8} {at':Nat} {l:List Item} (h:tL s at' l):lK (s.take at') l∧fW (s.take at') l=s:=by
 induction h with
 | nil=>exact ⟨trivial,List.take_length⟩
 | @byte at' c r hc hr ih =>
  have e:Go.Infl.play (s.take at') (.byte c)=s.take (at'+1):=by
   show s.take at'++[c]=_
   rw [List.take_add_one,hc] <;> rfl
  refine ⟨⟨trivial,by rw [e]; exact ih.1⟩, ?_⟩
  show fW (Go.Infl.play (s.take at') (.byte c)) r=s
  rw [e]; exact ih.2
 | @copy at' n d r h1 h2 h3 h4 h5 h6 he hr ih =>
  have e:Go.Infl.play (s.take at') (.copy n d)=s.take (at'+n):=rB h3 n at' h5 h6 he
  have hl:(s.take at').length=at':=by rw [List.length_take]; omega
  refine ⟨⟨⟨h1,h2,h3,h4,by omega⟩,by rw [e]; exact ih.1⟩, ?_⟩
  show fW (Go.Infl.play (s.take at') (.copy n d)) r=s
  rw [e]; exact ih.2
theorem uL {L:Lim} {s:List UInt8} {l:List Item} {rest:List Nat} (h:tL s 0 l) (room:∀ (o:List UInt8) (inp:Nat),2≤inp→o.length<s.length→full L inp o=false) :
  run L (fixedBits l++rest) 0 start=((fixedBits l).length,.done ⟨s,true,false⟩):=by
 obtain ⟨h1,h2⟩:=h.play
 rw [List.take_zero] at h1 h2
 have:=zZ (L:=L) (rest:=rest) h1 (by rw [h2]; exact room)
 rwa [h2] at this
end Go.Infl
namespace Go.Infl
def lcpF (s:List UInt8) (at' d:Nat):Nat→Nat→Nat
 | 0,n=>n
 | f+1,n=>if at'+n<s.length∧s[at'+n]? = s[at'+n - d]? then lcpF s at' d f (n+1) else n
def lcp (s:List UInt8) (at' d:Nat):Nat:=lcpF s at' d 258 0
theorem yM {s : List UInt8} {at' d : Nat} : ∀ (f n : Nat), at' + n ≤ s.length → (∀ k, k < n → s[at' + k]? = s[at' + k - d]?) →
  n≤lcpF s at' d f n∧lcpF s at' d f n≤n+f∧at'+lcpF s at' d f n≤s.length∧∀ k,k<lcpF s at' d f n→s[at'+k]? = s[at'+k - d]?
 | 0,n,h1,h2=>⟨Nat.le_refl _,Nat.le_refl _,h1,h2⟩
 | f + 1, n, h1, h2 => by
  unfold lcpF
  split
  ·rename_i h
   have:=yM (s:=s) (at':=at') (d:=d) f (n+1) (by omega) fun k hk=>by
    by_cases hkn:k=n
    ·subst hkn; exact h.2
    ·exact h2 k (by omega)
   exact ⟨by omega,by omega,this.2.2⟩
  ·exact ⟨Nat.le_refl _,by omega,h1,h2⟩
theorem lcp_ok {s:List UInt8} {at':Nat} (d:Nat) (h:at'≤s.length):lcp s at' d≤258∧at'+lcp s at' d≤s.length∧∀ k,k<lcp s at' d→s[at'+k]? = s[at'+k - d]?:=by
 have:=yM (s:=s) (at':=at') (d:=d) 258 0 (by simpa using h) (fun k hk=>by omega)
 exact ⟨by have:=this.2.1; unfold lcp; omega,this.2.2⟩
def better (s:List UInt8) (at':Nat) (b:Nat × Nat) (d:Nat):Nat × Nat:=if b.1<lcp s at' d then (lcp s at' d,d) else b
def cA (s:List UInt8) (at':Nat):Nat→Nat × Nat
 | 0=>(0,0)
 | d+1=>better s at' (cA s at' d) (d+1)
def dM (s:List UInt8) (at':Nat):Nat × Nat:=cA s at' (min at' 32768)
theorem fK (s : List UInt8) (at' : Nat) : ∀ m, ((cA s at' m).1 = 0 ∨ (1 ≤ (cA s at' m).2 ∧ (cA s at' m).2 ≤ m ∧ (cA s at' m).1 = lcp s at' (cA s at' m).2)) ∧
  (∀ d,1≤d→d≤m→lcp s at' d≤(cA s at' m).1)∧∀ d,1≤d→d<(cA s at' m).2→lcp s at' d<(cA s at' m).1
 | 0=>⟨.inl rfl,fun d h1 h2=>by omega,fun d h1 h2=>by simp [cA] at h2⟩
 | m + 1 => by
  obtain ⟨h1,h2,h3⟩:=fK s at' m
  unfold cA better
  split
  ·rename_i h
   refine ⟨.inr ⟨by omega,Nat.le_refl _,rfl⟩,fun d g1 g2=>?_,fun d g1 g2=>?_⟩
   ·by_cases hd : d = m + 1
    ·subst hd; exact Nat.le_refl _
    ·have:=h2 d g1 (by omega); simp only; omega
   ·simp only at g2 ⊢
    have:=h2 d g1 (by omega); omega
  ·rename_i h
   refine ⟨?_,fun d g1 g2=>?_,h3⟩
   ·rcases h1 with h1 | ⟨a, b, c⟩
    ·exact .inl h1
    ·exact .inr ⟨a,by omega,c⟩
   ·by_cases hd : d = m + 1
    ·subst hd; omega
    ·exact h2 d g1 (by omega)
def itemsR (s : List UInt8) : Nat → Nat → List Item
 | 0,_=>[]
 | f + 1, at' => match s[at']? with
  | none=>[]
  | some c=>if (dM s at').1<3 then .byte c :: itemsR s f (at'+1) else .copy (dM s at').1 (dM s at').2 :: itemsR s f (at'+(dM s at').1)
theorem i9 (s : List UInt8) : ∀ (f at' : Nat), at' ≤ s.length → s.length < at' + f → tL s at' (itemsR s f at')
 | 0,at',h1,h2=>by omega
 | f + 1, at', h1, h2 => by
  unfold itemsR
  cases hc:s[at']? with
  | none =>
   have:at'=s.length:=by have:=List.getElem?_eq_none_iff.1 hc; omega
   subst this
   exact .nil
  | some c =>
   have hlt:at'<s.length:=(List.getElem?_eq_some_iff.1 hc).1
   simp only []
   split
   ·exact .byte hc (i9 s f (at'+1) (by omega) (by omega))
   ·rename_i h3
    obtain ⟨g1,_,_⟩:=fK s at' (min at' 32768)
    have hm:dM s at'=cA s at' (min at' 32768):=rfl
    rw [hm] at h3 ⊢
    obtain ⟨a,b,e⟩:=g1.resolve_left (by omega)
    obtain ⟨q1,q2,q3⟩:=lcp_ok (cA s at' (min at' 32768)).2 h1
    rw [← e] at q1 q2 q3
    exact .copy (Nat.le_of_not_lt h3) q1 a (by omega) (by omega) q2 q3 (i9 s f _ q2 (by omega))
theorem wN {s:List UInt8} {at' m n d:Nat} (hd:1≤d) (hm:d≤m) (hn:n=lcp s at' d) (h3:0<n) (hmax:∀ d',1≤d'→d'≤m→lcp s at' d'≤n) (hnear:∀ d',1≤d'→d'<d→lcp s at' d'<n):cA s at' m=(n,d):=by
 obtain ⟨h1,h2,h4⟩:=fK s at' m
 have e1:=h2 d hd hm
 rcases h1 with h1 | ⟨a,b,c⟩
 ·omega
 ·have e2 := hmax _ a b
  have en:(cA s at' m).1=n:=by omega
  have ed:(cA s at' m).2=d:=by
   rcases Nat.lt_trichotomy (cA s at' m).2 d with h | h | h
   ·have:=hnear _ a h; omega
   ·exact h
   ·have:=h4 d hd h; omega
  rw [← en, ← ed]
end Go.Infl
namespace Go.Infl
open Go.Huff
def iY:Nat→List Nat→List UInt8
 | 0,_=>[]
 | f+1,bs=>if bs=[] then [] else UInt8.ofNat (cG (bs.take 8)) :: iY f (bs.drop 8)
def pack (bs:List Nat):List UInt8:=iY bs.length bs
theorem pN:∀ (bs:List Nat),(∀ b∈bs,b<2)→cG bs<2 ^ bs.length
 | [],_=>by decide
 | b :: r, h => by
  have h1:=h b (by simp)
  have h2:=pN r fun x hx=>h x (by simp [hx])
  rw [cG,List.length_cons,Nat.pow_succ]; omega
theorem tY:∀ (bs:List Nat) (n:Nat),(∀ b∈bs,b<2)→bs.length≤n→loBits (cG bs) n=bs++List.replicate (n - bs.length) 0
 | [], n, _, _ => by
  have:∀ n,loBits 0 n=List.replicate n 0:=by
   intro n
   induction n with
   | zero=>rfl
   | succ n ih=>rw [loBits,List.replicate_succ]; simp [ih]
  simp [cG,this]
 | b :: r, n, h, hn => by
  obtain ⟨m,rfl⟩:∃ m,n=m+1:=⟨n - 1,by rw [List.length_cons] at hn; omega⟩
  have h1:=h b (by simp)
  rw [loBits,cG,show (b+2 * cG r) % 2=b by omega,show (b+2 * cG r) / 2=cG r by omega]
  rw [tY r m (fun x hx=>h x (by simp [hx])) (by rw [List.length_cons] at hn; omega)]
  rw [List.cons_append,List.length_cons,Nat.add_sub_add_right]
theorem pM : ∀ (f : Nat) (bs : List Nat), bs.length ≤ f → (∀ b ∈ bs, b < 2) → bitsOf (iY f bs) = bs ++ List.replicate ((8 - bs.length % 8) % 8) 0
 | 0, bs, h, _ => by
  have:bs=[]:=List.eq_nil_of_length_eq_zero (by omega)
  subst this; rfl
 | f + 1, bs, h, hb => by
  unfold iY
  split
  ·rename_i h0; subst h0; rfl
  ·rename_i h0
   have hp:0<bs.length:=List.length_pos_iff.2 h0
   have ht:∀ b∈bs.take 8,b<2:=fun b hx=>hb b (List.mem_of_mem_take hx)
   have hl:(bs.take 8).length≤8:=by rw [List.length_take]; omega
   have hlt:cG (bs.take 8)<256:=by
    have h1:=pN _ ht
    have h2:2 ^ (bs.take 8).length≤2 ^ 8:=Nat.pow_le_pow_right (by decide) hl
    omega
   have hn:(UInt8.ofNat (cG (bs.take 8))).toNat=cG (bs.take 8):=by
    rw [UInt8.toNat_ofNat']; exact Nat.mod_eq_of_lt hlt
   show loBits (UInt8.ofNat (cG (bs.take 8))).toNat 8++bitsOf (iY f (bs.drop 8))=_
   rw [hn,tY _ 8 ht hl,pM f (bs.drop 8) (by rw [List.length_drop]; omega) fun b hx=>hb b (List.mem_of_mem_drop hx)]
   by_cases h8:8≤bs.length
   ·have e : (bs.take 8).length = 8 := by rw [List.length_take]; omega
    rw [e,List.length_drop,Nat.sub_self,List.replicate_zero,List.append_nil, ← List.append_assoc,List.take_append_drop,show (bs.length - 8) % 8=bs.length % 8 by omega]
   ·have e : bs.take 8 = bs := List.take_of_length_le (by omega)
    have e2:bs.drop 8=[]:=List.drop_eq_nil_of_le (by omega)
    rw [e,e2,List.append_assoc]
    congr 1
    simp
    omega
theorem rF {bs:List Nat} (h:∀ b∈bs,b<2):bitsOf (pack bs)=bs++List.replicate ((8 - bs.length % 8) % 8) 0:=pM _ bs (Nat.le_refl _) h
theorem pack_len {bs:List Nat} (h:∀ b∈bs,b<2):(pack bs).length=(bs.length+7) / 8:=by
 have:=congrArg List.length (rF h)
 rw [bits_len,List.length_append,List.length_replicate] at this
 omega
end Go.Infl
namespace Go.Infl
open Go.Huff
theorem pQ (x:Nat):∀ (n:Nat), ∀ b∈hiBits x n,b<2
 | 0,b,h=>by cases h
 | n + 1, b, h => by
  rw [hiBits] at h
  rcases List.mem_cons.1 h with rfl | h
  ·omega
  ·exact pQ x n b h
theorem sS:∀ (n x:Nat), ∀ b∈loBits x n,b<2
 | 0,x,b,h=>by cases h
 | n + 1, x, b, h => by
  rw [loBits] at h
  rcases List.mem_cons.1 h with rfl | h
  ·omega
  ·exact sS n _ b h
theorem aEM (a b:List Nat) (x:Item):∀ y∈encItem a b x,y<2:=by
 intro y hy
 cases x with
 | byte c=>exact pQ _ _ y hy
 | copy n d =>
  unfold encItem at hy
  simp only [List.mem_append] at hy
  rcases hy with h | h | h | h
  ·exact pQ _ _ y h
  ·exact sS _ _ y h
  ·exact pQ _ _ y h
  ·exact sS _ _ y h
theorem fixed_two (l:List Item):∀ y∈fixedBits l,y<2:=by
 intro y hy
 unfold fixedBits encItems at hy
 simp only [List.mem_append,List.mem_flatMap] at hy
 rcases hy with h | ⟨x,_,h⟩ | h
 ·exact sS _ _ y h
 ·exact aEM _ _ x y h
 ·exact pQ _ _ y h
def fixedText (s:List UInt8):List UInt8:=pack (fixedBits (itemsR s (s.length+1) 0))
theorem fixedText_reads {L:Lim} {s:List UInt8} {rest:List Nat} (room:∀ (o:List UInt8) (inp:Nat),2≤inp→o.length<s.length→full L inp o=false) :
  ∃ i,run L (bitsOf (fixedText s)++rest) 0 start=(i,.done ⟨s,true,false⟩)∧(i+7) / 8=(fixedText s).length:=by
 have hc:=i9 s (s.length+1) 0 (Nat.zero_le _) (by omega)
 unfold fixedText
 rw [rF (fixed_two _),List.append_assoc]
 exact ⟨_,uL hc room,(pack_len (fixed_two _)).symm⟩
theorem fixedText_limited {L:Lim} {m:Nat} {s:List UInt8} {rest:List Nat} (hm:m≤L.output) (hs:m<s.length) (room:∀ (o:List UInt8) (inp:Nat),2≤inp→o.length<s.length→full L inp o=false) :
  ∃ k,(run { L with output:=m } (bitsOf (fixedText s)++rest) 0 start).2 = .err 2 k∧k.out=s.take m:=by
 obtain ⟨i,h1,_⟩:=fixedText_reads (rest:=rest) room
 have:=pI (m:=m) hm (bitsOf (fixedText s)++rest) 0 start start (.inl ⟨rfl,Nat.zero_le _⟩)
 rw [h1] at this
 rcases this with ⟨_,h⟩ | ⟨k,g1,g2,t,g3,g4⟩
 ·exact absurd (show s.length≤m from h) (by omega)
 ·refine ⟨k, g1, ?_⟩
  have g4:s=k.out++t:=g4
  rw [g4, ← g2,List.take_left]
end Go.Infl
namespace Go.Infl
open Go.Huff
theorem qA:∀ (f g:Nat) (bs:List Nat),bs.length≤f→bs.length≤g→iY f bs=iY g bs
 | 0, g, bs, h, hg => by
  have:bs=[]:=List.eq_nil_of_length_eq_zero (by omega)
  subst this
  cases g <;> simp [iY]
 | f + 1, 0, bs, h, hg => by
  have:bs=[]:=List.eq_nil_of_length_eq_zero (by omega)
  subst this
  simp [iY]
 | f + 1, g + 1, bs, h, hg => by
  unfold iY
  split
  ·rfl
  ·rename_i h0
   have hp:0<bs.length:=List.length_pos_iff.2 h0
   rw [qA f g (bs.drop 8) (by rw [List.length_drop]; omega) (by rw [List.length_drop]; omega)]
theorem jY {bs:List Nat} (h:bs≠[]):pack bs=UInt8.ofNat (cG (bs.take 8)) :: pack (bs.drop 8):=by
 have hp:0<bs.length:=List.length_pos_iff.2 h
 obtain ⟨n,hn⟩:∃ n,bs.length=n+1:=⟨bs.length - 1,by omega⟩
 show iY bs.length bs=_
 rw [hn]
 unfold iY
 rw [if_neg h]
 congr 1
 exact qA _ _ _ (by rw [List.length_drop]; omega) (Nat.le_refl _)
theorem oQ:∀ (bs:List Nat) (b:Nat),cG (bs++[b])=cG bs+b * 2 ^ bs.length
 | [],b=>by simp [cG]
 | x :: r, b => by
  rw [List.cons_append,cG,cG,oQ r b,List.length_cons,Nat.pow_succ,Nat.mul_add, ← Nat.mul_assoc,Nat.mul_comm 2 (b),Nat.mul_assoc,Nat.mul_comm 2 (2 ^ r.length)]
  omega
theorem pack_snoc {b : Nat} (hb : b < 2) : ∀ (n : Nat) (bs : List Nat), bs.length ≤ n → (∀ x ∈ bs, x < 2) → ∃ (pre : List UInt8) (c : Nat), c < 2 ^ (bs.length % 8) ∧ (bs.length % 8 = 0 ∧ pack bs = pre ∨ bs.length % 8 ≠ 0 ∧ pack bs = pre ++ [UInt8.ofNat c]) ∧ pack (bs ++ [b]) = pre ++ [UInt8.ofNat (c + b * 2 ^ (bs.length % 8))]
 | n, bs, hn, hx => by
  have hne:bs++[b]≠[]:=by simp
  by_cases h8:bs.length<8
  ·have hm : bs.length % 8 = bs.length := Nat.mod_eq_of_lt h8
   rw [hm,jY hne,List.take_of_length_le (by simp; omega),List.drop_eq_nil_of_le (by simp; omega),oQ]
   refine ⟨[],cG bs,pN bs hx, ?_,rfl⟩
   by_cases h0:bs=[]
   ·subst h0; exact .inl ⟨rfl,rfl⟩
   ·refine .inr ⟨fun h => h0 (List.eq_nil_of_length_eq_zero h), ?_⟩
    rw [jY h0,List.take_of_length_le (by omega),List.drop_eq_nil_of_le (by omega)]
    first | done | rfl
  ·match n, hn with
   | 0,hn=>omega
   | n + 1, hn =>
    have h0:bs≠[]:=by intro h; subst h; simp at h8
    obtain ⟨pre,c,g1,g2,g3⟩:=pack_snoc hb n (bs.drop 8) (by rw [List.length_drop]; omega) fun x h=>hx x (List.mem_of_mem_drop h)
    have hm:(bs.drop 8).length % 8=bs.length % 8:=by rw [List.length_drop]; omega
    rw [hm] at g1 g2 g3
    rw [jY h0,jY hne,List.take_append_of_le_length (by omega),List.drop_append_of_le_length (by omega),g3]
    refine ⟨UInt8.ofNat (cG (bs.take 8)) :: pre,c,g1, ?_,rfl⟩
    rcases g2 with ⟨e,g2⟩ | ⟨e,g2⟩
    ·exact .inl ⟨e,by rw [g2]⟩
    ·exact .inr ⟨e,by rw [g2] <;> rfl⟩
theorem lo_snoc (x:Nat):∀ n,loBits x (n+1)=loBits x n++[x / 2 ^ n % 2]:=by
 intro n
 rw [aCU]
 first | done | rfl
end Go.Infl
set_option linter.unusedSimpArgs false
namespace Go.GAM
variable {ty:Option TypeId}
def Ext (h0 h:aA):Prop:=h0.length≤h.length∧∀ id,id<h0.length→h[id]? = h0[id]?
theorem Ext.take {h0 h:aA} (a:Ext h0 h):h.take h0.length=h0:=by
 apply List.ext_getElem?
 intro i
 rw [List.getElem?_take]
 by_cases hi:i<h0.length
 ·rw [if_pos hi,a.2 i hi]
 ·rw [if_neg hi,List.getElem?_eq_none (Nat.le_of_not_lt hi)]
def o7:AV→Bool
 | .b _ | .i _ _ | .s _ | .p none | .sl none _ _ | .nf | .ni=>true
 | _=>false
def aCC:AV→Bool
 | .ag cs | .tu cs=>cs.all o7
 | v=>o7 v
theorem pP {n:Nat} {v:AV} (h:o7 v=true):pV n [] v=v∧ok1 n [] v=true:=by
 unfold o7 at h
 split at h <;> first | exact ⟨rfl,rfl⟩ | cases h
theorem zC {n:Nat} {v:AV} (h:aCC v=true):ren n [] v=v∧okR n [] v=true:=by
 have hl:∀ cs:List AV,cs.all o7=true→cs.map (pV n [])=cs∧cs.all (ok1 n [])=true:=by
  intro cs
  induction cs with
  | nil=>exact fun _=>⟨rfl,rfl⟩
  | cons c cs ih =>
   intro hc
   simp only [List.all_cons,Bool.and_eq_true] at hc
   obtain ⟨h1,h2⟩:=ih hc.2
   obtain ⟨h3,h4⟩:=pP (n:=n) hc.1
   simp [h1,h2,h3,h4]
 unfold aCC at h
 split at h
 ·rename_i cs; obtain ⟨h1,h2⟩:=hl cs h; exact ⟨by simp [ren,h1],by simpa [okR] using h2⟩
 ·rename_i cs; obtain ⟨h1,h2⟩:=hl cs h; exact ⟨by simp [ren,h1],by simpa [okR] using h2⟩
 ·rename_i h1 h2
  obtain ⟨h3,h4⟩:=pP (n:=n) h
  constructor
  ·unfold ren; split
   ·exact absurd rfl (h1 _)
   ·exact absurd rfl (h2 _)
   ·exact h3
  ·unfold okR; split
   ·exact absurd rfl (h1 _)
   ·exact absurd rfl (h2 _)
   ·exact h4
theorem gX {h0 h:aA} {K:AV→aA→Prop} {r:AV} (hp:aCC r=true) (hE:Ext h0 h) (hk:K r h0):aK h0 K r h:=by
 obtain ⟨h1,h2⟩:=zC (n:=h0.length) hp
 refine .inr ⟨[],List.nodup_nil,h2,by simp,fun id hi=>.inl (hE.2 id hi),hE.1, ?_⟩
 rw [h1,hE.take]
 simpa using hk
theorem qW (l:List UInt8):(l.map byteAV).all kS=true:=by
 rw [List.all_eq_true]; intro x hx; simp only [List.mem_map] at hx; obtain ⟨c,_,rfl⟩:=hx; rfl
theorem qT (c:UInt8):toByte (byteAV c)=c:=by simp [toByte,byteAV]
theorem vC (l:List UInt8):(l.map byteAV).map toByte=l:=by
 rw [List.map_map]
 have:toByte ∘ byteAV=id:=by funext c; exact qT c
 rw [this,List.map_id]
theorem aV {n:Int} (h0 : -9223372036854775808≤n) (h1:n<9223372036854775808):IntKind.wrap .i64 n=n:=by
 have e1:(2:Int) ^ 64=18446744073709551616:=by decide
 have e2:(2:Int) ^ (64 - 1)=9223372036854775808:=by decide
 simp only [IntKind.wrap,IntKind.bits,IntKind.signed,Bool.true_and,decide_eq_true_eq,e1,e2]
 split <;> omega
theorem xU {n:Int} (h0:0≤n) (h1:n<256):IntKind.wrap .u8 n=n:=by
 simp only [IntKind.wrap,IntKind.bits,IntKind.signed,Bool.false_and,Bool.false_eq_true,if_false]
 omega
theorem getD_some {α:Type} {l:List α} {i:Nat} {c d:α} (hc:l[i]? = some c):l.getD i d=c:=by
 rw [List.getD_eq_getElem?_getD,hc] <;> rfl
theorem sC {l:List UInt8} {k:IntKind} {i:Nat} {c:UInt8} {K:Int→Prop} (hc:l[i]? = some c) (hk:K (c.toNat:Int)):eZ (.s l) (.i k (i:Int)) K:=by
 obtain ⟨hlt,_⟩:=List.getElem?_eq_some_iff.1 hc
 refine ⟨by omega,by simpa using hlt, ?_⟩
 rw [Int.toNat_natCast,getD_some hc]
 exact hk
theorem aAQ {α:Type} {l:List α} {i:Nat} {c:α} (hc:l[i]? = some c):l.take (i+1)=l.take i++[c]:=by
 rw [List.take_add_one,hc] <;> rfl
theorem bA {c:Bool} {A B:Prop} (hc:c=true) (h:A):(bif c then A else B):=by rw [hc]; exact h
theorem aX {c:Bool} {A B:Prop} (hc:c=false) (h:B):(bif c then A else B):=by rw [hc]; exact h
theorem aR {c:Bool} {A B:Prop} (h1:c=true→A) (h2:c=false→B):(bif c then A else B):=by
 cases c
 ·exact h2 rfl
 ·exact h1 rfl
theorem aM {e n:Int} {K:Int→Prop} (h:e=n) (hk:K n):aN e K:=by subst h; exact hk
theorem uG {e n:Bool} {K:Bool→Prop} (h:e=n) (hk:K n):aCN e K:=by subst h; exact hk
end Go.GAM
namespace Go.GAM
section
variable {P:Program}
theorem ext_run {f:FuncId} {fn:Func} {ex:Array Value→Sem Value} (hf:P.funcs[f]? = some fn) (hn:(fn.name == "runtime.NumGoroutine")=false) (hb:fn.body.isNone=true)
  (h1:Extern.findNext fn=none) (h2:Extern.find fn=some ex) {args:Array Value} {v:Value} {w:World} (he:(ex args).run P w = .ok v w):(callFunc f args).run P w = .ok (.value v) w:=by
 have hn':fn.name ≠ "runtime.NumGoroutine":=by simpa using hn
 have hb':fn.body=none:=by simpa using hb
 have hm:∀ (m:Mark) (k:Sem Unit) (w:World),Sem.run P (Sem.mark m k) w=Sem.run P k w:=fun _ _ _=>rfl
 unfold callFunc
 simp [go_sem,hf,hn',hb',h1,h2,mark,hm,he]
end
end Go.GAM
namespace Go.GAM
variable {ty:Option TypeId}
def Upd (M:Nat→Prop) (h h':aA):Prop:=h.length≤h'.length∧∀ i,i<h.length→¬ M i→h'[i]? = h[i]?
theorem Upd.refl (M:Nat→Prop) (h:aA):Upd M h h:=⟨Nat.le_refl _,fun _ _ _=>rfl⟩
theorem Upd.trans {M M':Nat→Prop} {h h1 h2:aA} (a:Upd M h h1) (b:Upd M' h1 h2) (hM:∀ i,i<h.length→M' i→M i):Upd M h h2:=
 ⟨Nat.le_trans a.1 b.1,fun i hi hn=>(b.2 i (Nat.lt_of_lt_of_le hi a.1) fun hm=>hn (hM i hi hm)).trans (a.2 i hi hn)⟩
theorem Upd.mono {M M':Nat→Prop} {h h1:aA} (a:Upd M h h1) (hM:∀ i,i<h.length→M i→M' i):Upd M' h h1:=
 ⟨a.1,fun i hi hn=>a.2 i hi fun hm=>hn (hM i hi hm)⟩
theorem Upd.app (h s:aA):Upd (fun _=>False) h (h++s):=⟨by simp,fun i hi _=>by rw [List.getElem?_append_left hi]⟩
theorem Upd.set (h:aA) (id:Nat) (b:ABlk):Upd (· = id) h (h.set id b):=⟨by simp,fun i hi hn=>by rw [List.getElem?_set_ne (fun e=>hn e.symm)]⟩
theorem aI {α:Type} {l:List α} {i:Nat} {a:α} (h:l[i]? = some a):i<l.length:=(List.getElem?_eq_some_iff.1 h).1
def bC (h:aA) (id:Nat) (cs:List AV):Prop:=∃ b:ABlk,h[id]? = some b∧b.cells=cs∧b.floor≤cs.length∧b.ro=false
theorem bC.lt {h:aA} {id:Nat} {cs:List AV} (R:bC h id cs):id<h.length:=by obtain ⟨b,h1,_⟩:=R; exact aI h1
theorem bC.upd {M:Nat→Prop} {h h':aA} {id:Nat} {cs:List AV} (R:bC h id cs) (U:Upd M h h') (hM:¬ M id):bC h' id cs:=by
 have hl:=R.lt
 obtain ⟨b,h1,h2⟩:=R
 exact ⟨b,(U.2 id hl hM).trans h1,h2⟩
theorem gD {a:AA} {K:AV→Prop} (hk:K (.p (some a))):aZ (.p (some a)) K:=hk
theorem cU {id ver off o:Nat} {K:AV→Prop} (hk:K (.p (some ⟨id,ver,off+o⟩))):aC o (.p (some ⟨id,ver,off⟩)) K:=hk
theorem vW {k:IntKind} {a b n:Int} {K:Int→Prop} (hb:b≠0) (hn:k.wrap (a.tdiv b)=n) (hk:K n):aBW k a b K:=by subst hn; exact ⟨hb,hk⟩
theorem aC0 {a b n:Int} {K:Int→Prop} (hb:b≠0) (hn:a.tmod b=n) (hk:K n):aEA a b K:=by subst hn; exact ⟨hb,hk⟩
theorem aE {h:aA} {id n o:Nat} {cs:List AV} {v:AV} {K:AV→Prop} (R:bC h id cs) (hn:n=cs.length) (hc:cs[o]? = some v) (hk:K v):aB (.p (some ⟨id,n,o⟩)) h K:=by
 obtain ⟨b,h1,rfl,h3,h4⟩:=R
 subst hn
 have:=aI hc
 refine ⟨b,h1,⟨h3,Nat.le_refl _,this⟩, ?_⟩
 show K (b.cells.getD o .u)
 rw [getD_some hc]; exact hk
theorem aQ {h:aA} {id n o:Nat} {cs:List AV} {v:AV} {K:aA→Prop} (R:bC h id cs) (hn:n=cs.length) (ho:o<cs.length) (hv:v.parts=[v]:=by rfl) (hs:v.sizeOK=true:=by rfl) (hc:v.cellOK=true:=by rfl)
  (hk:∀ h',h'.length=h.length→Upd (· = id) h h'→bC h' id (cs.set o v)→K h'):aU 1 (.p (some ⟨id,n,o⟩)) v h K:=by
 have hl:=R.lt
 obtain ⟨b,h1,rfl,h3,h4⟩:=R
 subst hn
 refine ⟨b,h1,h4,h3,rfl,(by show o+1≤b.cells.length; omega),hs,by rw [hv] <;> rfl,by rw [hv]; simp [hc], ?_⟩
 refine hk _ (by simp) (Upd.set _ _ _) ⟨_,List.getElem?_set_self hl, ?_, ?_,h4⟩
 ·rw [hv] <;> rfl
 ·simp
theorem cE {cells:List AV} {h:aA} {K:AV→aA→Prop} (hk:∀ h',h'.length=h.length+1→Upd (fun _=>False) h h'→bC h' h.length cells→K (.p (some ⟨h.length,cells.length,0⟩)) h'):cV ty cells h K:=
 hk _ (by simp) (Upd.app _ _) ⟨aY cells 1 true ty,by simp,rfl,Nat.le_refl _,rfl⟩
theorem bS {x:AV} {h:aA} {K:AV→aA→Prop} (hs:x.sizeOK=true:=by rfl) (hk:∀ h',h'.length=h.length+1→Upd (fun _=>False) h h'→bC h' h.length x.parts→K (.p (some ⟨h.length,x.parts.length,0⟩)) h'):dF ty x h K:=
 ⟨hs,hk _ (by simp) (Upd.app _ _) ⟨aY x.parts 1 true ty,by simp,rfl,Nat.le_refl _,rfl⟩⟩
theorem aD {n:Int} {K:Int→Prop} (hk:K n):asI .i64 (.i .i64 n) K:=hk
theorem kL {k:IntKind} {n:Int} {K:Int→Prop} (hk:K n):asI k (.i k n) K:=by cases k <;> exact hk
theorem bE {n:Bool} {K:Bool→Prop} (hk:K n):asB (.b n) K:=hk
theorem cC {n:List UInt8} {K:List UInt8→Prop} (hk:K n):asS (.s n) K:=hk
theorem oY {a:Option AA} {n:Nat} {c:Option Nat} {K:Int→Prop} (hk:K n):bV (.sl a n c) K:=hk
theorem aC1:∀ (ws pre cs:List AV),ws.length=cs.length→wr (pre++cs) pre.length ws=pre++ws
 | [], pre, cs, h => by
  have:cs=[]:=List.eq_nil_of_length_eq_zero (by simpa using h.symm)
  subst this; simp [wr]
 | w :: ws,pre,[],h=>by simp at h
 | w :: ws, pre, c :: cs, h => by
  simp only [wr]
  have e:(pre++c :: cs).set pre.length w=(pre++[w])++cs:=by simp
  rw [e]
  have:=aC1 ws (pre++[w]) cs (by simpa using h)
  simpa using this
theorem jN {h:aA} {id n:Nat} {cs:List AV} {K:AV→Prop} (R:bC h id cs) (hn:n=cs.length) (hk:K (.ag cs)):dW n (.p (some ⟨id,n,0⟩)) h K:=by
 obtain ⟨b,h1,rfl,h3,h4⟩:=R
 subst hn
 refine ⟨b,h1,⟨h3,Nat.le_refl _,by simp⟩, ?_⟩
 simpa using hk
theorem g8 {h:aA} {id n:Nat} {cs ws:List AV} {K:aA→Prop} (R:bC h id cs) (hn:n=cs.length) (hw:ws.length=n) (hc:ws.all AV.cellOK=true)
  (hk:∀ h',h'.length=h.length→Upd (· = id) h h'→bC h' id ws→K h'):aU n (.p (some ⟨id,n,0⟩)) (.ag ws) h K:=by
 have hl:=R.lt
 obtain ⟨b,h1,rfl,h3,h4⟩:=R
 subst hn
 refine ⟨b,h1,h4,h3,rfl,(by show 0+b.cells.length≤b.cells.length; omega),rfl,hw,hc, ?_⟩
 refine hk _ (by simp) (Upd.set _ _ _) ⟨_,List.getElem?_set_self hl, ?_, ?_,h4⟩
 ·exact aC1 ws [] b.cells hw
 ·rw [hw]; exact Nat.le_refl _
def aO (v:AV) (id:Nat):Prop:=match v with
 | .sl (some a) _ _=>a.id=id
 | _=>False
def Rd (sz:Nat) (h:aA) (v:AV) (cs:List AV) (len:Nat):Prop:=
 (v = .sl none 0 none∧len=0∧cs=[])∨∃ id ver off cap b,v = .sl (some ⟨id,ver,off⟩) len cap∧h[id]? = some b∧(b.sz=sz∨b.sz=1)∧b.floor≤ver∧ver≤b.cells.length∧off+len * sz≤ver∧(b.cells.drop off).take (len * sz)=cs
theorem Rd.upd {sz:Nat} {M:Nat→Prop} {h h':aA} {v:AV} {cs:List AV} {len:Nat} (R:Rd sz h v cs len) (U:Upd M h h') (hM:∀ id,aO v id→¬ M id):Rd sz h' v cs len:=by
 rcases R with h1 | ⟨id,ver,off,cap,b,rfl,h2,h3⟩
 ·exact .inl h1
 ·exact .inr ⟨id,ver,off,cap,b,rfl,(U.2 id (aI h2) (hM id rfl)).trans h2,h3⟩
theorem Rd.lt {sz:Nat} {h:aA} {v:AV} {cs:List AV} {len:Nat} (R:Rd sz h v cs len) {id:Nat} (hs:aO v id):id<h.length:=by
 rcases R with ⟨rfl,_⟩ | ⟨id',ver,off,cap,b,rfl,h2,h3⟩
 ·exact hs.elim
 ·cases hs; exact aI h2
theorem Rd.length {sz:Nat} {h:aA} {v:AV} {cs:List AV} {len:Nat} (R:Rd sz h v cs len):cs.length=len * sz:=by
 rcases R with ⟨_,rfl,rfl⟩ | ⟨id,ver,off,cap,b,rfl,h2,h3,h4,h5,h6,rfl⟩
 ·simp
 ·simp; omega
theorem Rd.sl {sz:Nat} {h:aA} {v:AV} {cs:List AV} {len:Nat} (R:Rd sz h v cs len) {K:List AV→Prop} (hk:K cs):eA sz v h K:=by
 rcases R with ⟨rfl,rfl,rfl⟩ | ⟨id,ver,off,cap,b,rfl,h2,h3,h4,h5,h6,rfl⟩
 ·exact hk
 ·exact .inr ⟨b,h2,⟨h4,h5,h6⟩,hk⟩
theorem Rd.len {sz:Nat} {h:aA} {v:AV} {cs:List AV} {len:Nat} (R:Rd sz h v cs len) {K:Int→Prop} (hk:K len):bV v K:=by
 rcases R with ⟨rfl,rfl,rfl⟩ | ⟨id,ver,off,cap,b,rfl,h2⟩ <;> exact hk
theorem Rd.news {sz:Nat} {h:aA} {v:AV} {cs:List AV} {len:Nat} (R:Rd sz h v cs len) {K:List AV→Nat→Prop} (hk:K cs len):d5 sz v h K:=by
 rcases R with ⟨rfl,rfl,rfl⟩ | ⟨id,ver,off,cap,b,rfl,h2,h3,h4,h5,h6,rfl⟩
 ·exact hk
 ·exact .inr ⟨b,h2,⟨h4,h5,h6⟩,hk⟩
theorem Rd.idx {sz:Nat} {h:aA} {v:AV} {cs:List AV} {len:Nat} (R:Rd sz h v cs len) {k:IntKind} {i:Int} (h0:0≤i) (h1:i<len) {K:AV→Prop}
  (hk:∀ id ver off,(∃ b:ABlk,h[id]? = some b∧b.floor≤ver∧ver≤b.cells.length∧off+sz≤ver∧(b.cells.drop off).take sz=(cs.drop (i.toNat * sz)).take sz)→K (.p (some ⟨id,ver,off⟩))):aW sz v (.i k i) h K:=by
 rcases R with ⟨rfl,rfl,rfl⟩ | ⟨id,ver,off,cap,b,rfl,h2,h3,h4,h5,h6,rfl⟩
 ·omega
 ·refine ⟨h0, h1, ⟨b, h2, h4, by omega⟩, hk _ _ _ ⟨b, h2, h4, h5, ?_, ?_⟩⟩
  ·have : (i.toNat + 1) * sz ≤ len * sz := Nat.mul_le_mul_right _ (by omega)
   rw [Nat.add_mul] at this; simp only; omega
  ·have : (i.toNat + 1) * sz ≤ len * sz := Nat.mul_le_mul_right _ (by omega)
   rw [Nat.add_mul] at this
   rw [List.drop_take,List.drop_drop,List.take_take,Nat.min_eq_left (by omega)]
structure aFD (sz:Nat) (h:aA) (id ver off:Nat) (b:ABlk) (cs:List AV) (len:Nat):Prop where
 blk:h[id]? = some b
 siz:b.sz=sz∨b.sz=1
 flo:b.floor≤ver
 vle:ver≤b.cells.length
 end_:off+len * sz≤ver
 cel:(b.cells.drop off).take (len * sz)=cs
theorem aF0 {sz:Nat} {h:aA} {id ver off:Nat} {b:ABlk} {cs:List AV} {len:Nat} {cap:Option Nat} {k:IntKind} {i:Nat} {K:AV→Prop} (R:aFD sz h id ver off b cs len) (hi:i<len) (hk:K (.p (some ⟨id,ver,off+i * sz⟩))) :
  aW sz (.sl (some ⟨id,ver,off⟩) len cap) (.i k (i:Int)) h K:=
 ⟨by omega,by omega,⟨b,R.1,R.3,Nat.le_trans R.3 R.4⟩,by simpa using hk⟩
theorem aEH {sz:Nat} {h:aA} {id ver off:Nat} {b:ABlk} {cs:List AV} {len i o:Nat} {c:AV} {K:AV→Prop} (R:aFD sz h id ver off b cs len) (hi:i<len) (ho:o<sz) (hc:cs[i * sz+o]? = some c) (hk:K c):aB (.p (some ⟨id,ver,off+i * sz+o⟩)) h K:=by
 have h1:(i+1) * sz≤len * sz:=Nat.mul_le_mul_right _ hi
 rw [Nat.add_mul] at h1
 have h2:=R.end_
 refine ⟨b,R.1,⟨R.3,R.4,by simp only; omega⟩, ?_⟩
 have h3:=R.cel
 rw [← h3,List.getElem?_take_of_lt (by omega),List.getElem?_drop] at hc
 show K (b.cells.getD (off+i * sz+o) .u)
 rw [getD_some (show b.cells[off+i * sz+o]? = some c by rw [← hc]; congr 1; omega)]
 exact hk
def Arr (sz:Nat) (h:aA) (v:AV) (cs:List AV) (len:Nat):Prop:=
 (v = .sl none 0 none∧len=0∧cs=[])∨∃ id b,v = .sl (some ⟨id,cs.length,0⟩) len none∧h[id]? = some b∧b.cells=cs∧cs.length=len * sz∧b.sz=sz∧b.floor≤cs.length∧b.ro=false∧b.gl=false
theorem Arr.rd {sz:Nat} {h:aA} {v:AV} {cs:List AV} {len:Nat} (A:Arr sz h v cs len):Rd sz h v cs len:=by
 rcases A with h1 | ⟨id,b,rfl,h2,rfl,h4,h5,h6,h7⟩
 ·exact .inl h1
 ·refine .inr ⟨id, _, 0, none, b, rfl, h2, .inl h5, h6, Nat.le_refl _, by omega, ?_⟩
  rw [List.drop_zero, ← h4,List.take_length]
theorem Arr.upd {sz:Nat} {M:Nat→Prop} {h h':aA} {v:AV} {cs:List AV} {len:Nat} (A:Arr sz h v cs len) (U:Upd M h h') (hM:∀ id,aO v id→¬ M id):Arr sz h' v cs len:=by
 rcases A with h1 | ⟨id,b,rfl,h2,h3⟩
 ·exact .inl h1
 ·exact .inr ⟨id,b,rfl,(U.2 id (aI h2) (hM id rfl)).trans h2,h3⟩
theorem Arr.append {sz bytes : Nat} {h : aA} {v x : AV} {cs ns : List AV} {len k : Nat} (A : Arr sz h v cs len) (hz : 0 < sz) {K : AV → aA → Prop}
  (hx:∀ K:List AV→Nat→Prop,K ns k→d5 sz x h K) (hns:ns.length=k * sz) (hok:ns.all AV.cellOK=true) (hlen:(len+k) * bytes≤140737488355328) (hl2:len+k≤9223372036854775807)
  (hk:∀ v' h',Upd (aO v) h h'→Arr sz h' v' (cs++ns) (len+k)→(∀ id,aO v' id→aO v id∨h.length≤id)→K v' h'):bT ty sz bytes v x h K:=by
 refine ⟨hz,hx _ ?_⟩
 rcases A with ⟨rfl,rfl,rfl⟩ | ⟨id,b,rfl,h2,rfl,h4,h5,h6,h7,h8⟩
 ·refine ⟨by simpa using hlen, by omega, ?_⟩
  split
  ·rename_i h0
   subst h0
   have:ns=[]:=List.eq_nil_of_length_eq_zero (by simpa using hns)
   subst this
   exact hk _ _ (Upd.refl _ _) (.inl ⟨rfl,rfl,rfl⟩) fun id hi=>.inl hi
  ·refine hk _ _ ((Upd.app _ _).mono fun _ _ h=>h.elim) (.inr ⟨h.length,aY ns sz false ty,by simp,by simp,rfl,by simpa using hns,rfl,Nat.le_refl _,rfl,rfl⟩) fun id hi=>.inr (by cases hi; exact Nat.le_refl _)
 ·have hid := aI h2
  refine ⟨hlen,by omega,b,h2,h5,⟨h6,Nat.le_refl _,by simp only; omega⟩, ?_⟩
  have hcells:(b.cells.drop 0).take (len * sz)=b.cells:=by rw [List.drop_zero, ← h4,List.take_length]
  by_cases ht:k=0
  ·subst ht
   have:ns=[]:=List.eq_nil_of_length_eq_zero (by simpa using hns)
   subst this
   refine .inl ⟨rfl,hk _ _ (Upd.refl _ _) ?_ fun id hi=>.inl hi⟩
   rw [List.append_nil]
   exact .inr ⟨id,b,rfl,h2,rfl,h4,h5,h6,h7,h8⟩
  ·have htp : 0 < k := Nat.pos_of_ne_zero ht
   have hmul:(len+k) * sz=len * sz+k * sz:=Nat.add_mul _ _ _
   cases hex:b.ex with
   | true =>
    have hkz:0<k * sz:=Nat.mul_pos htp hz
    refine .inr (.inl ⟨htp,.inr ⟨rfl,rfl,rfl,by simp only; omega⟩, ?_⟩)
    rw [hcells]
    refine hk _ _ ((Upd.app _ _).mono fun _ _ h=>h.elim) (.inr ⟨h.length,aY (b.cells++ns) sz false ty,rfl,by simp,rfl,by simp [aY,hns,h4,hmul],rfl,by simp [aY],rfl,rfl⟩) fun id hi=>.inr (by cases hi; exact Nat.le_refl _)
   | false =>
    refine .inr (.inr (.inr (.inl ⟨htp,h7,rfl,rfl,h4.symm,rfl,rfl,h8,hok, ?_⟩)))
    refine hk _ _ ((Upd.set _ _ _).mono fun i _ h=>h.symm) (.inr ⟨id,{ b with cells:=b.cells++ns,ty:=eS b.ty ty },rfl,by simp [hid,hex],rfl,by simp [hns,h4,hmul],h5,by simp; omega,h7,h8⟩) fun id hi=>.inl hi
theorem eN {sz len:Nat} {zeros cs:List AV} {parts:List (Nat × Nat × AV)} {h:aA} {K:AV→aA→Prop} (hf:eU zeros parts=some cs) (hl:cs.length=len * sz)
  (hk:∀ v h',h'.length=h.length+1→Upd (fun _=>False) h h'→Rd sz h' v cs len→(∀ id,aO v id→h.length≤id)→K v h'):bP sz len zeros parts h K:=by
 unfold bP
 rw [hf]
 refine ⟨hl,hk _ _ (by simp) (Upd.app _ _) (.inr ⟨h.length,cs.length,0,none,aY cs sz true,rfl,by simp,.inl rfl,Nat.le_refl _,Nat.le_refl _,by omega, ?_⟩) fun id hi=>by cases hi; exact Nat.le_refl _⟩
 simp [aY, ← hl]
theorem Arr.push {sz bytes:Nat} {h:aA} {v x:AV} {cs zeros:List AV} {len:Nat} (A:Arr sz h v cs len) (hz:0<sz) {K:AV→aA→Prop} (hf:eU zeros [(0,sz,x)]=some x.parts) (hxl:x.parts.length=sz) (hok:x.parts.all AV.cellOK=true)
  (hlen:(len+1) * bytes≤140737488355328) (hl2:len+1≤9223372036854775807)
  (hk:∀ v' h',Upd (aO v) h h'→Arr sz h' v' (cs++x.parts) (len+1)→(∀ id,aO v' id→aO v id∨h.length≤id)→K v' h') :
  bP sz 1 zeros [(0,sz,x)] h fun y h'=>bT ty sz bytes v y h' K:=by
 refine eN hf (by omega) fun y h1 hl1 U1 R1 F1=>?_
 refine (A.upd U1 fun _ _ h=>h).append hz (ns:=x.parts) (k:=1) (fun K hK=>R1.news hK) (by omega) hok hlen hl2 fun v' h' U2 A2 F2=>hk v' h' ((U1.mono fun _ _ h=>h.elim).trans U2 fun _ _ h=>h) A2 fun id hi=>?_
 rcases F2 id hi with h | h
 ·exact .inl h
 ·exact .inr (by omega)
def Byt (h:aA) (v:AV) (l:List UInt8):Prop:=Rd 1 h v (l.map byteAV) l.length
theorem Byt.str {h:aA} {v:AV} {l:List UInt8} (B:Byt h v l) {K:List UInt8→Prop} (hk:K l):cZ v h K:=by
 refine Rd.sl B ⟨qW l, ?_⟩
 rw [vC]; exact hk
theorem yA {l:List UInt8} {lo:Nat} {K:List UInt8→Prop} (h:lo≤l.length) (hk:K (l.drop lo)):b8 (.s l) (some (.i .i64 lo)) none K:=by
 refine ⟨by omega,by simpa using h,Nat.le_refl _, ?_⟩
 simpa using hk
theorem p7 {l:List UInt8} {lo hi:Nat} {K:List UInt8→Prop} (h:lo≤hi) (h2:hi≤l.length) (hk:K ((l.take hi).drop lo)):b8 (.s l) (some (.i .i64 lo)) (some (.i .i64 hi)) K:=by
 refine ⟨by omega,by omega,by simpa using h,by simpa using h2, ?_⟩
 simpa using hk
theorem uM {l:List UInt8} {hi:Nat} {K:List UInt8→Prop} (h2:hi≤l.length) (hk:K (l.take hi)):b8 (.s l) none (some (.i .i64 hi)) K:=by
 refine ⟨by omega,by simp,by simpa using h2, ?_⟩
 simpa using hk
theorem aED {v w:AV} {K:AV→AV→Prop} (hk:K v w):aD9 [v,w] K:=hk
end Go.GAM
namespace Go.GAM
open Go.RowKit
def nG (w : World) (szOf : Nat → Nat) : Value → AV
 | .bool x=>.b x
 | .int k n=>.i k n
 | .string s=>.s s.data.toList
 | .pointer none=>.p none
 | .pointer (some a) => match w.shape? a.block, a.spot with
  | some (_,n),none=>.p (some ⟨a.block,n,a.off⟩)
  | _,_=>.u
 | .slice none 0 0=>.sl none 0 none
 | .slice (some a) len cap => if cap = 0 then (if len = 0 then .sl (some ⟨w.heap.size, 0, 0⟩) 0 (some 0) else .u) else
  match w.shape? a.block,a.spot with
  | some (_,n),none=>if len≤cap∧a.off+cap * szOf a.block≤n then .sl (some ⟨a.block,n,a.off⟩) len (some cap) else .u
  | _,_=>.u
 | .nilFunc=>.nf
 | .nilIface=>.ni
 | .map none=>.mp none
 | _=>.u
def tG (w:World) (szOf:Nat→Nat):Value→AV
 | .agg cs=>.ag (cs.toList.map (nG w szOf))
 | .iface t v=>.ifc t (nG w szOf v)
 | v=>nG w szOf v
def qR (w:World) (szOf:Nat→Nat) (B:Nat):ABlk:=match w.heap[B]? with
 | some (.cells c _ _)=>⟨c.toList.map (tG w szOf),szOf B,c.size,false,true,true,none,none⟩
 | _=>cH
def gW (w:World) (szOf:Nat→Nat):aA:=(List.range w.heap.size).map (qR w szOf)++[cH]
def muC (w:World) (szOf:Nat→Nat):Mu:=fun id ver=>
 if id=w.heap.size then (if ver=0 then some ⟨0,0,0,1⟩ else none) else
 match w.shape? id with
 | some (_,n)=>if ver=n then some ⟨id,0,n,szOf id⟩ else none
 | none=>none
def aDB (w:World):Nat→Option Nat:=fun B=>if (w.shape? B).isSome then some B else none
section
variable {w:World} {szOf:Nat→Nat}
theorem pF {B:Nat} {t:TypeId} {n:Nat} (h:w.shape? B=some (t,n)):∃ c fr,w.heap[B]? = some (.cells c t fr)∧c.size=n:=by
 unfold World.shape? at h
 split at h
 ·rename_i c el fr hh
  simp only [Option.some.injEq,Prod.mk.injEq] at h
  obtain ⟨rfl,rfl⟩:=h
  exact ⟨c,fr,hh,rfl⟩
 ·cases h
theorem pJ {B:Nat} {x:TypeId × Nat} (h:w.shape? B=some x):B<w.heap.size:=by
 obtain ⟨c,fr,hh,_⟩:=pF (t:=x.1) (n:=x.2) h
 exact (Array.getElem?_eq_some_iff.1 hh).1
theorem tH {B:Nat} {t:TypeId} {n:Nat} (h:w.shape? B=some (t,n)):muC w szOf B n=some ⟨B,0,n,szOf B⟩:=by
 have:=pJ h
 unfold muC
 rw [if_neg (by omega),h]
 simp
theorem mT (v : Value) : aL (muC w szOf) (nG w szOf v) v := by
  cases v <;> first | exact .u _ | exact .b _ | exact .i _ _ | exact .s _ _ rfl | exact .nf | exact .ni | skip
  case pointer a=>
    cases a with
    | none=>exact .pn
    | some a =>
      obtain ⟨B,off,spot⟩:=a
      simp only [nG]
      split
      · rename_i t n hs
        exact .p _ _ _ (tH hs) (by simp)
      · exact .u _
  case slice a len cap=>
    cases a with
    | none =>
      cases len with
      | succ l=>exact .u _
      | zero => cases cap with
        | succ c=>exact .u _
        | zero=>exact .sn
    | some a =>
      obtain ⟨B,off,spot⟩:=a
      simp only [nG]
      split
      · rename_i hc
        subst hc
        split
        · rename_i hl
          subst hl
          exact .sl _ _ _ 0 _ ⟨0,0,0,1⟩ (by unfold muC; simp) (Nat.le_refl _) (by simp) (by simp) (by simp) (by simp)
        · exact .u _
      · split
        · rename_i t n hs
          split
          · rename_i hl
            exact .sl _ _ _ cap _ _ (tH hs) hl.1 hl.2 (by simp) (by simp) (by simp)
          · exact .u _
        · exact .u _
  case map r=>cases r <;> first | exact .mpn | exact .u _
theorem qD:∀ vs:List Value,VRels (muC w szOf) (vs.map (nG w szOf)) vs
 | []=>.nil
 | v :: vs=>.cons _ _ _ _ (mT v) (qD vs)
theorem aBG (v:Value):aL (muC w szOf) (tG w szOf v) v:=by
 cases v <;> simp only [tG] <;> first | exact mT _ | exact .ag _ _ (qD _) | exact .ifc _ _ _ (mT _)
theorem vN {B:Nat} (h:B<w.heap.size):(gW w szOf)[B]? = some (qR w szOf B):=by
 unfold gW
 rw [List.getElem?_append_left (by simpa using h)]
 simp [h]
theorem z3:(gW w szOf).length=w.heap.size+1:=by simp [gW]
theorem aA2 (w : World) (szOf : Nat → Nat) : Rel w (fun B => B < w.heap.size) (muC w szOf) (aDB w) (gW w szOf) w where
 os:=rfl
 tape:=rfl
 output:=rfl
 size0:=Nat.le_refl _
 fz:=fun B hB=>⟨hB,rfl⟩
 ownlt:=fun B id h=>by
  unfold aDB at h
  split at h
  ·rename_i hs
   obtain ⟨x,hx⟩:=Option.isSome_iff_exists.1 hs
   exact pJ hx
  ·cases h
 mulen := fun id ver l h => by
  unfold muC at h
  split at h
  ·rename_i he
   subst he
   exact ⟨cH,by simp [gW],by simp [cH]⟩
  ·split at h
   ·rename_i t n hs
    obtain ⟨c,fr,hh,hc⟩:=pF hs
    refine ⟨qR w szOf id,vN (pJ hs),fun _=>?_⟩
    split at h
    ·rename_i hv
     unfold qR
     rw [hh]
     simp [hv,hc]
    ·cases h
   ·cases h
 blk := fun id b hb hl => by
  rcases Nat.lt_or_ge id w.heap.size with hi | hi
  ·rw [vN hi] at hb
   cases hb
   unfold qR at hl ⊢
   split at hl
   ·rename_i c el fr hh
    have hs:w.shape? id=some (el,c.size):=by unfold World.shape?; rw [hh]
    refine ⟨⟨id,0,c.size,szOf id⟩, ?_⟩
    have hlen:(c.toList.map (tG w szOf)).length=c.size:=by simp
    refine { cur:=by simp only [hlen]; exact tH hs,owned:=by simp [aDB,hs],sz:=rfl,len:=by simp,ex:=by simp,ro:=by simp,gl:=by simp,nomap:=rfl,tyok:=fun t ht=>(by cases ht),row:=⟨c,el,fr,hh,by simp⟩,free:=by simp,vers:=fun ver h1 h2 l' hl'=>?_ }
    have hv:ver=c.size:=by simp only [hlen] at h2; simp only at h1; omega
    subst hv
    rw [tH hs] at hl'
    cases hl'
    refine { own:=by simp [aDB,hs],sz:=rfl,le:=Nat.le_refl _,base:=fun _=>rfl,cells:=fun j hj=>?_ }
    refine ⟨c[j],by simp [World.cell?,hh,hj], ?_⟩
    have e:(c.toList.map (tG w szOf)).getD j .u=tG w szOf c[j]:=by simp [List.getD,hj]
    simp only [e]
    exact aBG _
   ·exact absurd hl (by simp [cH])
  ·exfalso
   rcases Nat.lt_or_ge id (w.heap.size+1) with h2 | h2
   ·have : id = w.heap.size := by omega
    subst this
    simp [gW] at hb
    subst hb
    simp [cH] at hl
   ·rw [List.getElem?_eq_none (by rw [z3]; omega)] at hb; cases hb
 maps:=fun id b es hb he=>by
  exfalso
  have hm:b∈gW w szOf:=List.mem_of_getElem? hb
  unfold gW at hm
  rcases List.mem_append.1 hm with h1 | h1
  ·obtain ⟨B, _, rfl⟩ := List.mem_map.1 h1
   unfold qR at he
   split at he <;> cases he
  ·simp at h1; subst h1; cases he
end
def Yes:AV→aA→Prop:=fun v _=>v = .b true
end Go.GAM
namespace Go.GAM
open Go.RowKit Go.ChangeShapes
section
variable {H:Type} {enc:TypeId × Value→H} {P:Program} {w:World} {szOf:Nat→Nat}
end
end Go.GAM
namespace Go.GAM
variable {ty:Option TypeId}
open Go.RowKit
theorem Upd.ext {h h':aA} (U:Upd (fun _=>False) h h'):Ext h h':=⟨U.1,fun i hi=>U.2 i hi fun h=>h⟩
theorem aEX {α:Type} {l r:List α} {i:Nat} {c:α} (h:l.drop i=c :: r):i<l.length:=by
 rcases Nat.lt_or_ge i l.length with h1 | h1
 ·exact h1
 ·rw [List.drop_eq_nil_of_le h1] at h; cases h
theorem zA {α:Type} {l r:List α} {i:Nat} {c:α} (h:l.drop i=c :: r):l.drop (i+1)=r:=by
 have:(l.drop i).drop 1=r:=by rw [h] <;> rfl
 rwa [List.drop_drop] at this
theorem aCX {α:Type} {l:List α} {i:Nat} (h:l.drop i=[]):l.length≤i:=by
 have:=congrArg List.length h
 simp at this; omega
def Stk (h:aA) (v:AV) (l:List AV):Prop:=
 (v = .sl none 0 none∧l=[])∨∃ id b,v = .sl (some ⟨id,b.cells.length,0⟩) l.length none∧h[id]? = some b∧b.sz=1∧l.length≤b.cells.length∧b.cells.take l.length=l∧b.floor≤b.cells.length∧b.ro=false∧b.gl=false
theorem Stk.rd {h:aA} {v:AV} {l:List AV} (S:Stk h v l):Rd 1 h v l l.length:=by
 rcases S with ⟨rfl,rfl⟩ | ⟨id,b,rfl,h1,h2,h3,h4,h5,h6,h7⟩
 ·exact .inl ⟨rfl,rfl,rfl⟩
 ·exact .inr ⟨id,_,0,none,b,rfl,h1,.inl h2,h5,Nat.le_refl _,by omega,by rw [List.drop_zero,Nat.mul_one]; exact h4⟩
theorem Stk.upd {M:Nat→Prop} {h h':aA} {v:AV} {l:List AV} (S:Stk h v l) (U:Upd M h h') (hM:∀ i,aO v i→¬ M i):Stk h' v l:=by
 rcases S with h1 | ⟨id,b,rfl,h1,h2⟩
 ·exact .inl h1
 ·exact .inr ⟨id,b,rfl,(U.2 id (aI h1) (hM id rfl)).trans h1,h2⟩
theorem Stk.push {bytes : Nat} {h : aA} {v x : AV} {l zeros : List AV} (S : Stk h v l) (hf : eU zeros [(0, 1, x)] = some [x]) (hx : x.cellOK = true) (hlen : (l.length + 1) * bytes ≤ 140737488355328) (hl2 : l.length + 1 ≤ 9223372036854775807) {K : AV → aA → Prop}
  (hk:∀ v' h',Upd (aO v) h h'→Stk h' v' (l++[x])→(∀ i,aO v' i→aO v i∨h.length≤i)→K v' h'):bP 1 1 zeros [(0,1,x)] h fun y h'=>bT ty 1 bytes v y h' K:=by
 refine eN hf rfl fun y h1 hl1 U1 R1 F1=>⟨Nat.one_pos,R1.news ?_⟩
 have S1:=S.upd U1 fun _ _ h=>h
 rcases S1 with ⟨rfl,rfl⟩ | ⟨id,b,rfl,g1,g2,g3,g4,g5,g6,g7⟩
 ·refine ⟨by simpa using hlen, by omega, ?_⟩
  rw [if_neg (by decide)]
  exact hk _ _ ((U1.mono fun _ _ h=>h.elim).trans (Upd.app _ _) fun _ _ h=>h.elim) (.inr ⟨h1.length,aY [x] 1 false ty,by simp [aY],by simp,rfl,by simp [aY],by simp [aY],by simp [aY],rfl,rfl⟩) fun i hi=>.inr (by have e:h1.length=i:=hi; omega)
 ·have hid := aI g1
  have hidh:id<h.length:=Rd.lt S.rd (id:=id) rfl
  refine ⟨hlen,by omega,b,g1,g2,⟨g5,Nat.le_refl _,by simp only; omega⟩, ?_⟩
  by_cases hfull:l.length=b.cells.length
  ·cases hex : b.ex with
   | true =>
    refine .inr (.inl ⟨Nat.one_pos,.inr ⟨rfl,rfl,rfl,by simp only; omega⟩, ?_⟩)
    refine hk _ _ ((U1.mono fun _ _ h=>h.elim).trans (Upd.app _ _) fun _ _ h=>h.elim) (.inr ⟨h1.length,aY (l++[x]) 1 false ty, ?_, ?_,rfl,by simp [aY],by simp only [aY,List.length_append]; exact List.take_of_length_le (by simp),by simp [aY],rfl,rfl⟩) fun i hi=>.inr (by have e:h1.length=i:=hi; omega)
    ·simp [aY,g4,g3]
    ·simp [g4]
   | false =>
    refine .inr (.inr (.inr (.inl ⟨Nat.one_pos,g6,rfl,rfl,by omega,rfl,rfl,g7,by simp [hx], ?_⟩)))
    have hcl:b.cells=l:=by rw [hfull,List.take_length] at g4; exact g4
    refine hk _ _ ((U1.mono fun _ _ h=>h.elim).trans (Upd.set _ _ _) fun i _ h=>h.symm) (.inr ⟨id,{ b with cells:=b.cells++[x],ty:=eS b.ty ty }, ?_,by simp [hid,hex],g2,by simp; omega, ?_,by simp; omega,g6,g7⟩) fun i hi=>.inl hi
    ·simp
    ·simp only [hcl]
     rw [List.take_of_length_le (by simp)]
  ·refine .inr (.inr (.inl ⟨Nat.one_pos, g6, rfl, by simp only; omega, .inl rfl, by simp [hx], ?_⟩))
   refine hk _ _ ((U1.mono fun _ _ h=>h.elim).trans (Upd.set _ _ _) fun i _ h=>h.symm) (.inr ⟨id,{ b with cells:=wr b.cells (0+l.length * 1) [x],floor:=b.cells.length }, ?_,show (h1.set id _)[id]? = some _ from List.getElem?_set_self hid,g2, ?_, ?_, ?_,g6,g7⟩) fun i hi=>.inl hi
   ·simp [wr]
   ·simp [wr]; omega
   ·simp only [wr, Nat.zero_add, Nat.mul_one, List.length_append, List.length_cons, List.length_nil]
    apply List.ext_getElem?
    intro i
    by_cases h1:i<l.length
    ·rw [List.getElem?_take_of_lt (by omega), List.getElem?_set_ne (by omega), List.getElem?_append_left h1]
     conv=>rhs; rw [← g4]
     rw [List.getElem?_take_of_lt h1]
    ·by_cases h2 : i = l.length
     ·subst h2
      rw [List.getElem?_take_of_lt (by omega),List.getElem?_set_self (by omega),List.getElem?_append_right (by omega)]
      simp
     ·rw [List.getElem?_eq_none (by simp; omega),List.getElem?_eq_none (by simp; omega)]
   ·simp [wr]
theorem Rd.cell {sz:Nat} {h:aA} {v:AV} {cs:List AV} {len:Nat} (R:Rd sz h v cs len) {k:IntKind} {i:Nat} {c:AV} (hz:0<sz) (hi:i<len) (hc:cs[i * sz]? = some c) {K:AV→Prop} (hk:K c) :
  aW sz v (.i k (i:Int)) h fun a=>aB a h K:=by
 rcases R with ⟨rfl,rfl,rfl⟩ | ⟨id,ver,off,cap,b,rfl,h2,h3,h4,h5,h6,h7⟩
 ·omega
 ·have A : aFD sz h id ver off b cs len := ⟨h2, h3, h4, h5, h6, h7⟩
  exact aF0 A hi (aEH (o:=0) A hi hz (by simpa using hc) hk)
theorem lI {x:Nat} (h:x<2 ^ 64):(BitVec.ofInt 64 (x:Int)).toNat=x:=by
 simp [BitVec.toNat_ofInt]; omega
theorem yG {x y:Nat} (hx:x<2 ^ 62) (hy:y<2 ^ 62):bQ .or .i64 x y=((x ||| y:Nat):Int):=by
 have h:x ||| y<2 ^ 62:=Nat.or_lt_two_pow hx hy
 show IntKind.wrap .i64 (((BitVec.ofInt 64 (x:Int)) ||| (BitVec.ofInt 64 (y:Int))).toNat:Int)=_
 rw [BitVec.toNat_or,lI (by omega),lI (by omega),aV (by omega) (by omega)]
theorem i6 {x y:Nat} (hx:x<2 ^ 62) (hy:y<2 ^ 62):bQ .and .i64 x y=((x &&& y:Nat):Int):=by
 have h:x &&& y<2 ^ 62:=Nat.and_lt_two_pow _ hy
 show IntKind.wrap .i64 (((BitVec.ofInt 64 (x:Int)) &&& (BitVec.ofInt 64 (y:Int))).toNat:Int)=_
 rw [BitVec.toNat_and,lI (by omega),lI (by omega),aV (by omega) (by omega)]
theorem mG {a b:Nat} {K:Int→Prop} (hb:b≤64) (h:a * 2 ^ b<2 ^ 62) (hk:K ((a * 2 ^ b:Nat):Int)):nY .i64 a b K:=by
 refine ⟨by omega, ?_⟩
 have e:(a:Int) * 2 ^ (min (b:Int).toNat IntKind.i64.bits)=((a * 2 ^ b:Nat):Int):=by
  rw [Int.toNat_natCast,show IntKind.i64.bits=64 from rfl,Nat.min_eq_left hb]; simp
 rw [e,aV (by omega) (by omega)]; exact hk
theorem s9 {a b:Nat} {k:IntKind} {K:Int→Prop} (hb:b≤k.bits) (hk:K ((a / 2 ^ b:Nat):Int)):lR k a b K:=by
 refine ⟨by omega, ?_⟩
 have e:(a:Int).fdiv (2 ^ (min (b:Int).toNat k.bits))=((a / 2 ^ b:Nat):Int):=by
  rw [Int.toNat_natCast,Nat.min_eq_left hb]
  have h2:((2:Int) ^ b)=((2 ^ b:Nat):Int):=by simp
  rw [h2,Int.fdiv_eq_ediv_of_nonneg _ (Int.natCast_nonneg (2 ^ b))] <;> rfl
 rw [e]; exact hk
end Go.GAM
namespace Go.GAM
open Go.RowKit
section
variable {H:Type} {enc:TypeId × Value→H} {P:Program} {w:World} {szOf:Nat→Nat}
end
theorem Rd.byte {h:aA} {v:AV} {l:List UInt8} {len:Nat} (R:Rd 1 h v (l.map byteAV) len) {k:IntKind} {i:Nat} {x:UInt8} (hx:l[i]? = some x) {K:Int→Prop} (hk:K (x.toNat:Int)) :
  aW 1 v (.i k (i:Int)) h fun a=>aB a h fun y=>asI .u8 y K:=by
 have hl:=R.length
 rw [List.length_map,Nat.mul_one] at hl
 exact R.cell Nat.one_pos (by have:=aI hx; omega) (c:=byteAV x) (by rw [Nat.mul_one,List.getElem?_map,hx] <;> rfl) (kL hk)
end Go.GAM
namespace Go.GAM
open Go.RowKit Go.ChangeShapes
section
variable {H:Type} {enc:TypeId × Value→H} {P:Program} {w:World} {szOf:Nat→Nat}
theorem xD {n:String} {d:DataW Unit} {l:List (String × DataW Unit)} (hm:(n,d)∈l) (hL:laidMet P l w) :
  ∃ g t cs fuel p,P.globalNamed n=some g∧(P.globals[g]?).map (·.type)=some t∧w.var? P n=some cs∧DataW.trod (fun _=>()) P w 0 (fun _=>true) false fuel t cs.toList=some (d,p):=by
 obtain ⟨ps,h,hx⟩:=hL
 clear hx
 induction l generalizing ps with
 | nil=>cases hm
 | cons x l ih =>
  obtain ⟨n',d'⟩:=x
  obtain ⟨g,t,cs,fuel,p,q,h1,h2,h3,h4,h5,h6⟩:=h
  rcases List.mem_cons.1 hm with h | h
  ·cases h; exact ⟨g,t,cs,fuel,p,h1,h2,h3,h4⟩
  ·exact ih h _ h5
theorem y8 {n:String} {g:Nat} {cs:Array Value} (hg:P.globalNamed n=some g) (hv:w.var? P n=some cs):∃ t fr,w.heap[g]? = some (.cells cs t fr):=by
 unfold World.var? at hv
 rw [hg] at hv
 simp only [Option.bind_some] at hv
 split at hv
 ·rename_i c t fr h
  cases hv
  exact ⟨t,fr,h⟩
 ·cases hv
end
theorem Rd.cutAt {sz:Nat} {h:aA} {v:AV} {cs:List AV} {len:Nat} (R:Rd sz h v cs len) (hz:0<sz) {lo:Option AV} {lo' hi:Nat} (hlo:lo=none∧lo'=0∨lo=some (.i .i64 lo')) (h1:lo'≤hi) (h2:hi≤len) (z1:sz=1:=by rfl) :
  ∃ v',Rd sz h v' ((cs.take (hi * sz)).drop (lo' * sz)) (hi - lo')∧∀ (K:AV→Prop),K v'→bJ sz v lo (some (.i .i64 (hi:Int))) none h K:=by
 rcases R with ⟨rfl,h0,rfl⟩ | ⟨id,ver,off,cap,b,rfl,g2,g3,g4,g5,g6,g7⟩
 ·have : hi = 0 := by omega
  subst this
  have:lo'=0:=by omega
  subst this
  refine ⟨.sl none 0 none,.inl ⟨rfl,rfl,by simp⟩,fun K hk=>⟨by simp, ?_⟩⟩
  rcases hlo with ⟨rfl,_⟩ | rfl
  ·exact ⟨rfl,rfl,rfl,fun h=>by simp at h,hk⟩
  ·exact ⟨by simp,rfl,rfl,rfl,fun h=>by simp at h,hk⟩
 ·have e2 : hi * sz ≤ len * sz := Nat.mul_le_mul_right _ h2
  have e1:lo' * sz≤hi * sz:=Nat.mul_le_mul_right _ h1
  have e3:(hi - lo') * sz=hi * sz - lo' * sz:=Nat.sub_mul _ _ _
  refine ⟨.sl (some ⟨id,ver,off+lo' * sz⟩) (hi - lo') (cap.map (· - lo')),.inr ⟨id,ver,off+lo' * sz,_,b,rfl,g2,g3,g4,g5,by omega, ?_⟩,fun K hk=>?_⟩
  ·rw [← g7,List.take_take,Nat.min_eq_left e2,List.drop_take,List.drop_drop,e3]
  ·refine ⟨hz, fun h => by simp at h, by omega, ?_⟩
   rcases hlo with ⟨rfl,rfl⟩ | rfl
   ·exact ⟨by omega,b,g2,by omega,g4,.inl (g3.elim (fun x=>x) fun x=>x.trans z1.symm),.inl (by simpa using h2),by simpa using hk⟩
   ·exact ⟨by omega,by simpa using h1,b,g2,by omega,g4,.inl (g3.elim (fun x=>x) fun x=>x.trans z1.symm),.inl (by simpa using h2),by simpa using hk⟩
end Go.GAM
namespace Go.GAM
variable {ty:Option TypeId}
open Go.RowKit
theorem inc {i:Nat} {K:Int→Prop} (h:i<9223372036854775807) (hk:K ((i+1:Nat):Int)):aN (IntKind.wrap .i64 ((i:Int)+1)) K:=
 aM (n:=((i+1:Nat):Int)) (by rw [aV (by omega) (by omega)]; omega) hk
theorem dK {e n:Int} {K:Int→Prop} (h:e=n) (h0 : -9223372036854775808≤n) (h1:n<9223372036854775808) (hk:K n):aN (IntKind.wrap .i64 e) K:=
 aM (by rw [h,aV h0 h1]) hk
theorem fE {α:Type} {l:List α} {i:Nat} {c:α} (hc:l[i]? = some c):l.take (i+1)=l.take i++[c]:=by
 rw [List.take_add_one,hc] <;> rfl
theorem wE {α:Type} {l r:List α} {i:Nat} {c:α} (h:l.drop i=c :: r):l[i]? = some c:=by
 have:(l.drop i)[0]? = some c:=by rw [h] <;> rfl
 simpa using this
theorem cP {R:aS} {f:Nat} {first cap vs:List AV} {h:aA} {K:AV→aA→Prop} (hf:Nat.blt f yid0=true) (hk:R f (first++vs++cap) h K):bU R (.fn (.func f) first cap) vs h K:=by
 unfold bU
 simp only
 unfold kH
 exact bA hf hk
theorem uP (z:AV):∀ n,(List.replicate n [z]).flatten=List.replicate n z
 | 0=>rfl
 | n+1=>by rw [List.replicate_succ,List.flatten_cons,uP z n,List.replicate_succ] <;> rfl
end Go.GAM
namespace Go.GAM
open Go.RowKit
end Go.GAM
namespace Go.GAM
open Go.RowKit
section
variable {P:Program} {α:Type} [DecidableEq α]
def gK (κ:α→AV) (kv:List (α × AV)):List (AV × AV):=kv.map fun p=>(κ p.1,p.2)
def lkI:List (α × AV)→α→Nat→Option (Nat × AV)
 | [],_,_=>none
 | (k,v) :: r,x,i=>if x=k then some (i,v) else lkI r x (i+1)
def lkM (kv:List (α × AV)) (x:α):Option AV:=(lkI kv x 0).map (·.2)
def upM:List (α × AV)→α→AV→List (α × AV)
 | [],x,v=>[(x,v)]
 | (k,w) :: r,x,v=>if x=k then (k,v) :: r else (k,w) :: upM r x v
theorem xN (x:α):∀ (kv:List (α × AV)) (i j:Nat),(lkI kv x i).map (·.2)=(lkI kv x j).map (·.2)
 | [],_,_=>rfl
 | (k, v) :: r, i, j => by
  unfold lkI
  split
  ·rfl
  ·exact xN x r _ _
theorem jM (k:α) (v:AV) (r:List (α × AV)) (x:α):lkM ((k,v) :: r) x=if x=k then some v else lkM r x:=by
 unfold lkM
 rw [lkI]
 split
 ·rfl
 ·exact xN x r _ _
theorem aCT (x:α) (v:AV) (y:α):∀ kv:List (α × AV),lkM (upM kv x v) y=if y=x then some v else lkM kv y
 | []=>by rw [upM,jM]
 | (k, w) :: r => by
  unfold upM
  by_cases h:x=k
  ·subst h
   rw [if_pos rfl,jM,jM]
   split <;> rfl
  ·rw [if_neg h, jM, jM, aCT x v y r]
   by_cases hy:y=k
   ·subst hy; rw [if_pos rfl,if_pos rfl,if_neg (fun e=>h e.symm)]
   ·rw [if_neg hy,if_neg hy]
def uR (P:Program) (kt:TypeId) (κ:α→AV):Prop:=∀ a b,aEq P 64 kt (κ a) (κ b)=some (decide (a=b))
theorem pR {kt:TypeId} {κ:α→AV} (hκ:uR P kt κ) (x:α):∀ (kv:List (α × AV)) (i:Nat),iX P kt (κ x) (gK κ kv) i=some (lkI kv x i)
 | [],_=>rfl
 | (k, v) :: r, i => by
  have e:=pR hκ x r (i+1)
  show iX P kt (κ x) ((κ k,v) :: gK κ r) i=_
  rw [iX]
  show (match aEq P 64 kt (κ x) (κ k) with
   | some true=>some (some (i,v))
   | some false=>iX P kt (κ x) (gK κ r) (i+1)
   | none=>none)=_
  rw [hκ x k,lkI]
  by_cases h:x=k
  ·rw [decide_eq_true h,if_pos h]
  ·rw [decide_eq_false h,if_neg h]; exact e
def jB (κ:α→AV) (h:aA) (id:Nat) (kv:List (α × AV)):Prop:=h[id]? = some (eH (gK κ kv))
theorem jB.lt {κ:α→AV} {h:aA} {id:Nat} {kv:List (α × AV)} (M:jB κ h id kv):id<h.length:=aI M
theorem jB.upd {κ:α→AV} {M:Nat→Prop} {h h':aA} {id:Nat} {kv:List (α × AV)} (A:jB κ h id kv) (U:Upd M h h') (hM:¬ M id):jB κ h' id kv:=(U.2 id A.lt hM).trans A
theorem wL (κ:α→AV) {h:aA} {K:AV→aA→Prop} (hk:∀ h',h'.length=h.length+1→Upd (fun _=>False) h h'→jB κ h' h.length []→K (.mp (some h.length)) h'):lB h K:=
 hk _ (by simp) (Upd.app _ _) (by unfold jB; simp [gK])
theorem m9 {κ:α→AV} {h:aA} {id:Nat} {kv:List (α × AV)} {kt el:TypeId} {x:α} {z:AV} {K:AV→Prop} (M:jB κ h id kv) (hκ:uR P kt κ) (hv:zQ P kt (κ x)=true) (hz:vL P el=some z) (hk:K ((lkM kv x).getD z)):eL P kt el false (.mp (some id)) (κ x) h K:=by
 refine ⟨hv, ?_⟩
 have e:yD (.mp (some id)) h=some (gK κ kv):=by show ((h[id]?).bind (·.mp)).bind aFM=_; rw [M] <;> rfl
 rw [e]
 simp only
 rw [pR hκ]
 unfold lkM at hk
 cases hl:lkI kv x 0 with
 | none=>rw [hl] at hk; simp only; rw [hz]; exact hk
 | some p=>rw [hl] at hk; exact hk
theorem aB0 {κ : α → AV} (x : α) (v : AV) : ∀ (kv : List (α × AV)) (i : Nat), match lkI kv x i with
  | none=>upM kv x v=kv++[(x,v)]
  | some (j,_)=>i≤j∧kv[j - i]?.map (·.1)=some x∧upM kv x v=kv.set (j - i) (x,v)
 | [],i=>rfl
 | (k, w) :: r, i => by
  have ih:=aB0 (κ:=κ) x v r (i+1)
  rw [lkI]
  by_cases h:x=k
  ·subst h
   rw [if_pos rfl]
   exact ⟨Nat.le_refl _,by simp,by simp [upM]⟩
  ·rw [if_neg h]
   cases hl:lkI r x (i+1) with
   | none=>rw [hl] at ih; simp only at ih ⊢; rw [upM,if_neg h,ih] <;> rfl
   | some p =>
    obtain ⟨j,u1⟩:=p
    rw [hl] at ih
    simp only at ih ⊢
    obtain ⟨h1,h2,h3⟩:=ih
    obtain ⟨m,rfl⟩:∃ m,j=i+1+m:=⟨j - (i+1),by omega⟩
    rw [show i+1+m - (i+1)=m by omega] at h2 h3
    rw [show i+1+m - i=m+1 by omega,upM,if_neg h,h3]
    exact ⟨by omega,by simpa using h2,by simp⟩
theorem y0 {κ:α→AV} {h:aA} {id:Nat} {kv:List (α × AV)} {kt:TypeId} {x:α} {v:AV} {K:aA→Prop} (M:jB κ h id kv) (hκ:uR P kt κ) (hv:zQ P kt (κ x)=true) (hp:rN (κ x)=true)
  (hk:∀ h',h'.length=h.length→Upd (· = id) h h'→jB κ h' id (upM kv x v)→K h'):fV P kt (.mp (some id)) (κ x) v h K:=by
 refine ⟨hv,hp,_,_,M,rfl, ?_⟩
 rw [pR hκ]
 have hu:=aB0 (κ:=κ) x v kv 0
 have fin:∀ es,es=gK κ (upM kv x v)→K (h.set id (eH es)):=by
  rintro es rfl
  exact hk _ (by simp) (Upd.set _ _ _) (List.getElem?_set_self M.lt)
 cases hl:lkI kv x 0 with
 | none =>
  rw [hl] at hu
  exact fin _ (by simp only at hu; rw [hu]; simp [gK])
 | some p =>
  obtain ⟨j,u1⟩:=p
  rw [hl] at hu
  simp only [Nat.sub_zero] at hu
  obtain ⟨_,h2,h3⟩:=hu
  refine ⟨?_,fin _ (by rw [h3]; simp [gK,List.map_set])⟩
  obtain ⟨q,hq,hqx⟩:=Option.map_eq_some_iff.1 h2
  exact ⟨q.2,by unfold gK; rw [List.getElem?_map,hq]; simp [hqx]⟩
theorem aAH {kt:TypeId} (hu:P.underlying kt=some .string):uR P kt (fun l:List UInt8=>.s l):=fun a b=>by
 rw [yC (d:=63) hu]
 show some (a == b)=_
 congr 1
 rw [Bool.eq_iff_iff]; simp
end
section
variable {P:Program}
end
end Go.GAM
namespace Go.GAM
section
variable {P:Program} {w0:World} {Fz:Nat→Prop} {μ:Mu} {own:Nat→Option Nat} {h:aA} {w:World}
theorem aA7 {f:FuncId} {fn:Func} {ex:Array Value→Sem Value} (hf:P.funcs[f]? = some fn) (hn:(fn.name == "runtime.NumGoroutine")=false) (hb:fn.body.isNone=true)
  (h1:Extern.findNext fn=none) (h2:Extern.find fn=some ex) {args:Array Value} {v:Value} {w w':World} (he:(ex args).run P w = .ok v w'):(callFunc f args).run P w = .ok (.value v) w':=by
 have hn':fn.name ≠ "runtime.NumGoroutine":=by simpa using hn
 have hb':fn.body=none:=by simpa using hb
 have hm:∀ (m:Mark) (k:Sem Unit) (w:World),Sem.run P (Sem.mark m k) w=Sem.run P k w:=fun _ _ _=>rfl
 unfold callFunc
 simp [go_sem,hf,hn',hb',h1,h2,mark,hm,he]
def aE8 (P : Program) (ex : Array Value → Sem Value) (X : List AV → aA → (AV → aA → Prop) → Prop) : Prop :=
 ∀ (w0 : World) (Fz : Nat → Prop) (μ : Mu) (own : Nat → Option Nat) (h : aA) (w : World) (args : List AV) (cargs : List Value) (K : AV → aA → Prop), Rel w0 Fz μ own h w → VRels μ args cargs → X args h K →
  ∃ cv w',(ex cargs.toArray).run P w = .ok cv w'∧iH w0 Fz μ K cv w'
structure aCB (P:Program) (f:FuncId) (ex:Array Value→Sem Value):Prop where
 is:∃ fn,P.funcs[f]? = some fn∧(fn.name == "runtime.NumGoroutine")=false∧fn.body.isNone=true∧Extern.findNext fn=none∧Extern.find fn=some ex
theorem aCB.sim {f:FuncId} {ex:Array Value→Sem Value} {X:List AV→aA→(AV→aA→Prop)→Prop} (A:aCB P f ex) (E:aE8 P ex X) (hlt:f<yid0) {μb:Mu} {args:List AV} {h:aA} {K:AV→aA→Prop} (hk:X args h K):xV P w0 Fz μb f args h K:=by
 intro μ own w cargs hsb R hc
 rw [if_pos hlt]
 obtain ⟨fn,h1,h2,h3,h4,h5⟩:=A.is
 obtain ⟨cv,w',e1,e2⟩:=E w0 Fz μ own h w args cargs K R hc hk
 exact .inr ⟨cv,w',aA7 h1 h2 h3 h4 h5 e1,e2⟩
end
end Go.GAM
namespace Go.GAM
def eG (E:TypeId) (h:aA) (v:AV) (l:List UInt8):Prop:=
 (v = .sl none 0 none∧l=[])∨∃ id b,v = .sl (some ⟨id,l.length,0⟩) l.length none∧h[id]? = some b∧b.cells=l.map byteAV∧b.sz=1∧b.floor≤l.length∧b.ro=false∧b.ex=false∧b.gl=false∧b.ty=some E∧l≠[]
theorem eG.upd {E:TypeId} {M:Nat→Prop} {h h':aA} {v:AV} {l:List UInt8} (B:eG E h v l) (U:Upd M h h') (hM:∀ i,aO v i→¬ M i):eG E h' v l:=by
 rcases B with B | ⟨id,b,rfl,h1,h2⟩
 ·exact .inl B
 ·exact .inr ⟨id,b,rfl,(U.2 id (aI h1) (hM id rfl)).trans h1,h2⟩
theorem eG.lt {E:TypeId} {h:aA} {v:AV} {l:List UInt8} (B:eG E h v l) {i:Nat} (hi:aO v i):i<h.length:=by
 rcases B with ⟨rfl,_⟩ | ⟨id,b,rfl,h1,h2⟩
 ·exact hi.elim
 ·cases hi; exact aI h1
theorem eG.append {E:TypeId} {h:aA} {v x:AV} {l t:List UInt8} (B:eG E h v l) (hx:∀ K:List AV→Nat→Prop,K (t.map byteAV) t.length→d5 1 x h K) (hlen:l.length+t.length≤140737488355328) {K:AV→aA→Prop}
  (hk:∀ v' h',Upd (aO v) h h'→eG E h' v' (l++t)→(∀ i,aO v' i→aO v i∨h.length≤i)→K v' h'):bT (some E) 1 1 v x h K:=by
 refine ⟨by decide,hx _ ?_⟩
 have hok:(t.map byteAV).all AV.cellOK=true:=by
  rw [List.all_eq_true]; intro x hx
  obtain ⟨c,_,rfl⟩:=List.mem_map.1 hx
  rfl
 rcases B with ⟨rfl,rfl⟩ | ⟨id,b,rfl,h1,h2,h3,h4,h5,h6,h7,h8,h9⟩
 ·refine ⟨by simp only [List.length_nil] at hlen; omega, by simp only [List.length_nil] at hlen; omega, ?_⟩
  by_cases ht:t=[]
  ·subst ht
   show K (.sl none 0 none) h
   exact hk _ _ (Upd.refl _ _) (.inl ⟨rfl,rfl⟩) fun i hi=>.inl hi
  ·have htl : t.length ≠ 0 := by simpa using ht
   rw [if_neg htl]
   refine hk _ _ ((Upd.app _ _).mono fun _ _ h=>h.elim) (.inr ⟨h.length,aY (t.map byteAV) 1 false (some E),by simp,by simp,rfl,rfl,by simp [aY],rfl,rfl,rfl,rfl,by simpa using ht⟩) fun i hi=>.inr ?_
   cases hi; exact Nat.le_refl _
 ·have hidl := aI h1
  have hbl:b.cells.length=l.length:=by rw [h2]; simp
  have hll:0<l.length:=List.length_pos_iff.2 h9
  refine ⟨by omega,by omega,b,h1,h3,⟨h4,by rw [hbl]; exact Nat.le_refl _,by simp⟩, ?_⟩
  by_cases ht:t=[]
  ·subst ht
   left
   exact ⟨rfl,hk _ _ (Upd.refl _ _) (.inr ⟨id,b,by simp,h1,by simpa using h2,h3,by simpa using h4,h5,h6,h7,h8,by simpa using h9⟩) fun i hi=>.inl hi⟩
  ·have htl : 0 < t.length := List.length_pos_iff.2 ht
   right; right; right; left
   refine ⟨htl,h5,hbl.symm,rfl,by rw [hbl]; simp,rfl,h6,h7,hok, ?_⟩
   have hty:eS b.ty (some E)=some E:=by rw [h8]; simp [eS]
   refine hk _ _ ((Upd.set _ _ _).mono fun i _ h=>h.symm) (.inr ⟨id,{ b with cells:=b.cells++t.map byteAV,ty:=eS b.ty (some E) },by simp [hbl],List.getElem?_set_self hidl,by simp [h2],h3,by simp; omega,h5,h6,h7,hty,by simp [h9]⟩) fun i hi=>.inl ?_
   exact hi
section
variable {P:Program} {T E:TypeId} {h:aA} {id off:Nat} {cs:List AV} {buf:AV} {l:List UInt8}
theorem vM {t:TypeId} {K:AV→Prop} (ht:kD P t=true) (hk:K (.b true)):dT P .eql t (.p none) (.p none) K:=by
 simp only [dT,ht,cond_true]; exact hk
theorem fD {t:TypeId} {a:AA} {K:AV→Prop} (ht:kD P t=true) (hk:K (.b false)):dT P .eql t (.p (some a)) (.p none) K:=by
 simp only [dT,ht,cond_true]; exact hk
end
end Go.GAM
namespace Go.GAM
abbrev yE:=List AV→aA→(AV→aA→Prop)→Prop
def aD3 (T:List (FuncId × yE)):aS:=fun f args h K=>∃ X,(f,X)∈T∧X args h K
section
variable {P:Program} {w0:World} {Fz:Nat→Prop} {μ:Mu} {own:Nat→Option Nat} {h:aA} {w:World}
def aGU (P:Program) (r:FuncId × yE):Prop:=r.1<yid0∧∃ ex,aCB P r.1 ex∧aE8 P ex r.2
theorem wJ {T:List (FuncId × yE)} (hT:∀ r∈T,aGU P r):jC P (aD3 T):=by
 rintro w0 Fz μb f args h K ⟨X,hm,hk⟩
 obtain ⟨hlt,ex,hA,hE⟩:=hT _ hm
 exact hA.sim hE hlt hk
end
open Go.RowKit in
theorem vE {P:Program} {X:aS} (hm:P.follows .mixedOrders=true) (hsz:P.funcs.size≤yid0) {w:World} (hX:b6 P w (fun B=>B<w.heap.size) (fun _ _=>none) X) {f:FuncId} (hb:mN P f=true) {szOf:Nat→Nat} {avs:List AV} {args:Array Value}
  (hv:VRels (muC w szOf) avs args.toList) (hk:dO P X f avs (gW w szOf) Yes):Calls P f args w fun e w'=>e = .returned (.bool true)∧Below w.heap.size w w':=by
 have hlt:f<yid0:=by
  unfold mN at hb
  split at hb
  ·rename_i fn hf; exact Nat.lt_of_lt_of_le (Array.getElem?_eq_some_iff.1 hf).1 hsz
  ·cases hb
 have hs:=gG hm hsz hX f avs _ _ hk (muC w szOf) (aDB w) w args.toList (fun _ _ _ h=>by cases h) (aA2 w szOf) hv
 rw [if_pos hlt] at hs
 have hrun:=p5 hb args w
 rcases hs with ⟨g,as',h1,h2⟩ | ⟨v,w',h1,h2⟩
 ·rw [Array.toArray_toList, hrun] at h1
  cases h1
  refine h2.mono fun e w' ⟨v,he,v',μ',own',h',g1,g2,g3,g4⟩=>?_
  subst he
  have g1:v' = .b true:=g1
  subst g1
  cases g2
  exact ⟨rfl,g3.os,g3.tape,g3.output,g3.size0,fun k hk=>(g3.fz k hk).2⟩
 ·rw [Array.toArray_toList,hrun] at h1; cases h1
end Go.GAM
set_option maxRecDepth 20000
namespace Go.Proofs.YtpaphfeihpgamaaDoor
open Go.GAM
theorem mixedOK:prog.follows .mixedOrders=true:=by kernel_rfl
theorem sizeOK:prog.funcs.size≤yid0:=Nat.le_of_ble_eq_true (by kernel_rfl)
def aD4:List (FuncId × yE):=[]
theorem aDL:∀ r∈aD4,aGU prog r:=fun r hr=>by cases hr
theorem o9:jC prog (aD3 aD4):=wJ aDL
end Go.Proofs.YtpaphfeihpgamaaDoor
namespace Go.GAM
open Go.RowKit Go.ChangeShapes
section
variable {H:Type} {enc:TypeId × Value→H} {P:Program} {w:World} {szOf:Nat→Nat}
end
end Go.GAM
namespace Go.GAM
open Go.RowKit Go.ChangeShapes
theorem Upd.own {h h1 h2:aA} {id:Nat} (a:Upd (fun _=>False) h h1) (b:Upd (· = id) h1 h2) (hid:h.length≤id):Upd (fun _=>False) h h2:=a.trans b fun i hi e=>by omega
theorem Upd.ownP {M:Nat→Prop} {h h1 h2:aA} (a:Upd (fun _=>False) h h1) (b:Upd M h1 h2) (hM:∀ i,M i→h.length≤i):Upd (fun _=>False) h h2:=a.trans b fun i hi e=>by have:=hM i e; omega
theorem Upd.then {h h1 h2:aA} (a:Upd (fun _=>False) h h1) (b:Upd (fun _=>False) h1 h2):Upd (fun _=>False) h h2:=a.trans b fun _ _ h=>h
theorem aE5 {zeros cs:List AV} {parts:List (Nat × Nat × AV)} {K:AV→Prop} (hf:eU zeros parts=some cs) (hk:K (.ag cs)):iG zeros parts K:=by
 unfold iG; rw [hf]; exact hk
def RdI (sz:Nat) (h:aA) (v:AV) (cs:List AV) (len:Nat):Prop:=
 (v = .sl none 0 none∧len=0∧cs=[])∨(len=0∧cs=[]∧∃ a c,v = .sl (some a) 0 c)∨∃ id ver off cap b,v = .sl (some ⟨id,ver,off⟩) len cap∧h[id]? = some b∧b.floor≤ver∧ver≤b.cells.length∧off+len * sz≤ver∧(b.cells.drop off).take (len * sz)=cs
theorem Rd.i {sz:Nat} {h:aA} {v:AV} {cs:List AV} {len:Nat} (R:Rd sz h v cs len):RdI sz h v cs len:=by
 rcases R with h1 | ⟨id,ver,off,cap,b,h1,h2,h3,h4⟩
 ·exact .inl h1
 ·exact .inr (.inr ⟨id,ver,off,cap,b,h1,h2,h4⟩)
theorem RdI.ext {sz:Nat} {h h':aA} {v:AV} {cs:List AV} {len:Nat} (R:RdI sz h v cs len) (U:Upd (fun _=>False) h h'):RdI sz h' v cs len:=by
 rcases R with h1 | h1 | ⟨id,ver,off,cap,b,rfl,h2,h3⟩
 ·exact .inl h1
 ·exact .inr (.inl h1)
 ·exact .inr (.inr ⟨id,ver,off,cap,b,rfl,(U.2 id (aI h2) fun h=>h).trans h2,h3⟩)
theorem RdI.len {sz:Nat} {h:aA} {v:AV} {cs:List AV} {len:Nat} (R:RdI sz h v cs len) {K:Int→Prop} (hk:K len):bV v K:=by
 rcases R with ⟨rfl,rfl,rfl⟩ | ⟨rfl,_,a,c,rfl⟩ | ⟨id,ver,off,cap,b,rfl,h2⟩ <;> exact hk
def aBL (sz:Nat) (h:aA) (p:AV) (cs:List AV):Prop:=∃ id ver off,p = .p (some ⟨id,ver,off⟩)∧∃ b:ABlk,h[id]? = some b∧b.floor≤ver∧ver≤b.cells.length∧off+sz≤ver∧(b.cells.drop off).take sz=cs
theorem RdI.at {sz:Nat} {h:aA} {v:AV} {cs:List AV} {len:Nat} (R:RdI sz h v cs len) {i:Nat} (h1:i<len):∃ p,aBL sz h p ((cs.drop (i * sz)).take sz)∧∀ (k:IntKind) (h':aA) (K:AV→Prop),Upd (fun _=>False) h h'→K p→aW sz v (.i k (i:Int)) h' K:=by
 rcases R with ⟨rfl,rfl,rfl⟩ | ⟨rfl,_⟩ | ⟨id,ver,off,cap,b,rfl,h2,h4,h5,h6,rfl⟩
 ·omega
 ·omega
 ·have e1 : (i + 1) * sz ≤ len * sz := Nat.mul_le_mul_right _ (by omega)
  rw [Nat.add_mul] at e1
  refine ⟨.p (some ⟨id,ver,off+i * sz⟩),⟨id,ver,off+i * sz,rfl,b,h2,h4,h5,by omega, ?_⟩,fun k h' K U hk=>?_⟩
  ·rw [List.drop_take,List.drop_drop,List.take_take,Nat.min_eq_left (by omega)]
  ·refine ⟨by omega, by omega, ⟨b, (U.2 id (aI h2) fun h => h).trans h2, h4, by omega⟩, ?_⟩
   simpa using hk
theorem aBL.loadN {sz:Nat} {h:aA} {p:AV} {cs:List AV} (A:aBL sz h p cs) {K:AV→Prop} (hk:K (.ag cs)):dW sz p h K:=by
 obtain ⟨id,ver,off,rfl,b,h1,h2,h3,h4,rfl⟩:=A
 exact ⟨b,h1,⟨h2,h3,h4⟩,hk⟩
theorem aBL.load1 {h:aA} {p:AV} {c:AV} (A:aBL 1 h p [c]) {K:AV→Prop} (hk:K c):aB p h K:=by
 obtain ⟨id,ver,off,rfl,b,h1,h2,h3,h4,h5⟩:=A
 refine ⟨b,h1,⟨h2,h3,h4⟩, ?_⟩
 have:b.cells[off]? = some c:=by
  have:((b.cells.drop off).take 1)[0]? = some c:=by rw [h5] <;> rfl
  rw [List.getElem?_take_of_lt (by omega),List.getElem?_drop] at this
  simpa using this
 show K (b.cells.getD off .u)
 rw [getD_some this]; exact hk
theorem RdI.news {sz:Nat} {h:aA} {v:AV} {cs:List AV} {len:Nat} (R:RdI sz h v cs len) {K:List AV→Nat→Prop} (hk:K cs len):d5 sz v h K:=by
 rcases R with ⟨rfl,rfl,rfl⟩ | ⟨rfl,rfl,a,c,rfl⟩ | ⟨id,ver,off,cap,b,rfl,h2,h3,h4,h5,h6⟩
 ·exact hk
 ·exact .inl ⟨rfl,hk⟩
 ·refine .inr ⟨b, h2, ⟨h3, h4, h5⟩, ?_⟩
  rw [h6]; exact hk
section
variable {H:Type} {enc:TypeId × Value→H} {P:Program} {w:World} {t:TypeId} {cs:List Value}
def InW (enc:TypeId × Value→H) (P:Program) (w:World) (t:TypeId) (cs:List Value):Prop:=
 ∃ fuel d p,DataW.trod enc P w 0 (fun _=>true) true fuel t cs=some (d,p)∧∀ m∈d.weights P t,m≤reachBytes
theorem iT {m:Nat}:∀ (ts:List TypeId) (ds:List (DataW H)) (i:Nat) (t:TypeId) (d:DataW H),ts[i]? = some t→ds[i]? = some d→m∈d.weights P t→m∈DataW.weightsEach P ts ds
 | [],_,_,_,_,h,_,_=>by simp at h
 | _ :: _,[],_,_,_,_,h,_=>by simp at h
 | t' :: ts, d' :: ds, 0, t, d, h1, h2, h => by
  simp at h1 h2; subst h1; subst h2
  unfold DataW.weightsEach
  exact List.mem_append_left _ h
 | t' :: ts, d' :: ds, i + 1, t, d, h1, h2, h => by
  unfold DataW.weightsEach
  exact List.mem_append_right _ (iT ts ds i t d (by simpa using h1) (by simpa using h2) h)
theorem InW.int {k:IntKind} (ht:P.underlying t=some (.int k)) (h:InW enc P w t cs):∃ n,cs=[.int k n]∧(Lit.int k n).wf=true:=by
 obtain ⟨fuel,d,p,h1,h2⟩:=h
 obtain ⟨n,e1,_,e3⟩:=DataW.trod_int ht h1
 exact ⟨n,e1,e3⟩
theorem nT:∀ {ts:List TypeId} {vs:List Value} {ds:List (DataW H)} {ps:List MemPlace},DataW.TrodAll enc P w 0 (fun _=>true) true ts vs ds ps→∀ (i:Nat) (t:TypeId) (v:Value),ts[i]? = some t→vs[i]? = some v→∃ d p,ds[i]? = some d∧DataW.Trod enc P w 0 (fun _=>true) true t v d p
 | [],_,_,_,_,i,t,v,h,_=>by simp at h
 | _ :: _,[],_,_,_,i,t,v,_,h=>by simp at h
 | _ :: _,_ :: _,[],_,h,_,_,_,_,_=>by simp [DataW.TrodAll] at h
 | t' :: ts, v' :: vs, d' :: ds, ps, h, 0, t, v, h1, h2 => by
  simp at h1 h2; subst h1; subst h2
  obtain ⟨p,q,g1,_⟩:=h
  exact ⟨d',p,rfl,g1⟩
 | t' :: ts, v' :: vs, d' :: ds, ps, h, i + 1, t, v, h1, h2 => by
  obtain ⟨p,q,_,g2,_⟩:=h
  exact nT g2 i t v (by simpa using h1) (by simpa using h2)
theorem sized_reads {f:Func} {vars:List String} {ap:Bool} {args:Array Value} {ds gs:List (DataW H)} {before:List MemPlace} {vts:List TypeId} (hW:DataW.Whole enc P f.params.toList vars ap w args.toList ds gs before)
  (hw:(DataW.weightsEach P (f.params.toList++vts) (ds++gs)).all (· ≤ reachBytes)=true) (i:Nat) (t:TypeId) (v:Value) (h1:f.params[i]? = some t) (h2:args[i]? = some v):InW enc P w t v.cells.toList:=by
 obtain ⟨p,q,hA,_⟩:=hW
 have h1':f.params.toList[i]? = some t:=by rw [Array.getElem?_toList]; exact h1
 obtain ⟨d,p',g1,fuel,g2⟩:=nT hA i t v h1' (by rw [Array.getElem?_toList]; exact h2)
 refine ⟨fuel,d,p',g2,fun m hm=>?_⟩
 have:=List.all_eq_true.1 hw m (iT _ _ i t d ?_ ?_ hm)
 ·simpa using this
 ·rw [List.getElem?_append_left (aI h1')]; exact h1'
 ·rw [List.getElem?_append_left (aI g1)]; exact g1
end
end Go.GAM
namespace Go.GAM
theorem bI {a:AA} {K:AV→Prop}:aZ (.p (some a)) K=K (.p (some a)):=rfl
theorem bH {id ver off o:Nat} {K:AV→Prop}:aC o (.p (some ⟨id,ver,off⟩)) K=K (.p (some ⟨id,ver,off+o⟩)):=rfl
theorem gY {n:Int} {K:Int→Prop}:asI .i64 (.i .i64 n) K=K n:=rfl
theorem eD {a:AV} {l:List AV} {K:AV→Prop}:aP 0 (.tu (a :: l)) K=K a:=propext ⟨fun h=>h.2,fun h=>⟨by simp,h⟩⟩
theorem eC {a b:AV} {l:List AV} {K:AV→Prop}:aP 1 (.tu (a :: b :: l)) K=K b:=propext ⟨fun h=>h.2,fun h=>⟨by simp,h⟩⟩
theorem aFT {a b c:AV} {l:List AV} {K:AV→Prop}:aP 2 (.tu (a :: b :: c :: l)) K=K c:=propext ⟨fun h=>h.2,fun h=>⟨by simp,h⟩⟩
theorem mK {v:AV} {A:Prop}:(v=v∧A)=A:=by simp
theorem aGZ {h:aA} {id n o:Nat} {cs:List AV} {v:AV} {K:AV→Prop} (R:bC h id cs) (hn:n=cs.length) (hc:cs[o]? = some v):aB (.p (some ⟨id,n,o⟩)) h K=K v:=by
 refine propext ⟨fun hk=>?_,fun hk=>aE R hn hc hk⟩
 obtain ⟨b,h1,_,h2⟩:=hk
 obtain ⟨b',g1,g2,_⟩:=R
 have h1:h[id]? = some b:=h1
 rw [g1] at h1
 cases h1
 have h2:K (b.cells.getD o .u):=h2
 rw [g2,getD_some hc] at h2
 exact h2
def ptr (v:AV) (sz i o:Nat):AV:=match v with
 | .sl (some a) _ _=>.p (some ⟨a.id,a.ver,a.off+i * sz+o⟩)
 | _=>.u
theorem aGG {sz:Nat} {h:aA} {v:AV} {cs:List AV} {len:Nat} (R:RdI sz h v cs len) {k:IntKind} {n:Int} (h0:0≤n) (h1:n<len) {K:AV→Prop}:aW sz v (.i k n) h K=K (ptr v sz n.toNat 0):=by
 rcases R with ⟨rfl,rfl,rfl⟩ | ⟨rfl,_⟩ | ⟨id,ver,off,cap,b,rfl,h2,h4,h5,h6,h7⟩
 ·omega
 ·omega
 ·exact propext ⟨fun hk=>hk.2.2.2,fun hk=>⟨h0,h1,⟨b,h2,h4,by omega⟩,hk⟩⟩
theorem aGR {v:AV} {sz i o:Nat} {h:aA} {cs:List AV} {len:Nat} {c:AV} (R:RdI sz h v cs len) (hi:i<len) (ho:o<sz) (hc:cs[i * sz+o]? = some c) {K:AV→Prop}:aB (ptr v sz i o) h K=K c:=by
 rcases R with ⟨rfl,rfl,rfl⟩ | ⟨rfl,_⟩ | ⟨id,ver,off,cap,b,rfl,h2,h4,h5,h6,h7⟩
 ·omega
 ·omega
 ·have e1 : (i + 1) * sz ≤ len * sz := Nat.mul_le_mul_right _ (by omega)
  rw [Nat.add_mul] at e1
  have hcell:b.cells.getD (off+i * sz+o) .u=c:=by
   rw [← h7,List.getElem?_take_of_lt (by omega),List.getElem?_drop] at hc
   exact getD_some (by rw [← hc]; congr 1; omega)
  refine propext ⟨fun hk=>?_,fun hk=>⟨b,h2,⟨h4,h5,by simp only; omega⟩,by simp only; rw [hcell]; exact hk⟩⟩
  obtain ⟨b',g1,_,g2⟩:=hk
  have g1:h[id]? = some b':=g1
  rw [h2] at g1
  cases g1
  have g2:K (b.cells.getD (off+i * sz+o) .u):=g2
  rw [hcell] at g2
  exact g2
theorem RdI.upd {sz:Nat} {M:Nat→Prop} {h h':aA} {v:AV} {cs:List AV} {len:Nat} (R:RdI sz h v cs len) (U:Upd M h h') (hM:∀ id,aO v id→¬ M id):RdI sz h' v cs len:=by
 rcases R with h1 | h1 | ⟨id,ver,off,cap,b,rfl,h2,h3⟩
 ·exact .inl h1
 ·exact .inr (.inl h1)
 ·exact .inr (.inr ⟨id,ver,off,cap,b,rfl,(U.2 id (aI h2) (hM id rfl)).trans h2,h3⟩)
theorem Stk.app1 {ty : Option TypeId} {bytes : Nat} {h : aA} {v x y : AV} {l : List AV} (S : Stk h v l) (R1 : Rd 1 h y [x] 1) (hx : x.cellOK = true) (hlen : (l.length + 1) * bytes ≤ 140737488355328) (hl2 : l.length + 1 ≤ 9223372036854775807) {K : AV → aA → Prop}
  (hk:∀ v' h',Upd (aO v) h h'→Stk h' v' (l++[x])→(∀ i,aO v' i→aO v i∨h.length≤i)→K v' h'):bT ty 1 bytes v y h K:=by
 refine ⟨Nat.one_pos,R1.news ?_⟩
 rcases S with ⟨rfl,rfl⟩ | ⟨id,b,rfl,g1,g2,g3,g4,g5,g6,g7⟩
 ·refine ⟨by simpa using hlen, by omega, ?_⟩
  rw [if_neg (by decide)]
  exact hk _ _ ((Upd.app _ _).mono fun _ _ h=>h.elim) (.inr ⟨h.length,aY [x] 1 false ty,by simp [aY],by simp,rfl,by simp [aY],by simp [aY],by simp [aY],rfl,rfl⟩) fun i hi=>.inr (by have e:h.length=i:=hi; omega)
 ·have hid := aI g1
  refine ⟨hlen,by omega,b,g1,g2,⟨g5,Nat.le_refl _,by simp only; omega⟩, ?_⟩
  by_cases hfull:l.length=b.cells.length
  ·cases hex : b.ex with
   | true =>
    refine .inr (.inl ⟨Nat.one_pos,.inr ⟨rfl,rfl,rfl,by simp only; omega⟩, ?_⟩)
    refine hk _ _ ((Upd.app _ _).mono fun _ _ h=>h.elim) (.inr ⟨h.length,aY (l++[x]) 1 false ty, ?_, ?_,rfl,by simp [aY],by simp only [aY,List.length_append]; exact List.take_of_length_le (by simp),by simp [aY],rfl,rfl⟩) fun i hi=>.inr (by have e:h.length=i:=hi; omega)
    ·simp [aY,g4,g3]
    ·simp [g4]
   | false =>
    refine .inr (.inr (.inr (.inl ⟨Nat.one_pos,g6,rfl,rfl,by omega,rfl,rfl,g7,by simp [hx], ?_⟩)))
    have hcl:b.cells=l:=by rw [hfull,List.take_length] at g4; exact g4
    refine hk _ _ ((Upd.set _ _ _).mono fun i _ h=>h.symm) (.inr ⟨id,{ b with cells:=b.cells++[x],ty:=eS b.ty ty }, ?_,by simp [hid,hex],g2,by simp; omega, ?_,by simp; omega,g6,g7⟩) fun i hi=>.inl hi
    ·simp
    ·simp only [hcl]
     rw [List.take_of_length_le (by simp)]
  ·refine .inr (.inr (.inl ⟨Nat.one_pos, g6, rfl, by simp only; omega, .inl rfl, by simp [hx], ?_⟩))
   refine hk _ _ ((Upd.set _ _ _).mono fun i _ h=>h.symm) (.inr ⟨id,{ b with cells:=wr b.cells (0+l.length * 1) [x],floor:=b.cells.length }, ?_,show (h.set id _)[id]? = some _ from List.getElem?_set_self hid,g2, ?_, ?_, ?_,g6,g7⟩) fun i hi=>.inl hi
   ·simp [wr]
   ·simp [wr]; omega
   ·simp only [wr, Nat.zero_add, Nat.mul_one, List.length_append, List.length_cons, List.length_nil]
    apply List.ext_getElem?
    intro i
    by_cases h1:i<l.length
    ·rw [List.getElem?_take_of_lt (by omega), List.getElem?_set_ne (by omega), List.getElem?_append_left h1]
     conv=>rhs; rw [← g4]
     rw [List.getElem?_take_of_lt h1]
    ·by_cases h2 : i = l.length
     ·subst h2
      rw [List.getElem?_take_of_lt (by omega),List.getElem?_set_self (by omega),List.getElem?_append_right (by omega)]
      simp
     ·rw [List.getElem?_eq_none (by simp; omega),List.getElem?_eq_none (by simp; omega)]
   ·simp [wr]
end Go.GAM
