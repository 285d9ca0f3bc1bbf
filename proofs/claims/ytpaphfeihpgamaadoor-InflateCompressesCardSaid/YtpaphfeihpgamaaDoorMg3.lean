/- Lemmas (several texts in one). -/
import Derived.Below
import Derived.ChangeArms
import Derived.ChangeSlices
import Derived.DataElems
import Derived.LaidMore
import Derived.Lib.Bytealg
import Derived.Test.YtpaphfeihpgamaaDoorMg2
set_option linter.unusedVariables false
set_option linter.unusedSectionVars false
set_option maxRecDepth 100000
namespace Go.Proofs.YtpaphfeihpgamaaDoor
open Go.GAM
variable [XR]
noncomputable def Y6.body:Code:=(Tryd.f79.body).getD .skip
def Y6.ann:Ann:=(sl [0] (sq [0] (sl [0,10] (.br (sl [2] lf) lf)) (sl [0,3,4,5] (sq [3,4,5] (sl [3,4,5,11,12,13] (.one (.loop 1 [3,4,5,11,12,13] (sl [3,4,5,11,12,13,14] (sq [3,4,5,11,12,13] bl (.seq 3 [3,4,5,11,12,13] (.one (sl [3,4,5,7,11,12,13] (sq [3,4,5,7,11,12,13] (.seq 2 [3,4,5,7,11,12,13,22] lf (.br (sl [2] lf) lf)) (sl [3,4,5,7,11,12,13,24] (.br (sl [3,4,5,7,11,12,13] (sl [3,4,5,7,11,12,13] lf)) lf))))) lf)))))) (sq [] (.one (sl [3,4,5,36] (.br (sl [2] lf) (.seq 4 [39] lf (.br (sl [2] lf) lf))))) (sl [2] lf))))))
theorem Y6.dist:aH (places Y6.ann Y6.body)=true:=by kernel_rfl
noncomputable def Y6.J (Q:AV→aA→Prop):JT:=bI prog C Tryd.f79 Y6.ann Y6.body Q
def Y6.p1 (Q:AV→aA→Prop) (x3 x4 x5 x7:Int) (x11:AV) (x12 x13:Int) (x22:Bool) (h:aA):Prop:=Y6.J Q 2 [(3,(AV.i .i64 x3)),(4,(AV.i .i64 x4)),(5,(AV.i .i64 x5)),(7,(AV.i .i64 x7)),(11,x11),(12,(AV.i .i64 x12)),(13,(AV.i .i64 x13)),(22,(AV.b x22))] h
def Y6.p2 (Q:AV→aA→Prop) (x3 x4 x5:Int) (x11:AV) (x12 x13:Int) (h:aA):Prop:=Y6.J Q 3 [(3,(AV.i .i64 x3)),(4,(AV.i .i64 x4)),(5,(AV.i .i64 x5)),(11,x11),(12,(AV.i .i64 x12)),(13,(AV.i .i64 x13))] h
def Y6.p0 (Q:AV→aA→Prop) (x3 x4 x5:Int) (x11:AV) (x12 x13:Int) (h:aA):Prop:=Y6.J Q 1 [(3,(AV.i .i64 x3)),(4,(AV.i .i64 x4)),(5,(AV.i .i64 x5)),(11,x11),(12,(AV.i .i64 x12)),(13,(AV.i .i64 x13))] h
def Y6.p3 (Q:AV→aA→Prop) (x39:Bool) (h:aA):Prop:=Y6.J Q 4 [(39,(AV.b x39))] h
def Y6.t1 (Q:AV→aA→Prop) (x3 x4 x5 x7:Int) (x11:AV) (x12 x13:Int) (x22:Bool) (h:aA) (J:JT):Prop:=
(bif x22 then
(Q (AV.i .i64 4) h)
else
((bif (decide ((0:Int)<x7)) then
(aJ (IntKind.wrap .i64 (15 - x7)) fun n20=>
jS .i64 1 n20 fun n21=>
aJ (IntKind.wrap .i64 (x3+n21)) fun n22=>
aJ (IntKind.wrap .i64 (x4+1)) fun n24=>
J 3 [(3,(AV.i .i64 n22)),(4,(AV.i .i64 n24)),(5,(AV.i .i64 (mmI true x5 x7))),(11,x11),(12,(AV.i .i64 x12)),(13,(AV.i .i64 x13))] h)
else
(J 3 [(3,(AV.i .i64 x3)),(4,(AV.i .i64 x4)),(5,(AV.i .i64 x5)),(11,x11),(12,(AV.i .i64 x12)),(13,(AV.i .i64 x13))] h))))
theorem Y6.i1 {Q x3 x4 x5 x7 x11 x12 x13 x22 h} (H:Y6.t1 Q x3 x4 x5 x7 x11 x12 x13 x22 h (Y6.J Q)):Y6.p1 Q x3 x4 x5 x7 x11 x12 x13 x22 h:=gR Y6.J Tryd.f79 Y6.dist [1,1,1,0,1,0,0,1,1,0,0,1,0,1] H
def Y6.t2 (Q:AV→aA→Prop) (x3 x4 x5:Int) (x11:AV) (x12 x13:Int) (h:aA) (J:JT):Prop:=
aJ (IntKind.wrap .i64 (x13+1)) fun n28=>
J 1 [(3,(AV.i .i64 x3)),(4,(AV.i .i64 x4)),(5,(AV.i .i64 x5)),(11,x11),(12,(AV.i .i64 x12)),(13,(AV.i .i64 n28))] h
theorem Y6.i2 {Q x3 x4 x5 x11 x12 x13 h} (H:Y6.t2 Q x3 x4 x5 x11 x12 x13 h (Y6.J Q)):Y6.p2 Q x3 x4 x5 x11 x12 x13 h:=gR Y6.J Tryd.f79 Y6.dist [1,1,1,0,1,0,0,1,1,1] H
def Y6.t0 (Q:AV→aA→Prop) (x3 x4 x5:Int) (x11:AV) (x12 x13:Int) (h:aA) (J:JT):Prop:=
(bif (decide ((x13:Int)<x12)) then
(aP 1 x11 (AV.i .i64 x13) h fun v11=>
aB v11 h fun v12=>
asI .i64 v12 fun n13=>
(bif (decide ((n13:Int)<0)) then
(J 2 [(3,(AV.i .i64 x3)),(4,(AV.i .i64 x4)),(5,(AV.i .i64 x5)),(7,(AV.i .i64 n13)),(11,x11),(12,(AV.i .i64 x12)),(13,(AV.i .i64 x13)),(22,(AV.b true))] h)
else
(J 2 [(3,(AV.i .i64 x3)),(4,(AV.i .i64 x4)),(5,(AV.i .i64 x5)),(7,(AV.i .i64 n13)),(11,x11),(12,(AV.i .i64 x12)),(13,(AV.i .i64 x13)),(22,(AV.b (decide ((15:Int)<n13))))] h)))
else
((bif (decide ((32768:Int)<x3)) then
(Q (AV.i .i64 2) h)
else
((bif (decide ((x3:Int)<32768)) then
((bif (decide ((0:Int)<x4)) then
((bif (decide ((1:Int)<x4)) then
(J 4 [(39,(AV.b true))] h)
else
(J 4 [(39,(AV.b (decide ((1:Int)<x5))))] h)))
else
(J 4 [(39,(AV.b false))] h)))
else
(J 4 [(39,(AV.b false))] h))))))
theorem Y6.i0 {Q x3 x4 x5 x11 x12 x13 h} (H:Y6.t0 Q x3 x4 x5 x11 x12 x13 h (Y6.J Q)):Y6.p0 Q x3 x4 x5 x11 x12 x13 h:=gH Y6.J Tryd.f79 Y6.dist [1,1,1,0,1,0] H
def Y6.t3 (Q:AV→aA→Prop) (x39:Bool) (h:aA) (J:JT):Prop:=
(bif x39 then
(Q (AV.i .i64 1) h)
else
(Q (AV.i .i64 0) h))
theorem Y6.i3 {Q x39 h} (H:Y6.t3 Q x39 h (Y6.J Q)):Y6.p3 Q x39 h:=gR Y6.J Tryd.f79 Y6.dist [1,1,1,1,0,0,1,1,1] H
def Y6.t (Q:AV→aA→Prop) (x0:AV) (h:aA) (J:JT):Prop:=
bN x0 fun n1=>
(bif (decide ((320:Int)<n1)) then
(Q (AV.i .i64 3) h)
else
(bN x0 fun n6=>
J 1 [(3,(AV.i .i64 0)),(4,(AV.i .i64 0)),(5,(AV.i .i64 0)),(11,x0),(12,(AV.i .i64 n6)),(13,(AV.i .i64 0))] h))
theorem Y6.call {K x0 h} (H:Y6.t (aK h K) x0 h (Y6.J (aK h K))):C Y6.id [x0] h K:=
 gC Y6.J Tryd.func79 Y6.dist H
noncomputable def Y10.body:Code:=(Tryd.f80.body).getD .skip
def Y10.ann:Ann:=(sl [0,2] (sl [0,2,3] (sq [2,3] (sl [2,3,7,8,9] (.one (.loop 1 [2,3,7,8,9] (sl [2,3,7,8,9,10] (sq [2,3,7,8,9] bl (.seq 2 [2,3,7,8,9] (.one (sl [2,3,5,7,8,9] (sl [2,3,5,7,8,9,14] bl))) lf)))))) (sq [2,3] (sl [2,3,6] (.one (.loop 3 [2,3,6] (sq [2,3,6] (sl [2,3,6,24] bl) (sq [2,3,6] (.one (.ord (nn 0 15 (.eff 15 .done .stop)))) lf))))) (sl [2] lf)))))
theorem Y10.dist:aH (places Y10.ann Y10.body)=true:=by kernel_rfl
noncomputable def Y10.J (Q:AV→aA→Prop):JT:=bI prog C Tryd.f80 Y10.ann Y10.body Q
def Y10.p1 (Q:AV→aA→Prop) (x2 x3 x7:AV) (x8 x9:Int) (h:aA):Prop:=Y10.J Q 2 [(2,x2),(3,x3),(7,x7),(8,(AV.i .i64 x8)),(9,(AV.i .i64 x9))] h
def Y10.p0 (Q:AV→aA→Prop) (x2 x3 x7:AV) (x8 x9:Int) (h:aA):Prop:=Y10.J Q 1 [(2,x2),(3,x3),(7,x7),(8,(AV.i .i64 x8)),(9,(AV.i .i64 x9))] h
def Y10.p2 (Q:AV→aA→Prop) (x2 x3:AV) (x6:Int) (h:aA):Prop:=Y10.J Q 3 [(2,x2),(3,x3),(6,(AV.i .i64 x6))] h
def Y10.t1 (Q:AV→aA→Prop) (x2 x3 x7:AV) (x8 x9:Int) (h:aA) (J:JT):Prop:=
aJ (IntKind.wrap .i64 (x9+1)) fun n26=>
J 1 [(2,x2),(3,x3),(7,x7),(8,(AV.i .i64 x8)),(9,(AV.i .i64 n26))] h
theorem Y10.i1 {Q x2 x3 x7 x8 x9 h} (H:Y10.t1 Q x2 x3 x7 x8 x9 h (Y10.J Q)):Y10.p1 Q x2 x3 x7 x8 x9 h:=gR Y10.J Tryd.f80 Y10.dist [1,1,0,1,0,0,1,1,1] H
def Y10.t0 (Q:AV→aA→Prop) (x2 x3 x7:AV) (x8 x9:Int) (h:aA) (J:JT):Prop:=
(bif (decide ((x9:Int)<x8)) then
(aP 1 x7 (AV.i .i64 x9) h fun v11=>
aB v11 h fun v12=>
asI .i64 v12 fun n13=>
(bif (decide ((0:Int)<n13)) then
(aC 0 x3 fun v16=>
bH 16 1 v16 (AV.i .i64 n13) fun v17=>
aB v17 h fun v18=>
asI .i64 v18 fun n19=>
aJ (IntKind.wrap .i64 (n19+1)) fun n20=>
aC 0 x3 fun v21=>
bH 16 1 v21 (AV.i .i64 n13) fun v22=>
aV 1 v22 (AV.i .i64 n20) h fun h23=>
J 2 [(2,x2),(3,x3),(7,x7),(8,(AV.i .i64 x8)),(9,(AV.i .i64 x9))] h23)
else
(J 2 [(2,x2),(3,x3),(7,x7),(8,(AV.i .i64 x8)),(9,(AV.i .i64 x9))] h)))
else
(J 3 [(2,x2),(3,x3),(6,(AV.i .i64 1))] h))
theorem Y10.i0 {Q x2 x3 x7 x8 x9 h} (H:Y10.t0 Q x2 x3 x7 x8 x9 h (Y10.J Q)):Y10.p0 Q x2 x3 x7 x8 x9 h:=gH Y10.J Tryd.f80 Y10.dist [1,1,0,1,0] H
def Y10.t2 (Q:AV→aA→Prop) (x2 x3:AV) (x6:Int) (h:aA) (J:JT):Prop:=
(bif (decide ((x6:Int)≤15)) then
(aJ (IntKind.wrap .i64 (x6 - 1)) fun n32=>
aC 16 x3 fun v33=>
bH 16 1 v33 (AV.i .i64 n32) fun v34=>
aB v34 h fun v35=>
asI .i64 v35 fun n36=>
aJ (IntKind.wrap .i64 (x6 - 1)) fun n37=>
aC 0 x3 fun v38=>
bH 16 1 v38 (AV.i .i64 n37) fun v39=>
aB v39 h fun v40=>
asI .i64 v40 fun n41=>
aJ (IntKind.wrap .i64 (n36+n41)) fun n42=>
jS .i64 n42 1 fun n43=>
aC 16 x3 fun v44=>
bH 16 1 v44 (AV.i .i64 x6) fun v45=>
aV 1 v45 (AV.i .i64 n43) h fun h46=>
aJ (IntKind.wrap .i64 (x6+1)) fun n48=>
J 3 [(2,x2),(3,x3),(6,(AV.i .i64 n48))] h46)
else
(dZ 32 x3 h fun v50=>
aV 32 x2 v50 h fun h51=>
dZ 32 x2 h51 fun v53=>
Q v53 h51))
theorem Y10.i2 {Q x2 x3 x6 h} (H:Y10.t2 Q x2 x3 x6 h (Y10.J Q)):Y10.p2 Q x2 x3 x6 h:=gH Y10.J Tryd.f80 Y10.dist [1,1,1,0,1,0] H
def Y10.t (Q:AV→aA→Prop) (x0:AV) (h:aA) (J:JT):Prop:=
cX (some 120) [(AV.i .i64 0),(AV.i .i64 0),(AV.i .i64 0),(AV.i .i64 0),(AV.i .i64 0),(AV.i .i64 0),(AV.i .i64 0),(AV.i .i64 0),(AV.i .i64 0),(AV.i .i64 0),(AV.i .i64 0),(AV.i .i64 0),(AV.i .i64 0),(AV.i .i64 0),(AV.i .i64 0),(AV.i .i64 0),(AV.i .i64 0),(AV.i .i64 0),(AV.i .i64 0),(AV.i .i64 0),(AV.i .i64 0),(AV.i .i64 0),(AV.i .i64 0),(AV.i .i64 0),(AV.i .i64 0),(AV.i .i64 0),(AV.i .i64 0),(AV.i .i64 0),(AV.i .i64 0),(AV.i .i64 0),(AV.i .i64 0),(AV.i .i64 0)] h fun v0 h1=>
cX (some 120) [(AV.i .i64 0),(AV.i .i64 0),(AV.i .i64 0),(AV.i .i64 0),(AV.i .i64 0),(AV.i .i64 0),(AV.i .i64 0),(AV.i .i64 0),(AV.i .i64 0),(AV.i .i64 0),(AV.i .i64 0),(AV.i .i64 0),(AV.i .i64 0),(AV.i .i64 0),(AV.i .i64 0),(AV.i .i64 0),(AV.i .i64 0),(AV.i .i64 0),(AV.i .i64 0),(AV.i .i64 0),(AV.i .i64 0),(AV.i .i64 0),(AV.i .i64 0),(AV.i .i64 0),(AV.i .i64 0),(AV.i .i64 0),(AV.i .i64 0),(AV.i .i64 0),(AV.i .i64 0),(AV.i .i64 0),(AV.i .i64 0),(AV.i .i64 0)] h1 fun v3 h4=>
bN x0 fun n6=>
J 1 [(2,v0),(3,v3),(7,x0),(8,(AV.i .i64 n6)),(9,(AV.i .i64 0))] h4
theorem Y10.call {K x0 h} (H:Y10.t (aK h K) x0 h (Y10.J (aK h K))):C Y10.id [x0] h K:=
 gC Y10.J Tryd.func80 Y10.dist H
noncomputable def Y7.body:Code:=(Tryd.f84.body).getD .skip
def Y7.ann:Ann:=(sl [0] (sq [0] (sl [0,8] (.br (sl [2] lf) lf)) (sl [0,3] (sq [0,3] (sl [0,3,4] (.one (.loop 1 [0,3,4] (sq [0,3,4] (sl [0,3,4,12] bl) (.seq 3 [0,3,4] (.one (sq [0,3,4] (.seq 2 [0,3,4,26] lf (.br (sl [2] lf) lf)) (sl [0,3,4,31] bl))) lf))))) (sl [3,5] (sq [3,5] (sl [3,5,44] (.br (sl [2] lf) lf)) (sq [] (.seq 4 [58] lf (.br (sl [2] lf) lf)) (sl [2] lf))))))))
theorem Y7.dist:aH (places Y7.ann Y7.body)=true:=by kernel_rfl
noncomputable def Y7.J (Q:AV→aA→Prop):JT:=bI prog C Tryd.f84 Y7.ann Y7.body Q
def Y7.p1 (Q:AV→aA→Prop) (x0:AV) (x3 x4:Int) (x26:Bool) (h:aA):Prop:=Y7.J Q 2 [(0,x0),(3,(AV.i .i64 x3)),(4,(AV.i .i64 x4)),(26,(AV.b x26))] h
def Y7.p2 (Q:AV→aA→Prop) (x0:AV) (x3 x4:Int) (h:aA):Prop:=Y7.J Q 3 [(0,x0),(3,(AV.i .i64 x3)),(4,(AV.i .i64 x4))] h
def Y7.p0 (Q:AV→aA→Prop) (x0:AV) (x3 x4:Int) (h:aA):Prop:=Y7.J Q 1 [(0,x0),(3,(AV.i .i64 x3)),(4,(AV.i .i64 x4))] h
def Y7.p3 (Q:AV→aA→Prop) (x58:Bool) (h:aA):Prop:=Y7.J Q 4 [(58,(AV.b x58))] h
def Y7.t1 (Q:AV→aA→Prop) (x0:AV) (x3 x4:Int) (x26:Bool) (h:aA) (J:JT):Prop:=
(bif x26 then
(Q (AV.i .i64 4) h)
else
(aP 1 x0 (AV.i .i64 x4) h fun v21=>
aB v21 h fun v22=>
asI .i64 v22 fun n23=>
(bif (decide ((0:Int)<n23)) then
(aP 1 x0 (AV.i .i64 x4) h fun v25=>
aB v25 h fun v26=>
asI .i64 v26 fun n27=>
aJ (IntKind.wrap .i64 (15 - n27)) fun n28=>
jS .i64 1 (IntKind.wrap .u64 n28) fun n29=>
aJ (IntKind.wrap .i64 (x3+n29)) fun n30=>
J 3 [(0,x0),(3,(AV.i .i64 n30)),(4,(AV.i .i64 x4))] h)
else
(J 3 [(0,x0),(3,(AV.i .i64 x3)),(4,(AV.i .i64 x4))] h))))
theorem Y7.i1 {Q x0 x3 x4 x26 h} (H:Y7.t1 Q x0 x3 x4 x26 h (Y7.J Q)):Y7.p1 Q x0 x3 x4 x26 h:=gR Y7.J Tryd.f84 Y7.dist [1,1,1,0,1,0,0,1,0,0,0,1] H
def Y7.t2 (Q:AV→aA→Prop) (x0:AV) (x3 x4:Int) (h:aA) (J:JT):Prop:=
aJ (IntKind.wrap .i64 (x4+1)) fun n33=>
J 1 [(0,x0),(3,(AV.i .i64 x3)),(4,(AV.i .i64 n33))] h
theorem Y7.i2 {Q x0 x3 x4 h} (H:Y7.t2 Q x0 x3 x4 h (Y7.J Q)):Y7.p2 Q x0 x3 x4 h:=gR Y7.J Tryd.f84 Y7.dist [1,1,1,0,1,0,0,1,1] H
def Y7.t0 (Q:AV→aA→Prop) (x0:AV) (x3 x4:Int) (h:aA) (J:JT):Prop:=
bN x0 fun n7=>
(bif (decide ((x4:Int)<n7)) then
(aP 1 x0 (AV.i .i64 x4) h fun v11=>
aB v11 h fun v12=>
asI .i64 v12 fun n13=>
(bif (decide ((n13:Int)<0)) then
(J 2 [(0,x0),(3,(AV.i .i64 x3)),(4,(AV.i .i64 x4)),(26,(AV.b true))] h)
else
(aP 1 x0 (AV.i .i64 x4) h fun v15=>
aB v15 h fun v16=>
asI .i64 v16 fun n17=>
J 2 [(0,x0),(3,(AV.i .i64 x3)),(4,(AV.i .i64 x4)),(26,(AV.b (decide ((15:Int)<n17))))] h)))
else
(C Y15.id [x0] h fun v35 h36=>
asI .i64 v35 fun n37=>
(bif (decide ((32768:Int)<x3)) then
(Q (AV.i .i64 2) h36)
else
((bif (decide ((x3:Int)=32768)) then
(J 4 [(58,(AV.b true))] h36)
else
((bif (decide ((n37:Int)=0)) then
(J 4 [(58,(AV.b true))] h36)
else
((bif (decide ((n37:Int)=1)) then
(J 4 [(58,(AV.b (decide ((x3:Int)=16384))))] h36)
else
(J 4 [(58,(AV.b false))] h36))))))))))
theorem Y7.i0 {Q x0 x3 x4 h} (H:Y7.t0 Q x0 x3 x4 h (Y7.J Q)):Y7.p0 Q x0 x3 x4 h:=gH Y7.J Tryd.f84 Y7.dist [1,1,1,0,1,0] H
def Y7.t3 (Q:AV→aA→Prop) (x58:Bool) (h:aA) (J:JT):Prop:=
(bif x58 then
(Q (AV.i .i64 0) h)
else
(Q (AV.i .i64 1) h))
theorem Y7.i3 {Q x58 h} (H:Y7.t3 Q x58 h (Y7.J Q)):Y7.p3 Q x58 h:=gR Y7.J Tryd.f84 Y7.dist [1,1,1,1,1,1,0,1] H
def Y7.t (Q:AV→aA→Prop) (x0:AV) (h:aA) (J:JT):Prop:=
bN x0 fun n1=>
(bif (decide ((320:Int)<n1)) then
(Q (AV.i .i64 3) h)
else
(J 1 [(0,x0),(3,(AV.i .i64 0)),(4,(AV.i .i64 0))] h))
theorem Y7.call {K x0 h} (H:Y7.t (aK h K) x0 h (Y7.J (aK h K))):C Y7.id [x0] h K:=
 gC Y7.J Tryd.func84 Y7.dist H
noncomputable def Y39.body:Code:=(Tryd.f85.body).getD .skip
def Y39.ann:Ann:=(sl [0] (sq [2] (.ord (nn 0 11 .done)) lf))
theorem Y39.dist:aH (places Y39.ann Y39.body)=true:=by kernel_rfl
noncomputable def Y39.J (Q:AV→aA→Prop):JT:=bI prog C Tryd.f85 Y39.ann Y39.body Q
def Y39.t (Q:AV→aA→Prop) (x0:AV) (h:aA) (J:JT):Prop:=
aZ x0 fun v1=>
aC 0 v1 fun v2=>
aB v2 h fun v3=>
bN v3 fun n4=>
aZ x0 fun v5=>
aC 1 v5 fun v6=>
aB v6 h fun v7=>
asI .i64 v7 fun n8=>
aJ (IntKind.wrap .i64 (n4 - n8)) fun n9=>
Q (AV.i .i64 n9) h
theorem Y39.call {K x0 h} (H:Y39.t (aK h K) x0 h (Y39.J (aK h K))):C Y39.id [x0] h K:=
 gC Y39.J Tryd.func85 Y39.dist H
noncomputable def Y49.body:Code:=(Tryd.f87.body).getD .skip
def Y49.ann:Ann:=(sl [0,1] (sl [0,1] (sl [0,5] (sq [0,5] (sl [0,5,16] bl) (sl [0,6] (sl [6,7] (sl [4] lf)))))))
theorem Y49.body_eq:Tryd.f87.body=some Y49.body:=by kernel_rfl
def Y49.tC (Q:AV→aA→Prop) (x0:AV) (x1:Int) (h:aA):Prop:=
bN x0 fun n2=>
aJ (IntKind.wrap .i64 (n2+x1)) fun n3=>
s0 1 x0 h fun v5 h6=>
asI .i64 v5 fun n7=>
aJ (IntKind.wrap .i64 (2 * n7)) fun n8=>
(bif (decide ((n3:Int)<n8)) then
(s0 1 x0 h6 fun v10 h11=>
asI .i64 v10 fun n12=>
aJ (IntKind.wrap .i64 (2 * n12)) fun n13=>
fO (some 5) 1 1 [(AV.i .u8 0)] (AV.sl none 0 none) (AV.i .i64 n13) h11 fun v16 h17=>
iA 1 v16 x0 h17 fun v19 h20=>
asI .i64 v19 fun n21=>
bG 1 v16 none (some (AV.i .i64 n21)) none h20 fun v23=>
(([]:List AV)=[]∧kQ prog Y81.id ∧
Q v23 h20))
else
(fO (some 5) 1 1 [(AV.i .u8 0)] (AV.sl none 0 none) (AV.i .i64 n3) h6 fun v25 h26=>
iA 1 v25 x0 h26 fun v28 h29=>
asI .i64 v28 fun n30=>
bG 1 v25 none (some (AV.i .i64 n30)) none h29 fun v32=>
(([]:List AV)=[]∧kQ prog Y81.id ∧
Q v32 h29)))
theorem Y49.tC_eq (Q:AV→aA→Prop) (x0:AV) (x1:Int) (h:aA):Y49.tC Q x0 x1 h=f8 prog C 28 Y49.ann Y49.body (dL 0 [x0,(AV.i .i64 x1)]) h [] (aEK prog Tryd.f87 Q):=by kernel_rfl
theorem Y49.callC {K:AV→aA→Prop} {x0:AV} {x1:Int} {h:aA} (H:Y49.tC (aK h K) x0 x1 h):aFC prog C Y49.id [x0,(AV.i .i64 x1)] h K:=
 ⟨Tryd.f87,Y49.body,Y49.ann,Tryd.func87,Y49.body_eq,by kernel_rfl,Nat.le_of_ble_eq_true (by kernel_rfl),(Y49.tC_eq (aK h K) x0 x1 h).mp H⟩
noncomputable def Y70.body:Code:=(Tryd.f88.body).getD .skip
def Y70.ann:Ann:=(sl [0,1] (sq [0,1] (.br (sl [6,7] (sl [4,5] lf)) lf) (sl [8,9] (sl [4,5] lf))))
theorem Y70.dist:aH (places Y70.ann Y70.body)=true:=by kernel_rfl
noncomputable def Y70.J (Q:AV→aA→Prop):JT:=bI prog C Tryd.f88 Y70.ann Y70.body Q
def Y70.t (Q:AV→aA→Prop) (x0 x1:Int) (h:aA) (J:JT):Prop:=
C Y79.id [(AV.i .u64 x0),(AV.i .u64 x1)] h fun v2 h3=>
aR 0 v2 fun v4=>
asI .u64 v4 fun n5=>
aR 1 v2 fun v6=>
asI .u64 v6 fun n7=>
Q (AV.tu [(AV.i .u64 n5),(AV.i .u64 n7)]) h3
theorem Y70.call {K x0 x1 h} (H:Y70.t (aK h K) x0 x1 h (Y70.J (aK h K))):C Y70.id [(AV.i .u64 x0),(AV.i .u64 x1)] h K:=
 gC Y70.J Tryd.func88 Y70.dist H
noncomputable def Y80.body:Code:=(Tryd.f89.body).getD .skip
def Y80.ann:Ann:=(sl [1] (sl [2] lf))
theorem Y80.dist:aH (places Y80.ann Y80.body)=true:=by kernel_rfl
noncomputable def Y80.J (Q:AV→aA→Prop):JT:=bI prog C Tryd.f89 Y80.ann Y80.body Q
def Y80.t (Q:AV→aA→Prop) (x0:AV) (h:aA) (J:JT):Prop:=
dD none x0 h fun v0 h1=>
Q (AV.fn (.func Y33.id) [] [v0]) h1
theorem Y80.call {K x0 h} (H:Y80.t (aK h K) x0 h (Y80.J (aK h K))):C Y80.id [x0] h K:=
 gC Y80.J Tryd.func89 Y80.dist H
noncomputable def Y76.body:Code:=(Tryd.f90.body).getD .skip
def Y76.ann:Ann:=(sl [1,2] (sl [3] lf))
theorem Y76.dist:aH (places Y76.ann Y76.body)=true:=by kernel_rfl
noncomputable def Y76.J (Q:AV→aA→Prop):JT:=bI prog C Tryd.f90 Y76.ann Y76.body Q
def Y76.t (Q:AV→aA→Prop) (x0:Int) (x1:AV) (h:aA) (J:JT):Prop:=
dD none (AV.i .i64 x0) h fun v0 h1=>
aB x1 h1 fun v3=>
C Y36.id [v3,(AV.i .i64 16),(AV.fn (.func Y73.id) [] [v0,x1])] h1 fun v4 h5=>
asI .i64 v4 fun n6=>
Q (AV.i .i64 n6) h5
theorem Y76.call {K x0 x1 h} (H:Y76.t (aK h K) x0 x1 h (Y76.J (aK h K))):C Y76.id [(AV.i .i64 x0),x1] h K:=
 gC Y76.J Tryd.func90 Y76.dist H
noncomputable def Y73.body:Code:=(Tryd.f91.body).getD .skip
def Y73.ann:Ann:=(sl [0,1,2] (sq [1,2] (sl [1,2,8] (.br (sl [4] lf) lf)) (sl [4] lf)))
theorem Y73.dist:aH (places Y73.ann Y73.body)=true:=by kernel_rfl
noncomputable def Y73.J (Q:AV→aA→Prop):JT:=bI prog C Tryd.f91 Y73.ann Y73.body Q
def Y73.t (Q:AV→aA→Prop) (x0:Int) (x1 x2:AV) (h:aA) (J:JT):Prop:=
aB x1 h fun v1=>
asI .i64 v1 fun n2=>
aJ (IntKind.wrap .i64 (65535 - n2)) fun n3=>
(bif (!decide ((x0:Int)=n3)) then
(Q (AV.i .i64 2) h)
else
(aB x2 h fun v7=>
aB x1 h fun v8=>
asI .i64 v8 fun n9=>
C Y51.id [v7,(AV.i .i64 n9)] h fun v10 h11=>
asI .i64 v10 fun n12=>
Q (AV.i .i64 n12) h11))
theorem Y73.call {K x0 x1 x2 h} (H:Y73.t (aK h K) x0 x1 x2 h (Y73.J (aK h K))):C Y73.id [(AV.i .i64 x0),x1,x2] h K:=
 gC Y73.J Tryd.func91 Y73.dist H
noncomputable def Y51.body:Code:=(Tryd.f92.body).getD .skip
def Y51.ann:Ann:=(sl [2,3] (sq [2,3] (sl [2,3,6] (.br (sl [4] lf) lf)) (sl [4] lf)))
theorem Y51.dist:aH (places Y51.ann Y51.body)=true:=by kernel_rfl
noncomputable def Y51.J (Q:AV→aA→Prop):JT:=bI prog C Tryd.f92 Y51.ann Y51.body Q
def Y51.t (Q:AV→aA→Prop) (x0:AV) (x1:Int) (h:aA) (J:JT):Prop:=
dD none x0 h fun v0 h1=>
dD none (AV.i .i64 x1) h1 fun v2 h3=>
aB v2 h3 fun v5=>
asI .i64 v5 fun n6=>
(bif (decide ((n6:Int)=0)) then
(aB v0 h3 fun v8=>
C Y46.id [v8] h3 fun v9 h10=>
asI .i64 v9 fun n11=>
Q (AV.i .i64 n11) h10)
else
(aB v0 h3 fun v14=>
C Y36.id [v14,(AV.i .i64 8),(AV.fn (.func Y64.id) [] [v0,v2])] h3 fun v15 h16=>
asI .i64 v15 fun n17=>
Q (AV.i .i64 n17) h16))
theorem Y51.call {K x0 x1 h} (H:Y51.t (aK h K) x0 x1 h (Y51.J (aK h K))):C Y51.id [x0,(AV.i .i64 x1)] h K:=
 gC Y51.J Tryd.func92 Y51.dist H
noncomputable def Y57.body:Code:=(Tryd.f93.body).getD .skip
def Y57.ann:Ann:=(sl [0,1,2] (sl [0,2,7,8] (sq [0,2,7] (sl [0,2,7,16] (.br (sl [6] lf) lf)) (sl [0,7,8,9] (sq [0,7,9] (sl [0,7,9,23] (.br (sl [6] lf) lf)) (sl [6] lf))))))
theorem Y57.dist:aH (places Y57.ann Y57.body)=true:=by kernel_rfl
noncomputable def Y57.J (Q:AV→aA→Prop):JT:=bI prog C Tryd.f93 Y57.ann Y57.body Q
def Y57.t (Q:AV→aA→Prop) (x0 x1 x2:AV) (h:aA) (J:JT):Prop:=
C Y9.id [x1] h fun v1 h2=>
aR 0 v1 fun v3=>
aR 1 v1 fun v4=>
asI .i64 v4 fun n5=>
(bif (!decide ((n5:Int)=0)) then
(Q (AV.i .i64 2) h2)
else
(C Y9.id [x2] h2 fun v10 h11=>
aR 0 v10 fun v12=>
aR 1 v10 fun v13=>
asI .i64 v13 fun n14=>
(bif (!decide ((n14:Int)=0)) then
(Q (AV.i .i64 2) h11)
else
(C Y43.id [x0,v3,v12] h11 fun v19 h20=>
asI .i64 v19 fun n21=>
Q (AV.i .i64 n21) h20))))
theorem Y57.call {K x0 x1 x2 h} (H:Y57.t (aK h K) x0 x1 x2 h (Y57.J (aK h K))):C Y57.id [x0,x1,x2] h K:=
 gC Y57.J Tryd.func93 Y57.dist H
noncomputable def Y66.body:Code:=(Tryd.f94.body).getD .skip
def Y66.ann:Ann:=(sl [0,1] (sl [1,4] (sq [1,4] (sl [1,4,8] (.br (sl [3] lf) lf)) (sl [3] lf))))
theorem Y66.dist:aH (places Y66.ann Y66.body)=true:=by kernel_rfl
noncomputable def Y66.J (Q:AV→aA→Prop):JT:=bI prog C Tryd.f94 Y66.ann Y66.body Q
def Y66.t (Q:AV→aA→Prop) (x0:Int) (x1:AV) (h:aA) (J:JT):Prop:=
aJ (IntKind.wrap .i64 (x0+257)) fun n1=>
cX none [(AV.i .i64 0)] h fun v2 h3=>
aV 1 v2 (AV.i .i64 n1) h3 fun h4=>
aB v2 h4 fun v6=>
asI .i64 v6 fun n7=>
(bif (decide ((286:Int)<n7)) then
(Q (AV.i .i64 2) h4)
else
(aB x1 h4 fun v11=>
C Y36.id [v11,(AV.i .i64 5),(AV.fn (.func Y77.id) [] [x1,v2])] h4 fun v12 h13=>
asI .i64 v12 fun n14=>
Q (AV.i .i64 n14) h13))
theorem Y66.call {K x0 x1 h} (H:Y66.t (aK h K) x0 x1 h (Y66.J (aK h K))):C Y66.id [(AV.i .i64 x0),x1] h K:=
 gC Y66.J Tryd.func94 Y66.dist H
noncomputable def Y77.body:Code:=(Tryd.f95.body).getD .skip
def Y77.ann:Ann:=(sl [0,1,2] (sl [1,2,5] (sq [1,2,5] (sl [1,2,5,9] (.br (sl [4] lf) lf)) (sl [4] lf))))
theorem Y77.dist:aH (places Y77.ann Y77.body)=true:=by kernel_rfl
noncomputable def Y77.J (Q:AV→aA→Prop):JT:=bI prog C Tryd.f95 Y77.ann Y77.body Q
def Y77.t (Q:AV→aA→Prop) (x0:Int) (x1 x2:AV) (h:aA) (J:JT):Prop:=
aJ (IntKind.wrap .i64 (x0+1)) fun n1=>
cX none [(AV.i .i64 0)] h fun v2 h3=>
aV 1 v2 (AV.i .i64 n1) h3 fun h4=>
aB v2 h4 fun v6=>
asI .i64 v6 fun n7=>
(bif (decide ((30:Int)<n7)) then
(Q (AV.i .i64 2) h4)
else
(aB x1 h4 fun v11=>
C Y36.id [v11,(AV.i .i64 4),(AV.fn (.func Y75.id) [] [x1,x2,v2])] h4 fun v12 h13=>
asI .i64 v12 fun n14=>
Q (AV.i .i64 n14) h13))
theorem Y77.call {K x0 x1 x2 h} (H:Y77.t (aK h K) x0 x1 x2 h (Y77.J (aK h K))):C Y77.id [(AV.i .i64 x0),x1,x2] h K:=
 gC Y77.J Tryd.func95 Y77.dist H
noncomputable def Y75.body:Code:=(Tryd.f96.body).getD .skip
def Y75.ann:Ann:=(sl [0,1,2,3] (sq [5] (.ord (.neu 0 (nn 2 4 (.eff 1 (.eff 6 (.neu 7 .done) .stop) .stop)))) lf))
theorem Y75.dist:aH (places Y75.ann Y75.body)=true:=by kernel_rfl
noncomputable def Y75.J (Q:AV→aA→Prop):JT:=bI prog C Tryd.f96 Y75.ann Y75.body Q
def Y75.t (Q:AV→aA→Prop) (x0:Int) (x1 x2 x3:AV) (h:aA) (J:JT):Prop:=
aB x1 h fun v1=>
aJ (IntKind.wrap .i64 (x0+4)) fun n2=>
aB x2 h fun v3=>
asI .i64 v3 fun n4=>
aB x3 h fun v5=>
asI .i64 v5 fun n6=>
lT 1 8 [(AV.i .i64 0)] (AV.i .i64 19) (AV.i .i64 19) h fun v7 h8=>
aB x3 h8 fun v9=>
asI .i64 v9 fun n10=>
((AV.i .i64 n6)=(AV.i .i64 n10) ∧
(aB x2 h8 fun v11=>
asI .i64 v11 fun n12=>
((AV.i .i64 n4)=(AV.i .i64 n12) ∧
(aB x1 h8 fun v13=>
(v1=v13 ∧
(C Y50.id [v1,v7,(AV.i .i64 0),(AV.i .i64 n2),(AV.i .i64 n4),(AV.i .i64 n6)] h8 fun v14 h15=>
asI .i64 v14 fun n16=>
Q (AV.i .i64 n16) h15))))))
theorem Y75.call {K x0 x1 x2 x3 h} (H:Y75.t (aK h K) x0 x1 x2 x3 h (Y75.J (aK h K))):C Y75.id [(AV.i .i64 x0),x1,x2,x3] h K:=
 gC Y75.J Tryd.func96 Y75.dist H
noncomputable def Y50.body:Code:=(Tryd.f97.body).getD .skip
def Y50.ann:Ann:=(sl [6,7,8,9,10,11] (sq [6,7,8,9,10,11] (sl [6,7,8,9,10,11,17] (.br (sl [6,10,11,13,14] (sq [6,10,11,13] (sl [6,10,11,13,24] (.br (sl [12] lf) lf)) (sl [12] lf))) lf)) (sl [12] lf)))
theorem Y50.dist:aH (places Y50.ann Y50.body)=true:=by kernel_rfl
noncomputable def Y50.J (Q:AV→aA→Prop):JT:=bI prog C Tryd.f97 Y50.ann Y50.body Q
def Y50.t (Q:AV→aA→Prop) (x0 x1:AV) (x2 x3 x4 x5:Int) (h:aA) (J:JT):Prop:=
dD none x0 h fun v0 h1=>
dD none x1 h1 fun v2 h3=>
dD none (AV.i .i64 x2) h3 fun v4 h5=>
dD none (AV.i .i64 x3) h5 fun v6 h7=>
dD none (AV.i .i64 x4) h7 fun v8 h9=>
dD none (AV.i .i64 x5) h9 fun v10 h11=>
aB v4 h11 fun v13=>
asI .i64 v13 fun n14=>
aB v6 h11 fun v15=>
asI .i64 v15 fun n16=>
(bif (decide ((n14:Int)=n16)) then
(aB v2 h11 fun v18=>
C Y9.id [v18] h11 fun v19 h20=>
aR 0 v19 fun v21=>
aR 1 v19 fun v22=>
asI .i64 v22 fun n23=>
(bif (!decide ((n23:Int)=0)) then
(Q (AV.i .i64 2) h20)
else
(aB v0 h20 fun v28=>
aB v8 h20 fun v29=>
asI .i64 v29 fun n30=>
aB v10 h20 fun v31=>
asI .i64 v31 fun n32=>
C Y48.id [v28,v21,(AV.sl none 0 none),(AV.i .i64 n30),(AV.i .i64 n32)] h20 fun v33 h34=>
asI .i64 v33 fun n35=>
Q (AV.i .i64 n35) h34)))
else
(aB v0 h11 fun v38=>
C Y36.id [v38,(AV.i .i64 3),(AV.fn (.func Y69.id) [] [v2,v4,v0,v6,v8,v10])] h11 fun v39 h40=>
asI .i64 v39 fun n41=>
Q (AV.i .i64 n41) h40))
theorem Y50.call {K x0 x1 x2 x3 x4 x5 h} (H:Y50.t (aK h K) x0 x1 x2 x3 x4 x5 h (Y50.J (aK h K))):C Y50.id [x0,x1,(AV.i .i64 x2),(AV.i .i64 x3),(AV.i .i64 x4),(AV.i .i64 x5)] h K:=
 gC Y50.J Tryd.func97 Y50.dist H
noncomputable def Y15.body:Code:=(Tryd.f101.body).getD .skip
def Y15.ann:Ann:=(sl [0] (sl [0,3] (sq [3] (sl [0,3,4] (.one (.loop 1 [0,3,4] (sq [0,3,4] (sl [0,3,4,8] bl) (.seq 2 [0,3,4] (.one (sl [0,3,4,15] bl)) lf))))) (sl [2] lf))))
theorem Y15.dist:aH (places Y15.ann Y15.body)=true:=by kernel_rfl
noncomputable def Y15.J (Q:AV→aA→Prop):JT:=bI prog C Tryd.f101 Y15.ann Y15.body Q
def Y15.p1 (Q:AV→aA→Prop) (x0:AV) (x3 x4:Int) (h:aA):Prop:=Y15.J Q 2 [(0,x0),(3,(AV.i .i64 x3)),(4,(AV.i .i64 x4))] h
def Y15.p0 (Q:AV→aA→Prop) (x0:AV) (x3 x4:Int) (h:aA):Prop:=Y15.J Q 1 [(0,x0),(3,(AV.i .i64 x3)),(4,(AV.i .i64 x4))] h
def Y15.t1 (Q:AV→aA→Prop) (x0:AV) (x3 x4:Int) (h:aA) (J:JT):Prop:=
aJ (IntKind.wrap .i64 (x4+1)) fun n14=>
J 1 [(0,x0),(3,(AV.i .i64 x3)),(4,(AV.i .i64 n14))] h
theorem Y15.i1 {Q x0 x3 x4 h} (H:Y15.t1 Q x0 x3 x4 h (Y15.J Q)):Y15.p1 Q x0 x3 x4 h:=gR Y15.J Tryd.f101 Y15.dist [1,1,0,1,0,0,1,1] H
def Y15.t0 (Q:AV→aA→Prop) (x0:AV) (x3 x4:Int) (h:aA) (J:JT):Prop:=
bN x0 fun n3=>
(bif (decide ((x4:Int)<n3)) then
(aP 1 x0 (AV.i .i64 x4) h fun v7=>
aB v7 h fun v8=>
asI .i64 v8 fun n9=>
(bif (decide ((0:Int)<n9)) then
(aJ (IntKind.wrap .i64 (x3+1)) fun n11=>
J 2 [(0,x0),(3,(AV.i .i64 n11)),(4,(AV.i .i64 x4))] h)
else
(J 2 [(0,x0),(3,(AV.i .i64 x3)),(4,(AV.i .i64 x4))] h)))
else
(Q (AV.i .i64 x3) h))
theorem Y15.i0 {Q x0 x3 x4 h} (H:Y15.t0 Q x0 x3 x4 h (Y15.J Q)):Y15.p0 Q x0 x3 x4 h:=gH Y15.J Tryd.f101 Y15.dist [1,1,0,1,0] H
def Y15.t (Q:AV→aA→Prop) (x0:AV) (h:aA) (J:JT):Prop:=
J 1 [(0,x0),(3,(AV.i .i64 0)),(4,(AV.i .i64 0))] h
theorem Y15.call {K x0 h} (H:Y15.t (aK h K) x0 h (Y15.J (aK h K))):C Y15.id [x0] h K:=
 gC Y15.J Tryd.func101 Y15.dist H
noncomputable def Y79.body:Code:=(Tryd.f104.body).getD .skip
def Y79.ann:Ann:=(sl [0,1] (sl [0,1,6] (sl [0,1,6,7] (sl [0,1,6,7,8] (sl [0,1,6,7,8,9] (sl [0,1,6,7,8,9,10] (sl [0,1,6,7,9,11] (sl [0,1,6,7,9,11,12] (sl [0,1,6,7,9,12,13] (sl [0,1,7,9,12,13] (sl [0,1,4] (sl [4,5] lf))))))))))))
theorem Y79.dist:aH (places Y79.ann Y79.body)=true:=by kernel_rfl
noncomputable def Y79.J (Q:AV→aA→Prop):JT:=bI prog C Tryd.f104 Y79.ann Y79.body Q
def Y79.t (Q:AV→aA→Prop) (x0 x1:Int) (h:aA) (J:JT):Prop:=
aJ (bK .and .u64 x0 4294967295) fun n1=>
jV .u64 x0 32 fun n3=>
aJ (bK .and .u64 x1 4294967295) fun n5=>
jV .u64 x1 32 fun n7=>
aJ (IntKind.wrap .u64 (n1 * n5)) fun n9=>
aJ (IntKind.wrap .u64 (n3 * n5)) fun n11=>
jV .u64 n9 32 fun n12=>
aJ (IntKind.wrap .u64 (n11+n12)) fun n13=>
aJ (bK .and .u64 n13 4294967295) fun n15=>
jV .u64 n13 32 fun n17=>
aJ (IntKind.wrap .u64 (n1 * n7)) fun n19=>
aJ (IntKind.wrap .u64 (n15+n19)) fun n20=>
aJ (IntKind.wrap .u64 (n3 * n7)) fun n22=>
aJ (IntKind.wrap .u64 (n22+n17)) fun n23=>
jV .u64 n20 32 fun n24=>
aJ (IntKind.wrap .u64 (n23+n24)) fun n25=>
aJ (IntKind.wrap .u64 (x0 * x1)) fun n27=>
Q (AV.tu [(AV.i .u64 n25),(AV.i .u64 n27)]) h
theorem Y79.call {K x0 x1 h} (H:Y79.t (aK h K) x0 x1 h (Y79.J (aK h K))):C Y79.id [(AV.i .u64 x0),(AV.i .u64 x1)] h K:=
 gC Y79.J Tryd.func104 Y79.dist H
noncomputable def Y33.body:Code:=(Tryd.f105.body).getD .skip
def Y33.ann:Ann:=(sl [0,1,3] (.one (.loop 1 [0,1,3] (sq [0,1,3] (sl [0,1,3,8] bl) (sq [0,1,3] (.one (sl [0,1,3,18] bl)) lf)))))
theorem Y33.dist:aH (places Y33.ann Y33.body)=true:=by kernel_rfl
noncomputable def Y33.J (Q:AV→aA→Prop):JT:=bI prog C Tryd.f105 Y33.ann Y33.body Q
def Y33.p0 (Q:AV→aA→Prop) (x0 x1:AV) (x3:Int) (h:aA):Prop:=Y33.J Q 1 [(0,x0),(1,x1),(3,(AV.i .i64 x3))] h
def Y33.t0 (Q:AV→aA→Prop) (x0 x1:AV) (x3:Int) (h:aA) (J:JT):Prop:=
(bif (decide ((0:Int)≤x3)) then
(aB x1 h fun v6=>
aP 1 v6 (AV.i .i64 x3) h fun v7=>
aB v7 h fun v8=>
asI .i64 v8 fun n9=>
bV C x0 [(AV.i .i64 x3),(AV.i .i64 n9)] h fun v10 h11=>
asB v10 fun c12=>
(bif (!c12) then
(Q (AV.tu []) h11)
else
(aJ (IntKind.wrap .i64 (x3 - 1)) fun n15=>
J 1 [(0,x0),(1,x1),(3,(AV.i .i64 n15))] h11)))
else
(Q (AV.tu []) h))
theorem Y33.i0 {Q x0 x1 x3 h} (H:Y33.t0 Q x0 x1 x3 h (Y33.J Q)):Y33.p0 Q x0 x1 x3 h:=gH Y33.J Tryd.f105 Y33.dist [1,0] H
def Y33.t (Q:AV→aA→Prop) (x0 x1:AV) (h:aA) (J:JT):Prop:=
aB x1 h fun v0=>
bN v0 fun n1=>
aJ (IntKind.wrap .i64 (n1 - 1)) fun n2=>
J 1 [(0,x0),(1,x1),(3,(AV.i .i64 n2))] h
theorem Y33.call {K x0 x1 h} (H:Y33.t (aK h K) x0 x1 h (Y33.J (aK h K))):C Y33.id [x0,x1] h K:=
 gC Y33.J Tryd.func105 Y33.dist H
noncomputable def Y64.body:Code:=(Tryd.f106.body).getD .skip
def Y64.ann:Ann:=(sl [0,1,2] (sq [1,2] (sl [1,2,5] (sl [1,2,5,11] (.br (sl [4] lf) lf))) (sl [4] lf)))
theorem Y64.dist:aH (places Y64.ann Y64.body)=true:=by kernel_rfl
noncomputable def Y64.J (Q:AV→aA→Prop):JT:=bI prog C Tryd.f106 Y64.ann Y64.body Q
def Y64.t (Q:AV→aA→Prop) (x0:Int) (x1 x2:AV) (h:aA) (J:JT):Prop:=
aB x1 h fun v1=>
C Y22.id [v1,(AV.i .u8 (IntKind.wrap .u8 x0))] h fun v2 h3=>
asI .i64 v2 fun n4=>
(bif (!decide ((n4:Int)=0)) then
(Q (AV.i .i64 n4) h3)
else
(aB x1 h3 fun v9=>
aB x2 h3 fun v10=>
asI .i64 v10 fun n11=>
aJ (IntKind.wrap .i64 (n11 - 1)) fun n12=>
C Y51.id [v9,(AV.i .i64 n12)] h3 fun v13 h14=>
asI .i64 v13 fun n15=>
Q (AV.i .i64 n15) h14))
theorem Y64.call {K x0 x1 x2 h} (H:Y64.t (aK h K) x0 x1 x2 h (Y64.J (aK h K))):C Y64.id [(AV.i .i64 x0),x1,x2] h K:=
 gC Y64.J Tryd.func106 Y64.dist H
noncomputable def Y22.body:Code:=(Tryd.f107.body).getD .skip
def Y22.ann:Ann:=(sl [0,1] (sq [0,1] (.seq 1 [0,1,32] (.ord (nn 0 28 .done)) (.br (sl [4] lf) lf)) (sl [0,1] (sl [0,1] (.seq 2 [0,1] (sl [0,1,55] bl) (sl [] (sl [4] lf)))))))
theorem Y22.dist:aH (places Y22.ann Y22.body)=true:=by kernel_rfl
noncomputable def Y22.J (Q:AV→aA→Prop):JT:=bI prog C Tryd.f107 Y22.ann Y22.body Q
def Y22.p0 (Q:AV→aA→Prop) (x0:AV) (x1:Int) (x32:Bool) (h:aA):Prop:=Y22.J Q 1 [(0,x0),(1,(AV.i .u8 x1)),(32,(AV.b x32))] h
def Y22.p1 (Q:AV→aA→Prop) (x0:AV) (x1:Int) (h:aA):Prop:=Y22.J Q 2 [(0,x0),(1,(AV.i .u8 x1))] h
def Y22.t0 (Q:AV→aA→Prop) (x0:AV) (x1:Int) (x32:Bool) (h:aA) (J:JT):Prop:=
(bif x32 then
(Q (AV.i .i64 16) h)
else
(aZ x0 fun v29=>
aC 3 v29 fun v30=>
aB v30 h fun v31=>
asI .i64 v31 fun n32=>
aJ (IntKind.wrap .i64 (n32+1)) fun n33=>
aZ x0 fun v34=>
aC 3 v34 fun v35=>
aV 1 v35 (AV.i .i64 n33) h fun h36=>
aZ x0 fun v38=>
aC 4 v38 fun v39=>
aB v39 h36 fun v40=>
bF 1 1 [(AV.i .u8 0)] [(0,1,(AV.i .u8 x1))] h36 fun v41 h42=>
bM (some 5) 1 1 v40 v41 h42 fun v43 h44=>
aZ x0 fun v45=>
aC 4 v45 fun v46=>
aV 1 v46 v43 h44 fun h47=>
aZ x0 fun v49=>
aC 2 v49 fun v50=>
aB v50 h47 fun v51=>
bN v51 fun n52=>
(bif (decide ((65536:Int)≤n52)) then
(aZ x0 fun v54=>
aC 2 v54 fun v55=>
aB v55 h47 fun v56=>
bG 1 v56 (some (AV.i .i64 32768)) none none h47 fun v57=>
C Y82.id [v57] h47 fun v58 h59=>
aZ x0 fun v60=>
aC 2 v60 fun v61=>
aV 1 v61 v58 h59 fun h62=>
J 2 [(0,x0),(1,(AV.i .u8 x1))] h62)
else
(J 2 [(0,x0),(1,(AV.i .u8 x1))] h47))))
theorem Y22.i0 {Q x0 x1 x32 h} (H:Y22.t0 Q x0 x1 x32 h (Y22.J Q)):Y22.p0 Q x0 x1 x32 h:=gR Y22.J Tryd.f107 Y22.dist [1,0,1] H
def Y22.t1 (Q:AV→aA→Prop) (x0:AV) (x1:Int) (h:aA) (J:JT):Prop:=
aZ x0 fun v65=>
aC 2 v65 fun v66=>
aB v66 h fun v67=>
bF 1 1 [(AV.i .u8 0)] [(0,1,(AV.i .u8 x1))] h fun v68 h69=>
bM (some 5) 1 1 v67 v68 h69 fun v70 h71=>
aZ x0 fun v72=>
aC 2 v72 fun v73=>
aV 1 v73 v70 h71 fun h74=>
Q (AV.i .i64 0) h74
theorem Y22.i1 {Q x0 x1 h} (H:Y22.t1 Q x0 x1 h (Y22.J Q)):Y22.p1 Q x0 x1 h:=gR Y22.J Tryd.f107 Y22.dist [1,1,1,1,1] H
def Y22.t (Q:AV→aA→Prop) (x0:AV) (x1:Int) (h:aA) (J:JT):Prop:=
aZ x0 fun v1=>
aC 3 v1 fun v2=>
aB v2 h fun v3=>
asI .i64 v3 fun n4=>
aZ x0 fun v5=>
aC 0 v5 fun v6=>
aC 0 v6 fun v7=>
aB v7 h fun v8=>
asI .i64 v8 fun n9=>
(bif (decide ((n9:Int)≤n4)) then
(J 1 [(0,x0),(1,(AV.i .u8 x1)),(32,(AV.b true))] h)
else
(aZ x0 fun v11=>
aC 3 v11 fun v12=>
aB v12 h fun v13=>
asI .i64 v13 fun n14=>
aZ x0 fun v15=>
aC 0 v15 fun v16=>
aC 1 v16 fun v17=>
aB v17 h fun v18=>
asI .i64 v18 fun n19=>
aZ x0 fun v20=>
aC 5 v20 fun v21=>
aB v21 h fun v22=>
asI .i64 v22 fun n23=>
aJ (IntKind.wrap .i64 (n19 * n23)) fun n24=>
aJ (IntKind.wrap .i64 (n24+1024)) fun n25=>
J 1 [(0,x0),(1,(AV.i .u8 x1)),(32,(AV.b (decide ((n25:Int)≤n14))))] h))
theorem Y22.call {K x0 x1 h} (H:Y22.t (aK h K) x0 x1 h (Y22.J (aK h K))):C Y22.id [x0,(AV.i .u8 x1)] h K:=
 gC Y22.J Tryd.func107 Y22.dist H
noncomputable def Y9.body:Code:=(Tryd.f108.body).getD .skip
def Y9.ann:Ann:=(sl [0] (sq [0] (sl [0,4] (sl [0,4,12] (.br (sl [2,3] lf) lf))) (sl [0,5] (sq [5] (sl [0,5,6] (.one (.loop 1 [0,5,6] (sq [0,5,6] (sl [0,5,6,19] bl) (sq [0,5,6] (.one (sq [0,5,6] (.ord (nn 0 10 (.eff 10 .done .stop))) (sl [0,5,6,32,33,34] (.one (.loop 2 [0,5,6,32,33,34] (sl [0,5,6,32,33,34,35] (sq [0,5,6,32,33,34] bl (.seq 3 [0,5,6,32,33,34] (.one (sl [0,5,6,7,8,32,33,34] (sl [0,5,6,7,32,33,34,41] (.br (sl [0,5,6,32,33,34] lf) lf)))) lf)))))))) lf))))) (sl [2,3] lf)))))
theorem Y9.dist:aH (places Y9.ann Y9.body)=true:=by kernel_rfl
noncomputable def Y9.J (Q:AV→aA→Prop):JT:=bI prog C Tryd.f108 Y9.ann Y9.body Q
def Y9.p2 (Q:AV→aA→Prop) (x0 x5:AV) (x6:Int) (x32:AV) (x33 x34:Int) (h:aA):Prop:=Y9.J Q 3 [(0,x0),(5,x5),(6,(AV.i .i64 x6)),(32,x32),(33,(AV.i .i64 x33)),(34,(AV.i .i64 x34))] h
def Y9.p1 (Q:AV→aA→Prop) (x0 x5:AV) (x6:Int) (x32:AV) (x33 x34:Int) (h:aA):Prop:=Y9.J Q 2 [(0,x0),(5,x5),(6,(AV.i .i64 x6)),(32,x32),(33,(AV.i .i64 x33)),(34,(AV.i .i64 x34))] h
def Y9.p0 (Q:AV→aA→Prop) (x0 x5:AV) (x6:Int) (h:aA):Prop:=Y9.J Q 1 [(0,x0),(5,x5),(6,(AV.i .i64 x6))] h
def Y9.t2 (Q:AV→aA→Prop) (x0 x5:AV) (x6:Int) (x32:AV) (x33 x34:Int) (h:aA) (J:JT):Prop:=
aJ (IntKind.wrap .i64 (x34+1)) fun n53=>
J 2 [(0,x0),(5,x5),(6,(AV.i .i64 x6)),(32,x32),(33,(AV.i .i64 x33)),(34,(AV.i .i64 n53))] h
theorem Y9.i2 {Q x0 x5 x6 x32 x33 x34 h} (H:Y9.t2 Q x0 x5 x6 x32 x33 x34 h (Y9.J Q)):Y9.p2 Q x0 x5 x6 x32 x33 x34 h:=gR Y9.J Tryd.f108 Y9.dist [1,1,1,0,1,0,0,1,0,0,1,1,0,0,1,1,1] H
def Y9.t1 (Q:AV→aA→Prop) (x0 x5:AV) (x6:Int) (x32:AV) (x33 x34:Int) (h:aA) (J:JT):Prop:=
(bif (decide ((x34:Int)<x33)) then
(aP 1 x32 (AV.i .i64 x34) h fun v32=>
aB v32 h fun v33=>
asI .i64 v33 fun n34=>
(bif (decide ((n34:Int)=x6)) then
(aZ x5 fun v37=>
aC 32 v37 fun v38=>
aB v38 h fun v39=>
bF 1 1 [(AV.i .i64 0)] [(0,1,(AV.i .i64 x34))] h fun v40 h41=>
bM none 1 8 v39 v40 h41 fun v42 h43=>
aZ x5 fun v44=>
aC 32 v44 fun v45=>
aV 1 v45 v42 h43 fun h46=>
aZ x5 fun v48=>
aC 49 v48 fun v49=>
aV 1 v49 (AV.i .i64 x6) h46 fun h50=>
J 3 [(0,x0),(5,x5),(6,(AV.i .i64 x6)),(32,x32),(33,(AV.i .i64 x33)),(34,(AV.i .i64 x34))] h50)
else
(J 3 [(0,x0),(5,x5),(6,(AV.i .i64 x6)),(32,x32),(33,(AV.i .i64 x33)),(34,(AV.i .i64 x34))] h)))
else
(aJ (IntKind.wrap .i64 (x6+1)) fun n55=>
J 1 [(0,x0),(5,x5),(6,(AV.i .i64 n55))] h))
theorem Y9.i1 {Q x0 x5 x6 x32 x33 x34 h} (H:Y9.t1 Q x0 x5 x6 x32 x33 x34 h (Y9.J Q)):Y9.p1 Q x0 x5 x6 x32 x33 x34 h:=gH Y9.J Tryd.f108 Y9.dist [1,1,1,0,1,0,0,1,0,0,1,1,0] H
def Y9.t0 (Q:AV→aA→Prop) (x0 x5:AV) (x6:Int) (h:aA) (J:JT):Prop:=
(bif (decide ((x6:Int)≤15)) then
(aZ x5 fun v18=>
aC 32 v18 fun v19=>
aB v19 h fun v20=>
bN v20 fun n21=>
aZ x5 fun v22=>
aC 33 v22 fun v23=>
bH 16 1 v23 (AV.i .i64 x6) fun v24=>
aV 1 v24 (AV.i .i64 n21) h fun h25=>
bN x0 fun n27=>
J 2 [(0,x0),(5,x5),(6,(AV.i .i64 x6)),(32,x0),(33,(AV.i .i64 n27)),(34,(AV.i .i64 0))] h25)
else
(Q (AV.tu [x5,(AV.i .i64 0)]) h))
theorem Y9.i0 {Q x0 x5 x6 h} (H:Y9.t0 Q x0 x5 x6 h (Y9.J Q)):Y9.p0 Q x0 x5 x6 h:=gH Y9.J Tryd.f108 Y9.dist [1,1,1,0,1,0] H
def Y9.t (Q:AV→aA→Prop) (x0:AV) (h:aA) (J:JT):Prop:=
C Y6.id [x0] h fun v1 h2=>
asI .i64 v1 fun n3=>
(bif (!decide ((n3:Int)=0)) then
(Q (AV.tu [(AV.p none),(AV.i .i64 n3)]) h2)
else
(C Y10.id [x0] h2 fun v8 h9=>
iU [(AV.i .i64 0),(AV.i .i64 0),(AV.i .i64 0),(AV.i .i64 0),(AV.i .i64 0),(AV.i .i64 0),(AV.i .i64 0),(AV.i .i64 0),(AV.i .i64 0),(AV.i .i64 0),(AV.i .i64 0),(AV.i .i64 0),(AV.i .i64 0),(AV.i .i64 0),(AV.i .i64 0),(AV.i .i64 0),(AV.i .i64 0),(AV.i .i64 0),(AV.i .i64 0),(AV.i .i64 0),(AV.i .i64 0),(AV.i .i64 0),(AV.i .i64 0),(AV.i .i64 0),(AV.i .i64 0),(AV.i .i64 0),(AV.i .i64 0),(AV.i .i64 0),(AV.i .i64 0),(AV.i .i64 0),(AV.i .i64 0),(AV.i .i64 0),(AV.sl none 0 none),(AV.i .i64 0),(AV.i .i64 0),(AV.i .i64 0),(AV.i .i64 0),(AV.i .i64 0),(AV.i .i64 0),(AV.i .i64 0),(AV.i .i64 0),(AV.i .i64 0),(AV.i .i64 0),(AV.i .i64 0),(AV.i .i64 0),(AV.i .i64 0),(AV.i .i64 0),(AV.i .i64 0),(AV.i .i64 0),(AV.i .i64 0),(AV.i .i64 0),(AV.i .i64 0)] [(0,32,v8)] fun v10=>
dD (some 136) v10 h9 fun v11 h12=>
J 1 [(0,x0),(5,v11),(6,(AV.i .i64 1))] h12))
theorem Y9.call {K x0 h} (H:Y9.t (aK h K) x0 h (Y9.J (aK h K))):C Y9.id [x0] h K:=
 gC Y9.J Tryd.func108 Y9.dist H
noncomputable def Y43.body:Code:=(Tryd.f109.body).getD .skip
def Y43.ann:Ann:=(sl [3,4,5] (sl [6] lf))
theorem Y43.dist:aH (places Y43.ann Y43.body)=true:=by kernel_rfl
noncomputable def Y43.J (Q:AV→aA→Prop):JT:=bI prog C Tryd.f109 Y43.ann Y43.body Q
def Y43.t (Q:AV→aA→Prop) (x0 x1 x2:AV) (h:aA) (J:JT):Prop:=
dD none x0 h fun v0 h1=>
dD none x1 h1 fun v2 h3=>
dD none x2 h3 fun v4 h5=>
aB v0 h5 fun v7=>
aB v2 h5 fun v8=>
C Y45.id [v7,v8,(AV.fn (.func Y72.id) [] [v0,v2,v4])] h5 fun v9 h10=>
asI .i64 v9 fun n11=>
Q (AV.i .i64 n11) h10
theorem Y43.call {K x0 x1 x2 h} (H:Y43.t (aK h K) x0 x1 x2 h (Y43.J (aK h K))):C Y43.id [x0,x1,x2] h K:=
 gC Y43.J Tryd.func109 Y43.dist H
noncomputable def Y48.body:Code:=(Tryd.f110.body).getD .skip
def Y48.ann:Ann:=(sl [5,6,7,8,9] (sq [5,6,7,8,9] (sl [5,6,7,8,9,17] (.br (sq [10] (.ord (nn 0 7 (.eff 7 (.neu 8 .done) .stop))) lf) lf)) (sl [5,6,7,8,9,11] (sl [10] lf))))
theorem Y48.dist:aH (places Y48.ann Y48.body)=true:=by kernel_rfl
noncomputable def Y48.J (Q:AV→aA→Prop):JT:=bI prog C Tryd.f110 Y48.ann Y48.body Q
def Y48.t (Q:AV→aA→Prop) (x0 x1 x2:AV) (x3 x4:Int) (h:aA) (J:JT):Prop:=
dD none x0 h fun v0 h1=>
dD none x1 h1 fun v2 h3=>
dD none x2 h3 fun v4 h5=>
dD none (AV.i .i64 x3) h5 fun v6 h7=>
dD none (AV.i .i64 x4) h7 fun v8 h9=>
aB v4 h9 fun v11=>
bN v11 fun n12=>
aB v6 h9 fun v13=>
asI .i64 v13 fun n14=>
aB v8 h9 fun v15=>
asI .i64 v15 fun n16=>
aJ (IntKind.wrap .i64 (n14+n16)) fun n17=>
(bif (decide ((n12:Int)=n17)) then
(aB v0 h9 fun v19=>
aB v4 h9 fun v20=>
aB v6 h9 fun v21=>
asI .i64 v21 fun n22=>
bG 1 v20 none (some (AV.i .i64 n22)) none h9 fun v23=>
aB v4 h9 fun v24=>
aB v6 h9 fun v25=>
asI .i64 v25 fun n26=>
bG 1 v24 (some (AV.i .i64 n26)) none none h9 fun v27=>
C Y57.id [v19,v23,v27] h9 fun v28 h29=>
asI .i64 v28 fun n30=>
Q (AV.i .i64 n30) h29)
else
(cX none [AV.nf] h9 fun v33 h34=>
aV 1 v33 (AV.fn (.func Y56.id) [] [v0,v4,v6,v8,v2]) h34 fun h35=>
aB v0 h35 fun v37=>
aB v2 h35 fun v38=>
C Y45.id [v37,v38,(AV.fn (.func Y32.id) [] [v0,v2,v4,v6,v8,v33])] h35 fun v39 h40=>
asI .i64 v39 fun n41=>
Q (AV.i .i64 n41) h40))
theorem Y48.call {K x0 x1 x2 x3 x4 h} (H:Y48.t (aK h K) x0 x1 x2 x3 x4 h (Y48.J (aK h K))):C Y48.id [x0,x1,x2,(AV.i .i64 x3),(AV.i .i64 x4)] h K:=
 gC Y48.J Tryd.func110 Y48.dist H
noncomputable def Y69.body:Code:=(Tryd.f111.body).getD .skip
def Y69.ann:Ann:=(sl [0,1,2,3,4,5,6] (sq [1,2,3,4,5,6] (.ord (nn 0 6 (.eff 6 .done .stop))) (sl [8] lf)))
theorem Y69.dist:aH (places Y69.ann Y69.body)=true:=by kernel_rfl
noncomputable def Y69.J (Q:AV→aA→Prop):JT:=bI prog C Tryd.f111 Y69.ann Y69.body Q
def Y69.t (Q:AV→aA→Prop) (x0:Int) (x1 x2 x3 x4 x5 x6:AV) (h:aA) (J:JT):Prop:=
aB x1 h fun v1=>
aB x2 h fun v2=>
asI .i64 v2 fun n3=>
bH 19 1 (yZ h 0) (AV.i .i64 n3) fun v4=>
aB v4 h fun v5=>
asI .i64 v5 fun n6=>
aP 1 v1 (AV.i .i64 n6) h fun v7=>
aV 1 v7 (AV.i .i64 x0) h fun h8=>
aB x3 h8 fun v10=>
aB x1 h8 fun v11=>
aB x2 h8 fun v12=>
asI .i64 v12 fun n13=>
aJ (IntKind.wrap .i64 (n13+1)) fun n14=>
aB x4 h8 fun v15=>
asI .i64 v15 fun n16=>
aB x5 h8 fun v17=>
asI .i64 v17 fun n18=>
aB x6 h8 fun v19=>
asI .i64 v19 fun n20=>
C Y50.id [v10,v11,(AV.i .i64 n14),(AV.i .i64 n16),(AV.i .i64 n18),(AV.i .i64 n20)] h8 fun v21 h22=>
asI .i64 v21 fun n23=>
Q (AV.i .i64 n23) h22
theorem Y69.call {K x0 x1 x2 x3 x4 x5 x6 h} (H:Y69.t (aK h K) x0 x1 x2 x3 x4 x5 x6 h (Y69.J (aK h K))):C Y69.id [(AV.i .i64 x0),x1,x2,x3,x4,x5,x6] h K:=
 gC Y69.J Tryd.func111 Y69.dist H
noncomputable def Y45.body:Code:=(Tryd.f113.body).getD .skip
def Y45.ann:Ann:=(sl [0,1,2] (sl [] (sl [6] lf)))
theorem Y45.dist:aH (places Y45.ann Y45.body)=true:=by kernel_rfl
noncomputable def Y45.J (Q:AV→aA→Prop):JT:=bI prog C Tryd.f113 Y45.ann Y45.body Q
def Y45.t (Q:AV→aA→Prop) (x0 x1 x2:AV) (h:aA) (J:JT):Prop:=
aZ x0 fun v1=>
aC 14 v1 fun v2=>
aV 1 v2 x1 h fun h3=>
aZ x0 fun v4=>
aC 15 v4 fun v5=>
aV 1 v5 x2 h3 fun h6=>
Q (AV.i .i64 0) h6
theorem Y45.call {K x0 x1 x2 h} (H:Y45.t (aK h K) x0 x1 x2 h (Y45.J (aK h K))):C Y45.id [x0,x1,x2] h K:=
 gC Y45.J Tryd.func113 Y45.dist H
noncomputable def Y72.body:Code:=(Tryd.f114.body).getD .skip
def Y72.ann:Ann:=(sl [0,1,2,3] (sq [0,1,2,3] (.one (sl [0,1,2,3,9] (.br (sq [1,2,3] (sl [1,2,3,6] (sl [1,2,3,6,17] (.br (sl [5] lf) lf))) (sl [5] lf)) (sl [0,1,2,3,23] (.br (sl [5] lf) (sl [0,1,2,3,28] (.br (sl [5] lf) lf))))))) (sl [1,2,3,7,8] (sl [5] lf))))
theorem Y72.dist:aH (places Y72.ann Y72.body)=true:=by kernel_rfl
noncomputable def Y72.J (Q:AV→aA→Prop):JT:=bI prog C Tryd.f114 Y72.ann Y72.body Q
def Y72.t (Q:AV→aA→Prop) (x0:Int) (x1 x2 x3:AV) (h:aA) (J:JT):Prop:=
(bif (decide ((x0:Int)<256)) then
(aB x1 h fun v2=>
C Y22.id [v2,(AV.i .u8 (IntKind.wrap .u8 x0))] h fun v3 h4=>
asI .i64 v3 fun n5=>
(bif (!decide ((n5:Int)=0)) then
(Q (AV.i .i64 n5) h4)
else
(aB x1 h4 fun v10=>
aB x2 h4 fun v11=>
aB x3 h4 fun v12=>
C Y43.id [v10,v11,v12] h4 fun v13 h14=>
asI .i64 v13 fun n15=>
Q (AV.i .i64 n15) h14)))
else
((bif (decide ((x0:Int)=256)) then
(aB x1 h fun v18=>
C Y46.id [v18] h fun v19 h20=>
asI .i64 v19 fun n21=>
Q (AV.i .i64 n21) h20)
else
((bif (decide ((285:Int)<x0)) then
(Q (AV.i .i64 2) h)
else
(C Y41.id [(AV.i .i64 x0)] h fun v26 h27=>
aR 0 v26 fun v28=>
asI .i64 v28 fun n29=>
aR 1 v26 fun v30=>
asI .i64 v30 fun n31=>
cX none [(AV.i .i64 0)] h27 fun v32 h33=>
aV 1 v32 (AV.i .i64 n29) h33 fun h34=>
aB x1 h34 fun v36=>
C Y36.id [v36,(AV.i .i64 n31),(AV.fn (.func Y65.id) [] [x1,x3,v32,x2])] h34 fun v37 h38=>
asI .i64 v37 fun n39=>
Q (AV.i .i64 n39) h38))))))
theorem Y72.call {K x0 x1 x2 x3 h} (H:Y72.t (aK h K) x0 x1 x2 x3 h (Y72.J (aK h K))):C Y72.id [(AV.i .i64 x0),x1,x2,x3] h K:=
 gC Y72.J Tryd.func114 Y72.dist H
noncomputable def Y65.body:Code:=(Tryd.f115.body).getD .skip
def Y65.ann:Ann:=(sl [1,2,3,4,5] (sl [6] lf))
theorem Y65.dist:aH (places Y65.ann Y65.body)=true:=by kernel_rfl
noncomputable def Y65.J (Q:AV→aA→Prop):JT:=bI prog C Tryd.f115 Y65.ann Y65.body Q
def Y65.t (Q:AV→aA→Prop) (x0:Int) (x1 x2 x3 x4:AV) (h:aA) (J:JT):Prop:=
dD none (AV.i .i64 x0) h fun v0 h1=>
aB x1 h1 fun v3=>
aB x2 h1 fun v4=>
C Y45.id [v3,v4,(AV.fn (.func Y59.id) [] [x1,x3,v0,x4,x2])] h1 fun v5 h6=>
asI .i64 v5 fun n7=>
Q (AV.i .i64 n7) h6
theorem Y65.call {K x0 x1 x2 x3 x4 h} (H:Y65.t (aK h K) x0 x1 x2 x3 x4 h (Y65.J (aK h K))):C Y65.id [(AV.i .i64 x0),x1,x2,x3,x4] h K:=
 gC Y65.J Tryd.func115 Y65.dist H
noncomputable def Y59.body:Code:=(Tryd.f116.body).getD .skip
def Y59.ann:Ann:=(sl [0,1,2,3,4,5] (sq [0,1,2,3,4,5] (sl [0,1,2,3,4,5,11] (.br (sl [7] lf) lf)) (sl [1,2,3,4,5,8,9] (sl [7] lf))))
theorem Y59.dist:aH (places Y59.ann Y59.body)=true:=by kernel_rfl
noncomputable def Y59.J (Q:AV→aA→Prop):JT:=bI prog C Tryd.f116 Y59.ann Y59.body Q
def Y59.t (Q:AV→aA→Prop) (x0:Int) (x1 x2 x3 x4 x5:AV) (h:aA) (J:JT):Prop:=
(bif (decide ((29:Int)<x0)) then
(Q (AV.i .i64 2) h)
else
(C Y47.id [(AV.i .i64 x0)] h fun v4 h5=>
aR 0 v4 fun v6=>
asI .i64 v6 fun n7=>
aR 1 v4 fun v8=>
asI .i64 v8 fun n9=>
cX none [(AV.i .i64 0)] h5 fun v10 h11=>
aV 1 v10 (AV.i .i64 n7) h11 fun h12=>
aB x1 h12 fun v14=>
C Y36.id [v14,(AV.i .i64 n9),(AV.fn (.func Y71.id) [] [x1,x2,x3,v10,x4,x5])] h12 fun v15 h16=>
asI .i64 v15 fun n17=>
Q (AV.i .i64 n17) h16))
theorem Y59.call {K x0 x1 x2 x3 x4 x5 h} (H:Y59.t (aK h K) x0 x1 x2 x3 x4 x5 h (Y59.J (aK h K))):C Y59.id [(AV.i .i64 x0),x1,x2,x3,x4,x5] h K:=
 gC Y59.J Tryd.func116 Y59.dist H
noncomputable def Y71.body:Code:=(Tryd.f117.body).getD .skip
def Y71.ann:Ann:=(sl [0,1,2,3,4,5,6] (sq [1,5,6] (sl [1,5,6,9] (sl [1,5,6,9,19] (.br (sl [8] lf) lf))) (sl [8] lf)))
theorem Y71.dist:aH (places Y71.ann Y71.body)=true:=by kernel_rfl
noncomputable def Y71.J (Q:AV→aA→Prop):JT:=bI prog C Tryd.f117 Y71.ann Y71.body Q
def Y71.t (Q:AV→aA→Prop) (x0:Int) (x1 x2 x3 x4 x5 x6:AV) (h:aA) (J:JT):Prop:=
aB x1 h fun v1=>
aB x2 h fun v2=>
asI .i64 v2 fun n3=>
aB x3 h fun v4=>
asI .i64 v4 fun n5=>
aJ (IntKind.wrap .i64 (n3+n5)) fun n6=>
aB x4 h fun v7=>
asI .i64 v7 fun n8=>
aJ (IntKind.wrap .i64 (n8+x0)) fun n9=>
C Y28.id [v1,(AV.i .i64 n6),(AV.i .i64 n9)] h fun v10 h11=>
asI .i64 v10 fun n12=>
(bif (!decide ((n12:Int)=0)) then
(Q (AV.i .i64 n12) h11)
else
(aB x1 h11 fun v17=>
aB x5 h11 fun v18=>
aB x6 h11 fun v19=>
C Y43.id [v17,v18,v19] h11 fun v20 h21=>
asI .i64 v20 fun n22=>
Q (AV.i .i64 n22) h21))
theorem Y71.call {K x0 x1 x2 x3 x4 x5 x6 h} (H:Y71.t (aK h K) x0 x1 x2 x3 x4 x5 x6 h (Y71.J (aK h K))):C Y71.id [(AV.i .i64 x0),x1,x2,x3,x4,x5,x6] h K:=
 gC Y71.J Tryd.func117 Y71.dist H
noncomputable def Y28.body:Code:=(Tryd.f118.body).getD .skip
def Y28.ann:Ann:=(sl [0,1,2] (sq [0,1,2] (sl [0,1,2,13] (.br (sl [6] lf) lf)) (sq [] (sl [0,2,14,15] (.one (.loop 1 [0,2,14,15] (sl [0,2,14,15,16] (sq [0,2,14,15] bl (sq [0,2,14,15] (.one (sq [0,2,7,14,15] (.ord (nn 0 14 (.eff 14 (.neu 15 .done) .stop))) (sl [0,2,7,14,15,33] (.br (sl [6] lf) lf)))) lf)))))) (sl [6] lf))))
theorem Y28.dist:aH (places Y28.ann Y28.body)=true:=by kernel_rfl
noncomputable def Y28.J (Q:AV→aA→Prop):JT:=bI prog C Tryd.f118 Y28.ann Y28.body Q
def Y28.p0 (Q:AV→aA→Prop) (x0:AV) (x2 x14 x15:Int) (h:aA):Prop:=Y28.J Q 1 [(0,x0),(2,(AV.i .i64 x2)),(14,(AV.i .i64 x14)),(15,(AV.i .i64 x15))] h
def Y28.t0 (Q:AV→aA→Prop) (x0:AV) (x2 x14 x15:Int) (h:aA) (J:JT):Prop:=
(bif (decide ((x15:Int)<x14)) then
(aZ x0 fun v12=>
aC 2 v12 fun v13=>
aB v13 h fun v14=>
aZ x0 fun v15=>
aC 2 v15 fun v16=>
aB v16 h fun v17=>
bN v17 fun n18=>
aJ (IntKind.wrap .i64 (n18 - x2)) fun n19=>
aP 1 v14 (AV.i .i64 n19) h fun v20=>
aB v20 h fun v21=>
asI .u8 v21 fun n22=>
C Y22.id [x0,(AV.i .u8 n22)] h fun v23 h24=>
asI .i64 v23 fun n25=>
(bif (!decide ((n25:Int)=0)) then
(Q (AV.i .i64 n25) h24)
else
(aJ (IntKind.wrap .i64 (x15+1)) fun n30=>
J 1 [(0,x0),(2,(AV.i .i64 x2)),(14,(AV.i .i64 x14)),(15,(AV.i .i64 n30))] h24)))
else
(Q (AV.i .i64 0) h))
theorem Y28.i0 {Q x0 x2 x14 x15 h} (H:Y28.t0 Q x0 x2 x14 x15 h (Y28.J Q)):Y28.p0 Q x0 x2 x14 x15 h:=gH Y28.J Tryd.f118 Y28.dist [1,1,0,1,0] H
def Y28.t (Q:AV→aA→Prop) (x0:AV) (x1 x2:Int) (h:aA) (J:JT):Prop:=
aZ x0 fun v1=>
aC 3 v1 fun v2=>
aB v2 h fun v3=>
asI .i64 v3 fun n4=>
(bif (decide ((n4:Int)<x2)) then
(Q (AV.i .i64 2) h)
else
(J 1 [(0,x0),(2,(AV.i .i64 x2)),(14,(AV.i .i64 x1)),(15,(AV.i .i64 0))] h))
theorem Y28.call {K x0 x1 x2 h} (H:Y28.t (aK h K) x0 x1 x2 h (Y28.J (aK h K))):C Y28.id [x0,(AV.i .i64 x1),(AV.i .i64 x2)] h K:=
 gC Y28.J Tryd.func118 Y28.dist H
noncomputable def Y56.body:Code:=(Tryd.f119.body).getD .skip
def Y56.ann:Ann:=(sl [0,3,4,5,6,7,9,10] (sl [11] lf))
theorem Y56.dist:aH (places Y56.ann Y56.body)=true:=by kernel_rfl
noncomputable def Y56.J (Q:AV→aA→Prop):JT:=bI prog C Tryd.f119 Y56.ann Y56.body Q
def Y56.t (Q:AV→aA→Prop) (x0 x1 x2:Int) (x3 x4 x5 x6 x7:AV) (h:aA) (J:JT):Prop:=
dD none (AV.i .i64 x1) h fun v0 h1=>
dD none (AV.i .i64 x2) h1 fun v2 h3=>
aB x3 h3 fun v5=>
C Y36.id [v5,(AV.i .i64 x0),(AV.fn (.func Y62.id) [] [x4,v0,x5,x6,x3,x7,v2])] h3 fun v6 h7=>
asI .i64 v6 fun n8=>
Q (AV.i .i64 n8) h7
theorem Y56.call {K x0 x1 x2 x3 x4 x5 x6 x7 h} (H:Y56.t (aK h K) x0 x1 x2 x3 x4 x5 x6 x7 h (Y56.J (aK h K))):C Y56.id [(AV.i .i64 x0),(AV.i .i64 x1),(AV.i .i64 x2),x3,x4,x5,x6,x7] h K:=
 gC Y56.J Tryd.func119 Y56.dist H
noncomputable def Y62.body:Code:=(Tryd.f120.body).getD .skip
def Y62.ann:Ann:=(sl [0,1,2,3,4,5,6,7] (sq [0,1,2,3,4,5,6,7] (sl [0,1,2,3,4,5,6,7,19] (.br (sl [9] lf) lf)) (sq [9] (.ord (nn 0 4 (nn 5 3 (nn 10 2 (.eff 4 (.eff 8 (.eff 9 (.eff 12 (.neu 13 .done) .stop) .stop) .stop) .stop))))) lf)))
theorem Y62.dist:aH (places Y62.ann Y62.body)=true:=by kernel_rfl
noncomputable def Y62.J (Q:AV→aA→Prop):JT:=bI prog C Tryd.f120 Y62.ann Y62.body Q
def Y62.t (Q:AV→aA→Prop) (x0:Int) (x1 x2 x3 x4 x5 x6 x7:AV) (h:aA) (J:JT):Prop:=
aB x1 h fun v1=>
bN v1 fun n2=>
aB x2 h fun v3=>
asI .i64 v3 fun n4=>
aJ (IntKind.wrap .i64 (n2+n4)) fun n5=>
aJ (IntKind.wrap .i64 (n5+x0)) fun n6=>
aB x3 h fun v7=>
asI .i64 v7 fun n8=>
aB x4 h fun v9=>
asI .i64 v9 fun n10=>
aJ (IntKind.wrap .i64 (n8+n10)) fun n11=>
(bif (decide ((n11:Int)<n6)) then
(Q (AV.i .i64 2) h)
else
(aB x5 h fun v15=>
aB x6 h fun v16=>
aB x1 h fun v17=>
aB x7 h fun v18=>
asI .i64 v18 fun n19=>
aB x2 h fun v20=>
asI .i64 v20 fun n21=>
aJ (IntKind.wrap .i64 (n21+x0)) fun n22=>
aB x3 h fun v23=>
asI .i64 v23 fun n24=>
aB x4 h fun v25=>
asI .i64 v25 fun n26=>
bF 1 1 [(AV.i .i64 0)] [(0,1,(AV.i .i64 n19))] h fun v27 h28=>
aB x4 h28 fun v29=>
asI .i64 v29 fun n30=>
((AV.i .i64 n26)=(AV.i .i64 n30) ∧
(aB x3 h28 fun v31=>
asI .i64 v31 fun n32=>
((AV.i .i64 n24)=(AV.i .i64 n32) ∧
(aB x2 h28 fun v33=>
asI .i64 v33 fun n34=>
((AV.i .i64 n21)=(AV.i .i64 n34) ∧
(aB x1 h28 fun v35=>
(v17=v35 ∧
(aB x6 h28 fun v36=>
(v16=v36 ∧
(aB x5 h28 fun v37=>
(v15=v37 ∧
(C Y21.id [v27,(AV.i .i64 n22)] h28 fun v38 h39=>
aB x4 h39 fun v40=>
asI .i64 v40 fun n41=>
((AV.i .i64 n26)=(AV.i .i64 n41) ∧
(aB x3 h39 fun v42=>
asI .i64 v42 fun n43=>
((AV.i .i64 n24)=(AV.i .i64 n43) ∧
(aB x1 h39 fun v44=>
(v17=v44 ∧
(aB x6 h39 fun v45=>
(v16=v45 ∧
(aB x5 h39 fun v46=>
(v15=v46 ∧
(bM none 1 8 v17 v38 h39 fun v47 h48=>
aB x4 h48 fun v49=>
asI .i64 v49 fun n50=>
((AV.i .i64 n26)=(AV.i .i64 n50) ∧
(aB x3 h48 fun v51=>
asI .i64 v51 fun n52=>
((AV.i .i64 n24)=(AV.i .i64 n52) ∧
(aB x6 h48 fun v53=>
(v16=v53 ∧
(aB x5 h48 fun v54=>
(v15=v54 ∧
(C Y48.id [v15,v16,v47,(AV.i .i64 n24),(AV.i .i64 n26)] h48 fun v55 h56=>
asI .i64 v55 fun n57=>
Q (AV.i .i64 n57) h56))))))))))))))))))))))))))))))))
theorem Y62.call {K x0 x1 x2 x3 x4 x5 x6 x7 h} (H:Y62.t (aK h K) x0 x1 x2 x3 x4 x5 x6 x7 h (Y62.J (aK h K))):C Y62.id [(AV.i .i64 x0),x1,x2,x3,x4,x5,x6,x7] h K:=
 gC Y62.J Tryd.func120 Y62.dist H
noncomputable def Y32.body:Code:=(Tryd.f121.body).getD .skip
def Y32.ann:Ann:=(sl [0,1,2,3,4,5,6] (sq [6] (.one (sl [0,1,2,3,4,5,6,9] (.br (sq [8] (.ord (nn 0 4 (nn 6 2 (.eff 4 (.eff 5 (.eff 8 (.neu 9 .done) .stop) .stop) .stop)))) lf) (.seq 1 [0,3,6,21] lf (.br (sl [8] lf) (sl [0,3,6,29] (.br (sq [8] (.ord (nn 0 7 (.eff 7 (.neu 8 .done) .stop))) lf) (sl [6,40] (.br (sl [8] lf) lf))))))))) (sl [8] lf)))
theorem Y32.dist:aH (places Y32.ann Y32.body)=true:=by kernel_rfl
noncomputable def Y32.J (Q:AV→aA→Prop):JT:=bI prog C Tryd.f121 Y32.ann Y32.body Q
def Y32.p0 (Q:AV→aA→Prop) (x0:Int) (x3 x6:AV) (x21:Bool) (h:aA):Prop:=Y32.J Q 1 [(0,(AV.i .i64 x0)),(3,x3),(6,x6),(21,(AV.b x21))] h
def Y32.t0 (Q:AV→aA→Prop) (x0:Int) (x3 x6:AV) (x21:Bool) (h:aA) (J:JT):Prop:=
(bif x21 then
(Q (AV.i .i64 2) h)
else
((bif (decide ((x0:Int)=16)) then
(aB x6 h fun v36=>
aB x3 h fun v37=>
aB x3 h fun v38=>
bN v38 fun n39=>
aJ (IntKind.wrap .i64 (n39 - 1)) fun n40=>
aP 1 v37 (AV.i .i64 n40) h fun v41=>
aB v41 h fun v42=>
asI .i64 v42 fun n43=>
bV C v36 [(AV.i .i64 2),(AV.i .i64 3),(AV.i .i64 n43)] h fun v44 h45=>
asI .i64 v44 fun n46=>
Q (AV.i .i64 n46) h45)
else
((bif (decide ((x0:Int)=17)) then
(aB x6 h fun v49=>
bV C v49 [(AV.i .i64 3),(AV.i .i64 3),(AV.i .i64 0)] h fun v50 h51=>
asI .i64 v50 fun n52=>
Q (AV.i .i64 n52) h51)
else
(aB x6 h fun v55=>
bV C v55 [(AV.i .i64 7),(AV.i .i64 11),(AV.i .i64 0)] h fun v56 h57=>
asI .i64 v56 fun n58=>
Q (AV.i .i64 n58) h57))))))
theorem Y32.i0 {Q x0 x3 x6 x21 h} (H:Y32.t0 Q x0 x3 x6 x21 h (Y32.J Q)):Y32.p0 Q x0 x3 x6 x21 h:=gR Y32.J Tryd.f121 Y32.dist [1,0,0,1,1,1] H
def Y32.t (Q:AV→aA→Prop) (x0:Int) (x1 x2 x3 x4 x5 x6:AV) (h:aA) (J:JT):Prop:=
(bif (decide ((x0:Int)<16)) then
(aB x1 h fun v2=>
aB x2 h fun v3=>
aB x3 h fun v4=>
aB x4 h fun v5=>
asI .i64 v5 fun n6=>
aB x5 h fun v7=>
asI .i64 v7 fun n8=>
bF 1 1 [(AV.i .i64 0)] [(0,1,(AV.i .i64 x0))] h fun v9 h10=>
aB x5 h10 fun v11=>
asI .i64 v11 fun n12=>
((AV.i .i64 n8)=(AV.i .i64 n12) ∧
(aB x4 h10 fun v13=>
asI .i64 v13 fun n14=>
((AV.i .i64 n6)=(AV.i .i64 n14) ∧
(aB x3 h10 fun v15=>
(v4=v15 ∧
(aB x2 h10 fun v16=>
(v3=v16 ∧
(aB x1 h10 fun v17=>
(v2=v17 ∧
(bM none 1 8 v4 v9 h10 fun v18 h19=>
aB x5 h19 fun v20=>
asI .i64 v20 fun n21=>
((AV.i .i64 n8)=(AV.i .i64 n21) ∧
(aB x4 h19 fun v22=>
asI .i64 v22 fun n23=>
((AV.i .i64 n6)=(AV.i .i64 n23) ∧
(aB x2 h19 fun v24=>
(v3=v24 ∧
(aB x1 h19 fun v25=>
(v2=v25 ∧
(C Y48.id [v2,v3,v18,(AV.i .i64 n6),(AV.i .i64 n8)] h19 fun v26 h27=>
asI .i64 v26 fun n28=>
Q (AV.i .i64 n28) h27)))))))))))))))))))
else
((bif (decide ((x0:Int)=16)) then
(aB x3 h fun v30=>
bN v30 fun n31=>
J 1 [(0,(AV.i .i64 x0)),(3,x3),(6,x6),(21,(AV.b (decide ((n31:Int)=0))))] h)
else
(J 1 [(0,(AV.i .i64 x0)),(3,x3),(6,x6),(21,(AV.b false))] h))))
theorem Y32.call {K x0 x1 x2 x3 x4 x5 x6 h} (H:Y32.t (aK h K) x0 x1 x2 x3 x4 x5 x6 h (Y32.J (aK h K))):C Y32.id [(AV.i .i64 x0),x1,x2,x3,x4,x5,x6] h K:=
 gC Y32.J Tryd.func121 Y32.dist H
end Go.Proofs.YtpaphfeihpgamaaDoor
namespace Go.Proofs.YtpaphfeihpgamaaDoor
open Go.GAM
variable [XR]
noncomputable def Y34.body:Code:=(Tryd.f4.body).getD .skip
def Y34.ann:Ann:=(sl [0] (sq [0] (sl [0,5] (.br (sl [2] lf) lf)) (.seq 1 [2] lf lf)))
theorem Y34.dist:aH (places Y34.ann Y34.body)=true:=by kernel_rfl
noncomputable def Y34.J (Q:AV→aA→Prop):JT:=bI prog C Tryd.f4 Y34.ann Y34.body Q
def Y34.p0 (Q:AV→aA→Prop) (x2:Bool) (h:aA):Prop:=Y34.J Q 1 [(2,(AV.b x2))] h
def Y34.t0 (Q:AV→aA→Prop) (x2:Bool) (h:aA) (J:JT):Prop:=
Q (AV.b x2) h
theorem Y34.i0 {Q x2 h} (H:Y34.t0 Q x2 h (Y34.J Q)):Y34.p0 Q x2 h:=gR Y34.J Tryd.f4 Y34.dist [1,1,1] H
def Y34.t (Q:AV→aA→Prop) (x0:List UInt8) (h:aA) (J:JT):Prop:=
(bif (decide ((400:Int)<(x0.length:Int))) then
(C Y29.id [] h fun v2 h3=>
asB v2 fun c4=>
Q (AV.b c4) h3)
else
(C Y23.id [(AV.s x0)] h fun v7 h8=>
asS v7 fun l9=>
C Y31.id [(AV.s x0)] h8 fun v10 h11=>
asS v10 fun l12=>
(bif (decide ((l9:List UInt8)=l12)) then
(C Y42.id [(AV.s x0)] h11 fun v13 h14=>
asS v13 fun l15=>
C Y8.id [(AV.s x0)] h14 fun v16 h17=>
asS v16 fun l18=>
(bif (decide ((l15:List UInt8)=l18)) then
(C Y29.id [] h17 fun v19 h20=>
asB v19 fun c21=>
J 1 [(2,(AV.b c21))] h20)
else
(J 1 [(2,(AV.b false))] h17)))
else
(J 1 [(2,(AV.b false))] h11))))
theorem Y34.call {K x0 h} (H:Y34.t (aK h K) x0 h (Y34.J (aK h K))):C Y34.id [(AV.s x0)] h K:=
 gC Y34.J Tryd.func4 Y34.dist H
end Go.Proofs.YtpaphfeihpgamaaDoor
namespace Go.Huff
def cnt (l:List Nat):Nat→Nat
 | 0=>0
 | n+1=>l.countP (· == n+1)
def fst (l:List Nat):Nat→Nat
 | 0=>0
 | n+1=>2 * (fst l n+cnt l n)
def fin (l:List Nat) (n:Nat):Nat:=fst l n+cnt l n
def codeAt (l:List Nat) (i:Nat):Nat:=fst l (l.getD i 0)+(l.take i).countP (· == l.getD i 0)
def pickFrom (n:Nat):List Nat→Nat→Nat→Option Nat
 | [],_,_=>none
 | x :: r,i,k=>if x=n then (if k=0 then some i else pickFrom n r (i+1) (k - 1)) else pickFrom n r (i+1) k
def pick (l:List Nat) (n k:Nat):Option Nat:=pickFrom n l 0 k
theorem gE (n : Nat) : ∀ (r pre : List Nat) (k i : Nat), pickFrom n r pre.length k = some i → (pre ++ r).getD i 0 = n ∧ i < (pre ++ r).length ∧ ((pre ++ r).take i).countP (· == n) = pre.countP (· == n) + k
 | [],pre,k,i,h=>by simp [pickFrom] at h
 | x :: r, pre, k, i, h => by
  have e:pre++x :: r=(pre++[x])++r:=by simp
  have el:(pre++[x]).length=pre.length+1:=by simp
  unfold pickFrom at h
  split at h
  ·rename_i hx
   split at h
   ·rename_i hk
    cases h
    refine ⟨by simp [List.getD_eq_getElem?_getD,hx],by simp, ?_⟩
    rw [List.take_left,hk] <;> rfl
   ·rename_i hk
    rw [← el] at h
    have:=gE n r (pre++[x]) (k - 1) i h
    rw [e]
    refine ⟨this.1,this.2.1,this.2.2.trans ?_⟩
    rw [List.countP_append,hx]
    simp
    omega
  ·rename_i hx
   rw [← el] at h
   have:=gE n r (pre++[x]) k i h
   rw [e]
   refine ⟨this.1,this.2.1,this.2.2.trans ?_⟩
   rw [List.countP_append]
   simp [hx]
theorem gJ (n : Nat) : ∀ (r : List Nat) (i k : Nat), k < r.countP (· == n) → ∃ j, pickFrom n r i k = some j
 | [],i,k,h=>by simp at h
 | x :: r, i, k, h => by
  unfold pickFrom
  rw [List.countP_cons] at h
  by_cases hx:x=n
  ·rw [if_pos hx]
   by_cases hk:k=0
   ·rw [if_pos hk]; exact ⟨_,rfl⟩
   ·rw [if_neg hk]
    refine gJ n r _ _ ?_
    simp [hx] at h; omega
  ·rw [if_neg hx]
   refine gJ n r _ _ ?_
   simpa [hx] using h
theorem pick_some {l:List Nat} {n k:Nat} (hn:0<n) (h:k<cnt l n):∃ j,pick l n k=some j∧l.getD j 0=n∧j<l.length∧codeAt l j=fst l n+k:=by
 obtain ⟨n,rfl⟩:∃ m,n=m+1:=⟨n - 1,by omega⟩
 obtain ⟨j,hj⟩:=gJ (n+1) l 0 k h
 have:=gE (n+1) l [] k j hj
 simp only [List.nil_append,List.countP_nil,Nat.zero_add] at this
 refine ⟨j,hj,this.1,this.2.1, ?_⟩
 unfold codeAt
 rw [this.1,this.2.2]
inductive Res where
 | sym (i:Nat)
 | more
 | bad
def longest (l:List Nat):Nat:=l.foldl max 0
theorem fE:∀ (l:List Nat) (a x:Nat),x=a∨x∈l→x≤l.foldl max a
 | [],a,x,h=>by simp at h; simp; omega
 | y :: r, a, x, h => by
  rw [List.foldl_cons]
  rcases h with h | h
  ·exact Nat.le_trans (by omega) (fE r (max a y) (max a y) (.inl rfl))
  ·rcases List.mem_cons.1 h with h | h
   ·exact Nat.le_trans (by omega) (fE r (max a y) (max a y) (.inl rfl))
   ·exact fE r _ x (.inr h)
theorem le_longest {l:List Nat} {x:Nat} (h:x∈l):x≤longest l:=fE l 0 x (.inr h)
def stepP (l:List Nat) (n c:Nat):Res:=
 if n≤longest l∧c - fst l n<cnt l n∧fst l n≤c then .sym ((pick l n (c - fst l n)).getD 0)
 else if n<longest l then .more else .bad
end Go.Huff
namespace Go.Huff
def kr:List Nat→Nat→Nat
 | [],_=>0
 | x :: r,L=>(if 0<x∧x≤L then 2 ^ (L - x) else 0)+kr r L
def used (l:List Nat):Nat:=l.countP (0 < ·)
def checkP (l:List Nat):Nat:=
 if 2 ^ 15<kr l 15 then 1 else if kr l 15<2 ^ 15∧0<used l∧(1<used l∨1<longest l) then 2 else 0
def checkR (l:List Nat):Nat:=
 if 2 ^ 15<kr l 15 then 1 else if kr l 15=2 ^ 15∨used l=0∨used l=1∧kr l 15=2 ^ 14 then 0 else 2
theorem aD0 {l:List Nat} (L:Nat) (h:used l=0):kr l L=0∧longest l=0:=by
 have h0:∀ x∈l,x=0:=fun x hx=>by have:=List.countP_eq_zero.1 h x hx; simpa using this
 constructor
 ·clear h
  induction l with
  | nil=>rfl
  | cons x r ih =>
   unfold kr
   rw [ih fun y hy=>h0 y (by simp [hy]),if_neg (by have:=h0 x (by simp); omega)]
 ·have : ∀ (l : List Nat) (a : Nat), (∀ x ∈ l, x = 0) → l.foldl max a = a := by
   intro l
   induction l with
   | nil=>intros; rfl
   | cons x r ih=>intro a hh; rw [List.foldl_cons,ih _ fun y hy=>hh y (by simp [hy]),hh x (by simp)]; omega
  exact this l 0 h0
theorem kV (x:Nat):∀ (l:List Nat) (a:Nat),l.foldl max a=max a (l.foldl max 0)
 | [],a=>by simp
 | y :: r, a => by
  rw [List.foldl_cons,List.foldl_cons,kV x r,kV x r (max 0 y)]; omega
theorem aA1:∀ {l:List Nat},used l=1→(∀ x∈l,x≤15)→kr l 15=2 ^ (15 - longest l)∧0<longest l∧longest l≤15
 | [],h,_=>by simp [used] at h
 | x :: r, h, hb => by
  have hl:longest (x :: r)=max x (longest r):=by
   unfold longest; rw [List.foldl_cons,kV 0]; omega
  unfold used at h
  rw [List.countP_cons] at h
  by_cases h0:0<x
  ·have hu : used r = 0 := by unfold used; simp [h0] at h; simpa using h
   obtain ⟨g1,g2⟩:=aD0 15 hu
   have:=hb x (by simp)
   unfold kr
   rw [hl,g1,g2,if_pos ⟨h0,this⟩,show max x 0=x by omega]
   exact ⟨rfl,h0,this⟩
  ·have hx : x = 0 := by omega
   have hu:used r=1:=by unfold used; simpa [h0] using h
   have:=aA1 hu fun y hy=>hb y (by simp [hy])
   unfold kr
   rw [hl,if_neg (by omega),hx,show max 0 (longest r)=longest r by omega,Nat.zero_add]
   exact this
theorem check_eq {l : List Nat} (hb : ∀ x ∈ l, x ≤ 15) : checkP l = checkR l := by
 unfold checkP checkR
 by_cases h1:2 ^ 15<kr l 15
 ·rw [if_pos h1,if_pos h1]
 ·rw [if_neg h1, if_neg h1]
  by_cases h0:used l=0
  ·rw [if_neg (by omega),if_pos (.inr (.inl h0))]
  ·by_cases hu : used l = 1
   ·obtain ⟨g1, g2, g3⟩ := aA1 hu hb
    have hlt:kr l 15<2 ^ 15:=by
     rw [g1]; exact Nat.pow_lt_pow_right (by decide) (by omega)
    by_cases hg:1<longest l
    ·rw [if_pos ⟨hlt, by omega, .inr hg⟩, if_neg]
     rintro (h | h | ⟨_,h⟩)
     ·omega
     ·exact h0 h
     ·rw [g1] at h
      have:=Nat.pow_lt_pow_right (a:=2) (by decide) (show 15 - longest l<14 by omega)
      omega
    ·have : longest l = 1 := by omega
     rw [if_neg (by omega),if_pos (.inr (.inr ⟨hu,by rw [g1,this]⟩))]
   ·by_cases hlt : kr l 15 < 2 ^ 15
    ·rw [if_pos ⟨hlt,by omega,.inl (by omega)⟩,if_neg (by omega)]
    ·rw [if_neg (by omega),if_pos (.inl (by omega))]
end Go.Huff
namespace Go.Infl
open Go.Huff
inductive cH where
 | block
 | stored1
 | stored2 (n:Nat)
 | raw (n:Nat)
 | lit (a b:List Nat)
 | more (a b:List Nat) (n:Nat)
 | far (a b:List Nat) (n:Nat)
 | farMore (a b:List Nat) (n d:Nat)
 | dyn1
 | dyn2 (lits:Nat)
 | dyn3 (lits dists:Nat)
 | third (l:List Nat) (at' n lits dists:Nat)
 | lens (c l:List Nat) (lits dists:Nat)
 | rep (c l:List Nat) (lits dists least value:Nat)
inductive d6 where
 | num (need have' acc:Nat)
 | sym (l:List Nat) (n c:Nat)
structure cA where
 out:List UInt8
 last:Bool
 skip:Bool
inductive Out where
 | wait (k:cA) (w:d6) (c:cH)
 | done (k:cA)
 | err (e:Nat) (k:cA)
structure Lim where
 output:Nat
 ratio:Nat
def full (L:Lim) (input:Nat) (o:List UInt8):Bool:=decide (L.output≤o.length)||decide (L.ratio * input+1024≤o.length)
def putP (L:Lim) (input:Nat) (k:cA) (c:UInt8):Option cA:=if full L input k.out then none else some { k with out:=k.out++[c] }
def copyP (L : Lim) (input : Nat) (d : Nat) : Nat → cA → cA × Bool
 | 0,k=>(k,true)
 | n + 1, k => match putP L input k (k.out.getD (k.out.length - d) 0) with
  | none=>(k,false)
  | some k'=>copyP L input d n k'
def least (x:Nat):Nat × Nat:=if x≤264 then (x - 254,0) else if x=285 then (258,0) else ((4+(x - 265) % 4) * 2 ^ ((x - 261) / 4)+3,(x - 261) / 4)
def farOf (x:Nat):Nat × Nat:=if x<4 then (x+1,0) else ((2+x % 2) * 2 ^ (x / 2 - 1)+1,x / 2 - 1)
def order:List Nat:=[16,17,18,0,8,7,9,6,10,5,11,4,12,3,13,2,14,1,15]
def fixedL:List Nat:=List.replicate 144 8++List.replicate 112 9++List.replicate 24 7++List.replicate 8 8
def fixedD:List Nat:=List.replicate 32 5
def block (k:cA):Out:=if k.last then .done k else .wait k (.num 3 0 0) .block
def raw (k:cA) (n:Nat):Out:=if n=0 then block k else .wait k (.num 8 0 0) (.raw n)
def litW (k:cA) (a b:List Nat):Out:=.wait k (.sym a 0 0) (.lit a b)
def codes (k:cA) (a b:List Nat):Out:=if checkP a=0∧checkP b=0 then litW k a b else .err 1 k
def lensW (k:cA) (c l:List Nat) (lits dists:Nat):Out:=if l.length=lits+dists then codes k (l.take lits) (l.drop lits) else .wait k (.sym c 0 0) (.lens c l lits dists)
def thirdW (k:cA) (l:List Nat) (i n lits dists:Nat):Out:=
 if i=n then (if checkP l=0 then lensW k l [] lits dists else .err 1 k) else .wait k (.num 3 0 0) (.third l i n lits dists)
def apply (L : Lim) (input : Nat) (k : cA) (v : Nat) : cH → Out
 | .block => match v / 2 with
  | 0=>.wait { k with last:=v % 2 == 1,skip:=true } (.num 16 0 0) .stored1
  | 1=>codes { k with last:=v % 2 == 1 } fixedL fixedD
  | 2=>.wait { k with last:=v % 2 == 1 } (.num 5 0 0) .dyn1
  | _=>.err 1 { k with last:=v % 2 == 1 }
 | .stored1=>.wait k (.num 16 0 0) (.stored2 v)
 | .stored2 n=>if v+n=65535 then raw k n else .err 1 k
 | .raw n => match putP L input k (UInt8.ofNat v) with
  | none=>.err 2 k
  | some k'=>raw k' (n - 1)
 | .lit a b =>
  if v<256 then (match putP L input k (UInt8.ofNat v) with
   | none=>.err 2 k
   | some k'=>litW k' a b)
  else if v=256 then block k
  else if 285<v then .err 1 k
  else .wait k (.num (least v).2 0 0) (.more a b (least v).1)
 | .more a b n=>.wait k (.sym b 0 0) (.far a b (n+v))
 | .far a b n=>if 29<v then .err 1 k else .wait k (.num (farOf v).2 0 0) (.farMore a b n (farOf v).1)
 | .farMore a b n d =>
  if k.out.length<d+v then .err 1 k else
  match copyP L input (d+v) n k with
  | (k',true)=>litW k' a b
  | (k',false)=>.err 2 k'
 | .dyn1=>if 286<v+257 then .err 1 k else .wait k (.num 5 0 0) (.dyn2 (v+257))
 | .dyn2 lits=>if 30<v+1 then .err 1 k else .wait k (.num 4 0 0) (.dyn3 lits (v+1))
 | .dyn3 lits dists=>thirdW k (List.replicate 19 0) 0 (v+4) lits dists
 | .third l i n lits dists=>thirdW k (l.set (order.getD i 0) v) (i+1) n lits dists
 | .lens c l lits dists =>
  if v<16 then lensW k c (l++[v]) lits dists
  else if v=16 then (if l=[] then .err 1 k else .wait k (.num 2 0 0) (.rep c l lits dists 3 (l.getLastD 0)))
  else if v=17 then .wait k (.num 3 0 0) (.rep c l lits dists 3 0)
  else .wait k (.num 7 0 0) (.rep c l lits dists 11 0)
 | .rep c l lits dists m x=>if lits+dists<l.length+(m+v) then .err 1 k else lensW k c (l++List.replicate (m+v) x) lits dists
def settle (L:Lim) (input:Nat):Nat→Out→Out
 | fuel+1,.wait k (.num 0 _ _) c=>settle L input fuel (apply L input k 0 c)
 | _,o=>o
def bitP (L : Lim) (input : Nat) (k : cA) (w : d6) (c : cH) (b : Nat) : Out :=
 match w with
 | .num need have' acc=>if have'+1<need then .wait k (.num need (have'+1) (acc+b * 2 ^ have')) c else settle L input 3 (apply L input k (acc+b * 2 ^ have') c)
 | .sym l n x => match stepP l (n + 1) (2 * x + b) with
  | .sym i=>settle L input 3 (apply L input k i c)
  | .more=>.wait k (.sym l (n+1) (2 * x+b)) c
  | .bad=>.err 1 k
structure Fin where
 out:List UInt8
 e:Nat
 pos:Nat
def dN:List Nat→Nat
 | []=>0
 | b :: r=>b+2 * dN r
theorem bit_num {L:Lim} {i:Nat} {k:cA} {n h a b:Nat} {c:cH}:bitP L i k (.num n h a) c b=if h+1<n then .wait k (.num n (h+1) (a+b * 2 ^ h)) c else settle L i 3 (apply L i k (a+b * 2 ^ h) c):=rfl
end Go.Infl
namespace Go.Infl
open Go.Huff
theorem bit_sym {L:Lim} {i:Nat} {k:cA} {l:List Nat} {n x b:Nat} {c:cH}:bitP L i k (.sym l n x) c b=match stepP l (n+1) (2 * x+b) with
  | .sym j=>settle L i 3 (apply L i k j c)
  | .more=>.wait k (.sym l (n+1) (2 * x+b)) c
  | .bad=>.err 1 k:=rfl
def Out.set:Out→Prop
 | .wait _ (.num n _ _) _=>0<n
 | _=>True
theorem settle_set {L:Lim} {i f:Nat} {o:Out} (h:o.set):settle L i f o=o:=by
 cases f with
 | zero=>rfl
 | succ f =>
  match o,h with
  | .wait k (.num (n+1) a b) c,_=>rfl
  | .wait k (.sym l n x) c,_=>rfl
  | .done k,_=>rfl
  | .err e k,_=>rfl
end Go.Infl
namespace Go.Infl
open Go.Huff
def run (L:Lim):List Nat→Nat→Out→Nat × Out
 | _,i,.done k=>(i,.done k)
 | _,i,.err e k=>(i,.err e k)
 | [],i,.wait k w c=>(i,.wait k w c)
 | b :: r,i,.wait k w c=>if k.skip∧i % 8≠0 then run L r (i+1) (.wait k w c) else run L r (i+1) (bitP L (i / 8+1) { k with skip:=false } w c b)
def Out.core:Out→cA
 | .wait k _ _ | .done k | .err _ k=>k
theorem run_done {L:Lim} {bs:List Nat} {i:Nat} {k:cA}:run L bs i (.done k)=(i,.done k):=by rw [run]
theorem run_err {L:Lim} {bs:List Nat} {i e:Nat} {k:cA}:run L bs i (.err e k)=(i,.err e k):=by rw [run]
theorem run_nil {L:Lim} {i:Nat} {o:Out}:run L [] i o=(i,o):=by cases o <;> rw [run]
theorem run_bit {L:Lim} {b:Nat} {r:List Nat} {i:Nat} {k:cA} {w:d6} {c:cH}:run L (b :: r) i (.wait k w c)=if k.skip∧i % 8≠0 then run L r (i+1) (.wait k w c) else run L r (i+1) (bitP L (i / 8+1) { k with skip:=false } w c b):=by rw [run]
theorem run_append {L:Lim}:∀ (a b:List Nat) (i:Nat) (o:Out),run L (a++b) i o=run L b (run L a i o).1 (run L a i o).2
 | a,b,i,.done k=>by rw [run_done,run_done,run_done]
 | a,b,i,.err e k=>by rw [run_err,run_err,run_err]
 | [],b,i,.wait k w c=>by rw [run_nil,List.nil_append]
 | x :: a, b, i, .wait k w c => by
  rw [List.cons_append,run_bit,run_bit]
  split
  ·exact run_append a b _ _
  ·exact run_append a b _ _
theorem run_pos {L:Lim}:∀ (bs:List Nat) (i:Nat) (o:Out) {k:cA} {w:d6} {c:cH},(run L bs i o).2 = .wait k w c→(run L bs i o).1=i+bs.length
 | bs,i,.done k,_,_,_,h=>by rw [run_done] at h; cases h
 | bs,i,.err e k,_,_,_,h=>by rw [run_err] at h; cases h
 | [],i,.wait k w c,_,_,_,h=>by rw [run_nil] <;> rfl
 | x :: a, i, .wait k w c, _, _, _, h => by
  rw [run_bit] at h ⊢
  split at h <;> rename_i hc
  ·rw [if_pos hc]; have:=run_pos a _ _ h; rw [this,List.length_cons]; omega
  ·rw [if_neg hc]; have:=run_pos a _ _ h; rw [this,List.length_cons]; omega
end Go.Infl
namespace Go.Huff
def hiBits (x:Nat):Nat→List Nat
 | 0=>[]
 | n+1=>x / 2 ^ n % 2 :: hiBits x n
def codeBits (l:List Nat) (j:Nat):List Nat:=hiBits (codeAt l j) (l.getD j 0)
def loBits:Nat→Nat→List Nat
 | _,0=>[]
 | x,n+1=>x % 2 :: loBits (x / 2) n
end Go.Huff
namespace Go.Infl
open Go.Huff
theorem hi_length (x:Nat):∀ n,(hiBits x n).length=n
 | 0=>rfl
 | n+1=>by rw [hiBits,List.length_cons,hi_length x n]
theorem lo_length:∀ (n x:Nat),(loBits x n).length=n
 | 0,_=>rfl
 | n+1,x=>by rw [loBits,List.length_cons,lo_length n]
end Go.Infl
namespace Go.Infl
open Go.Huff
def lenSym (n:Nat):Nat:=if n=258 then 285 else ((List.range 28).map (· + 257)).foldl (fun o s=>if (least s).1≤n then s else o) 257
theorem lenSym_ok:∀ n,3≤n→n≤258→257≤lenSym n∧lenSym n≤285∧(least (lenSym n)).1≤n∧n - (least (lenSym n)).1<2 ^ (least (lenSym n)).2:=by
 have h:((List.range 259).all fun n=>decide (3≤n→257≤lenSym n∧lenSym n≤285∧(least (lenSym n)).1≤n∧n - (least (lenSym n)).1<2 ^ (least (lenSym n)).2))=true:=by decide +kernel
 intro n h1 h2
 have:=List.all_eq_true.1 h n (by simp; omega)
 exact (of_decide_eq_true this) h1
def farSym (d:Nat):Nat:=(List.range 30).foldl (fun o s=>if (farOf s).1≤d then s else o) 0
theorem farSym_at : ∀ (t d : Nat), t < 30 → (farOf t).1 ≤ d → (t = 29 ∨ d < (farOf (t + 1)).1) → farSym d = t := by
 have hm:((List.range 30).all fun t=>(List.range 30).all fun s=>decide (s≤t→(farOf s).1≤(farOf t).1)&&decide (t<s→(farOf (t+1)).1≤(farOf s).1))=true:=by decide +kernel
 have mono:∀ t s,t<30→s<30→(s≤t→(farOf s).1≤(farOf t).1)∧(t<s→(farOf (t+1)).1≤(farOf s).1):=fun t s ht hs=>by
  have:=List.all_eq_true.1 (List.all_eq_true.1 hm t (by simpa using ht)) s (by simpa using hs)
  simp only [Bool.and_eq_true,decide_eq_true_eq] at this
  exact this
 intro t d ht h1 h2
 have key:∀ n,n≤30→(List.range n).foldl (fun o s=>if (farOf s).1≤d then s else o) 0=min t (n - 1):=by
  intro n
  induction n with
  | zero=>intro _; simp
  | succ n ih =>
   intro hn
   rw [List.range_succ,List.foldl_append,ih (by omega)]
   simp only [List.foldl_cons,List.foldl_nil]
   by_cases hnt:n≤t
   ·rw [if_pos (Nat.le_trans ((mono t n ht (by omega)).1 hnt) h1)]; omega
   ·have := (mono t n ht (by omega)).2 (by omega)
    rw [if_neg (by omega)]; omega
 have:=key 30 (Nat.le_refl _)
 unfold farSym
 rw [this]; omega
theorem farSym_ok {d : Nat} (h1 : 1 ≤ d) (h2 : d ≤ 32768) : farSym d < 30 ∧ (farOf (farSym d)).1 ≤ d ∧ d - (farOf (farSym d)).1 < 2 ^ (farOf (farSym d)).2 := by
 have hs:((List.range 30).all fun t=>decide ((farOf (t+1)).1=(farOf t).1+2 ^ (farOf t).2))=true:=by decide +kernel
 have step:∀ t,t<30→(farOf (t+1)).1=(farOf t).1+2 ^ (farOf t).2:=fun t ht=>of_decide_eq_true (List.all_eq_true.1 hs t (by simpa using ht))
 have ex:∀ n,n≤30→d<(farOf n).1→∃ t,t<n∧(farOf t).1≤d∧d<(farOf (t+1)).1:=by
  intro n
  induction n with
  | zero=>intro _ h; exact absurd h (by show ¬ d<1; omega)
  | succ n ih =>
   intro hn h
   by_cases hh:d<(farOf n).1
   ·obtain ⟨t, g1, g2⟩ := ih (by omega) hh
    exact ⟨t,by omega,g2⟩
   ·exact ⟨n,by omega,by omega,h⟩
 have e30:(farOf 30).1=32769:=by decide
 obtain ⟨t,g1,g2,g3⟩:=ex 30 (Nat.le_refl _) (by omega)
 have:=farSym_at t d g1 g2 (.inr g3)
 rw [this]
 have:=step t g1
 exact ⟨g1,g2,by omega⟩
end Go.Infl
namespace Go.Infl
open Go.Huff
inductive Item where
 | byte (c:UInt8)
 | copy (n d:Nat)
def encItem (a b:List Nat):Item→List Nat
 | .byte c=>codeBits a c.toNat
 | .copy n d=>codeBits a (lenSym n)++(loBits (n - (least (lenSym n)).1) (least (lenSym n)).2++(codeBits b (farSym d)++loBits (d - (farOf (farSym d)).1) (farOf (farSym d)).2))
def encItems (a b:List Nat) (l:List Item):List Nat:=l.flatMap (encItem a b)
end Go.Infl
namespace Go.Infl
open Go.Huff
def start:Out:=.wait ⟨[],false,false⟩ (.num 3 0 0) .block
def fixedBits (l:List Item):List Nat:=loBits 3 3++(encItems fixedL fixedD l++codeBits fixedL 256)
end Go.Infl
namespace Go.Infl
open Go.Huff
def bitsOf (s:List UInt8):List Nat:=s.flatMap fun b=>loBits b.toNat 8
theorem t8:∀ s:List UInt8,(bitsOf s).length=8 * s.length
 | []=>rfl
 | b :: r => by
  show (loBits b.toNat 8++bitsOf r).length=_
  rw [List.length_append,lo_length,t8 r,List.length_cons]; omega
theorem run_aligned {L:Lim} {b i:Nat} {r:List Nat} {k:cA} {w:d6} {c:cH} (hi:i % 8=0):run L (b :: r) i (.wait k w c)=run L (b :: r) i (.wait { k with skip:=false } w c):=by
 rw [run_bit,run_bit,if_neg (by simp [hi]),if_neg (by simp)]
theorem aA3:∀ (a b x:Nat),loBits x (a+b)=loBits x a++loBits (x / 2 ^ a) b
 | 0,b,x=>by simp [loBits]
 | a + 1, b, x => by
  rw [show a+1+b=(a+b)+1 by omega,loBits,loBits,aA3 a b,List.cons_append,Nat.div_div_eq_div_mul,Nat.pow_succ,Nat.mul_comm (2 ^ a)]
def storedBytes (s:List UInt8):List UInt8:=[1,UInt8.ofNat (s.length % 256),UInt8.ofNat (s.length / 256),UInt8.ofNat (255 - s.length % 256),UInt8.ofNat (255 - s.length / 256)]++s
end Go.Infl
namespace Go.Infl
open Go.Huff
section
variable {L:Lim} {m:Nat}
end
end Go.Infl
namespace Go.Infl
end Go.Infl
namespace Go.Infl
def lcpF (s:List UInt8) (at' d:Nat):Nat→Nat→Nat
 | 0,n=>n
 | f+1,n=>if at'+n<s.length∧s[at'+n]? = s[at'+n - d]? then lcpF s at' d f (n+1) else n
def lcp (s:List UInt8) (at' d:Nat):Nat:=lcpF s at' d 258 0
theorem xE {s : List UInt8} {at' d : Nat} : ∀ (f n : Nat), at' + n ≤ s.length → (∀ k, k < n → s[at' + k]? = s[at' + k - d]?) →
  n≤lcpF s at' d f n∧lcpF s at' d f n≤n+f∧at'+lcpF s at' d f n≤s.length∧∀ k,k<lcpF s at' d f n→s[at'+k]? = s[at'+k - d]?
 | 0,n,h1,h2=>⟨Nat.le_refl _,Nat.le_refl _,h1,h2⟩
 | f + 1, n, h1, h2 => by
  unfold lcpF
  split
  ·rename_i h
   have:=xE (s:=s) (at':=at') (d:=d) f (n+1) (by omega) fun k hk=>by
    by_cases hkn:k=n
    ·subst hkn; exact h.2
    ·exact h2 k (by omega)
   exact ⟨by omega,by omega,this.2.2⟩
  ·exact ⟨Nat.le_refl _,by omega,h1,h2⟩
theorem lcp_ok {s:List UInt8} {at':Nat} (d:Nat) (h:at'≤s.length):lcp s at' d≤258∧at'+lcp s at' d≤s.length∧∀ k,k<lcp s at' d→s[at'+k]? = s[at'+k - d]?:=by
 have:=xE (s:=s) (at':=at') (d:=d) 258 0 (by simpa using h) (fun k hk=>by omega)
 exact ⟨by have:=this.2.1; unfold lcp; omega,this.2.2⟩
def better (s:List UInt8) (at':Nat) (b:Nat × Nat) (d:Nat):Nat × Nat:=if b.1<lcp s at' d then (lcp s at' d,d) else b
def matchTo (s:List UInt8) (at':Nat):Nat→Nat × Nat
 | 0=>(0,0)
 | d+1=>better s at' (matchTo s at' d) (d+1)
def matchR (s:List UInt8) (at':Nat):Nat × Nat:=matchTo s at' (min at' 32768)
theorem iW (s : List UInt8) (at' : Nat) : ∀ m, ((matchTo s at' m).1 = 0 ∨ (1 ≤ (matchTo s at' m).2 ∧ (matchTo s at' m).2 ≤ m ∧ (matchTo s at' m).1 = lcp s at' (matchTo s at' m).2)) ∧
  (∀ d,1≤d→d≤m→lcp s at' d≤(matchTo s at' m).1)∧∀ d,1≤d→d<(matchTo s at' m).2→lcp s at' d<(matchTo s at' m).1
 | 0=>⟨.inl rfl,fun d h1 h2=>by omega,fun d h1 h2=>by simp [matchTo] at h2⟩
 | m + 1 => by
  obtain ⟨h1,h2,h3⟩:=iW s at' m
  unfold matchTo better
  split
  ·rename_i h
   refine ⟨.inr ⟨by omega,Nat.le_refl _,rfl⟩,fun d g1 g2=>?_,fun d g1 g2=>?_⟩
   ·by_cases hd : d = m + 1
    ·subst hd; exact Nat.le_refl _
    ·have:=h2 d g1 (by omega); simp only; omega
   ·simp only at g2 ⊢
    have:=h2 d g1 (by omega); omega
  ·rename_i h
   refine ⟨?_,fun d g1 g2=>?_,h3⟩
   ·rcases h1 with h1 | ⟨a, b, c⟩
    ·exact .inl h1
    ·exact .inr ⟨a,by omega,c⟩
   ·by_cases hd : d = m + 1
    ·subst hd; omega
    ·exact h2 d g1 (by omega)
def itemsR (s : List UInt8) : Nat → Nat → List Item
 | 0,_=>[]
 | f + 1, at' => match s[at']? with
  | none=>[]
  | some c=>if (matchR s at').1<3 then .byte c :: itemsR s f (at'+1) else .copy (matchR s at').1 (matchR s at').2 :: itemsR s f (at'+(matchR s at').1)
theorem wO {s:List UInt8} {at' m n d:Nat} (hd:1≤d) (hm:d≤m) (hn:n=lcp s at' d) (h3:0<n) (hmax:∀ d',1≤d'→d'≤m→lcp s at' d'≤n) (hnear:∀ d',1≤d'→d'<d→lcp s at' d'<n):matchTo s at' m=(n,d):=by
 obtain ⟨h1,h2,h4⟩:=iW s at' m
 have e1:=h2 d hd hm
 rcases h1 with h1 | ⟨a,b,c⟩
 ·omega
 ·have e2 := hmax _ a b
  have en:(matchTo s at' m).1=n:=by omega
  have ed:(matchTo s at' m).2=d:=by
   rcases Nat.lt_trichotomy (matchTo s at' m).2 d with h | h | h
   ·have:=hnear _ a h; omega
   ·exact h
   ·have:=h4 d hd h; omega
  rw [← en, ← ed]
end Go.Infl
namespace Go.Infl
open Go.Huff
def i5:Nat→List Nat→List UInt8
 | 0,_=>[]
 | f+1,bs=>if bs=[] then [] else UInt8.ofNat (dN (bs.take 8)) :: i5 f (bs.drop 8)
def pack (bs:List Nat):List UInt8:=i5 bs.length bs
theorem oY:∀ (bs:List Nat),(∀ b∈bs,b<2)→dN bs<2 ^ bs.length
 | [],_=>by decide
 | b :: r, h => by
  have h1:=h b (by simp)
  have h2:=oY r fun x hx=>h x (by simp [hx])
  rw [dN,List.length_cons,Nat.pow_succ]; omega
theorem tY:∀ (bs:List Nat) (n:Nat),(∀ b∈bs,b<2)→bs.length≤n→loBits (dN bs) n=bs++List.replicate (n - bs.length) 0
 | [], n, _, _ => by
  have:∀ n,loBits 0 n=List.replicate n 0:=by
   intro n
   induction n with
   | zero=>rfl
   | succ n ih=>rw [loBits,List.replicate_succ]; simp [ih]
  simp [dN,this]
 | b :: r, n, h, hn => by
  obtain ⟨m,rfl⟩:∃ m,n=m+1:=⟨n - 1,by rw [List.length_cons] at hn; omega⟩
  have h1:=h b (by simp)
  rw [loBits,dN,show (b+2 * dN r) % 2=b by omega,show (b+2 * dN r) / 2=dN r by omega]
  rw [tY r m (fun x hx=>h x (by simp [hx])) (by rw [List.length_cons] at hn; omega)]
  rw [List.cons_append,List.length_cons,Nat.add_sub_add_right]
theorem qA : ∀ (f : Nat) (bs : List Nat), bs.length ≤ f → (∀ b ∈ bs, b < 2) → bitsOf (i5 f bs) = bs ++ List.replicate ((8 - bs.length % 8) % 8) 0
 | 0, bs, h, _ => by
  have:bs=[]:=List.eq_nil_of_length_eq_zero (by omega)
  subst this; rfl
 | f + 1, bs, h, hb => by
  unfold i5
  split
  ·rename_i h0; subst h0; rfl
  ·rename_i h0
   have hp:0<bs.length:=List.length_pos_iff.2 h0
   have ht:∀ b∈bs.take 8,b<2:=fun b hx=>hb b (List.mem_of_mem_take hx)
   have hl:(bs.take 8).length≤8:=by rw [List.length_take]; omega
   have hlt:dN (bs.take 8)<256:=by
    have h1:=oY _ ht
    have h2:2 ^ (bs.take 8).length≤2 ^ 8:=Nat.pow_le_pow_right (by decide) hl
    omega
   have hn:(UInt8.ofNat (dN (bs.take 8))).toNat=dN (bs.take 8):=by
    rw [UInt8.toNat_ofNat']; exact Nat.mod_eq_of_lt hlt
   show loBits (UInt8.ofNat (dN (bs.take 8))).toNat 8++bitsOf (i5 f (bs.drop 8))=_
   rw [hn,tY _ 8 ht hl,qA f (bs.drop 8) (by rw [List.length_drop]; omega) fun b hx=>hb b (List.mem_of_mem_drop hx)]
   by_cases h8:8≤bs.length
   ·have e : (bs.take 8).length = 8 := by rw [List.length_take]; omega
    rw [e,List.length_drop,Nat.sub_self,List.replicate_zero,List.append_nil, ← List.append_assoc,List.take_append_drop,show (bs.length - 8) % 8=bs.length % 8 by omega]
   ·have e : bs.take 8 = bs := List.take_of_length_le (by omega)
    have e2:bs.drop 8=[]:=List.drop_eq_nil_of_le (by omega)
    rw [e,e2,List.append_assoc]
    congr 1
    simp
    omega
theorem aAI {bs:List Nat} (h:∀ b∈bs,b<2):bitsOf (pack bs)=bs++List.replicate ((8 - bs.length % 8) % 8) 0:=qA _ bs (Nat.le_refl _) h
theorem pack_len {bs:List Nat} (h:∀ b∈bs,b<2):(pack bs).length=(bs.length+7) / 8:=by
 have:=congrArg List.length (aAI h)
 rw [t8,List.length_append,List.length_replicate] at this
 omega
end Go.Infl
namespace Go.Infl
open Go.Huff
def fixedText (s:List UInt8):List UInt8:=pack (fixedBits (itemsR s (s.length+1) 0))
end Go.Infl
namespace Go.Infl
open Go.Huff
theorem pQ:∀ (f g:Nat) (bs:List Nat),bs.length≤f→bs.length≤g→i5 f bs=i5 g bs
 | 0, g, bs, h, hg => by
  have:bs=[]:=List.eq_nil_of_length_eq_zero (by omega)
  subst this
  cases g <;> simp [i5]
 | f + 1, 0, bs, h, hg => by
  have:bs=[]:=List.eq_nil_of_length_eq_zero (by omega)
  subst this
  simp [i5]
 | f + 1, g + 1, bs, h, hg => by
  unfold i5
  split
  ·rfl
  ·rename_i h0
   have hp:0<bs.length:=List.length_pos_iff.2 h0
   rw [pQ f g (bs.drop 8) (by rw [List.length_drop]; omega) (by rw [List.length_drop]; omega)]
theorem j8 {bs:List Nat} (h:bs≠[]):pack bs=UInt8.ofNat (dN (bs.take 8)) :: pack (bs.drop 8):=by
 have hp:0<bs.length:=List.length_pos_iff.2 h
 obtain ⟨n,hn⟩:∃ n,bs.length=n+1:=⟨bs.length - 1,by omega⟩
 show i5 bs.length bs=_
 rw [hn]
 unfold i5
 rw [if_neg h]
 congr 1
 exact pQ _ _ _ (by rw [List.length_drop]; omega) (Nat.le_refl _)
theorem pK:∀ (bs:List Nat) (b:Nat),dN (bs++[b])=dN bs+b * 2 ^ bs.length
 | [],b=>by simp [dN]
 | x :: r, b => by
  rw [List.cons_append,dN,dN,pK r b,List.length_cons,Nat.pow_succ,Nat.mul_add, ← Nat.mul_assoc,Nat.mul_comm 2 (b),Nat.mul_assoc,Nat.mul_comm 2 (2 ^ r.length)]
  omega
theorem pack_snoc {b : Nat} (hb : b < 2) : ∀ (n : Nat) (bs : List Nat), bs.length ≤ n → (∀ x ∈ bs, x < 2) → ∃ (pre : List UInt8) (c : Nat), c < 2 ^ (bs.length % 8) ∧ (bs.length % 8 = 0 ∧ pack bs = pre ∨ bs.length % 8 ≠ 0 ∧ pack bs = pre ++ [UInt8.ofNat c]) ∧ pack (bs ++ [b]) = pre ++ [UInt8.ofNat (c + b * 2 ^ (bs.length % 8))]
 | n, bs, hn, hx => by
  have hne:bs++[b]≠[]:=by simp
  by_cases h8:bs.length<8
  ·have hm : bs.length % 8 = bs.length := Nat.mod_eq_of_lt h8
   rw [hm,j8 hne,List.take_of_length_le (by simp; omega),List.drop_eq_nil_of_le (by simp; omega),pK]
   refine ⟨[],dN bs,oY bs hx, ?_,rfl⟩
   by_cases h0:bs=[]
   ·subst h0; exact .inl ⟨rfl,rfl⟩
   ·refine .inr ⟨fun h => h0 (List.eq_nil_of_length_eq_zero h), ?_⟩
    rw [j8 h0,List.take_of_length_le (by omega),List.drop_eq_nil_of_le (by omega)]
    first | done | rfl
  ·match n, hn with
   | 0,hn=>omega
   | n + 1, hn =>
    have h0:bs≠[]:=by intro h; subst h; simp at h8
    obtain ⟨pre,c,g1,g2,g3⟩:=pack_snoc hb n (bs.drop 8) (by rw [List.length_drop]; omega) fun x h=>hx x (List.mem_of_mem_drop h)
    have hm:(bs.drop 8).length % 8=bs.length % 8:=by rw [List.length_drop]; omega
    rw [hm] at g1 g2 g3
    rw [j8 h0,j8 hne,List.take_append_of_le_length (by omega),List.drop_append_of_le_length (by omega),g3]
    refine ⟨UInt8.ofNat (dN (bs.take 8)) :: pre,c,g1, ?_,rfl⟩
    rcases g2 with ⟨e,g2⟩ | ⟨e,g2⟩
    ·exact .inl ⟨e,by rw [g2]⟩
    ·exact .inr ⟨e,by rw [g2] <;> rfl⟩
theorem lo_snoc (x:Nat):∀ n,loBits x (n+1)=loBits x n++[x / 2 ^ n % 2]:=by
 intro n
 rw [aA3]
 first | done | rfl
end Go.Infl
set_option linter.unusedSimpArgs false
namespace Go.GAM
variable {ty:Option TypeId}
def Ext (h0 h:aA):Prop:=h0.length≤h.length∧∀ id,id<h0.length→h[id]? = h0[id]?
theorem Ext.take {h0 h:aA} (a:Ext h0 h):h.take h0.length=h0:=by
 apply List.ext_getElem?
 intro i
 rw [List.getElem?_take]
 by_cases hi:i<h0.length
 ·rw [if_pos hi,a.2 i hi]
 ·rw [if_neg hi,List.getElem?_eq_none (Nat.le_of_not_lt hi)]
def pM:AV→Bool
 | .b _ | .i _ _ | .s _ | .p none | .sl none _ _ | .nf | .ni=>true
 | _=>false
def aB8:AV→Bool
 | .ag cs | .tu cs=>cs.all pM
 | v=>pM v
theorem oV {n:Nat} {v:AV} (h:pM v=true):qG n [] v=v∧ok1 n [] v=true:=by
 unfold pM at h
 split at h <;> first | exact ⟨rfl,rfl⟩ | cases h
theorem aAN {n:Nat} {v:AV} (h:aB8 v=true):ren n [] v=v∧okR n [] v=true:=by
 have hl:∀ cs:List AV,cs.all pM=true→cs.map (qG n [])=cs∧cs.all (ok1 n [])=true:=by
  intro cs
  induction cs with
  | nil=>exact fun _=>⟨rfl,rfl⟩
  | cons c cs ih =>
   intro hc
   simp only [List.all_cons,Bool.and_eq_true] at hc
   obtain ⟨h1,h2⟩:=ih hc.2
   obtain ⟨h3,h4⟩:=oV (n:=n) hc.1
   simp [h1,h2,h3,h4]
 unfold aB8 at h
 split at h
 ·rename_i cs; obtain ⟨h1,h2⟩:=hl cs h; exact ⟨by simp [ren,h1],by simpa [okR] using h2⟩
 ·rename_i cs; obtain ⟨h1,h2⟩:=hl cs h; exact ⟨by simp [ren,h1],by simpa [okR] using h2⟩
 ·rename_i h1 h2
  obtain ⟨h3,h4⟩:=oV (n:=n) h
  constructor
  ·unfold ren; split
   ·exact absurd rfl (h1 _)
   ·exact absurd rfl (h2 _)
   ·exact h3
  ·unfold okR; split
   ·exact absurd rfl (h1 _)
   ·exact absurd rfl (h2 _)
   ·exact h4
theorem eC {h0 h:aA} {K:AV→aA→Prop} {r:AV} (hp:aB8 r=true) (hE:Ext h0 h) (hk:K r h0):aK h0 K r h:=by
 obtain ⟨h1,h2⟩:=aAN (n:=h0.length) hp
 refine .inr ⟨[],List.nodup_nil,h2,by simp,fun id hi=>.inl (hE.2 id hi),hE.1, ?_⟩
 rw [h1,hE.take]
 simpa using hk
theorem rA (l:List UInt8):(l.map byteAV).all k9=true:=by
 rw [List.all_eq_true]; intro x hx; simp only [List.mem_map] at hx; obtain ⟨c,_,rfl⟩:=hx; rfl
theorem rD (c:UInt8):toByte (byteAV c)=c:=by simp [toByte,byteAV]
theorem tG (l:List UInt8):(l.map byteAV).map toByte=l:=by
 rw [List.map_map]
 have:toByte ∘ byteAV=id:=by funext c; exact rD c
 rw [this,List.map_id]
theorem aL {n:Int} (h0 : -9223372036854775808≤n) (h1:n<9223372036854775808):IntKind.wrap .i64 n=n:=by
 have e1:(2:Int) ^ 64=18446744073709551616:=by decide
 have e2:(2:Int) ^ (64 - 1)=9223372036854775808:=by decide
 simp only [IntKind.wrap,IntKind.bits,IntKind.signed,Bool.true_and,decide_eq_true_eq,e1,e2]
 split <;> omega
theorem tA {n:Int} (h0:0≤n) (h1:n<256):IntKind.wrap .u8 n=n:=by
 simp only [IntKind.wrap,IntKind.bits,IntKind.signed,Bool.false_and,Bool.false_eq_true,if_false]
 omega
theorem getD_some {α:Type} {l:List α} {i:Nat} {c d:α} (hc:l[i]? = some c):l.getD i d=c:=by
 rw [List.getD_eq_getElem?_getD,hc] <;> rfl
theorem kT {l:List UInt8} {k:IntKind} {i:Nat} {c:UInt8} {K:Int→Prop} (hc:l[i]? = some c) (hk:K (c.toNat:Int)):dU (.s l) (.i k (i:Int)) K:=by
 obtain ⟨hlt,_⟩:=List.getElem?_eq_some_iff.1 hc
 refine ⟨by omega,by simpa using hlt, ?_⟩
 rw [Int.toNat_natCast,getD_some hc]
 exact hk
theorem yI {α:Type} {l:List α} {i:Nat} {c:α} (hc:l[i]? = some c):l.take (i+1)=l.take i++[c]:=by
 rw [List.take_add_one,hc] <;> rfl
theorem bA {c:Bool} {A B:Prop} (hc:c=true) (h:A):(bif c then A else B):=by rw [hc]; exact h
theorem aX {c:Bool} {A B:Prop} (hc:c=false) (h:B):(bif c then A else B):=by rw [hc]; exact h
theorem aM {c:Bool} {A B:Prop} (h1:c=true→A) (h2:c=false→B):(bif c then A else B):=by
 cases c
 ·exact h2 rfl
 ·exact h1 rfl
theorem aG {e n:Int} {K:Int→Prop} (h:e=n) (hk:K n):aJ e K:=by subst h; exact hk
end Go.GAM
namespace Go.GAM
section
variable {P:Program}
end
end Go.GAM
namespace Go.GAM
variable {ty:Option TypeId}
def Upd (M:Nat→Prop) (h h':aA):Prop:=h.length≤h'.length∧∀ i,i<h.length→¬ M i→h'[i]? = h[i]?
theorem Upd.refl (M:Nat→Prop) (h:aA):Upd M h h:=⟨Nat.le_refl _,fun _ _ _=>rfl⟩
theorem Upd.trans {M M':Nat→Prop} {h h1 h2:aA} (a:Upd M h h1) (b:Upd M' h1 h2) (hM:∀ i,i<h.length→M' i→M i):Upd M h h2:=
 ⟨Nat.le_trans a.1 b.1,fun i hi hn=>(b.2 i (Nat.lt_of_lt_of_le hi a.1) fun hm=>hn (hM i hi hm)).trans (a.2 i hi hn)⟩
theorem Upd.mono {M M':Nat→Prop} {h h1:aA} (a:Upd M h h1) (hM:∀ i,i<h.length→M i→M' i):Upd M' h h1:=
 ⟨a.1,fun i hi hn=>a.2 i hi fun hm=>hn (hM i hi hm)⟩
theorem Upd.app (h s:aA):Upd (fun _=>False) h (h++s):=⟨by simp,fun i hi _=>by rw [List.getElem?_append_left hi]⟩
theorem Upd.set (h:aA) (id:Nat) (b:ABlk):Upd (· = id) h (h.set id b):=⟨by simp,fun i hi hn=>by rw [List.getElem?_set_ne (fun e=>hn e.symm)]⟩
theorem aN {α:Type} {l:List α} {i:Nat} {a:α} (h:l[i]? = some a):i<l.length:=(List.getElem?_eq_some_iff.1 h).1
def bD (h:aA) (id:Nat) (cs:List AV):Prop:=∃ b:ABlk,h[id]? = some b∧b.cells=cs∧b.floor≤cs.length∧b.ro=false
theorem bD.lt {h:aA} {id:Nat} {cs:List AV} (R:bD h id cs):id<h.length:=by obtain ⟨b,h1,_⟩:=R; exact aN h1
theorem bD.upd {M:Nat→Prop} {h h':aA} {id:Nat} {cs:List AV} (R:bD h id cs) (U:Upd M h h') (hM:¬ M id):bD h' id cs:=by
 have hl:=R.lt
 obtain ⟨b,h1,h2⟩:=R
 exact ⟨b,(U.2 id hl hM).trans h1,h2⟩
theorem gK {a:AA} {K:AV→Prop} (hk:K (.p (some a))):aZ (.p (some a)) K:=hk
theorem cY {id ver off o:Nat} {K:AV→Prop} (hk:K (.p (some ⟨id,ver,off+o⟩))):aC o (.p (some ⟨id,ver,off⟩)) K:=hk
theorem iH {k:IntKind} {a b n:Int} {K:Int→Prop} (hb:b≠0) (hn:k.wrap (a.tdiv b)=n) (hk:K n):qM k a b K:=by subst hn; exact ⟨hb,hk⟩
theorem jD {a b n:Int} {K:Int→Prop} (hb:b≠0) (hn:a.tmod b=n) (hk:K n):qX a b K:=by subst hn; exact ⟨hb,hk⟩
theorem aE {h:aA} {id n o:Nat} {cs:List AV} {v:AV} {K:AV→Prop} (R:bD h id cs) (hn:n=cs.length) (hc:cs[o]? = some v) (hk:K v):aB (.p (some ⟨id,n,o⟩)) h K:=by
 obtain ⟨b,h1,rfl,h3,h4⟩:=R
 subst hn
 have:=aN hc
 refine ⟨b,h1,⟨h3,Nat.le_refl _,this⟩, ?_⟩
 show K (b.cells.getD o .u)
 rw [getD_some hc]; exact hk
theorem aT {h:aA} {id n o:Nat} {cs:List AV} {v:AV} {K:aA→Prop} (R:bD h id cs) (hn:n=cs.length) (ho:o<cs.length) (hv:v.parts=[v]:=by rfl) (hs:v.sizeOK=true:=by rfl) (hc:v.cellOK=true:=by rfl)
  (hk:∀ h',h'.length=h.length→Upd (· = id) h h'→bD h' id (cs.set o v)→K h'):aV 1 (.p (some ⟨id,n,o⟩)) v h K:=by
 have hl:=R.lt
 obtain ⟨b,h1,rfl,h3,h4⟩:=R
 subst hn
 refine ⟨b,h1,h4,h3,rfl,(by show o+1≤b.cells.length; omega),hs,by rw [hv] <;> rfl,by rw [hv]; simp [hc], ?_⟩
 refine hk _ (by simp) (Upd.set _ _ _) ⟨_,List.getElem?_set_self hl, ?_, ?_,h4⟩
 ·rw [hv] <;> rfl
 ·simp
theorem cB {cells:List AV} {h:aA} {K:AV→aA→Prop} (hk:∀ h',h'.length=h.length+1→Upd (fun _=>False) h h'→bD h' h.length cells→K (.p (some ⟨h.length,cells.length,0⟩)) h'):cX ty cells h K:=
 hk _ (by simp) (Upd.app _ _) ⟨aY cells 1 true ty,by simp,rfl,Nat.le_refl _,rfl⟩
theorem bT {x:AV} {h:aA} {K:AV→aA→Prop} (hs:x.sizeOK=true:=by rfl) (hk:∀ h',h'.length=h.length+1→Upd (fun _=>False) h h'→bD h' h.length x.parts→K (.p (some ⟨h.length,x.parts.length,0⟩)) h'):dD ty x h K:=
 ⟨hs,hk _ (by simp) (Upd.app _ _) ⟨aY x.parts 1 true ty,by simp,rfl,Nat.le_refl _,rfl⟩⟩
theorem aD {n:Int} {K:Int→Prop} (hk:K n):asI .i64 (.i .i64 n) K:=hk
theorem iQ {k:IntKind} {n:Int} {K:Int→Prop} (hk:K n):asI k (.i k n) K:=by cases k <;> exact hk
theorem bP {n:Bool} {K:Bool→Prop} (hk:K n):asB (.b n) K:=hk
theorem b7 {n:List UInt8} {K:List UInt8→Prop} (hk:K n):asS (.s n) K:=hk
theorem mN {a:Option AA} {n:Nat} {c:Option Nat} {K:Int→Prop} (hk:K n):bN (.sl a n c) K:=hk
theorem aBF:∀ (ws pre cs:List AV),ws.length=cs.length→wr (pre++cs) pre.length ws=pre++ws
 | [], pre, cs, h => by
  have:cs=[]:=List.eq_nil_of_length_eq_zero (by simpa using h.symm)
  subst this; simp [wr]
 | w :: ws,pre,[],h=>by simp at h
 | w :: ws, pre, c :: cs, h => by
  simp only [wr]
  have e:(pre++c :: cs).set pre.length w=(pre++[w])++cs:=by simp
  rw [e]
  have:=aBF ws (pre++[w]) cs (by simpa using h)
  simpa using this
theorem jJ {h:aA} {id n:Nat} {cs:List AV} {K:AV→Prop} (R:bD h id cs) (hn:n=cs.length) (hk:K (.ag cs)):dZ n (.p (some ⟨id,n,0⟩)) h K:=by
 obtain ⟨b,h1,rfl,h3,h4⟩:=R
 subst hn
 refine ⟨b,h1,⟨h3,Nat.le_refl _,by simp⟩, ?_⟩
 simpa using hk
theorem hP {h:aA} {id n:Nat} {cs ws:List AV} {K:aA→Prop} (R:bD h id cs) (hn:n=cs.length) (hw:ws.length=n) (hc:ws.all AV.cellOK=true)
  (hk:∀ h',h'.length=h.length→Upd (· = id) h h'→bD h' id ws→K h'):aV n (.p (some ⟨id,n,0⟩)) (.ag ws) h K:=by
 have hl:=R.lt
 obtain ⟨b,h1,rfl,h3,h4⟩:=R
 subst hn
 refine ⟨b,h1,h4,h3,rfl,(by show 0+b.cells.length≤b.cells.length; omega),rfl,hw,hc, ?_⟩
 refine hk _ (by simp) (Upd.set _ _ _) ⟨_,List.getElem?_set_self hl, ?_, ?_,h4⟩
 ·exact aBF ws [] b.cells hw
 ·rw [hw]; exact Nat.le_refl _
def aS (v:AV) (id:Nat):Prop:=match v with
 | .sl (some a) _ _=>a.id=id
 | _=>False
def Rd (sz:Nat) (h:aA) (v:AV) (cs:List AV) (len:Nat):Prop:=
 (v = .sl none 0 none∧len=0∧cs=[])∨∃ id ver off cap b,v = .sl (some ⟨id,ver,off⟩) len cap∧h[id]? = some b∧(b.sz=sz∨b.sz=1)∧b.floor≤ver∧ver≤b.cells.length∧off+len * sz≤ver∧(b.cells.drop off).take (len * sz)=cs
theorem Rd.upd {sz:Nat} {M:Nat→Prop} {h h':aA} {v:AV} {cs:List AV} {len:Nat} (R:Rd sz h v cs len) (U:Upd M h h') (hM:∀ id,aS v id→¬ M id):Rd sz h' v cs len:=by
 rcases R with h1 | ⟨id,ver,off,cap,b,rfl,h2,h3⟩
 ·exact .inl h1
 ·exact .inr ⟨id,ver,off,cap,b,rfl,(U.2 id (aN h2) (hM id rfl)).trans h2,h3⟩
theorem Rd.lt {sz:Nat} {h:aA} {v:AV} {cs:List AV} {len:Nat} (R:Rd sz h v cs len) {id:Nat} (hs:aS v id):id<h.length:=by
 rcases R with ⟨rfl,_⟩ | ⟨id',ver,off,cap,b,rfl,h2,h3⟩
 ·exact hs.elim
 ·cases hs; exact aN h2
theorem Rd.length {sz:Nat} {h:aA} {v:AV} {cs:List AV} {len:Nat} (R:Rd sz h v cs len):cs.length=len * sz:=by
 rcases R with ⟨_,rfl,rfl⟩ | ⟨id,ver,off,cap,b,rfl,h2,h3,h4,h5,h6,rfl⟩
 ·simp
 ·simp; omega
theorem Rd.sl {sz:Nat} {h:aA} {v:AV} {cs:List AV} {len:Nat} (R:Rd sz h v cs len) {K:List AV→Prop} (hk:K cs):eH sz v h K:=by
 rcases R with ⟨rfl,rfl,rfl⟩ | ⟨id,ver,off,cap,b,rfl,h2,h3,h4,h5,h6,rfl⟩
 ·exact hk
 ·exact .inr ⟨b,h2,⟨h4,h5,h6⟩,hk⟩
theorem Rd.len {sz:Nat} {h:aA} {v:AV} {cs:List AV} {len:Nat} (R:Rd sz h v cs len) {K:Int→Prop} (hk:K len):bN v K:=by
 rcases R with ⟨rfl,rfl,rfl⟩ | ⟨id,ver,off,cap,b,rfl,h2⟩ <;> exact hk
theorem Rd.news {sz:Nat} {h:aA} {v:AV} {cs:List AV} {len:Nat} (R:Rd sz h v cs len) {K:List AV→Nat→Prop} (hk:K cs len):eI sz v h K:=by
 rcases R with ⟨rfl,rfl,rfl⟩ | ⟨id,ver,off,cap,b,rfl,h2,h3,h4,h5,h6,rfl⟩
 ·exact hk
 ·exact .inr ⟨b,h2,⟨h4,h5,h6⟩,hk⟩
theorem Rd.idx {sz:Nat} {h:aA} {v:AV} {cs:List AV} {len:Nat} (R:Rd sz h v cs len) {k:IntKind} {i:Int} (h0:0≤i) (h1:i<len) {K:AV→Prop}
  (hk:∀ id ver off,(∃ b:ABlk,h[id]? = some b∧b.floor≤ver∧ver≤b.cells.length∧off+sz≤ver∧(b.cells.drop off).take sz=(cs.drop (i.toNat * sz)).take sz)→K (.p (some ⟨id,ver,off⟩))):aP sz v (.i k i) h K:=by
 rcases R with ⟨rfl,rfl,rfl⟩ | ⟨id,ver,off,cap,b,rfl,h2,h3,h4,h5,h6,rfl⟩
 ·omega
 ·refine ⟨h0, h1, ⟨b, h2, h4, by omega⟩, hk _ _ _ ⟨b, h2, h4, h5, ?_, ?_⟩⟩
  ·have : (i.toNat + 1) * sz ≤ len * sz := Nat.mul_le_mul_right _ (by omega)
   rw [Nat.add_mul] at this; simp only; omega
  ·have : (i.toNat + 1) * sz ≤ len * sz := Nat.mul_le_mul_right _ (by omega)
   rw [Nat.add_mul] at this
   rw [List.drop_take,List.drop_drop,List.take_take,Nat.min_eq_left (by omega)]
structure aEW (sz:Nat) (h:aA) (id ver off:Nat) (b:ABlk) (cs:List AV) (len:Nat):Prop where
 blk:h[id]? = some b
 siz:b.sz=sz∨b.sz=1
 flo:b.floor≤ver
 vle:ver≤b.cells.length
 end_:off+len * sz≤ver
 cel:(b.cells.drop off).take (len * sz)=cs
theorem aE4 {sz:Nat} {h:aA} {id ver off:Nat} {b:ABlk} {cs:List AV} {len:Nat} {cap:Option Nat} {k:IntKind} {i:Nat} {K:AV→Prop} (R:aEW sz h id ver off b cs len) (hi:i<len) (hk:K (.p (some ⟨id,ver,off+i * sz⟩))) :
  aP sz (.sl (some ⟨id,ver,off⟩) len cap) (.i k (i:Int)) h K:=
 ⟨by omega,by omega,⟨b,R.1,R.3,Nat.le_trans R.3 R.4⟩,by simpa using hk⟩
theorem aD7 {sz:Nat} {h:aA} {id ver off:Nat} {b:ABlk} {cs:List AV} {len i o:Nat} {c:AV} {K:AV→Prop} (R:aEW sz h id ver off b cs len) (hi:i<len) (ho:o<sz) (hc:cs[i * sz+o]? = some c) (hk:K c):aB (.p (some ⟨id,ver,off+i * sz+o⟩)) h K:=by
 have h1:(i+1) * sz≤len * sz:=Nat.mul_le_mul_right _ hi
 rw [Nat.add_mul] at h1
 have h2:=R.end_
 refine ⟨b,R.1,⟨R.3,R.4,by simp only; omega⟩, ?_⟩
 have h3:=R.cel
 rw [← h3,List.getElem?_take_of_lt (by omega),List.getElem?_drop] at hc
 show K (b.cells.getD (off+i * sz+o) .u)
 rw [getD_some (show b.cells[off+i * sz+o]? = some c by rw [← hc]; congr 1; omega)]
 exact hk
def Arr (sz:Nat) (h:aA) (v:AV) (cs:List AV) (len:Nat):Prop:=
 (v = .sl none 0 none∧len=0∧cs=[])∨∃ id b,v = .sl (some ⟨id,cs.length,0⟩) len none∧h[id]? = some b∧b.cells=cs∧cs.length=len * sz∧b.sz=sz∧b.floor≤cs.length∧b.ro=false∧b.gl=false
theorem Arr.rd {sz:Nat} {h:aA} {v:AV} {cs:List AV} {len:Nat} (A:Arr sz h v cs len):Rd sz h v cs len:=by
 rcases A with h1 | ⟨id,b,rfl,h2,rfl,h4,h5,h6,h7⟩
 ·exact .inl h1
 ·refine .inr ⟨id, _, 0, none, b, rfl, h2, .inl h5, h6, Nat.le_refl _, by omega, ?_⟩
  rw [List.drop_zero, ← h4,List.take_length]
theorem Arr.upd {sz:Nat} {M:Nat→Prop} {h h':aA} {v:AV} {cs:List AV} {len:Nat} (A:Arr sz h v cs len) (U:Upd M h h') (hM:∀ id,aS v id→¬ M id):Arr sz h' v cs len:=by
 rcases A with h1 | ⟨id,b,rfl,h2,h3⟩
 ·exact .inl h1
 ·exact .inr ⟨id,b,rfl,(U.2 id (aN h2) (hM id rfl)).trans h2,h3⟩
theorem Arr.append {sz bytes : Nat} {h : aA} {v x : AV} {cs ns : List AV} {len k : Nat} (A : Arr sz h v cs len) (hz : 0 < sz) {K : AV → aA → Prop}
  (hx:∀ K:List AV→Nat→Prop,K ns k→eI sz x h K) (hns:ns.length=k * sz) (hok:ns.all AV.cellOK=true) (hlen:(len+k) * bytes≤140737488355328) (hl2:len+k≤9223372036854775807)
  (hk:∀ v' h',Upd (aS v) h h'→Arr sz h' v' (cs++ns) (len+k)→(∀ id,aS v' id→aS v id∨h.length≤id)→K v' h'):bM ty sz bytes v x h K:=by
 refine ⟨hz,hx _ ?_⟩
 rcases A with ⟨rfl,rfl,rfl⟩ | ⟨id,b,rfl,h2,rfl,h4,h5,h6,h7,h8⟩
 ·refine ⟨by simpa using hlen, by omega, ?_⟩
  split
  ·rename_i h0
   subst h0
   have:ns=[]:=List.eq_nil_of_length_eq_zero (by simpa using hns)
   subst this
   exact hk _ _ (Upd.refl _ _) (.inl ⟨rfl,rfl,rfl⟩) fun id hi=>.inl hi
  ·refine hk _ _ ((Upd.app _ _).mono fun _ _ h=>h.elim) (.inr ⟨h.length,aY ns sz false ty,by simp,by simp,rfl,by simpa using hns,rfl,Nat.le_refl _,rfl,rfl⟩) fun id hi=>.inr (by cases hi; exact Nat.le_refl _)
 ·have hid := aN h2
  refine ⟨hlen,by omega,b,h2,h5,⟨h6,Nat.le_refl _,by simp only; omega⟩, ?_⟩
  have hcells:(b.cells.drop 0).take (len * sz)=b.cells:=by rw [List.drop_zero, ← h4,List.take_length]
  by_cases ht:k=0
  ·subst ht
   have:ns=[]:=List.eq_nil_of_length_eq_zero (by simpa using hns)
   subst this
   refine .inl ⟨rfl,hk _ _ (Upd.refl _ _) ?_ fun id hi=>.inl hi⟩
   rw [List.append_nil]
   exact .inr ⟨id,b,rfl,h2,rfl,h4,h5,h6,h7,h8⟩
  ·have htp : 0 < k := Nat.pos_of_ne_zero ht
   have hmul:(len+k) * sz=len * sz+k * sz:=Nat.add_mul _ _ _
   cases hex:b.ex with
   | true =>
    have hkz:0<k * sz:=Nat.mul_pos htp hz
    refine .inr (.inl ⟨htp,.inr ⟨rfl,rfl,rfl,by simp only; omega⟩, ?_⟩)
    rw [hcells]
    refine hk _ _ ((Upd.app _ _).mono fun _ _ h=>h.elim) (.inr ⟨h.length,aY (b.cells++ns) sz false ty,rfl,by simp,rfl,by simp [aY,hns,h4,hmul],rfl,by simp [aY],rfl,rfl⟩) fun id hi=>.inr (by cases hi; exact Nat.le_refl _)
   | false =>
    refine .inr (.inr (.inr (.inl ⟨htp,h7,rfl,rfl,h4.symm,rfl,rfl,h8,hok, ?_⟩)))
    refine hk _ _ ((Upd.set _ _ _).mono fun i _ h=>h.symm) (.inr ⟨id,{ b with cells:=b.cells++ns,ty:=eX b.ty ty },rfl,by simp [hid,hex],rfl,by simp [hns,h4,hmul],h5,by simp; omega,h7,h8⟩) fun id hi=>.inl hi
theorem dG {sz len:Nat} {zeros cs:List AV} {parts:List (Nat × Nat × AV)} {h:aA} {K:AV→aA→Prop} (hf:e6 zeros parts=some cs) (hl:cs.length=len * sz)
  (hk:∀ v h',h'.length=h.length+1→Upd (fun _=>False) h h'→Rd sz h' v cs len→(∀ id,aS v id→h.length≤id)→K v h'):bF sz len zeros parts h K:=by
 unfold bF
 rw [hf]
 refine ⟨hl,hk _ _ (by simp) (Upd.app _ _) (.inr ⟨h.length,cs.length,0,none,aY cs sz true,rfl,by simp,.inl rfl,Nat.le_refl _,Nat.le_refl _,by omega, ?_⟩) fun id hi=>by cases hi; exact Nat.le_refl _⟩
 simp [aY, ← hl]
theorem Arr.push {sz bytes:Nat} {h:aA} {v x:AV} {cs zeros:List AV} {len:Nat} (A:Arr sz h v cs len) (hz:0<sz) {K:AV→aA→Prop} (hf:e6 zeros [(0,sz,x)]=some x.parts) (hxl:x.parts.length=sz) (hok:x.parts.all AV.cellOK=true)
  (hlen:(len+1) * bytes≤140737488355328) (hl2:len+1≤9223372036854775807)
  (hk:∀ v' h',Upd (aS v) h h'→Arr sz h' v' (cs++x.parts) (len+1)→(∀ id,aS v' id→aS v id∨h.length≤id)→K v' h') :
  bF sz 1 zeros [(0,sz,x)] h fun y h'=>bM ty sz bytes v y h' K:=by
 refine dG hf (by omega) fun y h1 hl1 U1 R1 F1=>?_
 refine (A.upd U1 fun _ _ h=>h).append hz (ns:=x.parts) (k:=1) (fun K hK=>R1.news hK) (by omega) hok hlen hl2 fun v' h' U2 A2 F2=>hk v' h' ((U1.mono fun _ _ h=>h.elim).trans U2 fun _ _ h=>h) A2 fun id hi=>?_
 rcases F2 id hi with h | h
 ·exact .inl h
 ·exact .inr (by omega)
def Byt (h:aA) (v:AV) (l:List UInt8):Prop:=Rd 1 h v (l.map byteAV) l.length
theorem Byt.str {h:aA} {v:AV} {l:List UInt8} (B:Byt h v l) {K:List UInt8→Prop} (hk:K l):cJ v h K:=by
 refine Rd.sl B ⟨rA l, ?_⟩
 rw [tG]; exact hk
theorem xT {l:List UInt8} {lo:Nat} {K:List UInt8→Prop} (h:lo≤l.length) (hk:K (l.drop lo)):bX (.s l) (some (.i .i64 lo)) none K:=by
 refine ⟨by omega,by simpa using h,Nat.le_refl _, ?_⟩
 simpa using hk
theorem qN {l:List UInt8} {lo hi:Nat} {K:List UInt8→Prop} (h:lo≤hi) (h2:hi≤l.length) (hk:K ((l.take hi).drop lo)):bX (.s l) (some (.i .i64 lo)) (some (.i .i64 hi)) K:=by
 refine ⟨by omega,by omega,by simpa using h,by simpa using h2, ?_⟩
 simpa using hk
theorem tM {l:List UInt8} {hi:Nat} {K:List UInt8→Prop} (h2:hi≤l.length) (hk:K (l.take hi)):bX (.s l) none (some (.i .i64 hi)) K:=by
 refine ⟨by omega,by simp,by simpa using h2, ?_⟩
 simpa using hk
theorem aDJ {v w:AV} {K:AV→AV→Prop} (hk:K v w):aDX [v,w] K:=hk
end Go.GAM
namespace Go.GAM
open Go.RowKit
def nL (w : World) (szOf : Nat → Nat) : Value → AV
 | .bool x=>.b x
 | .int k n=>.i k n
 | .string s=>.s s.data.toList
 | .pointer none=>.p none
 | .pointer (some a) => match w.shape? a.block, a.spot with
  | some (_,n),none=>.p (some ⟨a.block,n,a.off⟩)
  | _,_=>.u
 | .slice none 0 0=>.sl none 0 none
 | .slice (some a) len cap => if cap = 0 then (if len = 0 then .sl (some ⟨w.heap.size, 0, 0⟩) 0 (some 0) else .u) else
  match w.shape? a.block,a.spot with
  | some (_,n),none=>if len≤cap∧a.off+cap * szOf a.block≤n then .sl (some ⟨a.block,n,a.off⟩) len (some cap) else .u
  | _,_=>.u
 | .nilFunc=>.nf
 | .nilIface=>.ni
 | .map none=>.mp none
 | _=>.u
def sJ (w:World) (szOf:Nat→Nat):Value→AV
 | .agg cs=>.ag (cs.toList.map (nL w szOf))
 | .iface t v=>.ifc t (nL w szOf v)
 | v=>nL w szOf v
def qT (w:World) (szOf:Nat→Nat) (B:Nat):ABlk:=match w.heap[B]? with
 | some (.cells c _ _)=>⟨c.toList.map (sJ w szOf),szOf B,c.size,false,true,true,none,none⟩
 | _=>cF
def gU (w:World) (szOf:Nat→Nat):aA:=(List.range w.heap.size).map (qT w szOf)++[cF]
def muC (w:World) (szOf:Nat→Nat):Mu:=fun id ver=>
 if id=w.heap.size then (if ver=0 then some ⟨0,0,0,1⟩ else none) else
 match w.shape? id with
 | some (_,n)=>if ver=n then some ⟨id,0,n,szOf id⟩ else none
 | none=>none
def aAR (w:World):Nat→Option Nat:=fun B=>if (w.shape? B).isSome then some B else none
section
variable {w:World} {szOf:Nat→Nat}
theorem qP {B:Nat} {t:TypeId} {n:Nat} (h:w.shape? B=some (t,n)):∃ c fr,w.heap[B]? = some (.cells c t fr)∧c.size=n:=by
 unfold World.shape? at h
 split at h
 ·rename_i c el fr hh
  simp only [Option.some.injEq,Prod.mk.injEq] at h
  obtain ⟨rfl,rfl⟩:=h
  exact ⟨c,fr,hh,rfl⟩
 ·cases h
theorem pG {B:Nat} {x:TypeId × Nat} (h:w.shape? B=some x):B<w.heap.size:=by
 obtain ⟨c,fr,hh,_⟩:=qP (t:=x.1) (n:=x.2) h
 exact (Array.getElem?_eq_some_iff.1 hh).1
theorem sH {B:Nat} {t:TypeId} {n:Nat} (h:w.shape? B=some (t,n)):muC w szOf B n=some ⟨B,0,n,szOf B⟩:=by
 have:=pG h
 unfold muC
 rw [if_neg (by omega),h]
 simp
theorem mL (v : Value) : aQ (muC w szOf) (nL w szOf v) v := by
  cases v <;> first | exact .u _ | exact .b _ | exact .i _ _ | exact .s _ _ rfl | exact .nf | exact .ni | skip
  case pointer a=>
    cases a with
    | none=>exact .pn
    | some a =>
      obtain ⟨B,off,spot⟩:=a
      simp only [nL]
      split
      · rename_i t n hs
        exact .p _ _ _ (sH hs) (by simp)
      · exact .u _
  case slice a len cap=>
    cases a with
    | none =>
      cases len with
      | succ l=>exact .u _
      | zero => cases cap with
        | succ c=>exact .u _
        | zero=>exact .sn
    | some a =>
      obtain ⟨B,off,spot⟩:=a
      simp only [nL]
      split
      · rename_i hc
        subst hc
        split
        · rename_i hl
          subst hl
          exact .sl _ _ _ 0 _ ⟨0,0,0,1⟩ (by unfold muC; simp) (Nat.le_refl _) (by simp) (by simp) (by simp) (by simp)
        · exact .u _
      · split
        · rename_i t n hs
          split
          · rename_i hl
            exact .sl _ _ _ cap _ _ (sH hs) hl.1 hl.2 (by simp) (by simp) (by simp)
          · exact .u _
        · exact .u _
  case map r=>cases r <;> first | exact .mpn | exact .u _
theorem qB:∀ vs:List Value,VRels (muC w szOf) (vs.map (nL w szOf)) vs
 | []=>.nil
 | v :: vs=>.cons _ _ _ _ (mL v) (qB vs)
theorem aCQ (v:Value):aQ (muC w szOf) (sJ w szOf v) v:=by
 cases v <;> simp only [sJ] <;> first | exact mL _ | exact .ag _ _ (qB _) | exact .ifc _ _ _ (mL _)
theorem tO {B:Nat} (h:B<w.heap.size):(gU w szOf)[B]? = some (qT w szOf B):=by
 unfold gU
 rw [List.getElem?_append_left (by simpa using h)]
 simp [h]
theorem zF:(gU w szOf).length=w.heap.size+1:=by simp [gU]
theorem z7 (w : World) (szOf : Nat → Nat) : Rel w (fun B => B < w.heap.size) (muC w szOf) (aAR w) (gU w szOf) w where
 os:=rfl
 tape:=rfl
 output:=rfl
 size0:=Nat.le_refl _
 fz:=fun B hB=>⟨hB,rfl⟩
 ownlt:=fun B id h=>by
  unfold aAR at h
  split at h
  ·rename_i hs
   obtain ⟨x,hx⟩:=Option.isSome_iff_exists.1 hs
   exact pG hx
  ·cases h
 mulen := fun id ver l h => by
  unfold muC at h
  split at h
  ·rename_i he
   subst he
   exact ⟨cF,by simp [gU],by simp [cF]⟩
  ·split at h
   ·rename_i t n hs
    obtain ⟨c,fr,hh,hc⟩:=qP hs
    refine ⟨qT w szOf id,tO (pG hs),fun _=>?_⟩
    split at h
    ·rename_i hv
     unfold qT
     rw [hh]
     simp [hv,hc]
    ·cases h
   ·cases h
 blk := fun id b hb hl => by
  rcases Nat.lt_or_ge id w.heap.size with hi | hi
  ·rw [tO hi] at hb
   cases hb
   unfold qT at hl ⊢
   split at hl
   ·rename_i c el fr hh
    have hs:w.shape? id=some (el,c.size):=by unfold World.shape?; rw [hh]
    refine ⟨⟨id,0,c.size,szOf id⟩, ?_⟩
    have hlen:(c.toList.map (sJ w szOf)).length=c.size:=by simp
    refine { cur:=by simp only [hlen]; exact sH hs,owned:=by simp [aAR,hs],sz:=rfl,len:=by simp,ex:=by simp,ro:=by simp,gl:=by simp,nomap:=rfl,tyok:=fun t ht=>(by cases ht),row:=⟨c,el,fr,hh,by simp⟩,free:=by simp,vers:=fun ver h1 h2 l' hl'=>?_ }
    have hv:ver=c.size:=by simp only [hlen] at h2; simp only at h1; omega
    subst hv
    rw [sH hs] at hl'
    cases hl'
    refine { own:=by simp [aAR,hs],sz:=rfl,le:=Nat.le_refl _,base:=fun _=>rfl,cells:=fun j hj=>?_ }
    refine ⟨c[j],by simp [World.cell?,hh,hj], ?_⟩
    have e:(c.toList.map (sJ w szOf)).getD j .u=sJ w szOf c[j]:=by simp [List.getD,hj]
    simp only [e]
    exact aCQ _
   ·exact absurd hl (by simp [cF])
  ·exfalso
   rcases Nat.lt_or_ge id (w.heap.size+1) with h2 | h2
   ·have : id = w.heap.size := by omega
    subst this
    simp [gU] at hb
    subst hb
    simp [cF] at hl
   ·rw [List.getElem?_eq_none (by rw [zF]; omega)] at hb; cases hb
 maps:=fun id b es hb he=>by
  exfalso
  have hm:b∈gU w szOf:=List.mem_of_getElem? hb
  unfold gU at hm
  rcases List.mem_append.1 hm with h1 | h1
  ·obtain ⟨B, _, rfl⟩ := List.mem_map.1 h1
   unfold qT at he
   split at he <;> cases he
  ·simp at h1; subst h1; cases he
end
def Yes:AV→aA→Prop:=fun v _=>v = .b true
end Go.GAM
namespace Go.GAM
open Go.RowKit Go.ChangeShapes
section
variable {H:Type} {enc:TypeId × Value→H} {P:Program} {w:World} {szOf:Nat→Nat}
end
end Go.GAM
namespace Go.GAM
variable {ty:Option TypeId}
open Go.RowKit
theorem Upd.ext {h h':aA} (U:Upd (fun _=>False) h h'):Ext h h':=⟨U.1,fun i hi=>U.2 i hi fun h=>h⟩
theorem aDK {α:Type} {l r:List α} {i:Nat} {c:α} (h:l.drop i=c :: r):i<l.length:=by
 rcases Nat.lt_or_ge i l.length with h1 | h1
 ·exact h1
 ·rw [List.drop_eq_nil_of_le h1] at h; cases h
theorem zW {α:Type} {l r:List α} {i:Nat} {c:α} (h:l.drop i=c :: r):l.drop (i+1)=r:=by
 have:(l.drop i).drop 1=r:=by rw [h] <;> rfl
 rwa [List.drop_drop] at this
theorem aBY {α:Type} {l:List α} {i:Nat} (h:l.drop i=[]):l.length≤i:=by
 have:=congrArg List.length h
 simp at this; omega
def Stk (h:aA) (v:AV) (l:List AV):Prop:=
 (v = .sl none 0 none∧l=[])∨∃ id b,v = .sl (some ⟨id,b.cells.length,0⟩) l.length none∧h[id]? = some b∧b.sz=1∧l.length≤b.cells.length∧b.cells.take l.length=l∧b.floor≤b.cells.length∧b.ro=false∧b.gl=false
theorem Stk.rd {h:aA} {v:AV} {l:List AV} (S:Stk h v l):Rd 1 h v l l.length:=by
 rcases S with ⟨rfl,rfl⟩ | ⟨id,b,rfl,h1,h2,h3,h4,h5,h6,h7⟩
 ·exact .inl ⟨rfl,rfl,rfl⟩
 ·exact .inr ⟨id,_,0,none,b,rfl,h1,.inl h2,h5,Nat.le_refl _,by omega,by rw [List.drop_zero,Nat.mul_one]; exact h4⟩
theorem Stk.upd {M:Nat→Prop} {h h':aA} {v:AV} {l:List AV} (S:Stk h v l) (U:Upd M h h') (hM:∀ i,aS v i→¬ M i):Stk h' v l:=by
 rcases S with h1 | ⟨id,b,rfl,h1,h2⟩
 ·exact .inl h1
 ·exact .inr ⟨id,b,rfl,(U.2 id (aN h1) (hM id rfl)).trans h1,h2⟩
theorem Stk.push {bytes : Nat} {h : aA} {v x : AV} {l zeros : List AV} (S : Stk h v l) (hf : e6 zeros [(0, 1, x)] = some [x]) (hx : x.cellOK = true) (hlen : (l.length + 1) * bytes ≤ 140737488355328) (hl2 : l.length + 1 ≤ 9223372036854775807) {K : AV → aA → Prop}
  (hk:∀ v' h',Upd (aS v) h h'→Stk h' v' (l++[x])→(∀ i,aS v' i→aS v i∨h.length≤i)→K v' h'):bF 1 1 zeros [(0,1,x)] h fun y h'=>bM ty 1 bytes v y h' K:=by
 refine dG hf rfl fun y h1 hl1 U1 R1 F1=>⟨Nat.one_pos,R1.news ?_⟩
 have S1:=S.upd U1 fun _ _ h=>h
 rcases S1 with ⟨rfl,rfl⟩ | ⟨id,b,rfl,g1,g2,g3,g4,g5,g6,g7⟩
 ·refine ⟨by simpa using hlen, by omega, ?_⟩
  rw [if_neg (by decide)]
  exact hk _ _ ((U1.mono fun _ _ h=>h.elim).trans (Upd.app _ _) fun _ _ h=>h.elim) (.inr ⟨h1.length,aY [x] 1 false ty,by simp [aY],by simp,rfl,by simp [aY],by simp [aY],by simp [aY],rfl,rfl⟩) fun i hi=>.inr (by have e:h1.length=i:=hi; omega)
 ·have hid := aN g1
  have hidh:id<h.length:=Rd.lt S.rd (id:=id) rfl
  refine ⟨hlen,by omega,b,g1,g2,⟨g5,Nat.le_refl _,by simp only; omega⟩, ?_⟩
  by_cases hfull:l.length=b.cells.length
  ·cases hex : b.ex with
   | true =>
    refine .inr (.inl ⟨Nat.one_pos,.inr ⟨rfl,rfl,rfl,by simp only; omega⟩, ?_⟩)
    refine hk _ _ ((U1.mono fun _ _ h=>h.elim).trans (Upd.app _ _) fun _ _ h=>h.elim) (.inr ⟨h1.length,aY (l++[x]) 1 false ty, ?_, ?_,rfl,by simp [aY],by simp only [aY,List.length_append]; exact List.take_of_length_le (by simp),by simp [aY],rfl,rfl⟩) fun i hi=>.inr (by have e:h1.length=i:=hi; omega)
    ·simp [aY,g4,g3]
    ·simp [g4]
   | false =>
    refine .inr (.inr (.inr (.inl ⟨Nat.one_pos,g6,rfl,rfl,by omega,rfl,rfl,g7,by simp [hx], ?_⟩)))
    have hcl:b.cells=l:=by rw [hfull,List.take_length] at g4; exact g4
    refine hk _ _ ((U1.mono fun _ _ h=>h.elim).trans (Upd.set _ _ _) fun i _ h=>h.symm) (.inr ⟨id,{ b with cells:=b.cells++[x],ty:=eX b.ty ty }, ?_,by simp [hid,hex],g2,by simp; omega, ?_,by simp; omega,g6,g7⟩) fun i hi=>.inl hi
    ·simp
    ·simp only [hcl]
     rw [List.take_of_length_le (by simp)]
  ·refine .inr (.inr (.inl ⟨Nat.one_pos, g6, rfl, by simp only; omega, .inl rfl, by simp [hx], ?_⟩))
   refine hk _ _ ((U1.mono fun _ _ h=>h.elim).trans (Upd.set _ _ _) fun i _ h=>h.symm) (.inr ⟨id,{ b with cells:=wr b.cells (0+l.length * 1) [x],floor:=b.cells.length }, ?_,show (h1.set id _)[id]? = some _ from List.getElem?_set_self hid,g2, ?_, ?_, ?_,g6,g7⟩) fun i hi=>.inl hi
   ·simp [wr]
   ·simp [wr]; omega
   ·simp only [wr, Nat.zero_add, Nat.mul_one, List.length_append, List.length_cons, List.length_nil]
    apply List.ext_getElem?
    intro i
    by_cases h1:i<l.length
    ·rw [List.getElem?_take_of_lt (by omega), List.getElem?_set_ne (by omega), List.getElem?_append_left h1]
     conv=>rhs; rw [← g4]
     rw [List.getElem?_take_of_lt h1]
    ·by_cases h2 : i = l.length
     ·subst h2
      rw [List.getElem?_take_of_lt (by omega),List.getElem?_set_self (by omega),List.getElem?_append_right (by omega)]
      simp
     ·rw [List.getElem?_eq_none (by simp; omega),List.getElem?_eq_none (by simp; omega)]
   ·simp [wr]
theorem Rd.cell {sz:Nat} {h:aA} {v:AV} {cs:List AV} {len:Nat} (R:Rd sz h v cs len) {k:IntKind} {i:Nat} {c:AV} (hz:0<sz) (hi:i<len) (hc:cs[i * sz]? = some c) {K:AV→Prop} (hk:K c) :
  aP sz v (.i k (i:Int)) h fun a=>aB a h K:=by
 rcases R with ⟨rfl,rfl,rfl⟩ | ⟨id,ver,off,cap,b,rfl,h2,h3,h4,h5,h6,h7⟩
 ·omega
 ·have A : aEW sz h id ver off b cs len := ⟨h2, h3, h4, h5, h6, h7⟩
  exact aE4 A hi (aD7 (o:=0) A hi hz (by simpa using hc) hk)
theorem mE {x:Nat} (h:x<2 ^ 64):(BitVec.ofInt 64 (x:Int)).toNat=x:=by
 simp [BitVec.toNat_ofInt]; omega
theorem xI {x y:Nat} (hx:x<2 ^ 62) (hy:y<2 ^ 62):bK .or .i64 x y=((x ||| y:Nat):Int):=by
 have h:x ||| y<2 ^ 62:=Nat.or_lt_two_pow hx hy
 show IntKind.wrap .i64 (((BitVec.ofInt 64 (x:Int)) ||| (BitVec.ofInt 64 (y:Int))).toNat:Int)=_
 rw [BitVec.toNat_or,mE (by omega),mE (by omega),aL (by omega) (by omega)]
theorem hZ {x y:Nat} (hx:x<2 ^ 62) (hy:y<2 ^ 62):bK .and .i64 x y=((x &&& y:Nat):Int):=by
 have h:x &&& y<2 ^ 62:=Nat.and_lt_two_pow _ hy
 show IntKind.wrap .i64 (((BitVec.ofInt 64 (x:Int)) &&& (BitVec.ofInt 64 (y:Int))).toNat:Int)=_
 rw [BitVec.toNat_and,mE (by omega),mE (by omega),aL (by omega) (by omega)]
theorem iR {a b:Nat} {K:Int→Prop} (hb:b≤64) (h:a * 2 ^ b<2 ^ 62) (hk:K ((a * 2 ^ b:Nat):Int)):jS .i64 a b K:=by
 refine ⟨by omega, ?_⟩
 have e:(a:Int) * 2 ^ (min (b:Int).toNat IntKind.i64.bits)=((a * 2 ^ b:Nat):Int):=by
  rw [Int.toNat_natCast,show IntKind.i64.bits=64 from rfl,Nat.min_eq_left hb]; simp
 rw [e,aL (by omega) (by omega)]; exact hk
theorem pA {a b:Nat} {k:IntKind} {K:Int→Prop} (hb:b≤k.bits) (hk:K ((a / 2 ^ b:Nat):Int)):jV k a b K:=by
 refine ⟨by omega, ?_⟩
 have e:(a:Int).fdiv (2 ^ (min (b:Int).toNat k.bits))=((a / 2 ^ b:Nat):Int):=by
  rw [Int.toNat_natCast,Nat.min_eq_left hb]
  have h2:((2:Int) ^ b)=((2 ^ b:Nat):Int):=by simp
  rw [h2,Int.fdiv_eq_ediv_of_nonneg _ (Int.natCast_nonneg (2 ^ b))] <;> rfl
 rw [e]; exact hk
end Go.GAM
namespace Go.GAM
open Go.RowKit
section
variable {H:Type} {enc:TypeId × Value→H} {P:Program} {w:World} {szOf:Nat→Nat}
end
theorem Rd.byte {h:aA} {v:AV} {l:List UInt8} {len:Nat} (R:Rd 1 h v (l.map byteAV) len) {k:IntKind} {i:Nat} {x:UInt8} (hx:l[i]? = some x) {K:Int→Prop} (hk:K (x.toNat:Int)) :
  aP 1 v (.i k (i:Int)) h fun a=>aB a h fun y=>asI .u8 y K:=by
 have hl:=R.length
 rw [List.length_map,Nat.mul_one] at hl
 exact R.cell Nat.one_pos (by have:=aN hx; omega) (c:=byteAV x) (by rw [Nat.mul_one,List.getElem?_map,hx] <;> rfl) (iQ hk)
end Go.GAM
namespace Go.GAM
open Go.RowKit Go.ChangeShapes
section
variable {H:Type} {enc:TypeId × Value→H} {P:Program} {w:World} {szOf:Nat→Nat}
theorem wU {n:String} {d:DataW Unit} {l:List (String × DataW Unit)} (hm:(n,d)∈l) (hL:laidMet P l w) :
  ∃ g t cs fuel p,P.globalNamed n=some g∧(P.globals[g]?).map (·.type)=some t∧w.var? P n=some cs∧DataW.trod (fun _=>()) P w 0 (fun _=>true) false fuel t cs.toList=some (d,p):=by
 obtain ⟨ps,h,hx⟩:=hL
 clear hx
 induction l generalizing ps with
 | nil=>cases hm
 | cons x l ih =>
  obtain ⟨n',d'⟩:=x
  obtain ⟨g,t,cs,fuel,p,q,h1,h2,h3,h4,h5,h6⟩:=h
  rcases List.mem_cons.1 hm with h | h
  ·cases h; exact ⟨g,t,cs,fuel,p,h1,h2,h3,h4⟩
  ·exact ih h _ h5
theorem y0 {n:String} {g:Nat} {cs:Array Value} (hg:P.globalNamed n=some g) (hv:w.var? P n=some cs):∃ t fr,w.heap[g]? = some (.cells cs t fr):=by
 unfold World.var? at hv
 rw [hg] at hv
 simp only [Option.bind_some] at hv
 split at hv
 ·rename_i c t fr h
  cases hv
  exact ⟨t,fr,h⟩
 ·cases hv
end
theorem Rd.cutAt {sz:Nat} {h:aA} {v:AV} {cs:List AV} {len:Nat} (R:Rd sz h v cs len) (hz:0<sz) {lo:Option AV} {lo' hi:Nat} (hlo:lo=none∧lo'=0∨lo=some (.i .i64 lo')) (h1:lo'≤hi) (h2:hi≤len) (z1:sz=1:=by rfl) :
  ∃ v',Rd sz h v' ((cs.take (hi * sz)).drop (lo' * sz)) (hi - lo')∧∀ (K:AV→Prop),K v'→bG sz v lo (some (.i .i64 (hi:Int))) none h K:=by
 rcases R with ⟨rfl,h0,rfl⟩ | ⟨id,ver,off,cap,b,rfl,g2,g3,g4,g5,g6,g7⟩
 ·have : hi = 0 := by omega
  subst this
  have:lo'=0:=by omega
  subst this
  refine ⟨.sl none 0 none,.inl ⟨rfl,rfl,by simp⟩,fun K hk=>⟨by simp, ?_⟩⟩
  rcases hlo with ⟨rfl,_⟩ | rfl
  ·exact ⟨rfl,rfl,rfl,fun h=>by simp at h,hk⟩
  ·exact ⟨by simp,rfl,rfl,rfl,fun h=>by simp at h,hk⟩
 ·have e2 : hi * sz ≤ len * sz := Nat.mul_le_mul_right _ h2
  have e1:lo' * sz≤hi * sz:=Nat.mul_le_mul_right _ h1
  have e3:(hi - lo') * sz=hi * sz - lo' * sz:=Nat.sub_mul _ _ _
  refine ⟨.sl (some ⟨id,ver,off+lo' * sz⟩) (hi - lo') (cap.map (· - lo')),.inr ⟨id,ver,off+lo' * sz,_,b,rfl,g2,g3,g4,g5,by omega, ?_⟩,fun K hk=>?_⟩
  ·rw [← g7,List.take_take,Nat.min_eq_left e2,List.drop_take,List.drop_drop,e3]
  ·refine ⟨hz, fun h => by simp at h, by omega, ?_⟩
   rcases hlo with ⟨rfl,rfl⟩ | rfl
   ·exact ⟨by omega,b,g2,by omega,g4,.inl (g3.elim (fun x=>x) fun x=>x.trans z1.symm),.inl (by simpa using h2),by simpa using hk⟩
   ·exact ⟨by omega,by simpa using h1,b,g2,by omega,g4,.inl (g3.elim (fun x=>x) fun x=>x.trans z1.symm),.inl (by simpa using h2),by simpa using hk⟩
end Go.GAM
namespace Go.GAM
variable {ty:Option TypeId}
open Go.RowKit
theorem inc {i:Nat} {K:Int→Prop} (h:i<9223372036854775807) (hk:K ((i+1:Nat):Int)):aJ (IntKind.wrap .i64 ((i:Int)+1)) K:=
 aG (n:=((i+1:Nat):Int)) (by rw [aL (by omega) (by omega)]; omega) hk
theorem cQ {e n:Int} {K:Int→Prop} (h:e=n) (h0 : -9223372036854775808≤n) (h1:n<9223372036854775808) (hk:K n):aJ (IntKind.wrap .i64 e) K:=
 aG (by rw [h,aL h0 h1]) hk
theorem dK {α:Type} {l:List α} {i:Nat} {c:α} (hc:l[i]? = some c):l.take (i+1)=l.take i++[c]:=by
 rw [List.take_add_one,hc] <;> rfl
theorem wM {α:Type} {l r:List α} {i:Nat} {c:α} (h:l.drop i=c :: r):l[i]? = some c:=by
 have:(l.drop i)[0]? = some c:=by rw [h] <;> rfl
 simpa using this
theorem cR {R:aU} {f:Nat} {first cap vs:List AV} {h:aA} {K:AV→aA→Prop} (hf:Nat.blt f yid0=true) (hk:R f (first++vs++cap) h K):bV R (.fn (.func f) first cap) vs h K:=by
 unfold bV
 simp only
 unfold kM
 exact bA hf hk
theorem pY (z:AV):∀ n,(List.replicate n [z]).flatten=List.replicate n z
 | 0=>rfl
 | n+1=>by rw [List.replicate_succ,List.flatten_cons,pY z n,List.replicate_succ] <;> rfl
theorem wrap_u64 {n:Int} (h0:0≤n) (h1:n<18446744073709551616):IntKind.wrap .u64 n=n:=by
 have:IntKind.wrap .u64 n=n % 18446744073709551616:=by
  show n.emod (2 ^ 64)=_
  rfl
 rw [this]; omega
end Go.GAM
namespace Go.GAM
open Go.RowKit
end Go.GAM
namespace Go.GAM
open Go.RowKit
section
variable {P:Program} {α:Type} [DecidableEq α]
def gL (κ:α→AV) (kv:List (α × AV)):List (AV × AV):=kv.map fun p=>(κ p.1,p.2)
def lkI:List (α × AV)→α→Nat→Option (Nat × AV)
 | [],_,_=>none
 | (k,v) :: r,x,i=>if x=k then some (i,v) else lkI r x (i+1)
def lkM (kv:List (α × AV)) (x:α):Option AV:=(lkI kv x 0).map (·.2)
def upM:List (α × AV)→α→AV→List (α × AV)
 | [],x,v=>[(x,v)]
 | (k,w) :: r,x,v=>if x=k then (k,v) :: r else (k,w) :: upM r x v
theorem xF (x:α):∀ (kv:List (α × AV)) (i j:Nat),(lkI kv x i).map (·.2)=(lkI kv x j).map (·.2)
 | [],_,_=>rfl
 | (k, v) :: r, i, j => by
  unfold lkI
  split
  ·rfl
  ·exact xF x r _ _
theorem jI (k:α) (v:AV) (r:List (α × AV)) (x:α):lkM ((k,v) :: r) x=if x=k then some v else lkM r x:=by
 unfold lkM
 rw [lkI]
 split
 ·rfl
 ·exact xF x r _ _
theorem aB9 (x:α) (v:AV) (y:α):∀ kv:List (α × AV),lkM (upM kv x v) y=if y=x then some v else lkM kv y
 | []=>by rw [upM,jI]
 | (k, w) :: r => by
  unfold upM
  by_cases h:x=k
  ·subst h
   rw [if_pos rfl,jI,jI]
   split <;> rfl
  ·rw [if_neg h, jI, jI, aB9 x v y r]
   by_cases hy:y=k
   ·subst hy; rw [if_pos rfl,if_pos rfl,if_neg (fun e=>h e.symm)]
   ·rw [if_neg hy,if_neg hy]
def vB (P:Program) (kt:TypeId) (κ:α→AV):Prop:=∀ a b,aEq P 64 kt (κ a) (κ b)=some (decide (a=b))
theorem p5 {kt:TypeId} {κ:α→AV} (hκ:vB P kt κ) (x:α):∀ (kv:List (α × AV)) (i:Nat),i9 P kt (κ x) (gL κ kv) i=some (lkI kv x i)
 | [],_=>rfl
 | (k, v) :: r, i => by
  have e:=p5 hκ x r (i+1)
  show i9 P kt (κ x) ((κ k,v) :: gL κ r) i=_
  rw [i9]
  show (match aEq P 64 kt (κ x) (κ k) with
   | some true=>some (some (i,v))
   | some false=>i9 P kt (κ x) (gL κ r) (i+1)
   | none=>none)=_
  rw [hκ x k,lkI]
  by_cases h:x=k
  ·rw [decide_eq_true h,if_pos h]
  ·rw [decide_eq_false h,if_neg h]; exact e
def jG (κ:α→AV) (h:aA) (id:Nat) (kv:List (α × AV)):Prop:=h[id]? = some (eQ (gL κ kv))
theorem jG.lt {κ:α→AV} {h:aA} {id:Nat} {kv:List (α × AV)} (M:jG κ h id kv):id<h.length:=aN M
theorem jG.upd {κ:α→AV} {M:Nat→Prop} {h h':aA} {id:Nat} {kv:List (α × AV)} (A:jG κ h id kv) (U:Upd M h h') (hM:¬ M id):jG κ h' id kv:=(U.2 id A.lt hM).trans A
theorem wN (κ:α→AV) {h:aA} {K:AV→aA→Prop} (hk:∀ h',h'.length=h.length+1→Upd (fun _=>False) h h'→jG κ h' h.length []→K (.mp (some h.length)) h'):lZ h K:=
 hk _ (by simp) (Upd.app _ _) (by unfold jG; simp [gL])
theorem nD {κ:α→AV} {h:aA} {id:Nat} {kv:List (α × AV)} {kt el:TypeId} {x:α} {z:AV} {K:AV→Prop} (M:jG κ h id kv) (hκ:vB P kt κ) (hv:y8 P kt (κ x)=true) (hz:uP P el=some z) (hk:K ((lkM kv x).getD z)):eR P kt el false (.mp (some id)) (κ x) h K:=by
 refine ⟨hv, ?_⟩
 have e:xO (.mp (some id)) h=some (gL κ kv):=by show ((h[id]?).bind (·.mp)).bind aFA=_; rw [M] <;> rfl
 rw [e]
 simp only
 rw [p5 hκ]
 unfold lkM at hk
 cases hl:lkI kv x 0 with
 | none=>rw [hl] at hk; simp only; rw [hz]; exact hk
 | some p=>rw [hl] at hk; exact hk
theorem aBR {κ : α → AV} (x : α) (v : AV) : ∀ (kv : List (α × AV)) (i : Nat), match lkI kv x i with
  | none=>upM kv x v=kv++[(x,v)]
  | some (j,_)=>i≤j∧kv[j - i]?.map (·.1)=some x∧upM kv x v=kv.set (j - i) (x,v)
 | [],i=>rfl
 | (k, w) :: r, i => by
  have ih:=aBR (κ:=κ) x v r (i+1)
  rw [lkI]
  by_cases h:x=k
  ·subst h
   rw [if_pos rfl]
   exact ⟨Nat.le_refl _,by simp,by simp [upM]⟩
  ·rw [if_neg h]
   cases hl:lkI r x (i+1) with
   | none=>rw [hl] at ih; simp only at ih ⊢; rw [upM,if_neg h,ih] <;> rfl
   | some p =>
    obtain ⟨j,u1⟩:=p
    rw [hl] at ih
    simp only at ih ⊢
    obtain ⟨h1,h2,h3⟩:=ih
    obtain ⟨m,rfl⟩:∃ m,j=i+1+m:=⟨j - (i+1),by omega⟩
    rw [show i+1+m - (i+1)=m by omega] at h2 h3
    rw [show i+1+m - i=m+1 by omega,upM,if_neg h,h3]
    exact ⟨by omega,by simpa using h2,by simp⟩
theorem y2 {κ:α→AV} {h:aA} {id:Nat} {kv:List (α × AV)} {kt:TypeId} {x:α} {v:AV} {K:aA→Prop} (M:jG κ h id kv) (hκ:vB P kt κ) (hv:y8 P kt (κ x)=true) (hp:rU (κ x)=true)
  (hk:∀ h',h'.length=h.length→Upd (· = id) h h'→jG κ h' id (upM kv x v)→K h'):gA P kt (.mp (some id)) (κ x) v h K:=by
 refine ⟨hv,hp,_,_,M,rfl, ?_⟩
 rw [p5 hκ]
 have hu:=aBR (κ:=κ) x v kv 0
 have fin:∀ es,es=gL κ (upM kv x v)→K (h.set id (eQ es)):=by
  rintro es rfl
  exact hk _ (by simp) (Upd.set _ _ _) (List.getElem?_set_self M.lt)
 cases hl:lkI kv x 0 with
 | none =>
  rw [hl] at hu
  exact fin _ (by simp only at hu; rw [hu]; simp [gL])
 | some p =>
  obtain ⟨j,u1⟩:=p
  rw [hl] at hu
  simp only [Nat.sub_zero] at hu
  obtain ⟨_,h2,h3⟩:=hu
  refine ⟨?_,fin _ (by rw [h3]; simp [gL,List.map_set])⟩
  obtain ⟨q,hq,hqx⟩:=Option.map_eq_some_iff.1 h2
  exact ⟨q.2,by unfold gL; rw [List.getElem?_map,hq]; simp [hqx]⟩
theorem yO {kt:TypeId} (hu:P.underlying kt=some .string):vB P kt (fun l:List UInt8=>.s l):=fun a b=>by
 rw [xD (d:=63) hu]
 show some (a == b)=_
 congr 1
 rw [Bool.eq_iff_iff]; simp
end
section
variable {P:Program}
end
end Go.GAM
namespace Go.GAM
section
variable {P:Program} {w0:World} {Fz:Nat→Prop} {μ:Mu} {own:Nat→Option Nat} {h:aA} {w:World}
theorem aCB {f:FuncId} {fn:Func} {ex:Array Value→Sem Value} (hf:P.funcs[f]? = some fn) (hn:(fn.name == "runtime.NumGoroutine")=false) (hb:fn.body.isNone=true)
  (h1:Extern.findNext fn=none) (h2:Extern.find fn=some ex) {args:Array Value} {v:Value} {w w':World} (he:(ex args).run P w = .ok v w'):(callFunc f args).run P w = .ok (.value v) w':=by
 have hn':fn.name ≠ "runtime.NumGoroutine":=by simpa using hn
 have hb':fn.body=none:=by simpa using hb
 have hm:∀ (m:Mark) (k:Sem Unit) (w:World),Sem.run P (Sem.mark m k) w=Sem.run P k w:=fun _ _ _=>rfl
 unfold callFunc
 simp [go_sem,hf,hn',hb',h1,h2,mark,hm,he]
def aEI (P : Program) (ex : Array Value → Sem Value) (X : List AV → aA → (AV → aA → Prop) → Prop) : Prop :=
 ∀ (w0 : World) (Fz : Nat → Prop) (μ : Mu) (own : Nat → Option Nat) (h : aA) (w : World) (args : List AV) (cargs : List Value) (K : AV → aA → Prop), Rel w0 Fz μ own h w → VRels μ args cargs → X args h K →
  ∃ cv w',(ex cargs.toArray).run P w = .ok cv w'∧fJ w0 Fz μ K cv w'
structure aAU (P:Program) (f:FuncId) (ex:Array Value→Sem Value):Prop where
 is:∃ fn,P.funcs[f]? = some fn∧(fn.name == "runtime.NumGoroutine")=false∧fn.body.isNone=true∧Extern.findNext fn=none∧Extern.find fn=some ex
theorem aAU.sim {f:FuncId} {ex:Array Value→Sem Value} {X:List AV→aA→(AV→aA→Prop)→Prop} (A:aAU P f ex) (E:aEI P ex X) (hlt:f<yid0) {μb:Mu} {args:List AV} {h:aA} {K:AV→aA→Prop} (hk:X args h K):xS P w0 Fz μb f args h K:=by
 intro μ own w cargs hsb R hc
 rw [if_pos hlt]
 obtain ⟨fn,h1,h2,h3,h4,h5⟩:=A.is
 obtain ⟨cv,w',e1,e2⟩:=E w0 Fz μ own h w args cargs K R hc hk
 exact .inr ⟨cv,w',aCB h1 h2 h3 h4 h5 e1,e2⟩
end
end Go.GAM
namespace Go.GAM
def dB (E:TypeId) (h:aA) (v:AV) (l:List UInt8):Prop:=
 (v = .sl none 0 none∧l=[])∨∃ id b,v = .sl (some ⟨id,l.length,0⟩) l.length none∧h[id]? = some b∧b.cells=l.map byteAV∧b.sz=1∧b.floor≤l.length∧b.ro=false∧b.ex=false∧b.gl=false∧b.ty=some E∧l≠[]
theorem dB.upd {E:TypeId} {M:Nat→Prop} {h h':aA} {v:AV} {l:List UInt8} (B:dB E h v l) (U:Upd M h h') (hM:∀ i,aS v i→¬ M i):dB E h' v l:=by
 rcases B with B | ⟨id,b,rfl,h1,h2⟩
 ·exact .inl B
 ·exact .inr ⟨id,b,rfl,(U.2 id (aN h1) (hM id rfl)).trans h1,h2⟩
theorem dB.lt {E:TypeId} {h:aA} {v:AV} {l:List UInt8} (B:dB E h v l) {i:Nat} (hi:aS v i):i<h.length:=by
 rcases B with ⟨rfl,_⟩ | ⟨id,b,rfl,h1,h2⟩
 ·exact hi.elim
 ·cases hi; exact aN h1
theorem dB.append {E:TypeId} {h:aA} {v x:AV} {l t:List UInt8} (B:dB E h v l) (hx:∀ K:List AV→Nat→Prop,K (t.map byteAV) t.length→eI 1 x h K) (hlen:l.length+t.length≤140737488355328) {K:AV→aA→Prop}
  (hk:∀ v' h',Upd (aS v) h h'→dB E h' v' (l++t)→(∀ i,aS v' i→aS v i∨h.length≤i)→K v' h'):bM (some E) 1 1 v x h K:=by
 refine ⟨by decide,hx _ ?_⟩
 have hok:(t.map byteAV).all AV.cellOK=true:=by
  rw [List.all_eq_true]; intro x hx
  obtain ⟨c,_,rfl⟩:=List.mem_map.1 hx
  rfl
 rcases B with ⟨rfl,rfl⟩ | ⟨id,b,rfl,h1,h2,h3,h4,h5,h6,h7,h8,h9⟩
 ·refine ⟨by simp only [List.length_nil] at hlen; omega, by simp only [List.length_nil] at hlen; omega, ?_⟩
  by_cases ht:t=[]
  ·subst ht
   show K (.sl none 0 none) h
   exact hk _ _ (Upd.refl _ _) (.inl ⟨rfl,rfl⟩) fun i hi=>.inl hi
  ·have htl : t.length ≠ 0 := by simpa using ht
   rw [if_neg htl]
   refine hk _ _ ((Upd.app _ _).mono fun _ _ h=>h.elim) (.inr ⟨h.length,aY (t.map byteAV) 1 false (some E),by simp,by simp,rfl,rfl,by simp [aY],rfl,rfl,rfl,rfl,by simpa using ht⟩) fun i hi=>.inr ?_
   cases hi; exact Nat.le_refl _
 ·have hidl := aN h1
  have hbl:b.cells.length=l.length:=by rw [h2]; simp
  have hll:0<l.length:=List.length_pos_iff.2 h9
  refine ⟨by omega,by omega,b,h1,h3,⟨h4,by rw [hbl]; exact Nat.le_refl _,by simp⟩, ?_⟩
  by_cases ht:t=[]
  ·subst ht
   left
   exact ⟨rfl,hk _ _ (Upd.refl _ _) (.inr ⟨id,b,by simp,h1,by simpa using h2,h3,by simpa using h4,h5,h6,h7,h8,by simpa using h9⟩) fun i hi=>.inl hi⟩
  ·have htl : 0 < t.length := List.length_pos_iff.2 ht
   right; right; right; left
   refine ⟨htl,h5,hbl.symm,rfl,by rw [hbl]; simp,rfl,h6,h7,hok, ?_⟩
   have hty:eX b.ty (some E)=some E:=by rw [h8]; simp [eX]
   refine hk _ _ ((Upd.set _ _ _).mono fun i _ h=>h.symm) (.inr ⟨id,{ b with cells:=b.cells++t.map byteAV,ty:=eX b.ty (some E) },by simp [hbl],List.getElem?_set_self hidl,by simp [h2],h3,by simp; omega,h5,h6,h7,hty,by simp [h9]⟩) fun i hi=>.inl ?_
   exact hi
section
variable {P:Program} {T E:TypeId} {h:aA} {id off:Nat} {cs:List AV} {buf:AV} {l:List UInt8}
theorem tK {t:TypeId} {K:AV→Prop} (ht:kN P t=true) (hk:K (.b true)):eG P .eql t (.p none) (.p none) K:=by
 simp only [eG,ht,cond_true]; exact hk
theorem j9 {t:TypeId} {a:AA} {K:AV→Prop} (ht:kN P t=true) (hk:K (.b false)):eG P .eql t (.p (some a)) (.p none) K:=by
 simp only [eG,ht,cond_true]; exact hk
end
end Go.GAM
namespace Go.GAM
abbrev xV:=List AV→aA→(AV→aA→Prop)→Prop
def aDM (T:List (FuncId × xV)):aU:=fun f args h K=>∃ X,(f,X)∈T∧X args h K
section
variable {P:Program} {w0:World} {Fz:Nat→Prop} {μ:Mu} {own:Nat→Option Nat} {h:aA} {w:World}
def aFZ (P:Program) (r:FuncId × xV):Prop:=r.1<yid0∧∃ ex,aAU P r.1 ex∧aEI P ex r.2
theorem vK {T:List (FuncId × xV)} (hT:∀ r∈T,aFZ P r):gY P (aDM T):=by
 rintro w0 Fz μb f args h K ⟨X,hm,hk⟩
 obtain ⟨hlt,ex,hA,hE⟩:=hT _ hm
 exact hA.sim hE hlt hk
end
open Go.RowKit in
theorem tP {P:Program} {X:aU} (hm:P.follows .mixedOrders=true) (hsz:P.funcs.size≤yid0) {w:World} (hX:bU P w (fun B=>B<w.heap.size) (fun _ _=>none) X) {f:FuncId} (hb:iT P f=true) {szOf:Nat→Nat} {avs:List AV} {args:Array Value}
  (hv:VRels (muC w szOf) avs args.toList) (hk:dS P X f avs (gU w szOf) Yes):Calls P f args w fun e w'=>e = .returned (.bool true)∧Below w.heap.size w w':=by
 have hlt:f<yid0:=by
  unfold iT at hb
  split at hb
  ·rename_i fn hf; exact Nat.lt_of_lt_of_le (Array.getElem?_eq_some_iff.1 hf).1 hsz
  ·cases hb
 have hs:=gN hm hsz hX f avs _ _ hk (muC w szOf) (aAR w) w args.toList (fun _ _ _ h=>by cases h) (z7 w szOf) hv
 rw [if_pos hlt] at hs
 have hrun:=kS hb args w
 rcases hs with ⟨g,as',h1,h2⟩ | ⟨v,w',h1,h2⟩
 ·rw [Array.toArray_toList, hrun] at h1
  cases h1
  refine h2.mono fun e w' ⟨v,he,v',μ',own',h',g1,g2,g3,g4⟩=>?_
  subst he
  have g1:v' = .b true:=g1
  subst g1
  cases g2
  exact ⟨rfl,g3.os,g3.tape,g3.output,g3.size0,fun k hk=>(g3.fz k hk).2⟩
 ·rw [Array.toArray_toList,hrun] at h1; cases h1
end Go.GAM
set_option maxRecDepth 20000
namespace Go.Proofs.YtpaphfeihpgamaaDoor
open Go.GAM
theorem mixedOK:prog.follows .mixedOrders=true:=by kernel_rfl
theorem sizeOK:prog.funcs.size≤yid0:=Nat.le_of_ble_eq_true (by kernel_rfl)
def aD3:List (FuncId × xV):=[]
theorem aC8:∀ r∈aD3,aFZ prog r:=fun r hr=>by cases hr
theorem k8:gY prog (aDM aD3):=vK aC8
end Go.Proofs.YtpaphfeihpgamaaDoor
namespace Go.GAM
open Go.RowKit Go.ChangeShapes
section
variable {H:Type} {enc:TypeId × Value→H} {P:Program} {w:World} {szOf:Nat→Nat}
end
end Go.GAM
namespace Go.GAM
open Go.RowKit Go.ChangeShapes
theorem Upd.own {h h1 h2:aA} {id:Nat} (a:Upd (fun _=>False) h h1) (b:Upd (· = id) h1 h2) (hid:h.length≤id):Upd (fun _=>False) h h2:=a.trans b fun i hi e=>by omega
theorem Upd.ownP {M:Nat→Prop} {h h1 h2:aA} (a:Upd (fun _=>False) h h1) (b:Upd M h1 h2) (hM:∀ i,M i→h.length≤i):Upd (fun _=>False) h h2:=a.trans b fun i hi e=>by have:=hM i e; omega
theorem Upd.then {h h1 h2:aA} (a:Upd (fun _=>False) h h1) (b:Upd (fun _=>False) h1 h2):Upd (fun _=>False) h h2:=a.trans b fun _ _ h=>h
theorem aEJ {zeros cs:List AV} {parts:List (Nat × Nat × AV)} {K:AV→Prop} (hf:e6 zeros parts=some cs) (hk:K (.ag cs)):iU zeros parts K:=by
 unfold iU; rw [hf]; exact hk
def RdI (sz:Nat) (h:aA) (v:AV) (cs:List AV) (len:Nat):Prop:=
 (v = .sl none 0 none∧len=0∧cs=[])∨(len=0∧cs=[]∧∃ a c,v = .sl (some a) 0 c)∨∃ id ver off cap b,v = .sl (some ⟨id,ver,off⟩) len cap∧h[id]? = some b∧b.floor≤ver∧ver≤b.cells.length∧off+len * sz≤ver∧(b.cells.drop off).take (len * sz)=cs
theorem Rd.i {sz:Nat} {h:aA} {v:AV} {cs:List AV} {len:Nat} (R:Rd sz h v cs len):RdI sz h v cs len:=by
 rcases R with h1 | ⟨id,ver,off,cap,b,h1,h2,h3,h4⟩
 ·exact .inl h1
 ·exact .inr (.inr ⟨id,ver,off,cap,b,h1,h2,h4⟩)
theorem RdI.ext {sz:Nat} {h h':aA} {v:AV} {cs:List AV} {len:Nat} (R:RdI sz h v cs len) (U:Upd (fun _=>False) h h'):RdI sz h' v cs len:=by
 rcases R with h1 | h1 | ⟨id,ver,off,cap,b,rfl,h2,h3⟩
 ·exact .inl h1
 ·exact .inr (.inl h1)
 ·exact .inr (.inr ⟨id,ver,off,cap,b,rfl,(U.2 id (aN h2) fun h=>h).trans h2,h3⟩)
theorem RdI.len {sz:Nat} {h:aA} {v:AV} {cs:List AV} {len:Nat} (R:RdI sz h v cs len) {K:Int→Prop} (hk:K len):bN v K:=by
 rcases R with ⟨rfl,rfl,rfl⟩ | ⟨rfl,_,a,c,rfl⟩ | ⟨id,ver,off,cap,b,rfl,h2⟩ <;> exact hk
def uZ (sz:Nat) (h:aA) (p:AV) (cs:List AV):Prop:=∃ id ver off,p = .p (some ⟨id,ver,off⟩)∧∃ b:ABlk,h[id]? = some b∧b.floor≤ver∧ver≤b.cells.length∧off+sz≤ver∧(b.cells.drop off).take sz=cs
theorem RdI.at {sz:Nat} {h:aA} {v:AV} {cs:List AV} {len:Nat} (R:RdI sz h v cs len) {i:Nat} (h1:i<len):∃ p,uZ sz h p ((cs.drop (i * sz)).take sz)∧∀ (k:IntKind) (h':aA) (K:AV→Prop),Upd (fun _=>False) h h'→K p→aP sz v (.i k (i:Int)) h' K:=by
 rcases R with ⟨rfl,rfl,rfl⟩ | ⟨rfl,_⟩ | ⟨id,ver,off,cap,b,rfl,h2,h4,h5,h6,rfl⟩
 ·omega
 ·omega
 ·have e1 : (i + 1) * sz ≤ len * sz := Nat.mul_le_mul_right _ (by omega)
  rw [Nat.add_mul] at e1
  refine ⟨.p (some ⟨id,ver,off+i * sz⟩),⟨id,ver,off+i * sz,rfl,b,h2,h4,h5,by omega, ?_⟩,fun k h' K U hk=>?_⟩
  ·rw [List.drop_take,List.drop_drop,List.take_take,Nat.min_eq_left (by omega)]
  ·refine ⟨by omega, by omega, ⟨b, (U.2 id (aN h2) fun h => h).trans h2, h4, by omega⟩, ?_⟩
   simpa using hk
theorem uZ.ext {sz:Nat} {h h':aA} {p:AV} {cs:List AV} (A:uZ sz h p cs) (U:Upd (fun _=>False) h h'):uZ sz h' p cs:=by
 obtain ⟨id,ver,off,rfl,b,h1,h2⟩:=A
 exact ⟨id,ver,off,rfl,b,(U.2 id (aN h1) fun h=>h).trans h1,h2⟩
theorem uZ.loadN {sz:Nat} {h:aA} {p:AV} {cs:List AV} (A:uZ sz h p cs) {K:AV→Prop} (hk:K (.ag cs)):dZ sz p h K:=by
 obtain ⟨id,ver,off,rfl,b,h1,h2,h3,h4,rfl⟩:=A
 exact ⟨b,h1,⟨h2,h3,h4⟩,hk⟩
theorem uZ.load1 {h:aA} {p:AV} {c:AV} (A:uZ 1 h p [c]) {K:AV→Prop} (hk:K c):aB p h K:=by
 obtain ⟨id,ver,off,rfl,b,h1,h2,h3,h4,h5⟩:=A
 refine ⟨b,h1,⟨h2,h3,h4⟩, ?_⟩
 have:b.cells[off]? = some c:=by
  have:((b.cells.drop off).take 1)[0]? = some c:=by rw [h5] <;> rfl
  rw [List.getElem?_take_of_lt (by omega),List.getElem?_drop] at this
  simpa using this
 show K (b.cells.getD off .u)
 rw [getD_some this]; exact hk
theorem RdI.news {sz:Nat} {h:aA} {v:AV} {cs:List AV} {len:Nat} (R:RdI sz h v cs len) {K:List AV→Nat→Prop} (hk:K cs len):eI sz v h K:=by
 rcases R with ⟨rfl,rfl,rfl⟩ | ⟨rfl,rfl,a,c,rfl⟩ | ⟨id,ver,off,cap,b,rfl,h2,h3,h4,h5,h6⟩
 ·exact hk
 ·exact .inl ⟨rfl,hk⟩
 ·refine .inr ⟨b, h2, ⟨h3, h4, h5⟩, ?_⟩
  rw [h6]; exact hk
section
variable {H:Type} {enc:TypeId × Value→H} {P:Program} {w:World} {t:TypeId} {cs:List Value}
end
end Go.GAM
namespace Go.GAM
theorem bJ {a:AA} {K:AV→Prop}:aZ (.p (some a)) K=K (.p (some a)):=rfl
theorem bE {id ver off o:Nat} {K:AV→Prop}:aC o (.p (some ⟨id,ver,off⟩)) K=K (.p (some ⟨id,ver,off+o⟩)):=rfl
theorem g8 {n:Int} {K:Int→Prop}:asI .i64 (.i .i64 n) K=K n:=rfl
theorem d7 {a:AV} {l:List AV} {K:AV→Prop}:aR 0 (.tu (a :: l)) K=K a:=propext ⟨fun h=>h.2,fun h=>⟨by simp,h⟩⟩
theorem dW {a b:AV} {l:List AV} {K:AV→Prop}:aR 1 (.tu (a :: b :: l)) K=K b:=propext ⟨fun h=>h.2,fun h=>⟨by simp,h⟩⟩
theorem aEX {a b c:AV} {l:List AV} {K:AV→Prop}:aR 2 (.tu (a :: b :: c :: l)) K=K c:=propext ⟨fun h=>h.2,fun h=>⟨by simp,h⟩⟩
theorem mU {v:AV} {A:Prop}:(v=v∧A)=A:=by simp
theorem aGL {h:aA} {id n o:Nat} {cs:List AV} {v:AV} {K:AV→Prop} (R:bD h id cs) (hn:n=cs.length) (hc:cs[o]? = some v):aB (.p (some ⟨id,n,o⟩)) h K=K v:=by
 refine propext ⟨fun hk=>?_,fun hk=>aE R hn hc hk⟩
 obtain ⟨b,h1,_,h2⟩:=hk
 obtain ⟨b',g1,g2,_⟩:=R
 have h1:h[id]? = some b:=h1
 rw [g1] at h1
 cases h1
 have h2:K (b.cells.getD o .u):=h2
 rw [g2,getD_some hc] at h2
 exact h2
def ptr (v:AV) (sz i o:Nat):AV:=match v with
 | .sl (some a) _ _=>.p (some ⟨a.id,a.ver,a.off+i * sz+o⟩)
 | _=>.u
theorem aF8 {sz:Nat} {h:aA} {v:AV} {cs:List AV} {len:Nat} (R:RdI sz h v cs len) {k:IntKind} {n:Int} (h0:0≤n) (h1:n<len) {K:AV→Prop}:aP sz v (.i k n) h K=K (ptr v sz n.toNat 0):=by
 rcases R with ⟨rfl,rfl,rfl⟩ | ⟨rfl,_⟩ | ⟨id,ver,off,cap,b,rfl,h2,h4,h5,h6,h7⟩
 ·omega
 ·omega
 ·exact propext ⟨fun hk=>hk.2.2.2,fun hk=>⟨h0,h1,⟨b,h2,h4,by omega⟩,hk⟩⟩
theorem aGJ {v:AV} {sz i o:Nat} {h:aA} {cs:List AV} {len:Nat} {c:AV} (R:RdI sz h v cs len) (hi:i<len) (ho:o<sz) (hc:cs[i * sz+o]? = some c) {K:AV→Prop}:aB (ptr v sz i o) h K=K c:=by
 rcases R with ⟨rfl,rfl,rfl⟩ | ⟨rfl,_⟩ | ⟨id,ver,off,cap,b,rfl,h2,h4,h5,h6,h7⟩
 ·omega
 ·omega
 ·have e1 : (i + 1) * sz ≤ len * sz := Nat.mul_le_mul_right _ (by omega)
  rw [Nat.add_mul] at e1
  have hcell:b.cells.getD (off+i * sz+o) .u=c:=by
   rw [← h7,List.getElem?_take_of_lt (by omega),List.getElem?_drop] at hc
   exact getD_some (by rw [← hc]; congr 1; omega)
  refine propext ⟨fun hk=>?_,fun hk=>⟨b,h2,⟨h4,h5,by simp only; omega⟩,by simp only; rw [hcell]; exact hk⟩⟩
  obtain ⟨b',g1,_,g2⟩:=hk
  have g1:h[id]? = some b':=g1
  rw [h2] at g1
  cases g1
  have g2:K (b.cells.getD (off+i * sz+o) .u):=g2
  rw [hcell] at g2
  exact g2
theorem RdI.upd {sz:Nat} {M:Nat→Prop} {h h':aA} {v:AV} {cs:List AV} {len:Nat} (R:RdI sz h v cs len) (U:Upd M h h') (hM:∀ id,aS v id→¬ M id):RdI sz h' v cs len:=by
 rcases R with h1 | h1 | ⟨id,ver,off,cap,b,rfl,h2,h3⟩
 ·exact .inl h1
 ·exact .inr (.inl h1)
 ·exact .inr (.inr ⟨id,ver,off,cap,b,rfl,(U.2 id (aN h2) (hM id rfl)).trans h2,h3⟩)
theorem Stk.app1 {ty : Option TypeId} {bytes : Nat} {h : aA} {v x y : AV} {l : List AV} (S : Stk h v l) (R1 : Rd 1 h y [x] 1) (hx : x.cellOK = true) (hlen : (l.length + 1) * bytes ≤ 140737488355328) (hl2 : l.length + 1 ≤ 9223372036854775807) {K : AV → aA → Prop}
  (hk:∀ v' h',Upd (aS v) h h'→Stk h' v' (l++[x])→(∀ i,aS v' i→aS v i∨h.length≤i)→K v' h'):bM ty 1 bytes v y h K:=by
 refine ⟨Nat.one_pos,R1.news ?_⟩
 rcases S with ⟨rfl,rfl⟩ | ⟨id,b,rfl,g1,g2,g3,g4,g5,g6,g7⟩
 ·refine ⟨by simpa using hlen, by omega, ?_⟩
  rw [if_neg (by decide)]
  exact hk _ _ ((Upd.app _ _).mono fun _ _ h=>h.elim) (.inr ⟨h.length,aY [x] 1 false ty,by simp [aY],by simp,rfl,by simp [aY],by simp [aY],by simp [aY],rfl,rfl⟩) fun i hi=>.inr (by have e:h.length=i:=hi; omega)
 ·have hid := aN g1
  refine ⟨hlen,by omega,b,g1,g2,⟨g5,Nat.le_refl _,by simp only; omega⟩, ?_⟩
  by_cases hfull:l.length=b.cells.length
  ·cases hex : b.ex with
   | true =>
    refine .inr (.inl ⟨Nat.one_pos,.inr ⟨rfl,rfl,rfl,by simp only; omega⟩, ?_⟩)
    refine hk _ _ ((Upd.app _ _).mono fun _ _ h=>h.elim) (.inr ⟨h.length,aY (l++[x]) 1 false ty, ?_, ?_,rfl,by simp [aY],by simp only [aY,List.length_append]; exact List.take_of_length_le (by simp),by simp [aY],rfl,rfl⟩) fun i hi=>.inr (by have e:h.length=i:=hi; omega)
    ·simp [aY,g4,g3]
    ·simp [g4]
   | false =>
    refine .inr (.inr (.inr (.inl ⟨Nat.one_pos,g6,rfl,rfl,by omega,rfl,rfl,g7,by simp [hx], ?_⟩)))
    have hcl:b.cells=l:=by rw [hfull,List.take_length] at g4; exact g4
    refine hk _ _ ((Upd.set _ _ _).mono fun i _ h=>h.symm) (.inr ⟨id,{ b with cells:=b.cells++[x],ty:=eX b.ty ty }, ?_,by simp [hid,hex],g2,by simp; omega, ?_,by simp; omega,g6,g7⟩) fun i hi=>.inl hi
    ·simp
    ·simp only [hcl]
     rw [List.take_of_length_le (by simp)]
  ·refine .inr (.inr (.inl ⟨Nat.one_pos, g6, rfl, by simp only; omega, .inl rfl, by simp [hx], ?_⟩))
   refine hk _ _ ((Upd.set _ _ _).mono fun i _ h=>h.symm) (.inr ⟨id,{ b with cells:=wr b.cells (0+l.length * 1) [x],floor:=b.cells.length }, ?_,show (h.set id _)[id]? = some _ from List.getElem?_set_self hid,g2, ?_, ?_, ?_,g6,g7⟩) fun i hi=>.inl hi
   ·simp [wr]
   ·simp [wr]; omega
   ·simp only [wr, Nat.zero_add, Nat.mul_one, List.length_append, List.length_cons, List.length_nil]
    apply List.ext_getElem?
    intro i
    by_cases h1:i<l.length
    ·rw [List.getElem?_take_of_lt (by omega), List.getElem?_set_ne (by omega), List.getElem?_append_left h1]
     conv=>rhs; rw [← g4]
     rw [List.getElem?_take_of_lt h1]
    ·by_cases h2 : i = l.length
     ·subst h2
      rw [List.getElem?_take_of_lt (by omega),List.getElem?_set_self (by omega),List.getElem?_append_right (by omega)]
      simp
     ·rw [List.getElem?_eq_none (by simp; omega),List.getElem?_eq_none (by simp; omega)]
   ·simp [wr]
end Go.GAM
namespace Go.Proofs.YtpaphfeihpgamaaDoor
open Go.GAM
open Go.Infl (cA d6 cH Out Lim)
structure DR where
 past:AV
 total:Nat
 fresh:AV
 input:Nat
 last:Bool
 done:Bool
 bad:Bool
 skip:Bool
 rest:List UInt8
 acc:Nat
 have':Nat
 need:Nat
 code:AV
 next:AV
abbrev iN (n:Nat):AV:=.i .i64 (n:Int)
def DR.cells (L:Lim) (r:DR):List AV:=[iN L.output,iN L.ratio,r.past,iN r.total,r.fresh,iN r.input,.b r.last,.b r.done,.b r.bad,.b r.skip,.s r.rest,iN r.acc,iN r.have',iN r.need,r.code,r.next]
abbrev dp (d:Nat):AV:=.p (some ⟨d,16,0⟩)
abbrev cp (c:Nat):AV:=.p (some ⟨c,52,0⟩)
abbrev Fn (f:FuncId) (cap:List AV):AV:=.fn (.func f) [] cap
def bB (l:List Nat):List AV:=l.map fun n:Nat=>.i .i64 (n:Int)
def Mut (d:Nat) (r:DR) (i:Nat):Prop:=i=d∨aS r.past i∨aS r.fresh i
structure Dec (L:Lim) (h:aA) (F:Nat→Prop) (d:Nat) (r:DR) (out:List UInt8) (told:Nat):Prop where
 recd:bD h d (r.cells L)
 past:Stk h r.past (out.map byteAV)
 fresh:Stk h r.fresh ((out.drop told).map byteAV)
 total:r.total=out.length
 told:told≤out.length
 d1:¬ aS r.past d
 d2:¬ aS r.fresh d
 d3:∀ i,aS r.past i→¬ aS r.fresh i
 lim:L.output≤65536∧L.ratio≤1100
 inp:r.input≤1099511627776
 len:out.length≤65536
 f:∀ i,Mut d r i→F i
theorem Dec.lt {L:Lim} {h:aA} {F:Nat→Prop} {d:Nat} {r:DR} {out:List UInt8} {told:Nat} (D:Dec L h F d r out told) {i:Nat} (hi:Mut d r i):i<h.length:=by
 rcases hi with rfl | hi | hi
 ·exact D.recd.lt
 ·exact D.past.rd.lt hi
 ·exact D.fresh.rd.lt hi
theorem Dec.upd {L:Lim} {h h':aA} {F:Nat→Prop} {d:Nat} {r:DR} {out:List UInt8} {told:Nat} (D:Dec L h F d r out told) {M:Nat→Prop} (U:Upd M h h') (hM:∀ i,Mut d r i→¬ M i):Dec L h' F d r out told:=
 { D with recd:=D.recd.upd U (hM d (.inl rfl)),past:=D.past.upd U fun i hi=>hM i (.inr (.inl hi)),fresh:=D.fresh.upd U fun i hi=>hM i (.inr (.inr hi)) }
theorem Dec.ext {L:Lim} {h h':aA} {F:Nat→Prop} {d:Nat} {r:DR} {out:List UInt8} {told:Nat} (D:Dec L h F d r out told) (U:Upd (fun _=>False) h h'):Dec L h' F d r out told:=D.upd U fun _ _ h=>h
theorem Dec.with {L:Lim} {h h':aA} {F:Nat→Prop} {d:Nat} {r r':DR} {out:List UInt8} {told:Nat} (D:Dec L h F d r out told) (U:Upd (· = d) h h') (R:bD h' d (r'.cells L)) (h1:r'.past=r.past) (h2:r'.fresh=r.fresh) (h3:r'.total=r.total) (h4:r'.input=r.input):Dec L h' F d r' out told:=
 { recd:=R,past:=by rw [h1]; exact D.past.upd U fun i hi e=>D.d1 (e ▸ hi),fresh:=by rw [h2]; exact D.fresh.upd U fun i hi e=>D.d2 (e ▸ hi),total:=by rw [h3]; exact D.total,told:=D.told,d1:=by rw [h1]; exact D.d1,d2:=by rw [h2]; exact D.d2,d3:=by rw [h1,h2]; exact D.d3,lim:=D.lim,inp:=by rw [h4]; exact D.inp,len:=D.len,f:=fun i hi=>D.f i (by unfold Mut at hi ⊢; rw [h1,h2] at hi; exact hi) }
def Bx (h:aA) (G:Nat→Prop) (b v:AV):Prop:=∃ id,b = .p (some ⟨id,1,0⟩)∧bD h id [v]∧G id
theorem Bx.upd {h h':aA} {G G' N:Nat→Prop} {b v:AV} (B:Bx h G b v) (U:Upd N h h') (hN:∀ i,G i→¬ N i) (hG:∀ i,i<h.length→G i→G' i):Bx h' G' b v:=by
 obtain ⟨id,e,R,g⟩:=B
 exact ⟨id,e,R.upd U (hN id g),hG id R.lt g⟩
theorem Bx.ld {h:aA} {G:Nat→Prop} {b v:AV} {K:AV→Prop} (B:Bx h G b v):aB b h K=K v:=by
 obtain ⟨id,rfl,R,g⟩:=B
 exact aGL R rfl rfl
theorem Bx.new {h h1:aA} {G:Nat→Prop} {v:AV} (R:bD h1 h.length [v]) (hG:G h.length):Bx h1 G (.p (some ⟨h.length,1,0⟩)) v:=⟨_,rfl,R,hG⟩
def cU (l:List Nat) (n:Nat):Nat:=((List.range n).map (Huff.cnt l)).sum
def jA (n:Nat):List Nat→Nat→List Nat
 | [],_=>[]
 | x :: r,i=>if x=n then i :: jA n r (i+1) else jA n r (i+1)
def wR (l:List Nat) (n:Nat):List Nat:=jA n l 0
def eP (l:List Nat) (n:Nat):List Nat:=(List.range n).flatMap fun k=>wR l (k+1)
def cS (l:List Nat) (sym:AV) (n x:Nat):List AV:=bB ((List.range 16).map (Huff.cnt l))++bB ((List.range 16).map (Huff.fst l))++[sym]++bB ((List.range 16).map (cU l))++[iN (Huff.longest l),iN x,iN n]
structure bZ (h:aA) (G:Nat→Prop) (id:Nat) (l:List Nat) (sym:AV) (n x:Nat):Prop where
 recd:bD h id (cS l sym n x)
 syms:RdI 1 h sym (bB (eP l 15)) (eP l 15).length
 g:G id
 gs:∀ i,aS sym i→G i∧i≠id∧i<h.length
 ok:Huff.checkP l=0
 len:l.length≤320
 le:∀ x∈l,x≤15
theorem bZ.upd {h h':aA} {G G' N:Nat→Prop} {id n x:Nat} {l:List Nat} {sym:AV} (A:bZ h G id l sym n x) (U:Upd N h h') (hN:∀ i,G i→¬ N i) (hG:∀ i,i<h.length→G i→G' i):bZ h' G' id l sym n x:=
 { A with recd:=A.recd.upd U (hN id A.g),syms:=A.syms.upd U fun i hi=>hN i (A.gs i hi).1,g:=hG id A.recd.lt A.g,gs:=fun i hi=>⟨hG i (A.gs i hi).2.2 (A.gs i hi).1,(A.gs i hi).2.1,Nat.lt_of_lt_of_le (A.gs i hi).2.2 U.1⟩ }
def cM (h:aA) (G:Nat→Prop) (v:AV) (l:List Nat):Prop:=∃ id b,v = .sl (some ⟨id,l.length,0⟩) l.length none∧h[id]? = some b∧b.cells=bB l∧b.floor≤l.length∧b.ro=false∧b.sz=1∧G id
theorem cM.upd {h h':aA} {G G' N:Nat→Prop} {v:AV} {l:List Nat} (A:cM h G v l) (U:Upd N h h') (hN:∀ i,G i→¬ N i) (hG:∀ i,i<h.length→G i→G' i):cM h' G' v l:=by
 obtain ⟨id,b,e,h1,h2,h3,h4,h5,g⟩:=A
 exact ⟨id,b,e,(U.2 id (aN h1) (hN id g)).trans h1,h2,h3,h4,h5,hG id (aN h1) g⟩
def Exa (h:aA) (v:AV) (l:List Nat):Prop:=
 (v = .sl none 0 none∧l=[])∨∃ id b,v = .sl (some ⟨id,l.length,0⟩) l.length none∧h[id]? = some b∧b.sz=1∧b.cells=bB l∧b.floor≤l.length∧b.ro=false∧b.gl=false
theorem Exa.upd {M:Nat→Prop} {h h':aA} {v:AV} {l:List Nat} (S:Exa h v l) (U:Upd M h h') (hM:∀ i,aS v i→¬ M i):Exa h' v l:=by
 rcases S with h1 | ⟨id,b,rfl,h1,h2⟩
 ·exact .inl h1
 ·exact .inr ⟨id,b,rfl,(U.2 id (aN h1) (hM id rfl)).trans h1,h2⟩
theorem Exa.lt {h:aA} {v:AV} {l:List Nat} (S:Exa h v l) {i:Nat} (hi:aS v i):i<h.length:=by
 rcases S with ⟨rfl,_⟩ | ⟨id,b,rfl,h1,h2⟩
 ·exact hi.elim
 ·have e : id = i := hi
  exact e ▸ aN h1
def Lst (h:aA) (G:Nat→Prop) (v:AV) (l:List Nat):Prop:=Exa h v l∧∀ i,aS v i→G i
theorem Lst.upd {h h':aA} {G G' N:Nat→Prop} {v:AV} {l:List Nat} (A:Lst h G v l) (U:Upd N h h') (hN:∀ i,G i→¬ N i) (hG:∀ i,i<h.length→G i→G' i):Lst h' G' v l:=
 ⟨A.1.upd U fun i hi=>hN i (A.2 i hi),fun i hi=>hG i (A.1.lt hi) (A.2 i hi)⟩
def Two (h:aA) (G:Nat→Prop) (ia:Nat) (syma:AV) (a:List Nat) (ib:Nat) (symb:AV) (b:List Nat):Prop:=
 bZ h (fun i=>G i∧i≠ib) ia a syma 0 0∧bZ h (fun i=>G i∧i≠ia) ib b symb 0 0
theorem Two.upd {h h':aA} {G G' N:Nat→Prop} {ia ib:Nat} {syma symb:AV} {a b:List Nat} (A:Two h G ia syma a ib symb b) (U:Upd N h h') (hN:∀ i,G i→¬ N i) (hG:∀ i,i<h.length→G i→G' i):Two h' G' ia syma a ib symb b:=
 ⟨A.1.upd U (fun i hi=>hN i hi.1) fun i hl hi=>⟨hG i hl hi.1,hi.2⟩,A.2.upd U (fun i hi=>hN i hi.1) fun i hl hi=>⟨hG i hl hi.1,hi.2⟩⟩
def Clo (h:aA) (G:Nat→Prop) (d:Nat) (ic:Nat) (sym:AV):cH→AV→Prop
 | .block,v=>∃ bd,v=Fn Y61.id [bd]∧Bx h G bd (dp d)
 | .stored1,v=>∃ bd,v=Fn Y76.id [bd]∧Bx h G bd (dp d)
 | .stored2 n,v=>∃ bn bd,v=Fn Y73.id [bn,bd]∧Bx h G bn (iN n)∧Bx h G bd (dp d)
 | .raw n,v=>∃ bd bn,v=Fn Y64.id [bd,bn]∧Bx h G bd (dp d)∧Bx h G bn (iN n)
 | .lit a b,v=>∃ bd ba bb ib symb,v=Fn Y72.id [bd,ba,bb]∧Bx h G bd (dp d)∧Bx h G ba (cp ic)∧Bx h G bb (cp ib)∧bZ h G ib b symb 0 0∧¬ aS sym ib
 | .more a b n,v=>∃ bd bb bn ba ia syma ib symb,v=Fn Y65.id [bd,bb,bn,ba]∧Bx h G bd (dp d)∧Bx h G bb (cp ib)∧Bx h G bn (iN n)∧Bx h G ba (cp ia)∧Two h G ia syma a ib symb b
 | .far a b n,v=>∃ bd bn bm ba bb n0 m ia syma,v=Fn Y59.id [bd,bn,bm,ba,bb]∧n=n0+m∧Bx h G bd (dp d)∧Bx h G bn (iN n0)∧Bx h G bm (iN m)∧Bx h G ba (cp ia)∧Bx h G bb (cp ic)∧bZ h G ia a syma 0 0∧¬ aS sym ia
 | .farMore a b n f,v=>∃ bd bn bm bf ba bb n0 m ia syma ib symb,v=Fn Y71.id [bd,bn,bm,bf,ba,bb]∧n=n0+m∧Bx h G bd (dp d)∧Bx h G bn (iN n0)∧Bx h G bm (iN m)∧Bx h G bf (iN f)∧Bx h G ba (cp ia)∧Bx h G bb (cp ib)∧Two h G ia syma a ib symb b
 | .dyn1,v=>∃ bd,v=Fn Y66.id [bd]∧Bx h G bd (dp d)
 | .dyn2 lits,v=>∃ bd bl,v=Fn Y77.id [bd,bl]∧Bx h G bd (dp d)∧Bx h G bl (iN lits)
 | .dyn3 lits dists,v=>∃ bd bl bs,v=Fn Y75.id [bd,bl,bs]∧Bx h G bd (dp d)∧Bx h G bl (iN lits)∧Bx h G bs (iN dists)
 | .third l i n lits dists,v=>∃ bl bi bd bn bt bs lv,v=Fn Y69.id [bl,bi,bd,bn,bt,bs]∧cM h G lv l∧Bx h (fun i=>G i∧¬ aS lv i) bl lv∧Bx h (fun i=>G i∧¬ aS lv i) bi (iN i)∧Bx h (fun i=>G i∧¬ aS lv i) bd (dp d)∧Bx h (fun i=>G i∧¬ aS lv i) bn (iN n)∧Bx h (fun i=>G i∧¬ aS lv i) bt (iN lits)∧Bx h (fun i=>G i∧¬ aS lv i) bs (iN dists)
 | .lens c l lits dists,v=>∃ bd bc bl bt bs br lv,v=Fn Y32.id [bd,bc,bl,bt,bs,br]∧Lst h G lv l∧(∀ i,aS lv i→¬ aS sym i)∧Bx h (fun i=>G i∧¬ aS lv i) bd (dp d)∧Bx h (fun i=>G i∧¬ aS lv i) bc (cp ic)∧Bx h (fun i=>G i∧¬ aS lv i) bl lv∧Bx h (fun i=>G i∧¬ aS lv i) bt (iN lits)∧Bx h (fun i=>G i∧¬ aS lv i) bs (iN dists)∧Bx h (fun i=>G i∧¬ aS lv i) br (Fn Y56.id [bd,bl,bt,bs,bc])
 | .rep c l lits dists m x,v=>∃ bl bm bt bs bd bc bx ic symc lv,v=Fn Y62.id [bl,bm,bt,bs,bd,bc,bx]∧Lst h (fun i=>G i∧i≠ic∧¬ aS symc i) lv l∧bZ h G ic c symc 0 0∧Bx h (fun i=>G i∧¬ aS lv i) bl lv∧Bx h (fun i=>G i∧¬ aS lv i) bm (iN m)∧Bx h (fun i=>G i∧¬ aS lv i) bt (iN lits)∧Bx h (fun i=>G i∧¬ aS lv i) bs (iN dists)∧Bx h (fun i=>G i∧¬ aS lv i) bd (dp d)∧Bx h (fun i=>G i∧¬ aS lv i) bc (cp ic)∧Bx h (fun i=>G i∧¬ aS lv i) bx (iN x)
theorem Clo.upd {h h':aA} {G G' N:Nat→Prop} {d ic:Nat} {sym:AV} {c:cH} {v:AV} (A:Clo h G d ic sym c v) (U:Upd N h h') (hN:∀ i,G i→¬ N i) (hG:∀ i,i<h.length→G i→G' i):Clo h' G' d ic sym c v:=by
 have b:∀ {x y},Bx h G x y→Bx h' G' x y:=fun B=>B.upd U hN hG
 have b2:∀ {x y} {S:Nat→Prop},Bx h (fun i=>G i∧¬ S i) x y→Bx h' (fun i=>G' i∧¬ S i) x y:=fun B=>B.upd U (fun i hi=>hN i hi.1) fun i hl hi=>⟨hG i hl hi.1,hi.2⟩
 have k:∀ {i l s n x},bZ h G i l s n x→bZ h' G' i l s n x:=fun B=>B.upd U hN hG
 have tw:∀ {ia syma a ib symb b},Two h G ia syma a ib symb b→Two h' G' ia syma a ib symb b:=fun B=>B.upd U hN hG
 cases c with
 | block=>obtain ⟨bd,e,h1⟩:=A; exact ⟨bd,e,b h1⟩
 | stored1=>obtain ⟨bd,e,h1⟩:=A; exact ⟨bd,e,b h1⟩
 | stored2 n=>obtain ⟨bn,bd,e,h1,h2⟩:=A; exact ⟨bn,bd,e,b h1,b h2⟩
 | raw n=>obtain ⟨bn,bd,e,h1,h2⟩:=A; exact ⟨bn,bd,e,b h1,b h2⟩
 | lit x y=>obtain ⟨bd,ba,bb,ib,symb,e,h1,h2,h3,h4,h5⟩:=A; exact ⟨bd,ba,bb,ib,symb,e,b h1,b h2,b h3,k h4,h5⟩
 | more x y n=>obtain ⟨bd,bb,bn,ba,ia,syma,ib,symb,e,h1,h2,h3,h4,h5⟩:=A; exact ⟨bd,bb,bn,ba,ia,syma,ib,symb,e,b h1,b h2,b h3,b h4,tw h5⟩
 | far x y n=>obtain ⟨bd,bn,bm,ba,bb,n0,m,ia,syma,e,hn,h1,h2,h3,h4,h5,h6,h7⟩:=A; exact ⟨bd,bn,bm,ba,bb,n0,m,ia,syma,e,hn,b h1,b h2,b h3,b h4,b h5,k h6,h7⟩
 | farMore x y n f=>obtain ⟨bd,bn,bm,bf,ba,bb,n0,m,ia,syma,ib,symb,e,hn,h1,h2,h3,h4,h5,h6,h7⟩:=A; exact ⟨bd,bn,bm,bf,ba,bb,n0,m,ia,syma,ib,symb,e,hn,b h1,b h2,b h3,b h4,b h5,b h6,tw h7⟩
 | dyn1=>obtain ⟨bd,e,h1⟩:=A; exact ⟨bd,e,b h1⟩
 | dyn2 lits=>obtain ⟨bd,bl,e,h1,h2⟩:=A; exact ⟨bd,bl,e,b h1,b h2⟩
 | dyn3 lits dists=>obtain ⟨bd,bl,bs,e,h1,h2,h3⟩:=A; exact ⟨bd,bl,bs,e,b h1,b h2,b h3⟩
 | third l i n lits dists=>obtain ⟨bl,bi,bd,bn,bt,bs,lv,e,h0,h1,h2,h3,h4,h5,h6⟩:=A; exact ⟨bl,bi,bd,bn,bt,bs,lv,e,h0.upd U hN hG,b2 h1,b2 h2,b2 h3,b2 h4,b2 h5,b2 h6⟩
 | lens x l lits dists=>obtain ⟨bd,bc,bl,bt,bs,br,lv,e,h0,h00,h1,h2,h3,h4,h5,h6⟩:=A; exact ⟨bd,bc,bl,bt,bs,br,lv,e,h0.upd U hN hG,h00,b2 h1,b2 h2,b2 h3,b2 h4,b2 h5,b2 h6⟩
 | rep x l lits dists m y=>obtain ⟨bl,bm,bt,bs,bd,bc,bx,ic,symc,lv,e,h0,h00,h1,h2,h3,h4,h5,h6,h7⟩:=A; exact ⟨bl,bm,bt,bs,bd,bc,bx,ic,symc,lv,e,h0.upd U (fun i hi=>hN i hi.1) (fun i hl hi=>⟨hG i hl hi.1,hi.2⟩),k h00,b2 h1,b2 h2,b2 h3,b2 h4,b2 h5,b2 h6,b2 h7⟩
def Gd (F:Nat→Prop) (d:Nat) (r:DR) (i:Nat):Prop:=F i∧¬ Mut d r i
def jF:cH→Option (List Nat)
 | .lit a _=>some a
 | .far _ b _=>some b
 | .lens c _ _ _=>some c
 | _=>none
def t9 (h:aA) (F:Nat→Prop) (d:Nat) (r:DR):d6→cH→Prop
 | .num need have' acc,c=>jF c=none∧r.code = .p none∧r.need=need∧r.have'=have'∧r.acc=acc∧Clo h (Gd F d r) d 0 (.p none) c r.next
 | .sym l n x,c=>jF c=some l∧∃ ic sym,r.code=cp ic∧bZ h (Gd F d r) ic l sym n x∧Clo h (fun i=>Gd F d r i∧i≠ic) d ic sym c r.next
def fit:cH→Nat→Prop
 | .block,v=>v<8
 | .stored1,v=>v<65536
 | .stored2 n,v=>n<65536∧v<65536
 | .raw n,v=>0<n∧n<65536∧v<256
 | .lit a b,v=>v<320
 | .more a b n,v=>n+v≤300
 | .far a b n,v=>n≤300∧v<320
 | .farMore a b n f,v=>n≤300∧0<f∧f+v≤32768
 | .dyn1,v=>v<32
 | .dyn2 lits,v=>lits≤286∧v<32
 | .dyn3 lits dists,v=>lits≤286∧dists≤30∧v<16
 | .third l i n lits dists,v=>lits≤286∧dists≤30∧l.length=19∧i<n∧n≤19∧(∀ x∈l,x<8)∧v<8
 | .lens c l lits dists,v=>c.length≤19∧lits≤286∧dists≤30∧l.length<lits+dists∧(∀ x∈l,x<16)∧v<19
 | .rep c l lits dists m x,v=>c.length≤19∧lits≤286∧dists≤30∧l.length<lits+dists∧(∀ x∈l,x<16)∧x<16∧0<m∧m+v≤138
def short:cH→Prop
 | .more .. | .farMore ..=>True
 | _=>False
def wS:d6→cH→Prop
 | .num need have' acc,c=>need≤16∧acc<2 ^ have'∧(have'<need∨need=0∧have'=0∧short c)∧∀ v,v<2 ^ need→fit c v
 | .sym l n x,c=>n≤15∧x<2 ^ n∧∀ v,v<l.length→fit c v
def eno:Nat→Int
 | 1=>2
 | 2=>16
 | _=>2
def St (h:aA) (F:Nat→Prop) (d:Nat) (r:DR):Out→Int→Prop
 | .wait k w c,e=>e=0∧r.last=k.last∧r.skip=k.skip∧r.done=false∧t9 h F d r w c∧wS w c
 | .done k,e=>e=0∧r.done=true
 | .err x k,e=>e=eno x∧(x=1∨x=2)∧r.done=false
structure cK (M:Nat→Prop) (L:Lim) (h:aA) (F:Nat→Prop) (d:Nat) (r:DR) (told:Nat) (o:Out) (e:Int) (h':aA) (r':DR):Prop where
 upd:Upd M h h'
 keep:∀ i,i<h.length→Mut d r' i→Mut d r i
 dec:Dec L h' F d r' o.core.out told
 inp:r'.input=r.input
 bad:r'.bad=r.bad
 rest:r'.rest=r.rest
 st:St h' F d r' o e
theorem cK.from {M N:Nat→Prop} {L:Lim} {h h1 h':aA} {F:Nat→Prop} {d:Nat} {r r1 r':DR} {told:Nat} {o:Out} {e:Int} (P:cK M L h1 F d r1 told o e h' r') (U:Upd N h h1) (hN:∀ i,i<h.length→N i→M i) (hk:∀ i,i<h.length→Mut d r1 i→Mut d r i) (e1:r1.input=r.input) (e2:r1.bad=r.bad) (e3:r1.rest=r.rest):cK M L h F d r told o e h' r':=
 ⟨(U.mono hN).trans P.upd fun _ _ h=>h,fun i hi hm=>hk i hi (P.keep i (Nat.lt_of_lt_of_le hi U.1) hm),P.dec,P.inp.trans e1,P.bad.trans e2,P.rest.trans e3,P.st⟩
theorem cK.mono {M N:Nat→Prop} {L:Lim} {h h':aA} {F:Nat→Prop} {d:Nat} {r r':DR} {told:Nat} {o:Out} {e:Int} (P:cK M L h F d r told o e h' r') (hN:∀ i,i<h.length→M i→N i):cK N L h F d r told o e h' r':={ P with upd:=P.upd.mono hN }
end Go.Proofs.YtpaphfeihpgamaaDoor
namespace Go.Proofs.YtpaphfeihpgamaaDoor
open Go.GAM
open Go.Infl (cA d6 cH Out Lim)
theorem ltr {a b:Nat} (h:Nat.ble (a+1) b=true):a<b:=Nat.le_of_ble_eq_true h
section
variable [XR] {h:aA} {Q:AV→aA→Prop} {L:Lim} {F:Nat→Prop} {d:Nat} {r:DR} {out:List UInt8} {told:Nat}
theorem Dec.gd (D:Dec L h F d r out told) (hF:∀ i,h.length≤i→F i) {i:Nat} (hi:h.length≤i):Gd F d r i:=⟨hF i hi,fun m=>absurd (D.lt m) (by omega)⟩
theorem aBI (D:Dec L h F d r out told) {n:Nat} {f:FuncId} {cap:List AV} (hq:∀ h',h'.length=h.length→Upd (· = d) h h'→Dec L h' F d { r with acc:=0,have':=0,need:=n,code:=.p none,next:=Fn f cap } out told→Q (iN 0) h'):C Y36.id [dp d,iN n,Fn f cap] h Q:=by
 refine Y36.call ?_
 simp only [Y36.t,bJ,bE]
 refine aT D.recd rfl (ltr rfl) (hk:=fun h1 l1 U1 R1=>?_)
 refine aT R1 rfl (ltr rfl) (hk:=fun h2 l2 U2 R2=>?_)
 refine aT R2 rfl (ltr rfl) (hk:=fun h3 l3 U3 R3=>?_)
 refine aT R3 rfl (ltr rfl) (hk:=fun h4 l4 U4 R4=>?_)
 refine aT R4 rfl (ltr rfl) (hk:=fun h5 l5 U5 R5=>?_)
 have U:=(((U1.trans U2 fun _ _ h=>h).trans U3 fun _ _ h=>h).trans U4 fun _ _ h=>h).trans U5 fun _ _ h=>h
 exact .inl (hq h5 (by omega) U (D.with U R5 rfl rfl rfl rfl))
theorem dH (D:Dec L h F d r out told) (hd:r.done=false) {n:Nat} {c:cH} {f:FuncId} {cap:List AV} (hc:Clo h (Gd F d r) d 0 (.p none) c (Fn f cap)) (hf:wS (.num n 0 0) c)
  (hq:∀ h' r',cK (· = d) L h F d r told (.wait ⟨out,r.last,r.skip⟩ (.num n 0 0) c) 0 h' r'→Q (iN 0) h') (hco:jF c=none:=by rfl):C Y36.id [dp d,iN n,Fn f cap] h Q:=
 aBI D fun h' hl U D'=>hq h' { r with acc:=0,have':=0,need:=n,code:=.p none,next:=Fn f cap } ⟨U,fun _ _ h=>h,D',rfl,rfl,rfl,rfl,rfl,rfl,hd,⟨hco,rfl,rfl,rfl,rfl,hc.upd U (fun i hi e=>hi.2 (.inl e)) fun _ _ h=>h⟩,hf⟩
theorem o4 (D:Dec L h F d r out told) (hd:r.done=false) {l:List Nat} {ic:Nat} {sym:AV} {c:cH} {f:FuncId} {cap:List AV} (hk:bZ h (Gd F d r) ic l sym 0 0) (hc:Clo h (fun i=>Gd F d r i∧i≠ic) d ic sym c (Fn f cap)) (hf:wS (.sym l 0 0) c)
  (hq:∀ h' r',cK (· = d) L h F d r told (.wait ⟨out,r.last,r.skip⟩ (.sym l 0 0) c) 0 h' r'→Q (iN 0) h') (hco:jF c=some l:=by rfl):C Y45.id [dp d,cp ic,Fn f cap] h Q:=by
 refine Y45.call ?_
 simp only [Y45.t,bJ,bE]
 refine aT D.recd rfl (ltr rfl) (hk:=fun h1 l1 U1 R1=>?_)
 refine aT R1 rfl (ltr rfl) (hk:=fun h2 l2 U2 R2=>?_)
 have U:=U1.trans U2 fun _ _ h=>h
 exact .inl (hq h2 { r with code:=cp ic,next:=Fn f cap } ⟨U,fun _ _ h=>h,D.with U R2 rfl rfl rfl rfl,rfl,rfl,rfl,rfl,rfl,rfl,hd,⟨hco,ic,sym,rfl,hk.upd U (fun i hi e=>hi.2 (.inl e)) fun _ _ h=>h,hc.upd U (fun i hi e=>hi.1.2 (.inl e)) fun _ _ h=>h⟩,hf⟩)
theorem yG:wS (.num 3 0 0) .block:=⟨by decide,by decide,.inl (by decide),fun v hv=>hv⟩
theorem rW (D:Dec L h F d r out told) (hF:∀ i,h.length≤i→F i) (hd:r.done=false) (hq:∀ e h' r',cK (· = d) L h F d r told (Infl.block ⟨out,r.last,r.skip⟩) e h' r'→Q (.i .i64 e) h'):C Y46.id [dp d] h Q:=by
 refine Y46.call ?_
 simp only [Y46.t]
 refine bT (hk:=fun h1 l1 U1 R1=>?_)
 have D1:=D.ext U1
 have B:Bx h1 (Gd F d r) (.p (some ⟨h.length,1,0⟩)) (dp d):=Bx.new R1 (D.gd hF (Nat.le_refl _))
 refine aE R1 rfl rfl ?_
 simp only [bJ,bE]
 refine aE D1.recd rfl rfl (bP ?_)
 refine aM (fun e=>?_) fun e=>?_
 ·refine aE R1 rfl rfl ?_
  simp only [bJ,bE]
  refine aT D1.recd rfl (ltr rfl) (hk:=fun h2 l2 U2 R2=>?_)
  refine .inl (hq 0 h2 { r with done:=true } ⟨(U1.mono fun _ _ h=>h.elim).trans U2 fun _ _ h=>h,fun _ _ h=>h, ?_,rfl,rfl,rfl, ?_⟩)
  ·unfold Infl.block
   rw [if_pos e]
   exact D1.with U2 R2 rfl rfl rfl rfl
  ·unfold Infl.block
   rw [if_pos e]
   exact ⟨rfl,rfl⟩
 ·refine aE R1 rfl rfl ?_
  refine dH D1 hd (c:=.block) ⟨_,rfl,B⟩ yG fun h2 r2 P=>?_
  refine aD (.inl (hq 0 h2 r2 ?_))
  unfold Infl.block
  rw [if_neg (by simp [e])]
  exact P.from U1 (fun _ _ h=>h.elim) (fun _ _ h=>h) rfl rfl rfl
theorem aDH {n:Nat} (h0:n≠0) (h1:n<65536):wS (.num 8 0 0) (.raw n):=⟨by decide,by decide,.inl (by decide),fun v hv=>⟨by omega,h1,hv⟩⟩
theorem aEM {n:Nat} (hn:n<65536) (D:Dec L h F d r out told) (hF:∀ i,h.length≤i→F i) (hd:r.done=false) (hq:∀ e h' r',cK (· = d) L h F d r told (Infl.raw ⟨out,r.last,r.skip⟩ n) e h' r'→Q (.i .i64 e) h'):C Y51.id [dp d,iN n] h Q:=by
 refine Y51.call ?_
 simp only [Y51.t]
 refine bT (hk:=fun h1 l1 U1 R1=>?_)
 refine bT (hk:=fun h2 l2 U2 R2=>?_)
 have U:=U1.then U2
 have D2:=D.ext U
 have R1:=R1.upd U2 fun h=>h
 have B:Bx h2 (Gd F d r) (.p (some ⟨h.length,1,0⟩)) (dp d):=⟨_,rfl,R1,D.gd hF (Nat.le_refl _)⟩
 have B2:Bx h2 (Gd F d r) (.p (some ⟨h1.length,1,0⟩)) (iN n):=⟨_,rfl,R2,D.gd hF (by omega)⟩
 refine aE R2 rfl rfl (aD ?_)
 refine aM (fun e=>?_) fun e=>?_
 ·have e : n = 0 := by simpa using e
  refine aE R1 rfl rfl ?_
  refine rW D2 (fun i hi=>hF i (by omega)) hd fun e h3 r3 P=>aD (.inl (hq _ h3 r3 ?_))
  unfold Infl.raw
  rw [if_pos ‹n=0›]
  exact P.from U (fun _ _ h=>h.elim) (fun _ _ h=>h) rfl rfl rfl
 ·have e : n ≠ 0 := by simpa using e
  refine aE R1 rfl rfl ?_
  refine dH D2 hd (c:=.raw n) ⟨_,_,rfl,B,B2⟩ (aDH e hn) fun h3 r3 P=>aD (.inl (hq 0 h3 r3 ?_))
  unfold Infl.raw
  rw [if_neg e]
  exact P.from U (fun _ _ h=>h.elim) (fun _ _ h=>h) rfl rfl rfl
theorem aCG (D:Dec L h F d r out told) (hF:∀ i,h.length≤i→F i) (hd:r.done=false) (hq:∀ e h' r',cK (· = d) L h F d r told (.wait ⟨out,r.last,r.skip⟩ (.num 16 0 0) .stored1) e h' r'→Q (.i .i64 e) h'):C Y67.id [dp d] h Q:=by
 refine Y67.call ?_
 simp only [Y67.t]
 refine bT (hk:=fun h1 l1 U1 R1=>?_)
 refine aE R1 rfl rfl ?_
 refine dH (D.ext U1) hd (c:=.stored1) ⟨_,rfl,Bx.new R1 (D.gd hF (Nat.le_refl _))⟩ ⟨by decide,by decide,.inl (by decide),fun v hv=>hv⟩ fun h2 r2 P=>aD (.inl (hq 0 h2 r2 ?_))
 exact P.from U1 (fun _ _ h=>h.elim) (fun _ _ h=>h) rfl rfl rfl
theorem zQ (D:Dec L h F d r out told) (hF:∀ i,h.length≤i→F i) (hd:r.done=false) (hq:∀ e h' r',cK (· = d) L h F d r told (.wait ⟨out,r.last,r.skip⟩ (.num 5 0 0) .dyn1) e h' r'→Q (.i .i64 e) h'):C Y60.id [dp d] h Q:=by
 refine Y60.call ?_
 simp only [Y60.t]
 refine bT (hk:=fun h1 l1 U1 R1=>?_)
 refine aE R1 rfl rfl ?_
 refine dH (D.ext U1) hd (c:=.dyn1) ⟨_,rfl,Bx.new R1 (D.gd hF (Nat.le_refl _))⟩ ⟨by decide,by decide,.inl (by decide),fun v hv=>hv⟩ fun h2 r2 P=>aD (.inl (hq 0 h2 r2 ?_))
 exact P.from U1 (fun _ _ h=>h.elim) (fun _ _ h=>h) rfl rfl rfl
theorem z5 {x:Nat} {v:AV} (D:Dec L h F d r out told) (hF:∀ i,h.length≤i→F i) (hd:r.done=false) (hc:Clo h (Gd F d r) d 0 (.p none) .stored1 v) (hf:fit .stored1 x)
  (hq:∀ e h' r',cK F L h F d r told (Infl.apply L r.input ⟨out,r.last,r.skip⟩ x .stored1) e h' r'→Q (.i .i64 e) h'):bV C v [iN x] h Q:=by
 obtain ⟨bd,rfl,B⟩:=hc
 refine cR (by decide) (Y76.call ?_)
 simp only [Y76.t]
 refine bT (hk:=fun h1 l1 U1 R1=>?_)
 have B1:=B.upd U1 (fun _ _ h=>h) fun _ _ h=>h
 rw [B1.ld]
 refine dH (D.ext U1) hd (c:=.stored2 x) ⟨_,_,rfl,Bx.new R1 (D.gd hF (Nat.le_refl _)),B1⟩ ⟨by decide,by decide,.inl (by decide),fun v hv=>⟨hf,hv⟩⟩ fun h2 r2 P=>aD (.inl (hq 0 h2 r2 ?_))
 exact (P.from U1 (fun _ _ h=>h.elim) (fun _ _ h=>h) rfl rfl rfl).mono fun i _ e=>D.f i (.inl e)
theorem zY {x n:Nat} {v:AV} (D:Dec L h F d r out told) (hF:∀ i,h.length≤i→F i) (hd:r.done=false) (hc:Clo h (Gd F d r) d 0 (.p none) (.stored2 n) v) (hf:fit (.stored2 n) x)
  (hq:∀ e h' r',cK F L h F d r told (Infl.apply L r.input ⟨out,r.last,r.skip⟩ x (.stored2 n)) e h' r'→Q (.i .i64 e) h'):bV C v [iN x] h Q:=by
 obtain ⟨bn,bd,rfl,Bn,B⟩:=hc
 obtain ⟨hn,hx⟩:=hf
 refine cR (by decide) (Y73.call ?_)
 simp only [Y73.t,Bn.ld,B.ld,g8]
 refine cQ (n:=((65535 - n:Nat):Int)) (by omega) (by omega) (by omega) ?_
 refine aM (fun e=>?_) fun e=>?_
 ·have e : ¬ (x + n = 65535) := by simp at e; omega
  refine .inl (hq 2 h r ?_)
  simp only [Infl.apply]
  rw [if_neg e]
  exact ⟨Upd.refl _ _,fun _ _ h=>h,D,rfl,rfl,rfl,rfl,.inl rfl,hd⟩
 ·have e : x + n = 65535 := by simp at e; omega
  refine aEM hn D hF hd fun e1 h1 r1 P=>aD (.inl (hq _ h1 r1 ?_))
  simp only [Infl.apply]
  rw [if_pos e]
  exact P.mono fun i _ e=>D.f i (.inl e)
theorem aEZ {x:Nat} {v:AV} (D:Dec L h F d r out told) (hF:∀ i,h.length≤i→F i) (hd:r.done=false) (hc:Clo h (Gd F d r) d 0 (.p none) .dyn1 v) (hf:fit .dyn1 x)
  (hq:∀ e h' r',cK F L h F d r told (Infl.apply L r.input ⟨out,r.last,r.skip⟩ x .dyn1) e h' r'→Q (.i .i64 e) h'):bV C v [iN x] h Q:=by
 obtain ⟨bd,rfl,B⟩:=hc
 have hf:x<32:=hf
 refine cR (by decide) (Y66.call ?_)
 simp only [Y66.t]
 refine cQ (n:=((x+257:Nat):Int)) (by omega) (by omega) (by omega) ?_
 refine cB fun h1 l1 U1 R1=>?_
 refine aT R1 rfl (ltr rfl) (hk:=fun h2 l2 U2 R2=>?_)
 have U:Upd (fun _=>False) h h2:=U1.own U2 (Nat.le_refl _)
 have B2:=B.upd U (fun _ _ h=>h) fun _ _ h=>h
 have Bn:Bx h2 (Gd F d r) (.p (some ⟨h.length,1,0⟩)) (iN (x+257)):=⟨_,rfl,R2,D.gd hF (Nat.le_refl _)⟩
 refine aE R2 rfl rfl (aD ?_)
 refine aM (fun e=>?_) fun e=>?_
 ·have e : 286 < x + 257 := by simp at e; omega
  refine .inl (hq 2 h2 r ?_)
  simp only [Infl.apply]
  rw [if_pos e]
  exact ⟨U.mono fun _ _ h=>h.elim,fun _ _ h=>h,D.ext U,rfl,rfl,rfl,rfl,.inl rfl,hd⟩
 ·have e : ¬ 286 < x + 257 := by simp at e; omega
  rw [B2.ld]
  refine dH (D.ext U) hd (c:=.dyn2 (x+257)) ⟨_,_,rfl,B2,Bn⟩ ⟨by decide,by decide,.inl (by decide),fun v hv=>⟨by omega,hv⟩⟩ fun h3 r3 P=>aD (.inl (hq 0 h3 r3 ?_))
  simp only [Infl.apply]
  rw [if_neg e]
  exact (P.from U (fun _ _ h=>h.elim) (fun _ _ h=>h) rfl rfl rfl).mono fun i _ e=>D.f i (.inl e)
theorem aE3 {x lits:Nat} {v:AV} (D:Dec L h F d r out told) (hF:∀ i,h.length≤i→F i) (hd:r.done=false) (hc:Clo h (Gd F d r) d 0 (.p none) (.dyn2 lits) v) (hf:fit (.dyn2 lits) x)
  (hq:∀ e h' r',cK F L h F d r told (Infl.apply L r.input ⟨out,r.last,r.skip⟩ x (.dyn2 lits)) e h' r'→Q (.i .i64 e) h'):bV C v [iN x] h Q:=by
 obtain ⟨bd,bl,rfl,B,Bl⟩:=hc
 obtain ⟨hl,hf⟩:=hf
 refine cR (by decide) (Y77.call ?_)
 simp only [Y77.t]
 refine cQ (n:=((x+1:Nat):Int)) (by omega) (by omega) (by omega) ?_
 refine cB fun h1 l1 U1 R1=>?_
 refine aT R1 rfl (ltr rfl) (hk:=fun h2 l2 U2 R2=>?_)
 have U:Upd (fun _=>False) h h2:=U1.own U2 (Nat.le_refl _)
 have B2:=B.upd U (fun _ _ h=>h) fun _ _ h=>h
 have Bl2:=Bl.upd U (fun _ _ h=>h) fun _ _ h=>h
 have Bn:Bx h2 (Gd F d r) (.p (some ⟨h.length,1,0⟩)) (iN (x+1)):=⟨_,rfl,R2,D.gd hF (Nat.le_refl _)⟩
 refine aE R2 rfl rfl (aD ?_)
 refine aM (fun e=>?_) fun e=>?_
 ·have e : 30 < x + 1 := by simp at e; omega
  refine .inl (hq 2 h2 r ?_)
  simp only [Infl.apply]
  rw [if_pos e]
  exact ⟨U.mono fun _ _ h=>h.elim,fun _ _ h=>h,D.ext U,rfl,rfl,rfl,rfl,.inl rfl,hd⟩
 ·have e : ¬ 30 < x + 1 := by simp at e; omega
  rw [B2.ld]
  refine dH (D.ext U) hd (c:=.dyn3 lits (x+1)) ⟨_,_,_,rfl,B2,Bl2,Bn⟩ ⟨by decide,by decide,.inl (by decide),fun v hv=>⟨hl,by omega,hv⟩⟩ fun h3 r3 P=>aD (.inl (hq 0 h3 r3 ?_))
  simp only [Infl.apply]
  rw [if_neg e]
  exact (P.from U (fun _ _ h=>h.elim) (fun _ _ h=>h) rfl rfl rfl).mono fun i _ e=>D.f i (.inl e)
end
end Go.Proofs.YtpaphfeihpgamaaDoor
