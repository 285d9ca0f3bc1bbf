/- Lemmas (several texts in one). -/
import Derived.Test.YtfoekpcljhbijaaGreatDoorMg2
set_option linter.unusedVariables false
set_option linter.unusedSectionVars false
set_option maxRecDepth 100000
namespace Go.Proofs.YtfoekpcljhbijaaGreatDoor
open Go.GAM
variable [XR]
noncomputable def Y29.body:Code:=(Tryz.f83.body).getD .skip
def Y29.ann:Ann:=(sl [0,1] (sq [0,1] (sl [0,1,10] bl) (sl [0,5,6] (sq [0,6] (.seq 1 [0,6,26] lf bl) (sl [0,7] (sl [7,8] (sq [7] (.one (.loop 2 [7,8] (sq [7,8] (sl [7,8,37] bl) (.one (.ord (nn 0 7 (.eff 7 (.neu 8 (.eff 9 .done .stop)) .stop))))))) (sl [4] lf))))))))
theorem Y29.dist:aL (places Y29.ann Y29.body)=true:=by kernel_rfl
noncomputable def Y29.J (Q:AV→aA→Prop):JT:=bJ prog C Tryz.f83 Y29.ann Y29.body Q
def Y29.p0 (Q:AV→aA→Prop) (x0:AV) (x6:Int) (x26:Bool) (h:aA):Prop:=Y29.J Q 1 [(0,x0),(6,(AV.i .u64 x6)),(26,(AV.b x26))] h
def Y29.p1 (Q:AV→aA→Prop) (x7:AV) (x8:Int) (h:aA):Prop:=Y29.J Q 2 [(7,x7),(8,(AV.i .i64 x8))] h
def Y29.t0 (Q:AV→aA→Prop) (x0:AV) (x6:Int) (x26:Bool) (h:aA) (J:JT):Prop:=
(bif x26 then
(False)
else
(xF 1 8 [(AV.i .i64 0)] (AV.i .i64 (IntKind.wrap .i64 x6)) (AV.i .i64 (IntKind.wrap .i64 x6)) h fun v14 h15=>
y2 1 v14 x0 h15 fun v17 h18=>
asI .i64 v17 fun n19=>
J 2 [(7,v14),(8,(AV.i .i64 n19))] h18))
theorem Y29.i0 {Q x0 x6 x26 h} (H:Y29.t0 Q x0 x6 x26 h (Y29.J Q)):Y29.p0 Q x0 x6 x26 h:=gR Y29.J Tryz.f83 Y29.dist [1,1,1,0,1] H
def Y29.t1 (Q:AV→aA→Prop) (x7:AV) (x8:Int) (h:aA) (J:JT):Prop:=
bR x7 fun n21=>
(bif (decide ((x8:Int)<n21)) then
(bW 1 x7 (some (AV.i .i64 x8)) none none h fun v25=>
bW 1 x7 none (some (AV.i .i64 x8)) none h fun v26=>
y2 1 v25 v26 h fun v27 h28=>
asI .i64 v27 fun n29=>
aM (IntKind.wrap .i64 (x8+n29)) fun n30=>
J 2 [(7,x7),(8,(AV.i .i64 n30))] h28)
else
(Q x7 h))
theorem Y29.i1 {Q x7 x8 h} (H:Y29.t1 Q x7 x8 h (Y29.J Q)):Y29.p1 Q x7 x8 h:=gH Y29.J Tryz.f83 Y29.dist [1,1,1,1,1,1,0,0] H
def Y29.t (Q:AV→aA→Prop) (x0:AV) (x1:Int) (h:aA) (J:JT):Prop:=
(bif (decide ((x1:Int)<0)) then
(False)
else
(bR x0 fun n3=>
C Y71.id [(AV.i .u64 (IntKind.wrap .u64 n3)),(AV.i .u64 (IntKind.wrap .u64 x1))] h fun v4 h5=>
aO 0 v4 fun v6=>
asI .u64 v6 fun n7=>
aO 1 v4 fun v8=>
asI .u64 v8 fun n9=>
(bif (decide ((0:Int)<n7)) then
(J 1 [(0,x0),(6,(AV.i .u64 n9)),(26,(AV.b true))] h5)
else
(J 1 [(0,x0),(6,(AV.i .u64 n9)),(26,(AV.b (decide ((9223372036854775807:Int)<n9))))] h5))))
theorem Y29.call {K x0 x1 h} (H:Y29.t (aH h K) x0 x1 h (Y29.J (aH h K))):C Y29.id [x0,(AV.i .i64 x1)] h K:=
 gC Y29.J Tryz.func83 Y29.dist H
noncomputable def Y82.body:Code:=(Tryz.f84.body).getD .skip
def Y82.ann:Ann:=(sl [0] (sq [0] (.one (sl [0,5] (.br (sl [2,3] lf) (sl [0,10] (.br (sl [2,3] lf) lf))))) (sl [0,4] (sl [2,3] lf))))
theorem Y82.dist:aL (places Y82.ann Y82.body)=true:=by kernel_rfl
noncomputable def Y82.J (Q:AV→aA→Prop):JT:=bJ prog C Tryz.f84 Y82.ann Y82.body Q
def Y82.t (Q:AV→aA→Prop) (x0:Int) (h:aA) (J:JT):Prop:=
(bif (decide ((x0:Int)≤264)) then
(aM (IntKind.wrap .i64 (x0 - 254)) fun n2=>
Q (AV.tu [(AV.i .i64 n2),(AV.i .i64 0)]) h)
else
((bif (decide ((x0:Int)=285)) then
(Q (AV.tu [(AV.i .i64 258),(AV.i .i64 0)]) h)
else
(aM (IntKind.wrap .i64 (x0 - 261)) fun n7=>
aD2 .i64 n7 4 fun n8=>
aM (IntKind.wrap .i64 (x0 - 265)) fun n10=>
aDF n10 4 fun n11=>
aM (IntKind.wrap .i64 (4+n11)) fun n12=>
mU .i64 n12 n8 fun n13=>
aM (IntKind.wrap .i64 (n13+3)) fun n14=>
Q (AV.tu [(AV.i .i64 n14),(AV.i .i64 n8)]) h))))
theorem Y82.call {K x0 h} (H:Y82.t (aH h K) x0 h (Y82.J (aH h K))):C Y82.id [(AV.i .i64 x0)] h K:=
 gC Y82.J Tryz.func84 Y82.dist H
noncomputable def Y81.body:Code:=(Tryz.f85.body).getD .skip
def Y81.ann:Ann:=(sl [0] (sq [0] (sl [0,6] (.br (sl [2,3] lf) lf)) (sl [0,4] (sl [2,3] lf))))
theorem Y81.dist:aL (places Y81.ann Y81.body)=true:=by kernel_rfl
noncomputable def Y81.J (Q:AV→aA→Prop):JT:=bJ prog C Tryz.f85 Y81.ann Y81.body Q
def Y81.t (Q:AV→aA→Prop) (x0:Int) (h:aA) (J:JT):Prop:=
(bif (decide ((x0:Int)<4)) then
(aM (IntKind.wrap .i64 (x0+1)) fun n2=>
Q (AV.tu [(AV.i .i64 n2),(AV.i .i64 0)]) h)
else
(aD2 .i64 x0 2 fun n5=>
aM (IntKind.wrap .i64 (n5 - 1)) fun n6=>
aDF x0 2 fun n8=>
aM (IntKind.wrap .i64 (2+n8)) fun n9=>
mU .i64 n9 n6 fun n10=>
aM (IntKind.wrap .i64 (n10+1)) fun n11=>
Q (AV.tu [(AV.i .i64 n11),(AV.i .i64 n6)]) h))
theorem Y81.call {K x0 h} (H:Y81.t (aH h K) x0 h (Y81.J (aH h K))):C Y81.id [(AV.i .i64 x0)] h K:=
 gC Y81.J Tryz.func85 Y81.dist H
noncomputable def Y11.body:Code:=(Tryz.f91.body).getD .skip
def Y11.ann:Ann:=(sl [0] (sq [0] (sl [0,10] (.br (sl [2] lf) lf)) (sl [0,3,4,5] (sq [3,4,5] (sl [3,4,5,11,12,13] (.one (.loop 1 [3,4,5,11,12,13] (sl [3,4,5,11,12,13,14] (sq [3,4,5,11,12,13] bl (.seq 3 [3,4,5,11,12,13] (.one (sl [3,4,5,7,11,12,13] (sq [3,4,5,7,11,12,13] (.seq 2 [3,4,5,7,11,12,13,22] lf (.br (sl [2] lf) lf)) (sl [3,4,5,7,11,12,13,24] (.br (sl [3,4,5,7,11,12,13] (sl [3,4,5,7,11,12,13] lf)) lf))))) lf)))))) (sq [] (.one (sl [3,4,5,36] (.br (sl [2] lf) (.seq 4 [39] lf (.br (sl [2] lf) lf))))) (sl [2] lf))))))
theorem Y11.dist:aL (places Y11.ann Y11.body)=true:=by kernel_rfl
noncomputable def Y11.J (Q:AV→aA→Prop):JT:=bJ prog C Tryz.f91 Y11.ann Y11.body Q
def Y11.p1 (Q:AV→aA→Prop) (x3 x4 x5 x7:Int) (x11:AV) (x12 x13:Int) (x22:Bool) (h:aA):Prop:=Y11.J Q 2 [(3,(AV.i .i64 x3)),(4,(AV.i .i64 x4)),(5,(AV.i .i64 x5)),(7,(AV.i .i64 x7)),(11,x11),(12,(AV.i .i64 x12)),(13,(AV.i .i64 x13)),(22,(AV.b x22))] h
def Y11.p2 (Q:AV→aA→Prop) (x3 x4 x5:Int) (x11:AV) (x12 x13:Int) (h:aA):Prop:=Y11.J Q 3 [(3,(AV.i .i64 x3)),(4,(AV.i .i64 x4)),(5,(AV.i .i64 x5)),(11,x11),(12,(AV.i .i64 x12)),(13,(AV.i .i64 x13))] h
def Y11.p0 (Q:AV→aA→Prop) (x3 x4 x5:Int) (x11:AV) (x12 x13:Int) (h:aA):Prop:=Y11.J Q 1 [(3,(AV.i .i64 x3)),(4,(AV.i .i64 x4)),(5,(AV.i .i64 x5)),(11,x11),(12,(AV.i .i64 x12)),(13,(AV.i .i64 x13))] h
def Y11.p3 (Q:AV→aA→Prop) (x39:Bool) (h:aA):Prop:=Y11.J Q 4 [(39,(AV.b x39))] h
def Y11.t1 (Q:AV→aA→Prop) (x3 x4 x5 x7:Int) (x11:AV) (x12 x13:Int) (x22:Bool) (h:aA) (J:JT):Prop:=
(bif x22 then
(Q (AV.i .i64 4) h)
else
((bif (decide ((0:Int)<x7)) then
(aM (IntKind.wrap .i64 (15 - x7)) fun n20=>
mU .i64 1 n20 fun n21=>
aM (IntKind.wrap .i64 (x3+n21)) fun n22=>
aM (IntKind.wrap .i64 (x4+1)) fun n24=>
J 3 [(3,(AV.i .i64 n22)),(4,(AV.i .i64 n24)),(5,(AV.i .i64 (mmI true x5 x7))),(11,x11),(12,(AV.i .i64 x12)),(13,(AV.i .i64 x13))] h)
else
(J 3 [(3,(AV.i .i64 x3)),(4,(AV.i .i64 x4)),(5,(AV.i .i64 x5)),(11,x11),(12,(AV.i .i64 x12)),(13,(AV.i .i64 x13))] h))))
theorem Y11.i1 {Q x3 x4 x5 x7 x11 x12 x13 x22 h} (H:Y11.t1 Q x3 x4 x5 x7 x11 x12 x13 x22 h (Y11.J Q)):Y11.p1 Q x3 x4 x5 x7 x11 x12 x13 x22 h:=gR Y11.J Tryz.f91 Y11.dist [1,1,1,0,1,0,0,1,1,0,0,1,0,1] H
def Y11.t2 (Q:AV→aA→Prop) (x3 x4 x5:Int) (x11:AV) (x12 x13:Int) (h:aA) (J:JT):Prop:=
aM (IntKind.wrap .i64 (x13+1)) fun n28=>
J 1 [(3,(AV.i .i64 x3)),(4,(AV.i .i64 x4)),(5,(AV.i .i64 x5)),(11,x11),(12,(AV.i .i64 x12)),(13,(AV.i .i64 n28))] h
theorem Y11.i2 {Q x3 x4 x5 x11 x12 x13 h} (H:Y11.t2 Q x3 x4 x5 x11 x12 x13 h (Y11.J Q)):Y11.p2 Q x3 x4 x5 x11 x12 x13 h:=gR Y11.J Tryz.f91 Y11.dist [1,1,1,0,1,0,0,1,1,1] H
def Y11.t0 (Q:AV→aA→Prop) (x3 x4 x5:Int) (x11:AV) (x12 x13:Int) (h:aA) (J:JT):Prop:=
(bif (decide ((x13:Int)<x12)) then
(aU 1 x11 (AV.i .i64 x13) h fun v11=>
aD v11 h fun v12=>
asI .i64 v12 fun n13=>
(bif (decide ((n13:Int)<0)) then
(J 2 [(3,(AV.i .i64 x3)),(4,(AV.i .i64 x4)),(5,(AV.i .i64 x5)),(7,(AV.i .i64 n13)),(11,x11),(12,(AV.i .i64 x12)),(13,(AV.i .i64 x13)),(22,(AV.b true))] h)
else
(J 2 [(3,(AV.i .i64 x3)),(4,(AV.i .i64 x4)),(5,(AV.i .i64 x5)),(7,(AV.i .i64 n13)),(11,x11),(12,(AV.i .i64 x12)),(13,(AV.i .i64 x13)),(22,(AV.b (decide ((15:Int)<n13))))] h)))
else
((bif (decide ((32768:Int)<x3)) then
(Q (AV.i .i64 2) h)
else
((bif (decide ((x3:Int)<32768)) then
((bif (decide ((0:Int)<x4)) then
((bif (decide ((1:Int)<x4)) then
(J 4 [(39,(AV.b true))] h)
else
(J 4 [(39,(AV.b (decide ((1:Int)<x5))))] h)))
else
(J 4 [(39,(AV.b false))] h)))
else
(J 4 [(39,(AV.b false))] h))))))
theorem Y11.i0 {Q x3 x4 x5 x11 x12 x13 h} (H:Y11.t0 Q x3 x4 x5 x11 x12 x13 h (Y11.J Q)):Y11.p0 Q x3 x4 x5 x11 x12 x13 h:=gH Y11.J Tryz.f91 Y11.dist [1,1,1,0,1,0] H
def Y11.t3 (Q:AV→aA→Prop) (x39:Bool) (h:aA) (J:JT):Prop:=
(bif x39 then
(Q (AV.i .i64 1) h)
else
(Q (AV.i .i64 0) h))
theorem Y11.i3 {Q x39 h} (H:Y11.t3 Q x39 h (Y11.J Q)):Y11.p3 Q x39 h:=gR Y11.J Tryz.f91 Y11.dist [1,1,1,1,0,0,1,1,1] H
def Y11.t (Q:AV→aA→Prop) (x0:AV) (h:aA) (J:JT):Prop:=
bR x0 fun n1=>
(bif (decide ((320:Int)<n1)) then
(Q (AV.i .i64 3) h)
else
(bR x0 fun n6=>
J 1 [(3,(AV.i .i64 0)),(4,(AV.i .i64 0)),(5,(AV.i .i64 0)),(11,x0),(12,(AV.i .i64 n6)),(13,(AV.i .i64 0))] h))
theorem Y11.call {K x0 h} (H:Y11.t (aH h K) x0 h (Y11.J (aH h K))):C Y11.id [x0] h K:=
 gC Y11.J Tryz.func91 Y11.dist H
noncomputable def Y18.body:Code:=(Tryz.f92.body).getD .skip
def Y18.ann:Ann:=(sl [0,2] (sl [0,2,3] (sq [2,3] (sl [2,3,7,8,9] (.one (.loop 1 [2,3,7,8,9] (sl [2,3,7,8,9,10] (sq [2,3,7,8,9] bl (.seq 2 [2,3,7,8,9] (.one (sl [2,3,5,7,8,9] (sl [2,3,5,7,8,9,14] bl))) lf)))))) (sq [2,3] (sl [2,3,6] (.one (.loop 3 [2,3,6] (sq [2,3,6] (sl [2,3,6,24] bl) (sq [2,3,6] (.one (.ord (nn 0 15 (.eff 15 .done .stop)))) lf))))) (sl [2] lf)))))
theorem Y18.dist:aL (places Y18.ann Y18.body)=true:=by kernel_rfl
noncomputable def Y18.J (Q:AV→aA→Prop):JT:=bJ prog C Tryz.f92 Y18.ann Y18.body Q
def Y18.p1 (Q:AV→aA→Prop) (x2 x3 x7:AV) (x8 x9:Int) (h:aA):Prop:=Y18.J Q 2 [(2,x2),(3,x3),(7,x7),(8,(AV.i .i64 x8)),(9,(AV.i .i64 x9))] h
def Y18.p0 (Q:AV→aA→Prop) (x2 x3 x7:AV) (x8 x9:Int) (h:aA):Prop:=Y18.J Q 1 [(2,x2),(3,x3),(7,x7),(8,(AV.i .i64 x8)),(9,(AV.i .i64 x9))] h
def Y18.p2 (Q:AV→aA→Prop) (x2 x3:AV) (x6:Int) (h:aA):Prop:=Y18.J Q 3 [(2,x2),(3,x3),(6,(AV.i .i64 x6))] h
def Y18.t1 (Q:AV→aA→Prop) (x2 x3 x7:AV) (x8 x9:Int) (h:aA) (J:JT):Prop:=
aM (IntKind.wrap .i64 (x9+1)) fun n26=>
J 1 [(2,x2),(3,x3),(7,x7),(8,(AV.i .i64 x8)),(9,(AV.i .i64 n26))] h
theorem Y18.i1 {Q x2 x3 x7 x8 x9 h} (H:Y18.t1 Q x2 x3 x7 x8 x9 h (Y18.J Q)):Y18.p1 Q x2 x3 x7 x8 x9 h:=gR Y18.J Tryz.f92 Y18.dist [1,1,0,1,0,0,1,1,1] H
def Y18.t0 (Q:AV→aA→Prop) (x2 x3 x7:AV) (x8 x9:Int) (h:aA) (J:JT):Prop:=
(bif (decide ((x9:Int)<x8)) then
(aU 1 x7 (AV.i .i64 x9) h fun v11=>
aD v11 h fun v12=>
asI .i64 v12 fun n13=>
(bif (decide ((0:Int)<n13)) then
(aB 0 x3 fun v16=>
bT 16 1 v16 (AV.i .i64 n13) fun v17=>
aD v17 h fun v18=>
asI .i64 v18 fun n19=>
aM (IntKind.wrap .i64 (n19+1)) fun n20=>
aB 0 x3 fun v21=>
bT 16 1 v21 (AV.i .i64 n13) fun v22=>
aP 1 v22 (AV.i .i64 n20) h fun h23=>
J 2 [(2,x2),(3,x3),(7,x7),(8,(AV.i .i64 x8)),(9,(AV.i .i64 x9))] h23)
else
(J 2 [(2,x2),(3,x3),(7,x7),(8,(AV.i .i64 x8)),(9,(AV.i .i64 x9))] h)))
else
(J 3 [(2,x2),(3,x3),(6,(AV.i .i64 1))] h))
theorem Y18.i0 {Q x2 x3 x7 x8 x9 h} (H:Y18.t0 Q x2 x3 x7 x8 x9 h (Y18.J Q)):Y18.p0 Q x2 x3 x7 x8 x9 h:=gH Y18.J Tryz.f92 Y18.dist [1,1,0,1,0] H
def Y18.t2 (Q:AV→aA→Prop) (x2 x3:AV) (x6:Int) (h:aA) (J:JT):Prop:=
(bif (decide ((x6:Int)≤15)) then
(aM (IntKind.wrap .i64 (x6 - 1)) fun n32=>
aB 16 x3 fun v33=>
bT 16 1 v33 (AV.i .i64 n32) fun v34=>
aD v34 h fun v35=>
asI .i64 v35 fun n36=>
aM (IntKind.wrap .i64 (x6 - 1)) fun n37=>
aB 0 x3 fun v38=>
bT 16 1 v38 (AV.i .i64 n37) fun v39=>
aD v39 h fun v40=>
asI .i64 v40 fun n41=>
aM (IntKind.wrap .i64 (n36+n41)) fun n42=>
mU .i64 n42 1 fun n43=>
aB 16 x3 fun v44=>
bT 16 1 v44 (AV.i .i64 x6) fun v45=>
aP 1 v45 (AV.i .i64 n43) h fun h46=>
aM (IntKind.wrap .i64 (x6+1)) fun n48=>
J 3 [(2,x2),(3,x3),(6,(AV.i .i64 n48))] h46)
else
(dC 32 x3 h fun v50=>
aP 32 x2 v50 h fun h51=>
dC 32 x2 h51 fun v53=>
Q v53 h51))
theorem Y18.i2 {Q x2 x3 x6 h} (H:Y18.t2 Q x2 x3 x6 h (Y18.J Q)):Y18.p2 Q x2 x3 x6 h:=gH Y18.J Tryz.f92 Y18.dist [1,1,1,0,1,0] H
def Y18.t (Q:AV→aA→Prop) (x0:AV) (h:aA) (J:JT):Prop:=
eK (some 156) [(AV.i .i64 0),(AV.i .i64 0),(AV.i .i64 0),(AV.i .i64 0),(AV.i .i64 0),(AV.i .i64 0),(AV.i .i64 0),(AV.i .i64 0),(AV.i .i64 0),(AV.i .i64 0),(AV.i .i64 0),(AV.i .i64 0),(AV.i .i64 0),(AV.i .i64 0),(AV.i .i64 0),(AV.i .i64 0),(AV.i .i64 0),(AV.i .i64 0),(AV.i .i64 0),(AV.i .i64 0),(AV.i .i64 0),(AV.i .i64 0),(AV.i .i64 0),(AV.i .i64 0),(AV.i .i64 0),(AV.i .i64 0),(AV.i .i64 0),(AV.i .i64 0),(AV.i .i64 0),(AV.i .i64 0),(AV.i .i64 0),(AV.i .i64 0)] h fun v0 h1=>
eK (some 156) [(AV.i .i64 0),(AV.i .i64 0),(AV.i .i64 0),(AV.i .i64 0),(AV.i .i64 0),(AV.i .i64 0),(AV.i .i64 0),(AV.i .i64 0),(AV.i .i64 0),(AV.i .i64 0),(AV.i .i64 0),(AV.i .i64 0),(AV.i .i64 0),(AV.i .i64 0),(AV.i .i64 0),(AV.i .i64 0),(AV.i .i64 0),(AV.i .i64 0),(AV.i .i64 0),(AV.i .i64 0),(AV.i .i64 0),(AV.i .i64 0),(AV.i .i64 0),(AV.i .i64 0),(AV.i .i64 0),(AV.i .i64 0),(AV.i .i64 0),(AV.i .i64 0),(AV.i .i64 0),(AV.i .i64 0),(AV.i .i64 0),(AV.i .i64 0)] h1 fun v3 h4=>
bR x0 fun n6=>
J 1 [(2,v0),(3,v3),(7,x0),(8,(AV.i .i64 n6)),(9,(AV.i .i64 0))] h4
theorem Y18.call {K x0 h} (H:Y18.t (aH h K) x0 h (Y18.J (aH h K))):C Y18.id [x0] h K:=
 gC Y18.J Tryz.func92 Y18.dist H
noncomputable def Y53.body:Code:=(Tryz.f93.body).getD .skip
def Y53.ann:Ann:=(sl [0,1,2] (sl [] (sl [6] lf)))
theorem Y53.dist:aL (places Y53.ann Y53.body)=true:=by kernel_rfl
noncomputable def Y53.J (Q:AV→aA→Prop):JT:=bJ prog C Tryz.f93 Y53.ann Y53.body Q
def Y53.t (Q:AV→aA→Prop) (x0:AV) (x1:Int) (x2:AV) (h:aA) (J:JT):Prop:=
aK x0 fun v1=>
aB 11 v1 fun v2=>
aP 1 v2 (AV.i .i64 0) h fun h3=>
aK x0 fun v4=>
aB 12 v4 fun v5=>
aP 1 v5 (AV.i .i64 0) h3 fun h6=>
aK x0 fun v7=>
aB 13 v7 fun v8=>
aP 1 v8 (AV.i .i64 x1) h6 fun h9=>
aK x0 fun v10=>
aB 14 v10 fun v11=>
aP 1 v11 (AV.p none) h9 fun h12=>
aK x0 fun v13=>
aB 15 v13 fun v14=>
aP 1 v14 x2 h12 fun h15=>
Q (AV.i .i64 0) h15
theorem Y53.call {K x0 x1 x2 h} (H:Y53.t (aH h K) x0 x1 x2 h (Y53.J (aH h K))):C Y53.id [x0,(AV.i .i64 x1),x2] h K:=
 gC Y53.J Tryz.func93 Y53.dist H
noncomputable def Y101.body:Code:=(Tryz.f94.body).getD .skip
def Y101.ann:Ann:=(sl [0,1] (sl [0,1] (sq [] (sl [1,11] (.one (sl [1,11,12] (.br (sl [1] (sl [3] lf)) (sl [1,11,19] (.br (sl [3] lf) (sl [1,23] (.br (sl [3] lf) lf)))))))) (sl [3] lf))))
theorem Y101.dist:aL (places Y101.ann Y101.body)=true:=by kernel_rfl
noncomputable def Y101.J (Q:AV→aA→Prop):JT:=bJ prog C Tryz.f94 Y101.ann Y101.body Q
def Y101.t (Q:AV→aA→Prop) (x0:Int) (x1:AV) (h:aA) (J:JT):Prop:=
aD x1 h fun v1=>
aK v1 fun v2=>
aB 6 v2 fun v3=>
aP 1 v3 (AV.b (decide (((bA .and .i64 x0 1):Int)=1))) h fun h4=>
s9 .i64 x0 1 fun n6=>
(bif (decide ((n6:Int)=0)) then
(aD x1 h4 fun v9=>
aK v9 fun v10=>
aB 9 v10 fun v11=>
aP 1 v11 (AV.b true) h4 fun h12=>
aD x1 h12 fun v14=>
C Y73.id [v14] h12 fun v15 h16=>
asI .i64 v15 fun n17=>
Q (AV.i .i64 n17) h16)
else
((bif (decide ((n6:Int)=1)) then
(aD x1 h4 fun v20=>
C Y68.id [v20] h4 fun v21 h22=>
asI .i64 v21 fun n23=>
Q (AV.i .i64 n23) h22)
else
((bif (decide ((n6:Int)=2)) then
(aD x1 h4 fun v26=>
C Y70.id [v26] h4 fun v27 h28=>
asI .i64 v27 fun n29=>
Q (AV.i .i64 n29) h28)
else
(Q (AV.i .i64 2) h4))))))
theorem Y101.call {K x0 x1 h} (H:Y101.t (aH h K) x0 x1 h (Y101.J (aH h K))):C Y101.id [(AV.i .i64 x0),x1] h K:=
 gC Y101.J Tryz.func94 Y101.dist H
noncomputable def Y73.body:Code:=(Tryz.f95.body).getD .skip
def Y73.ann:Ann:=(sl [1] (sl [2] lf))
theorem Y73.dist:aL (places Y73.ann Y73.body)=true:=by kernel_rfl
noncomputable def Y73.J (Q:AV→aA→Prop):JT:=bJ prog C Tryz.f95 Y73.ann Y73.body Q
def Y73.t (Q:AV→aA→Prop) (x0:AV) (h:aA) (J:JT):Prop:=
dS none x0 h fun v0 h1=>
aD v0 h1 fun v3=>
C Y53.id [v3,(AV.i .i64 16),(AV.fn (.func Y72.id) [] [v0])] h1 fun v4 h5=>
asI .i64 v4 fun n6=>
Q (AV.i .i64 n6) h5
theorem Y73.call {K x0 h} (H:Y73.t (aH h K) x0 h (Y73.J (aH h K))):C Y73.id [x0] h K:=
 gC Y73.J Tryz.func95 Y73.dist H
noncomputable def Y68.body:Code:=(Tryz.f96.body).getD .skip
def Y68.ann:Ann:=(sl [0] (sl [0,3,4] (sl [2] lf)))
theorem Y68.dist:aL (places Y68.ann Y68.body)=true:=by kernel_rfl
noncomputable def Y68.J (Q:AV→aA→Prop):JT:=bJ prog C Tryz.f96 Y68.ann Y68.body Q
def Y68.t (Q:AV→aA→Prop) (x0:AV) (h:aA) (J:JT):Prop:=
C Y19.id [] h fun v1 h2=>
aO 0 v1 fun v3=>
aO 1 v1 fun v4=>
C Y60.id [x0,v3,v4] h2 fun v6 h7=>
asI .i64 v6 fun n8=>
Q (AV.i .i64 n8) h7
theorem Y68.call {K x0 h} (H:Y68.t (aH h K) x0 h (Y68.J (aH h K))):C Y68.id [x0] h K:=
 gC Y68.J Tryz.func96 Y68.dist H
noncomputable def Y70.body:Code:=(Tryz.f97.body).getD .skip
def Y70.ann:Ann:=(sl [1] (sl [2] lf))
theorem Y70.dist:aL (places Y70.ann Y70.body)=true:=by kernel_rfl
noncomputable def Y70.J (Q:AV→aA→Prop):JT:=bJ prog C Tryz.f97 Y70.ann Y70.body Q
def Y70.t (Q:AV→aA→Prop) (x0:AV) (h:aA) (J:JT):Prop:=
dS none x0 h fun v0 h1=>
aD v0 h1 fun v3=>
C Y53.id [v3,(AV.i .i64 5),(AV.fn (.func Y88.id) [] [v0])] h1 fun v4 h5=>
asI .i64 v4 fun n6=>
Q (AV.i .i64 n6) h5
theorem Y70.call {K x0 h} (H:Y70.t (aH h K) x0 h (Y70.J (aH h K))):C Y70.id [x0] h K:=
 gC Y70.J Tryz.func97 Y70.dist H
noncomputable def Y25.body:Code:=(Tryz.f98.body).getD .skip
def Y25.ann:Ann:=(sl [0,1,4,5,6] (sq [0,1,4,5,6] (sl [0,1,4,5,6,9] (.br (sl [4,5,6] lf) lf)) (sq [0,4,5,6] (.ord (nn 0 17 (.eff 17 (nn 18 2 (.eff 20 .done .stop)) .stop))) (.seq 2 [0,4,5,6] (sl [0,4,5,6,7] (.seq 1 [0,4,5,6,7,74] (.ord (nn 0 42 .done)) (.br (.ord (nn 0 27 .done)) (sl [0,4,5,105] (.br (sl [4,5,6] lf) lf))))) (sl [4,5,6] (sl [4,5,6] lf))))))
theorem Y25.dist:aL (places Y25.ann Y25.body)=true:=by kernel_rfl
noncomputable def Y25.J (Q:AV→aA→Prop):JT:=bJ prog C Tryz.f98 Y25.ann Y25.body Q
def Y25.p0 (Q:AV→aA→Prop) (x0:AV) (x4:Int) (x5:Bool) (x6 x7:Int) (x74:Bool) (h:aA):Prop:=Y25.J Q 1 [(0,x0),(4,(AV.i .i64 x4)),(5,(AV.b x5)),(6,(AV.i .i64 x6)),(7,(AV.i .i64 x7)),(74,(AV.b x74))] h
def Y25.p1 (Q:AV→aA→Prop) (x0:AV) (x4:Int) (x5:Bool) (x6:Int) (h:aA):Prop:=Y25.J Q 2 [(0,x0),(4,(AV.i .i64 x4)),(5,(AV.b x5)),(6,(AV.i .i64 x6))] h
def Y25.t0 (Q:AV→aA→Prop) (x0:AV) (x4:Int) (x5:Bool) (x6 x7:Int) (x74:Bool) (h:aA) (J:JT):Prop:=
(bif x74 then
(aK x0 fun v63=>
aB 32 v63 fun v64=>
aD v64 h fun v65=>
aK x0 fun v66=>
aB 33 v66 fun v67=>
bT 16 1 v67 (AV.i .i64 x7) fun v68=>
aD v68 h fun v69=>
asI .i64 v69 fun n70=>
aK x0 fun v71=>
aB 50 v71 fun v72=>
aD v72 h fun v73=>
asI .i64 v73 fun n74=>
aM (IntKind.wrap .i64 (n70+n74)) fun n75=>
aK x0 fun v76=>
aB 0 v76 fun v77=>
aB 16 v77 fun v78=>
bT 16 1 v78 (AV.i .i64 x7) fun v79=>
aD v79 h fun v80=>
asI .i64 v80 fun n81=>
aM (IntKind.wrap .i64 (n75 - n81)) fun n82=>
aU 1 v65 (AV.i .i64 n82) h fun v83=>
aD v83 h fun v84=>
asI .i64 v84 fun n85=>
J 2 [(0,x0),(4,(AV.i .i64 n85)),(5,(AV.b true)),(6,(AV.i .i64 x6))] h)
else
(aK x0 fun v87=>
aB 49 v87 fun v88=>
aD v88 h fun v89=>
asI .i64 v89 fun n90=>
(bif (decide ((x7:Int)<n90)) then
(Q (AV.tu [(AV.i .i64 0),(AV.b false),(AV.i .i64 0)]) h)
else
(J 2 [(0,x0),(4,(AV.i .i64 x4)),(5,(AV.b x5)),(6,(AV.i .i64 2))] h))))
theorem Y25.i0 {Q x0 x4 x5 x6 x7 x74 h} (H:Y25.t0 Q x0 x4 x5 x6 x7 x74 h (Y25.J Q)):Y25.p0 Q x0 x4 x5 x6 x7 x74 h:=gR Y25.J Tryz.f98 Y25.dist [1,1,1,0,1,1] H
def Y25.t1 (Q:AV→aA→Prop) (x0:AV) (x4:Int) (x5:Bool) (x6:Int) (h:aA) (J:JT):Prop:=
aK x0 fun v94=>
aB 50 v94 fun v95=>
aP 1 v95 (AV.i .i64 0) h fun h96=>
aK x0 fun v97=>
aB 51 v97 fun v98=>
aP 1 v98 (AV.i .i64 0) h96 fun h99=>
Q (AV.tu [(AV.i .i64 x4),(AV.b x5),(AV.i .i64 x6)]) h99
theorem Y25.i1 {Q x0 x4 x5 x6 h} (H:Y25.t1 Q x0 x4 x5 x6 h (Y25.J Q)):Y25.p1 Q x0 x4 x5 x6 h:=gR Y25.J Tryz.f98 Y25.dist [1,1,1,1] H
def Y25.t (Q:AV→aA→Prop) (x0:AV) (x1:Int) (h:aA) (J:JT):Prop:=
cI prog .eql 82 x0 (AV.p none) fun v1=>
asB v1 fun c2=>
(bif c2 then
(Q (AV.tu [(AV.i .i64 0),(AV.b false),(AV.i .i64 6)]) h)
else
(aK x0 fun v6=>
aB 50 v6 fun v7=>
aD v7 h fun v8=>
asI .i64 v8 fun n9=>
mU .i64 n9 1 fun n10=>
aM (bA .or .i64 n10 (bA .and .i64 x1 1)) fun n11=>
aK x0 fun v12=>
aB 51 v12 fun v13=>
aD v13 h fun v14=>
asI .i64 v14 fun n15=>
aM (IntKind.wrap .i64 (n15+1)) fun n16=>
aK x0 fun v17=>
aB 50 v17 fun v18=>
aP 1 v18 (AV.i .i64 n11) h fun h19=>
aK x0 fun v20=>
aB 51 v20 fun v21=>
aP 1 v21 (AV.i .i64 n16) h19 fun h22=>
aK x0 fun v24=>
aB 51 v24 fun v25=>
aD v25 h22 fun v26=>
asI .i64 v26 fun n27=>
aK x0 fun v29=>
aB 49 v29 fun v30=>
aD v30 h22 fun v31=>
asI .i64 v31 fun n32=>
(bif (decide ((n27:Int)≤n32)) then
(aK x0 fun v33=>
aB 50 v33 fun v34=>
aD v34 h22 fun v35=>
asI .i64 v35 fun n36=>
aK x0 fun v37=>
aB 0 v37 fun v38=>
aB 16 v38 fun v39=>
bT 16 1 v39 (AV.i .i64 n27) fun v40=>
aD v40 h22 fun v41=>
asI .i64 v41 fun n42=>
aM (IntKind.wrap .i64 (n36 - n42)) fun n43=>
aK x0 fun v44=>
aB 0 v44 fun v45=>
aB 0 v45 fun v46=>
bT 16 1 v46 (AV.i .i64 n27) fun v47=>
aD v47 h22 fun v48=>
asI .i64 v48 fun n49=>
(bif (decide ((n43:Int)<n49)) then
(aK x0 fun v50=>
aB 50 v50 fun v51=>
aD v51 h22 fun v52=>
asI .i64 v52 fun n53=>
aK x0 fun v54=>
aB 0 v54 fun v55=>
aB 16 v55 fun v56=>
bT 16 1 v56 (AV.i .i64 n27) fun v57=>
aD v57 h22 fun v58=>
asI .i64 v58 fun n59=>
J 1 [(0,x0),(4,(AV.i .i64 0)),(5,(AV.b false)),(6,(AV.i .i64 0)),(7,(AV.i .i64 n27)),(74,(AV.b (decide ((n59:Int)≤n53))))] h22)
else
(J 1 [(0,x0),(4,(AV.i .i64 0)),(5,(AV.b false)),(6,(AV.i .i64 0)),(7,(AV.i .i64 n27)),(74,(AV.b false))] h22)))
else
(J 1 [(0,x0),(4,(AV.i .i64 0)),(5,(AV.b false)),(6,(AV.i .i64 0)),(7,(AV.i .i64 n27)),(74,(AV.b false))] h22))))
theorem Y25.call {K x0 x1 h} (H:Y25.t (aH h K) x0 x1 h (Y25.J (aH h K))):C Y25.id [x0,(AV.i .i64 x1)] h K:=
 gC Y25.J Tryz.func98 Y25.dist H
noncomputable def Y66.body:Code:=(Tryz.f99.body).getD .skip
def Y66.ann:Ann:=(sl [0,1,2] (sq [0,2] (sl [0,1,2,9] (.br (sl [6] lf) lf)) (sq [0] (sl [0,2,13] (.br (sl [6] lf) lf)) (sl [6] lf))))
theorem Y66.dist:aL (places Y66.ann Y66.body)=true:=by kernel_rfl
noncomputable def Y66.J (Q:AV→aA→Prop):JT:=bJ prog C Tryz.f99 Y66.ann Y66.body Q
def Y66.t (Q:AV→aA→Prop) (x0 x1 x2:Int) (h:aA) (J:JT):Prop:=
(bif (decide ((x0:Int)<x1)) then
(Q (AV.i .i64 x1) h)
else
((bif (decide ((x2:Int)<x0)) then
(Q (AV.i .i64 x2) h)
else
(Q (AV.i .i64 x0) h))))
theorem Y66.call {K x0 x1 x2 h} (H:Y66.t (aH h K) x0 x1 x2 h (Y66.J (aH h K))):C Y66.id [(AV.i .i64 x0),(AV.i .i64 x1),(AV.i .i64 x2)] h K:=
 gC Y66.J Tryz.func99 Y66.dist H
noncomputable def Y24.body:Code:=(Tryz.f100.body).getD .skip
def Y24.ann:Ann:=(sl [0] (.seq 1 [2] lf lf))
theorem Y24.dist:aL (places Y24.ann Y24.body)=true:=by kernel_rfl
noncomputable def Y24.J (Q:AV→aA→Prop):JT:=bJ prog C Tryz.f100 Y24.ann Y24.body Q
def Y24.p0 (Q:AV→aA→Prop) (x2:Bool) (h:aA):Prop:=Y24.J Q 1 [(2,(AV.b x2))] h
def Y24.t0 (Q:AV→aA→Prop) (x2:Bool) (h:aA) (J:JT):Prop:=
Q (AV.b x2) h
theorem Y24.i0 {Q x2 h} (H:Y24.t0 Q x2 h (Y24.J Q)):Y24.p0 Q x2 h:=gR Y24.J Tryz.f100 Y24.dist [1,1] H
def Y24.t (Q:AV→aA→Prop) (x0:AV) (h:aA) (J:JT):Prop:=
aK x0 fun v1=>
aB 5 v1 fun v2=>
aD v2 h fun v3=>
asB v3 fun c4=>
(bif c4 then
(J 1 [(2,(AV.b true))] h)
else
(aK x0 fun v6=>
aB 6 v6 fun v7=>
aD v7 h fun v8=>
asI .i64 v8 fun n9=>
J 1 [(2,(AV.b (!decide ((n9:Int)=0))))] h))
theorem Y24.call {K x0 h} (H:Y24.t (aH h K) x0 h (Y24.J (aH h K))):C Y24.id [x0] h K:=
 gC Y24.J Tryz.func100 Y24.dist H
noncomputable def Y27.body:Code:=(Tryz.f101.body).getD .skip
def Y27.ann:Ann:=(sl [0] (sq [0] (.seq 1 [0,18] (.ord (.neu 0 (.eff 1 (nn 2 13 .done) .stop))) (.br (.seq 2 [] lf (sl [2] lf)) lf)) (sq [0,3] (.ord (nn 0 20 .done)) (sl [3] (sl [2] lf)))))
theorem Y27.dist:aL (places Y27.ann Y27.body)=true:=by kernel_rfl
noncomputable def Y27.J (Q:AV→aA→Prop):JT:=bJ prog C Tryz.f101 Y27.ann Y27.body Q
def Y27.p1 (Q:AV→aA→Prop) (h:aA):Prop:=Y27.J Q 2 [] h
def Y27.p0 (Q:AV→aA→Prop) (x0:AV) (x18:Bool) (h:aA):Prop:=Y27.J Q 1 [(0,x0),(18,(AV.b x18))] h
def Y27.t1 (Q:AV→aA→Prop) (h:aA) (J:JT):Prop:=
Q (AV.i .i64 0) h
theorem Y27.i1 {Q h} (H:Y27.t1 Q h (Y27.J Q)):Y27.p1 Q h:=gR Y27.J Tryz.f101 Y27.dist [1,0,1,0,1] H
def Y27.t0 (Q:AV→aA→Prop) (x0:AV) (x18:Bool) (h:aA) (J:JT):Prop:=
(bif x18 then
(aK x0 fun v15=>
aB 5 v15 fun v16=>
aD v16 h fun v17=>
asB v17 fun c18=>
(bif c18 then
(aK x0 fun v19=>
aB 5 v19 fun v20=>
aP 1 v20 (AV.b true) h fun h21=>
J 2 [] h21)
else
(aK x0 fun v23=>
aB 6 v23 fun v24=>
aD v24 h fun v25=>
asI .i64 v25 fun n26=>
aK x0 fun v27=>
aB 5 v27 fun v28=>
aP 1 v28 (AV.b (decide ((n26:Int)=0))) h fun h29=>
J 2 [] h29)))
else
(aK x0 fun v33=>
aB 0 v33 fun v34=>
aD v34 h fun v35=>
asS v35 fun l36=>
aK x0 fun v37=>
aB 1 v37 fun v38=>
aD v38 h fun v39=>
asI .i64 v39 fun n40=>
aD2 .i64 n40 8 fun n41=>
cK (AV.s l36) (AV.i .i64 n41) fun n42=>
aK x0 fun v43=>
aB 1 v43 fun v44=>
aD v44 h fun v45=>
asI .i64 v45 fun n46=>
aDF n46 8 fun n47=>
s9 .i64 (IntKind.wrap .i64 n42) (IntKind.wrap .u64 n47) fun n48=>
aK x0 fun v50=>
aB 1 v50 fun v51=>
aD v51 h fun v52=>
asI .i64 v52 fun n53=>
aM (IntKind.wrap .i64 (n53+1)) fun n54=>
aK x0 fun v55=>
aB 1 v55 fun v56=>
aP 1 v56 (AV.i .i64 n54) h fun h57=>
Q (AV.i .i64 (bA .and .i64 n48 1)) h57))
theorem Y27.i0 {Q x0 x18 h} (H:Y27.t0 Q x0 x18 h (Y27.J Q)):Y27.p0 Q x0 x18 h:=gR Y27.J Tryz.f101 Y27.dist [1,0,1] H
def Y27.t (Q:AV→aA→Prop) (x0:AV) (h:aA) (J:JT):Prop:=
C Y24.id [x0] h fun v1 h2=>
asB v1 fun c3=>
(bif c3 then
(J 1 [(0,x0),(18,(AV.b true))] h2)
else
(aK x0 fun v5=>
aB 1 v5 fun v6=>
aD v6 h2 fun v7=>
asI .i64 v7 fun n8=>
aK x0 fun v9=>
aB 0 v9 fun v10=>
aD v10 h2 fun v11=>
asS v11 fun l12=>
aM (IntKind.wrap .i64 (8 * (l12.length:Int))) fun n13=>
J 1 [(0,x0),(18,(AV.b (decide ((n13:Int)≤n8))))] h2))
theorem Y27.call {K x0 h} (H:Y27.t (aH h K) x0 h (Y27.J (aH h K))):C Y27.id [x0] h K:=
 gC Y27.J Tryz.func101 Y27.dist H
noncomputable def Y14.body:Code:=(Tryz.f102.body).getD .skip
def Y14.ann:Ann:=(sl [0,1] (sl [0,1,5] (sq [5] (sl [0,1,5,6] (.one (.loop 1 [0,1,5,6] (sq [0,1,5,6] (sl [0,1,5,6,9] bl) (sq [0,1,5,6] (.one lf) lf))))) (sl [4] lf))))
theorem Y14.dist:aL (places Y14.ann Y14.body)=true:=by kernel_rfl
noncomputable def Y14.J (Q:AV→aA→Prop):JT:=bJ prog C Tryz.f102 Y14.ann Y14.body Q
def Y14.p0 (Q:AV→aA→Prop) (x0:AV) (x1 x5 x6:Int) (h:aA):Prop:=Y14.J Q 1 [(0,x0),(1,(AV.i .i64 x1)),(5,(AV.i .i64 x5)),(6,(AV.i .i64 x6))] h
def Y14.t0 (Q:AV→aA→Prop) (x0:AV) (x1 x5 x6:Int) (h:aA) (J:JT):Prop:=
(bif (decide ((x6:Int)<x1)) then
(C Y27.id [x0] h fun v6 h7=>
asI .i64 v6 fun n8=>
mU .i64 n8 (IntKind.wrap .u64 x6) fun n9=>
aM (IntKind.wrap .i64 (x5+n9)) fun n10=>
aM (IntKind.wrap .i64 (x6+1)) fun n12=>
J 1 [(0,x0),(1,(AV.i .i64 x1)),(5,(AV.i .i64 n10)),(6,(AV.i .i64 n12))] h7)
else
(Q (AV.i .i64 x5) h))
theorem Y14.i0 {Q x0 x1 x5 x6 h} (H:Y14.t0 Q x0 x1 x5 x6 h (Y14.J Q)):Y14.p0 Q x0 x1 x5 x6 h:=gH Y14.J Tryz.f102 Y14.dist [1,1,0,1,0] H
def Y14.t (Q:AV→aA→Prop) (x0:AV) (x1:Int) (h:aA) (J:JT):Prop:=
J 1 [(0,x0),(1,(AV.i .i64 x1)),(5,(AV.i .i64 0)),(6,(AV.i .i64 0))] h
theorem Y14.call {K x0 x1 h} (H:Y14.t (aH h K) x0 x1 h (Y14.J (aH h K))):C Y14.id [x0,(AV.i .i64 x1)] h K:=
 gC Y14.J Tryz.func102 Y14.dist H
noncomputable def Y6.body:Code:=(Tryz.f103.body).getD .skip
def Y6.ann:Ann:=(sq [0] (.one (.loop 1 [0] (sq [0] (sl [0,10] bl) (.one lf)))) (sl [0,2] (.seq 2 [0,2] (sl [0,2,25] bl) (sl [0,2,3] (.one (.loop 3 [0,2,3] (sq [0,2,3] (.seq 4 [0,2,3,35] lf bl) (sq [0,2,3] (.one (sl [0,2,3,4] lf)) lf))))))))
theorem Y6.dist:aL (places Y6.ann Y6.body)=true:=by kernel_rfl
noncomputable def Y6.J (Q:AV→aA→Prop):JT:=bJ prog C Tryz.f103 Y6.ann Y6.body Q
def Y6.p0 (Q:AV→aA→Prop) (x0:AV) (h:aA):Prop:=Y6.J Q 1 [(0,x0)] h
def Y6.p3 (Q:AV→aA→Prop) (x0:AV) (x2 x3:Int) (x35:Bool) (h:aA):Prop:=Y6.J Q 4 [(0,x0),(2,(AV.i .i64 x2)),(3,(AV.i .i64 x3)),(35,(AV.b x35))] h
def Y6.p2 (Q:AV→aA→Prop) (x0:AV) (x2 x3:Int) (h:aA):Prop:=Y6.J Q 3 [(0,x0),(2,(AV.i .i64 x2)),(3,(AV.i .i64 x3))] h
def Y6.p1 (Q:AV→aA→Prop) (x0:AV) (x2:Int) (h:aA):Prop:=Y6.J Q 2 [(0,x0),(2,(AV.i .i64 x2))] h
def Y6.t0 (Q:AV→aA→Prop) (x0:AV) (h:aA) (J:JT):Prop:=
aK x0 fun v0=>
aB 1 v0 fun v1=>
aD v1 h fun v2=>
asI .i64 v2 fun n3=>
aDF n3 8 fun n4=>
(bif (!decide ((n4:Int)=0)) then
(aK x0 fun v8=>
aB 1 v8 fun v9=>
aD v9 h fun v10=>
asI .i64 v10 fun n11=>
aM (IntKind.wrap .i64 (n11+1)) fun n12=>
aK x0 fun v13=>
aB 1 v13 fun v14=>
aP 1 v14 (AV.i .i64 n12) h fun h15=>
J 1 [(0,x0)] h15)
else
(C Y14.id [x0,(AV.i .i64 16)] h fun v17 h18=>
asI .i64 v17 fun n19=>
C Y14.id [x0,(AV.i .i64 16)] h18 fun v21 h22=>
asI .i64 v21 fun n23=>
aM (IntKind.wrap .i64 (65535 - n19)) fun n24=>
(bif (!decide ((n23:Int)=n24)) then
(C Y50.id [x0] h22 fun v26 h27=>
J 2 [(0,x0),(2,(AV.i .i64 n19))] h27)
else
(J 2 [(0,x0),(2,(AV.i .i64 n19))] h22))))
theorem Y6.i0 {Q x0 h} (H:Y6.t0 Q x0 h (Y6.J Q)):Y6.p0 Q x0 h:=gH Y6.J Tryz.f103 Y6.dist [0,0] H
def Y6.t3 (Q:AV→aA→Prop) (x0:AV) (x2 x3:Int) (x35:Bool) (h:aA) (J:JT):Prop:=
(bif x35 then
(C Y14.id [x0,(AV.i .i64 8)] h fun v37 h38=>
asI .i64 v37 fun n39=>
C Y44.id [x0,(AV.i .u8 (IntKind.wrap .u8 n39))] h38 fun v41 h42=>
aM (IntKind.wrap .i64 (x3+1)) fun n44=>
J 3 [(0,x0),(2,(AV.i .i64 x2)),(3,(AV.i .i64 n44))] h42)
else
(Q (AV.tu []) h))
theorem Y6.i3 {Q x0 x2 x3 x35 h} (H:Y6.t3 Q x0 x2 x3 x35 h (Y6.J Q)):Y6.p3 Q x0 x2 x3 x35 h:=gR Y6.J Tryz.f103 Y6.dist [1,1,1,1,0,0,0,1] H
def Y6.t2 (Q:AV→aA→Prop) (x0:AV) (x2 x3:Int) (h:aA) (J:JT):Prop:=
(bif (decide ((x3:Int)<x2)) then
(C Y24.id [x0] h fun v31 h32=>
asB v31 fun c33=>
J 4 [(0,x0),(2,(AV.i .i64 x2)),(3,(AV.i .i64 x3)),(35,(AV.b (!c33)))] h32)
else
(J 4 [(0,x0),(2,(AV.i .i64 x2)),(3,(AV.i .i64 x3)),(35,(AV.b false))] h))
theorem Y6.i2 {Q x0 x2 x3 h} (H:Y6.t2 Q x0 x2 x3 h (Y6.J Q)):Y6.p2 Q x0 x2 x3 h:=gH Y6.J Tryz.f103 Y6.dist [1,1,1,1,0] H
def Y6.t1 (Q:AV→aA→Prop) (x0:AV) (x2:Int) (h:aA) (J:JT):Prop:=
J 3 [(0,x0),(2,(AV.i .i64 x2)),(3,(AV.i .i64 0))] h
theorem Y6.i1 {Q x0 x2 h} (H:Y6.t1 Q x0 x2 h (Y6.J Q)):Y6.p1 Q x0 x2 h:=gR Y6.J Tryz.f103 Y6.dist [1,1,1] H
def Y6.t (Q:AV→aA→Prop) (x0:AV) (h:aA) (J:JT):Prop:=
J 1 [(0,x0)] h
theorem Y6.call {K x0 h} (H:Y6.t (aH h K) x0 h (Y6.J (aH h K))):C Y6.id [x0] h K:=
 gC Y6.J Tryz.func103 Y6.dist H
noncomputable def Y2.body:Code:=(Tryz.f104.body).getD .skip
def Y2.ann:Ann:=(sl [0,2,6] (sl [0,6,8] (.one (.loop 1 [0,6,8] (sq [0,6,8] (sl [0,6,8,29] bl) (.one (sl [0,6,8,10] (sq [0,6,8,10] (.seq 2 [0,6,8,10,38] lf bl) (sq [0,6,8,10] (sl [0,6,8,10,40] (.br (sl [0,6,8] lf) lf)) (sq [0,6,8,10] (sl [0,6,8,10,46] (.br (sl [] lf) lf)) (sl [0,6,8,11,12] (sl [0,6,8,11] (sl [0,6,8,11,13] (sq [0,6,8,11,13] (sl [0,6,8,11,13,63] bl) (sq [0,6,8,11,13] (sl [0,6,8,11,13,65] (.br (sl [] lf) lf)) (sl [0,6,8,11,14,15] (sl [0,6,8,11,14] (.seq 3 [0,6,8,11,14] (sl [0,6,8,11,14,84] bl) (sl [0,6,8,11,14,16] (.one (.loop 4 [0,6,8,11,14,16] (sq [0,6,8,11,14,16] (.seq 5 [0,6,8,11,14,16,94] lf bl) (sq [0,6,8,11,14,16] (.one (.ord (nn 0 14 (.eff 14 .done .stop)))) lf)))))))))))))))))))))))
theorem Y2.dist:aL (places Y2.ann Y2.body)=true:=by kernel_rfl
noncomputable def Y2.J (Q:AV→aA→Prop):JT:=bJ prog C Tryz.f104 Y2.ann Y2.body Q
def Y2.p1 (Q:AV→aA→Prop) (x0 x6 x8:AV) (x10:Int) (x38:Bool) (h:aA):Prop:=Y2.J Q 2 [(0,x0),(6,x6),(8,x8),(10,(AV.i .i64 x10)),(38,(AV.b x38))] h
def Y2.p4 (Q:AV→aA→Prop) (x0 x6 x8:AV) (x11 x14 x16:Int) (x94:Bool) (h:aA):Prop:=Y2.J Q 5 [(0,x0),(6,x6),(8,x8),(11,(AV.i .i64 x11)),(14,(AV.i .i64 x14)),(16,(AV.i .i64 x16)),(94,(AV.b x94))] h
def Y2.p3 (Q:AV→aA→Prop) (x0 x6 x8:AV) (x11 x14 x16:Int) (h:aA):Prop:=Y2.J Q 4 [(0,x0),(6,x6),(8,x8),(11,(AV.i .i64 x11)),(14,(AV.i .i64 x14)),(16,(AV.i .i64 x16))] h
def Y2.p2 (Q:AV→aA→Prop) (x0 x6 x8:AV) (x11 x14:Int) (h:aA):Prop:=Y2.J Q 3 [(0,x0),(6,x6),(8,x8),(11,(AV.i .i64 x11)),(14,(AV.i .i64 x14))] h
def Y2.p0 (Q:AV→aA→Prop) (x0 x6 x8:AV) (h:aA):Prop:=Y2.J Q 1 [(0,x0),(6,x6),(8,x8)] h
def Y2.t1 (Q:AV→aA→Prop) (x0 x6 x8:AV) (x10:Int) (x38:Bool) (h:aA) (J:JT):Prop:=
(bif x38 then
(Q (AV.tu []) h)
else
((bif (decide ((x10:Int)<256)) then
(C Y44.id [x0,(AV.i .u8 (IntKind.wrap .u8 x10))] h fun v28 h29=>
J 1 [(0,x0),(6,x6),(8,x8)] h29)
else
((bif (decide ((285:Int)<x10)) then
(C Y50.id [x0] h fun v34 h35=>
Q (AV.tu []) h35)
else
(C Y76.id [(AV.i .i64 x10)] h fun v38 h39=>
aO 0 v38 fun v40=>
asI .i64 v40 fun n41=>
aO 1 v38 fun v42=>
asI .i64 v42 fun n43=>
C Y14.id [x0,(AV.i .i64 n43)] h39 fun v45 h46=>
asI .i64 v45 fun n47=>
aM (IntKind.wrap .i64 (n41+n47)) fun n48=>
C Y34.id [x0,x8] h46 fun v50 h51=>
asI .i64 v50 fun n52=>
C Y24.id [x0] h51 fun v54 h55=>
asB v54 fun c56=>
(bif c56 then
(Q (AV.tu []) h55)
else
((bif (decide ((29:Int)<n52)) then
(C Y50.id [x0] h55 fun v60 h61=>
Q (AV.tu []) h61)
else
(C Y90.id [(AV.i .i64 n52)] h55 fun v64 h65=>
aO 0 v64 fun v66=>
asI .i64 v66 fun n67=>
aO 1 v64 fun v68=>
asI .i64 v68 fun n69=>
C Y14.id [x0,(AV.i .i64 n69)] h65 fun v71 h72=>
asI .i64 v71 fun n73=>
aM (IntKind.wrap .i64 (n67+n73)) fun n74=>
aK x0 fun v76=>
aB 2 v76 fun v77=>
aD v77 h72 fun v78=>
bR v78 fun n79=>
(bif (decide ((n79:Int)<n74)) then
(C Y50.id [x0] h72 fun v81 h82=>
J 3 [(0,x0),(6,x6),(8,x8),(11,(AV.i .i64 n48)),(14,(AV.i .i64 n74))] h82)
else
(J 3 [(0,x0),(6,x6),(8,x8),(11,(AV.i .i64 n48)),(14,(AV.i .i64 n74))] h72))))))))))))
theorem Y2.i1 {Q x0 x6 x8 x10 x38 h} (H:Y2.t1 Q x0 x6 x8 x10 x38 h (Y2.J Q)):Y2.p1 Q x0 x6 x8 x10 x38 h:=gR Y2.J Tryz.f104 Y2.dist [1,1,0,0,1,0,1,0,1] H
def Y2.t4 (Q:AV→aA→Prop) (x0 x6 x8:AV) (x11 x14 x16:Int) (x94:Bool) (h:aA) (J:JT):Prop:=
(bif x94 then
(aK x0 fun v93=>
aB 2 v93 fun v94=>
aD v94 h fun v95=>
aK x0 fun v96=>
aB 2 v96 fun v97=>
aD v97 h fun v98=>
bR v98 fun n99=>
aM (IntKind.wrap .i64 (n99 - x14)) fun n100=>
aU 1 v95 (AV.i .i64 n100) h fun v101=>
aD v101 h fun v102=>
asI .u8 v102 fun n103=>
C Y44.id [x0,(AV.i .u8 n103)] h fun v104 h105=>
aM (IntKind.wrap .i64 (x16+1)) fun n107=>
J 4 [(0,x0),(6,x6),(8,x8),(11,(AV.i .i64 x11)),(14,(AV.i .i64 x14)),(16,(AV.i .i64 n107))] h105)
else
(J 1 [(0,x0),(6,x6),(8,x8)] h))
theorem Y2.i4 {Q x0 x6 x8 x11 x14 x16 x94 h} (H:Y2.t4 Q x0 x6 x8 x11 x14 x16 x94 h (Y2.J Q)):Y2.p4 Q x0 x6 x8 x11 x14 x16 x94 h:=gR Y2.J Tryz.f104 Y2.dist [1,1,0,0,1,0,1,1,1,1,1,1,1,1,1,1,1,1,1,0,0,0,1] H
def Y2.t3 (Q:AV→aA→Prop) (x0 x6 x8:AV) (x11 x14 x16:Int) (h:aA) (J:JT):Prop:=
(bif (decide ((x16:Int)<x11)) then
(C Y24.id [x0] h fun v86 h87=>
asB v86 fun c88=>
J 5 [(0,x0),(6,x6),(8,x8),(11,(AV.i .i64 x11)),(14,(AV.i .i64 x14)),(16,(AV.i .i64 x16)),(94,(AV.b (!c88)))] h87)
else
(J 5 [(0,x0),(6,x6),(8,x8),(11,(AV.i .i64 x11)),(14,(AV.i .i64 x14)),(16,(AV.i .i64 x16)),(94,(AV.b false))] h))
theorem Y2.i3 {Q x0 x6 x8 x11 x14 x16 h} (H:Y2.t3 Q x0 x6 x8 x11 x14 x16 h (Y2.J Q)):Y2.p3 Q x0 x6 x8 x11 x14 x16 h:=gH Y2.J Tryz.f104 Y2.dist [1,1,0,0,1,0,1,1,1,1,1,1,1,1,1,1,1,1,1,0] H
def Y2.t2 (Q:AV→aA→Prop) (x0 x6 x8:AV) (x11 x14:Int) (h:aA) (J:JT):Prop:=
J 4 [(0,x0),(6,x6),(8,x8),(11,(AV.i .i64 x11)),(14,(AV.i .i64 x14)),(16,(AV.i .i64 0))] h
theorem Y2.i2 {Q x0 x6 x8 x11 x14 h} (H:Y2.t2 Q x0 x6 x8 x11 x14 h (Y2.J Q)):Y2.p2 Q x0 x6 x8 x11 x14 h:=gR Y2.J Tryz.f104 Y2.dist [1,1,0,0,1,0,1,1,1,1,1,1,1,1,1,1,1,1] H
def Y2.t0 (Q:AV→aA→Prop) (x0 x6 x8:AV) (h:aA) (J:JT):Prop:=
C Y24.id [x0] h fun v12 h13=>
asB v12 fun c14=>
(bif (!c14) then
(C Y34.id [x0,x6] h13 fun v17 h18=>
asI .i64 v17 fun n19=>
C Y24.id [x0] h18 fun v21 h22=>
asB v21 fun c23=>
(bif c23 then
(J 2 [(0,x0),(6,x6),(8,x8),(10,(AV.i .i64 n19)),(38,(AV.b true))] h22)
else
(J 2 [(0,x0),(6,x6),(8,x8),(10,(AV.i .i64 n19)),(38,(AV.b (decide ((n19:Int)=256))))] h22)))
else
(Q (AV.tu []) h13))
theorem Y2.i0 {Q x0 x6 x8 h} (H:Y2.t0 Q x0 x6 x8 h (Y2.J Q)):Y2.p0 Q x0 x6 x8 h:=gH Y2.J Tryz.f104 Y2.dist [1,1,0] H
def Y2.t (Q:AV→aA→Prop) (x0 x1 x2:AV) (h:aA) (J:JT):Prop:=
C Y55.id [x1] h fun v0 h1=>
aO 0 v0 fun v2=>
aO 1 v0 fun v3=>
asI .i64 v3 fun n4=>
C Y55.id [x2] h1 fun v6 h7=>
aO 0 v6 fun v8=>
aO 1 v6 fun v9=>
asI .i64 v9 fun n10=>
J 1 [(0,x0),(6,v2),(8,v8)] h7
theorem Y2.call {K x0 x1 x2 h} (H:Y2.t (aH h K) x0 x1 x2 h (Y2.J (aH h K))):C Y2.id [x0,x1,x2] h K:=
 gC Y2.J Tryz.func104 Y2.dist H
noncomputable def Y84.body:Code:=(Tryz.f105.body).getD .skip
def Y84.ann:Ann:=(sl [] (sl [1] (sl [1] (sl [1] (sl [0] lf)))))
theorem Y84.dist:aL (places Y84.ann Y84.body)=true:=by kernel_rfl
noncomputable def Y84.J (Q:AV→aA→Prop):JT:=bJ prog C Tryz.f105 Y84.ann Y84.body Q
def Y84.t (Q:AV→aA→Prop) (h:aA) (J:JT):Prop:=
C Y32.id [(AV.sl none 0 none),(AV.i .i64 144),(AV.i .i64 8)] h fun v1 h2=>
C Y32.id [v1,(AV.i .i64 112),(AV.i .i64 9)] h2 fun v4 h5=>
C Y32.id [v4,(AV.i .i64 24),(AV.i .i64 7)] h5 fun v7 h8=>
C Y32.id [v7,(AV.i .i64 8),(AV.i .i64 8)] h8 fun v10 h11=>
Q v10 h11
theorem Y84.call {K h} (H:Y84.t (aH h K) h (Y84.J (aH h K))):C Y84.id [] h K:=
 gC Y84.J Tryz.func105 Y84.dist H
noncomputable def Y32.body:Code:=(Tryz.f106.body).getD .skip
def Y32.ann:Ann:=(sl [0,1,2] (sq [0] (sl [0,1,2,7] (.one (.loop 1 [0,1,2,7] (sq [0,1,2,7] (sl [0,1,2,7,10] bl) (sq [0,1,2,7] (.one lf) lf))))) (sl [6] lf)))
theorem Y32.dist:aL (places Y32.ann Y32.body)=true:=by kernel_rfl
noncomputable def Y32.J (Q:AV→aA→Prop):JT:=bJ prog C Tryz.f106 Y32.ann Y32.body Q
def Y32.p0 (Q:AV→aA→Prop) (x0:AV) (x1 x2 x7:Int) (h:aA):Prop:=Y32.J Q 1 [(0,x0),(1,(AV.i .i64 x1)),(2,(AV.i .i64 x2)),(7,(AV.i .i64 x7))] h
def Y32.t0 (Q:AV→aA→Prop) (x0:AV) (x1 x2 x7:Int) (h:aA) (J:JT):Prop:=
(bif (decide ((x7:Int)<x1)) then
(bP 1 1 [(AV.i .i64 0)] [(0,1,(AV.i .i64 x2))] h fun v5 h6=>
bU none 1 8 x0 v5 h6 fun v7 h8=>
aM (IntKind.wrap .i64 (x7+1)) fun n10=>
J 1 [(0,v7),(1,(AV.i .i64 x1)),(2,(AV.i .i64 x2)),(7,(AV.i .i64 n10))] h8)
else
(Q x0 h))
theorem Y32.i0 {Q x0 x1 x2 x7 h} (H:Y32.t0 Q x0 x1 x2 x7 h (Y32.J Q)):Y32.p0 Q x0 x1 x2 x7 h:=gH Y32.J Tryz.f106 Y32.dist [1,0,1,0] H
def Y32.t (Q:AV→aA→Prop) (x0:AV) (x1 x2:Int) (h:aA) (J:JT):Prop:=
J 1 [(0,x0),(1,(AV.i .i64 x1)),(2,(AV.i .i64 x2)),(7,(AV.i .i64 0))] h
theorem Y32.call {K x0 x1 x2 h} (H:Y32.t (aH h K) x0 x1 x2 h (Y32.J (aH h K))):C Y32.id [x0,(AV.i .i64 x1),(AV.i .i64 x2)] h K:=
 gC Y32.J Tryz.func106 Y32.dist H
noncomputable def Y0.body:Code:=(Tryz.f107.body).getD .skip
def Y0.ann:Ann:=(sl [0] (sl [0,4] (.seq 1 [0,4] (sl [0,4,19] bl) (sl [0,4,5] (.seq 2 [0,4,5] (sl [0,4,5,26] bl) (sl [0,4,5,6] (sl [0,4,5,6,7] (sl [0,4,5,6,7,8] (sq [0,4,5,8] (sl [0,4,5,6,7,8,9] (.one (.loop 3 [0,4,5,6,7,8,9] (sq [0,4,5,6,7,8,9] (sl [0,4,5,6,7,8,9,36] bl) (sq [0,4,5,6,7,8,9] (.one (.ord (nn 0 6 (.eff 6 (.neu 7 (.eff 8 .done .stop)) .stop)))) lf))))) (.seq 5 [0,4,5,8] (.seq 4 [0,4,5,8,54] lf bl) (sl [0,4,5,10] (sl [0,4,5,10,12] (.seq 10 [0,4,12] (.one (.loop 6 [0,4,5,10,12] (sq [0,4,5,10,12] (.seq 7 [0,4,5,10,12,72] lf bl) (.one (sl [0,4,5,10,12,13] (sl [0,4,5,10,12,13,14] (.seq 8 [0,4,5,10,12,13,14] (sl [0,4,5,10,12,13,14,77] (.br (sq [0,4,5,10,12] (sl [0,4,5,10,12,80] (.br (sl [0,4,12] lf) lf)) (sl [0,4,5,10,12,14] lf)) (sl [0,4,5,10,12,13,14,93] (.br (sl [0,4,5,10,12,14] lf) (sl [0,4,5,10,12,13,14,98] (.br (sl [0,4,5,10,12,14] lf) lf)))))) (.seq 9 [0,4,5,10,12,13,14] (sl [0,4,5,10,12,13,14,109] bl) lf)))))))) (sq [0,4,12] (sl [0,4,12,117] (.br (sl [2,3] lf) lf)) (.seq 12 [4,12] (.seq 11 [0,4,12,129] lf bl) (sq [2,3] (.ord (nn 0 8 .done)) lf))))))))))))))))
theorem Y0.dist:aL (places Y0.ann Y0.body)=true:=by kernel_rfl
noncomputable def Y0.J (Q:AV→aA→Prop):JT:=bJ prog C Tryz.f107 Y0.ann Y0.body Q
def Y0.p2 (Q:AV→aA→Prop) (x0:AV) (x4 x5 x6:Int) (x7 x8:AV) (x9:Int) (h:aA):Prop:=Y0.J Q 3 [(0,x0),(4,(AV.i .i64 x4)),(5,(AV.i .i64 x5)),(6,(AV.i .i64 x6)),(7,x7),(8,x8),(9,(AV.i .i64 x9))] h
def Y0.p3 (Q:AV→aA→Prop) (x0:AV) (x4 x5:Int) (x8:AV) (x54:Bool) (h:aA):Prop:=Y0.J Q 4 [(0,x0),(4,(AV.i .i64 x4)),(5,(AV.i .i64 x5)),(8,x8),(54,(AV.b x54))] h
def Y0.p6 (Q:AV→aA→Prop) (x0:AV) (x4 x5:Int) (x10 x12:AV) (x72:Bool) (h:aA):Prop:=Y0.J Q 7 [(0,x0),(4,(AV.i .i64 x4)),(5,(AV.i .i64 x5)),(10,x10),(12,x12),(72,(AV.b x72))] h
def Y0.p8 (Q:AV→aA→Prop) (x0:AV) (x4 x5:Int) (x10 x12:AV) (x13 x14:Int) (h:aA):Prop:=Y0.J Q 9 [(0,x0),(4,(AV.i .i64 x4)),(5,(AV.i .i64 x5)),(10,x10),(12,x12),(13,(AV.i .i64 x13)),(14,(AV.i .i64 x14))] h
def Y0.p7 (Q:AV→aA→Prop) (x0:AV) (x4 x5:Int) (x10 x12:AV) (x13 x14:Int) (h:aA):Prop:=Y0.J Q 8 [(0,x0),(4,(AV.i .i64 x4)),(5,(AV.i .i64 x5)),(10,x10),(12,x12),(13,(AV.i .i64 x13)),(14,(AV.i .i64 x14))] h
def Y0.p5 (Q:AV→aA→Prop) (x0:AV) (x4 x5:Int) (x10 x12:AV) (h:aA):Prop:=Y0.J Q 6 [(0,x0),(4,(AV.i .i64 x4)),(5,(AV.i .i64 x5)),(10,x10),(12,x12)] h
def Y0.p10 (Q:AV→aA→Prop) (x0:AV) (x4:Int) (x12:AV) (x129:Bool) (h:aA):Prop:=Y0.J Q 11 [(0,x0),(4,(AV.i .i64 x4)),(12,x12),(129,(AV.b x129))] h
def Y0.p11 (Q:AV→aA→Prop) (x4:Int) (x12:AV) (h:aA):Prop:=Y0.J Q 12 [(4,(AV.i .i64 x4)),(12,x12)] h
def Y0.p9 (Q:AV→aA→Prop) (x0:AV) (x4:Int) (x12:AV) (h:aA):Prop:=Y0.J Q 10 [(0,x0),(4,(AV.i .i64 x4)),(12,x12)] h
def Y0.p4 (Q:AV→aA→Prop) (x0:AV) (x4 x5:Int) (x8:AV) (h:aA):Prop:=Y0.J Q 5 [(0,x0),(4,(AV.i .i64 x4)),(5,(AV.i .i64 x5)),(8,x8)] h
def Y0.p1 (Q:AV→aA→Prop) (x0:AV) (x4 x5:Int) (h:aA):Prop:=Y0.J Q 2 [(0,x0),(4,(AV.i .i64 x4)),(5,(AV.i .i64 x5))] h
def Y0.p0 (Q:AV→aA→Prop) (x0:AV) (x4:Int) (h:aA):Prop:=Y0.J Q 1 [(0,x0),(4,(AV.i .i64 x4))] h
def Y0.t2 (Q:AV→aA→Prop) (x0:AV) (x4 x5 x6:Int) (x7 x8:AV) (x9:Int) (h:aA) (J:JT):Prop:=
(bif (decide ((x9:Int)<x6)) then
(aU 1 x7 (AV.i .i64 x9) h fun v36=>
aD v36 h fun v37=>
asI .i64 v37 fun n38=>
C Y14.id [x0,(AV.i .i64 3)] h fun v39 h40=>
asI .i64 v39 fun n41=>
aD v36 h40 fun v42=>
asI .i64 v42 fun n43=>
((AV.i .i64 n38)=(AV.i .i64 n43) ∧
(aU 1 x7 (AV.i .i64 x9) h40 fun v44=>
(v36=v44 ∧
(aU 1 x8 (AV.i .i64 n38) h40 fun v45=>
aP 1 v45 (AV.i .i64 n41) h40 fun h46=>
aM (IntKind.wrap .i64 (x9+1)) fun n48=>
J 3 [(0,x0),(4,(AV.i .i64 x4)),(5,(AV.i .i64 x5)),(6,(AV.i .i64 x6)),(7,x7),(8,x8),(9,(AV.i .i64 n48))] h46)))))
else
(C Y24.id [x0] h fun v50 h51=>
asB v50 fun c52=>
(bif (!c52) then
(C Y7.id [x8] h51 fun v53 h54=>
asI .i64 v53 fun n55=>
J 4 [(0,x0),(4,(AV.i .i64 x4)),(5,(AV.i .i64 x5)),(8,x8),(54,(AV.b (!decide ((n55:Int)=0))))] h54)
else
(J 4 [(0,x0),(4,(AV.i .i64 x4)),(5,(AV.i .i64 x5)),(8,x8),(54,(AV.b false))] h51))))
theorem Y0.i2 {Q x0 x4 x5 x6 x7 x8 x9 h} (H:Y0.t2 Q x0 x4 x5 x6 x7 x8 x9 h (Y0.J Q)):Y0.p2 Q x0 x4 x5 x6 x7 x8 x9 h:=gH Y0.J Tryz.f107 Y0.dist [1,1,1,1,1,1,1,1,0,1,0] H
def Y0.t3 (Q:AV→aA→Prop) (x0:AV) (x4 x5:Int) (x8:AV) (x54:Bool) (h:aA) (J:JT):Prop:=
(bif x54 then
(C Y50.id [x0] h fun v58 h59=>
J 5 [(0,x0),(4,(AV.i .i64 x4)),(5,(AV.i .i64 x5)),(8,x8)] h59)
else
(J 5 [(0,x0),(4,(AV.i .i64 x4)),(5,(AV.i .i64 x5)),(8,x8)] h))
theorem Y0.i3 {Q x0 x4 x5 x8 x54 h} (H:Y0.t3 Q x0 x4 x5 x8 x54 h (Y0.J Q)):Y0.p3 Q x0 x4 x5 x8 x54 h:=gR Y0.J Tryz.f107 Y0.dist [1,1,1,1,1,1,1,1,1,0,1] H
def Y0.t6 (Q:AV→aA→Prop) (x0:AV) (x4 x5:Int) (x10 x12:AV) (x72:Bool) (h:aA) (J:JT):Prop:=
(bif x72 then
(C Y34.id [x0,x10] h fun v78 h79=>
asI .i64 v78 fun n80=>
(bif (decide ((n80:Int)=16)) then
(bR x12 fun n84=>
(bif (decide ((n84:Int)=0)) then
(C Y50.id [x0] h79 fun v86 h87=>
J 10 [(0,x0),(4,(AV.i .i64 x4)),(12,x12)] h87)
else
(C Y14.id [x0,(AV.i .i64 2)] h79 fun v91 h92=>
asI .i64 v91 fun n93=>
aM (IntKind.wrap .i64 (3+n93)) fun n94=>
bR x12 fun n96=>
aM (IntKind.wrap .i64 (n96 - 1)) fun n97=>
aU 1 x12 (AV.i .i64 n97) h92 fun v98=>
aD v98 h92 fun v99=>
asI .i64 v99 fun n100=>
J 8 [(0,x0),(4,(AV.i .i64 x4)),(5,(AV.i .i64 x5)),(10,x10),(12,x12),(13,(AV.i .i64 n100)),(14,(AV.i .i64 n94))] h92)))
else
((bif (decide ((n80:Int)=17)) then
(C Y14.id [x0,(AV.i .i64 3)] h79 fun v103 h104=>
asI .i64 v103 fun n105=>
aM (IntKind.wrap .i64 (3+n105)) fun n106=>
J 8 [(0,x0),(4,(AV.i .i64 x4)),(5,(AV.i .i64 x5)),(10,x10),(12,x12),(13,(AV.i .i64 0)),(14,(AV.i .i64 n106))] h104)
else
((bif (decide ((n80:Int)=18)) then
(C Y14.id [x0,(AV.i .i64 7)] h79 fun v110 h111=>
asI .i64 v110 fun n112=>
aM (IntKind.wrap .i64 (11+n112)) fun n113=>
J 8 [(0,x0),(4,(AV.i .i64 x4)),(5,(AV.i .i64 x5)),(10,x10),(12,x12),(13,(AV.i .i64 0)),(14,(AV.i .i64 n113))] h111)
else
(J 8 [(0,x0),(4,(AV.i .i64 x4)),(5,(AV.i .i64 x5)),(10,x10),(12,x12),(13,(AV.i .i64 n80)),(14,(AV.i .i64 1))] h79)))))))
else
(J 10 [(0,x0),(4,(AV.i .i64 x4)),(12,x12)] h))
theorem Y0.i6 {Q x0 x4 x5 x10 x12 x72 h} (H:Y0.t6 Q x0 x4 x5 x10 x12 x72 h (Y0.J Q)):Y0.p6 Q x0 x4 x5 x10 x12 x72 h:=gR Y0.J Tryz.f107 Y0.dist [1,1,1,1,1,1,1,1,1,1,1,1,0,0,0,0,1] H
def Y0.t8 (Q:AV→aA→Prop) (x0:AV) (x4 x5:Int) (x10 x12:AV) (x13 x14:Int) (h:aA) (J:JT):Prop:=
C Y32.id [x12,(AV.i .i64 x14),(AV.i .i64 x13)] h fun v125 h126=>
J 6 [(0,x0),(4,(AV.i .i64 x4)),(5,(AV.i .i64 x5)),(10,x10),(12,v125)] h126
theorem Y0.i8 {Q x0 x4 x5 x10 x12 x13 x14 h} (H:Y0.t8 Q x0 x4 x5 x10 x12 x13 x14 h (Y0.J Q)):Y0.p8 Q x0 x4 x5 x10 x12 x13 x14 h:=gR Y0.J Tryz.f107 Y0.dist [1,1,1,1,1,1,1,1,1,1,1,1,0,0,0,1,0,1,1,1,1] H
def Y0.t7 (Q:AV→aA→Prop) (x0:AV) (x4 x5:Int) (x10 x12:AV) (x13 x14:Int) (h:aA) (J:JT):Prop:=
bR x12 fun n117=>
aM (IntKind.wrap .i64 (n117+x14)) fun n118=>
aM (IntKind.wrap .i64 (x4+x5)) fun n119=>
(bif (decide ((n119:Int)<n118)) then
(C Y50.id [x0] h fun v121 h122=>
J 9 [(0,x0),(4,(AV.i .i64 x4)),(5,(AV.i .i64 x5)),(10,x10),(12,x12),(13,(AV.i .i64 x13)),(14,(AV.i .i64 x14))] h122)
else
(J 9 [(0,x0),(4,(AV.i .i64 x4)),(5,(AV.i .i64 x5)),(10,x10),(12,x12),(13,(AV.i .i64 x13)),(14,(AV.i .i64 x14))] h))
theorem Y0.i7 {Q x0 x4 x5 x10 x12 x13 x14 h} (H:Y0.t7 Q x0 x4 x5 x10 x12 x13 x14 h (Y0.J Q)):Y0.p7 Q x0 x4 x5 x10 x12 x13 x14 h:=gR Y0.J Tryz.f107 Y0.dist [1,1,1,1,1,1,1,1,1,1,1,1,0,0,0,1,0,1,1,1] H
def Y0.t5 (Q:AV→aA→Prop) (x0:AV) (x4 x5:Int) (x10 x12:AV) (h:aA) (J:JT):Prop:=
bR x12 fun n69=>
aM (IntKind.wrap .i64 (x4+x5)) fun n70=>
(bif (decide ((n69:Int)<n70)) then
(C Y24.id [x0] h fun v71 h72=>
asB v71 fun c73=>
J 7 [(0,x0),(4,(AV.i .i64 x4)),(5,(AV.i .i64 x5)),(10,x10),(12,x12),(72,(AV.b (!c73)))] h72)
else
(J 7 [(0,x0),(4,(AV.i .i64 x4)),(5,(AV.i .i64 x5)),(10,x10),(12,x12),(72,(AV.b false))] h))
theorem Y0.i5 {Q x0 x4 x5 x10 x12 h} (H:Y0.t5 Q x0 x4 x5 x10 x12 h (Y0.J Q)):Y0.p5 Q x0 x4 x5 x10 x12 h:=gH Y0.J Tryz.f107 Y0.dist [1,1,1,1,1,1,1,1,1,1,1,1,0,0] H
def Y0.t10 (Q:AV→aA→Prop) (x0:AV) (x4:Int) (x12:AV) (x129:Bool) (h:aA) (J:JT):Prop:=
(bif x129 then
(C Y50.id [x0] h fun v144 h145=>
J 12 [(4,(AV.i .i64 x4)),(12,x12)] h145)
else
(J 12 [(4,(AV.i .i64 x4)),(12,x12)] h))
theorem Y0.i10 {Q x0 x4 x12 x129 h} (H:Y0.t10 Q x0 x4 x12 x129 h (Y0.J Q)):Y0.p10 Q x0 x4 x12 x129 h:=gR Y0.J Tryz.f107 Y0.dist [1,1,1,1,1,1,1,1,1,1,1,1,1,1,0,1] H
def Y0.t11 (Q:AV→aA→Prop) (x4:Int) (x12:AV) (h:aA) (J:JT):Prop:=
bW 1 x12 none (some (AV.i .i64 x4)) none h fun v148=>
bW 1 x12 (some (AV.i .i64 x4)) none none h fun v149=>
Q (AV.tu [v148,v149]) h
theorem Y0.i11 {Q x4 x12 h} (H:Y0.t11 Q x4 x12 h (Y0.J Q)):Y0.p11 Q x4 x12 h:=gR Y0.J Tryz.f107 Y0.dist [1,1,1,1,1,1,1,1,1,1,1,1,1,1,1] H
def Y0.t9 (Q:AV→aA→Prop) (x0:AV) (x4:Int) (x12:AV) (h:aA) (J:JT):Prop:=
C Y24.id [x0] h fun v128 h129=>
asB v128 fun c130=>
(bif c130 then
(Q (AV.tu [(AV.sl none 0 none),(AV.sl none 0 none)]) h129)
else
(bW 1 x12 none (some (AV.i .i64 x4)) none h129 fun v134=>
C Y7.id [v134] h129 fun v135 h136=>
asI .i64 v135 fun n137=>
(bif (!decide ((n137:Int)=0)) then
(J 11 [(0,x0),(4,(AV.i .i64 x4)),(12,x12),(129,(AV.b true))] h136)
else
(bW 1 x12 (some (AV.i .i64 x4)) none none h136 fun v139=>
C Y7.id [v139] h136 fun v140 h141=>
asI .i64 v140 fun n142=>
J 11 [(0,x0),(4,(AV.i .i64 x4)),(12,x12),(129,(AV.b (!decide ((n142:Int)=0))))] h141))))
theorem Y0.i9 {Q x0 x4 x12 h} (H:Y0.t9 Q x0 x4 x12 h (Y0.J Q)):Y0.p9 Q x0 x4 x12 h:=gR Y0.J Tryz.f107 Y0.dist [1,1,1,1,1,1,1,1,1,1,1,1,1] H
def Y0.t4 (Q:AV→aA→Prop) (x0:AV) (x4 x5:Int) (x8:AV) (h:aA) (J:JT):Prop:=
C Y55.id [x8] h fun v62 h63=>
aO 0 v62 fun v64=>
aO 1 v62 fun v65=>
asI .i64 v65 fun n66=>
J 6 [(0,x0),(4,(AV.i .i64 x4)),(5,(AV.i .i64 x5)),(10,v64),(12,(AV.sl none 0 none))] h63
theorem Y0.i4 {Q x0 x4 x5 x8 h} (H:Y0.t4 Q x0 x4 x5 x8 h (Y0.J Q)):Y0.p4 Q x0 x4 x5 x8 h:=gR Y0.J Tryz.f107 Y0.dist [1,1,1,1,1,1,1,1,1,1] H
def Y0.t1 (Q:AV→aA→Prop) (x0:AV) (x4 x5:Int) (h:aA) (J:JT):Prop:=
C Y14.id [x0,(AV.i .i64 4)] h fun v21 h22=>
asI .i64 v21 fun n23=>
aM (IntKind.wrap .i64 (n23+4)) fun n24=>
bP 1 19 [(AV.i .i64 0),(AV.i .i64 0),(AV.i .i64 0),(AV.i .i64 0),(AV.i .i64 0),(AV.i .i64 0),(AV.i .i64 0),(AV.i .i64 0),(AV.i .i64 0),(AV.i .i64 0),(AV.i .i64 0),(AV.i .i64 0),(AV.i .i64 0),(AV.i .i64 0),(AV.i .i64 0),(AV.i .i64 0),(AV.i .i64 0),(AV.i .i64 0),(AV.i .i64 0)] [(0,1,(AV.i .i64 16)),(1,1,(AV.i .i64 17)),(2,1,(AV.i .i64 18)),(3,1,(AV.i .i64 0)),(4,1,(AV.i .i64 8)),(5,1,(AV.i .i64 7)),(6,1,(AV.i .i64 9)),(7,1,(AV.i .i64 6)),(8,1,(AV.i .i64 10)),(9,1,(AV.i .i64 5)),(10,1,(AV.i .i64 11)),(11,1,(AV.i .i64 4)),(12,1,(AV.i .i64 12)),(13,1,(AV.i .i64 3)),(14,1,(AV.i .i64 13)),(15,1,(AV.i .i64 2)),(16,1,(AV.i .i64 14)),(17,1,(AV.i .i64 1)),(18,1,(AV.i .i64 15))] h22 fun v26 h27=>
C Y32.id [(AV.sl none 0 none),(AV.i .i64 19),(AV.i .i64 0)] h27 fun v29 h30=>
J 3 [(0,x0),(4,(AV.i .i64 x4)),(5,(AV.i .i64 x5)),(6,(AV.i .i64 n24)),(7,v26),(8,v29),(9,(AV.i .i64 0))] h30
theorem Y0.i1 {Q x0 x4 x5 h} (H:Y0.t1 Q x0 x4 x5 h (Y0.J Q)):Y0.p1 Q x0 x4 x5 h:=gR Y0.J Tryz.f107 Y0.dist [1,1,1,1,1] H
def Y0.t0 (Q:AV→aA→Prop) (x0:AV) (x4:Int) (h:aA) (J:JT):Prop:=
C Y14.id [x0,(AV.i .i64 5)] h fun v11 h12=>
asI .i64 v11 fun n13=>
aM (IntKind.wrap .i64 (n13+1)) fun n14=>
(bif (decide ((30:Int)<n14)) then
(C Y50.id [x0] h12 fun v17 h18=>
J 2 [(0,x0),(4,(AV.i .i64 x4)),(5,(AV.i .i64 n14))] h18)
else
(J 2 [(0,x0),(4,(AV.i .i64 x4)),(5,(AV.i .i64 n14))] h12))
theorem Y0.i0 {Q x0 x4 h} (H:Y0.t0 Q x0 x4 h (Y0.J Q)):Y0.p0 Q x0 x4 h:=gR Y0.J Tryz.f107 Y0.dist [1,1,1] H
def Y0.t (Q:AV→aA→Prop) (x0:AV) (h:aA) (J:JT):Prop:=
C Y14.id [x0,(AV.i .i64 5)] h fun v1 h2=>
asI .i64 v1 fun n3=>
aM (IntKind.wrap .i64 (n3+257)) fun n4=>
(bif (decide ((286:Int)<n4)) then
(C Y50.id [x0] h2 fun v7 h8=>
J 1 [(0,x0),(4,(AV.i .i64 n4))] h8)
else
(J 1 [(0,x0),(4,(AV.i .i64 n4))] h2))
theorem Y0.call {K x0 h} (H:Y0.t (aH h K) x0 h (Y0.J (aH h K))):C Y0.id [x0] h K:=
 gC Y0.J Tryz.func107 Y0.dist H
noncomputable def Y50.body:Code:=(Tryz.f108.body).getD .skip
def Y50.ann:Ann:=(sl [0,4] bl)
theorem Y50.dist:aL (places Y50.ann Y50.body)=true:=by kernel_rfl
noncomputable def Y50.J (Q:AV→aA→Prop):JT:=bJ prog C Tryz.f108 Y50.ann Y50.body Q
def Y50.t (Q:AV→aA→Prop) (x0:AV) (h:aA) (J:JT):Prop:=
C Y24.id [x0] h fun v0 h1=>
asB v0 fun c2=>
(bif (!c2) then
(aK x0 fun v4=>
aB 6 v4 fun v5=>
aP 1 v5 (AV.i .i64 2) h1 fun h6=>
Q (AV.tu []) h6)
else
(Q (AV.tu []) h1))
theorem Y50.call {K x0 h} (H:Y50.t (aH h K) x0 h (Y50.J (aH h K))):C Y50.id [x0] h K:=
 gC Y50.J Tryz.func108 Y50.dist H
noncomputable def Y13.body:Code:=(Tryz.f109.body).getD .skip
def Y13.ann:Ann:=(sl [0] (sq [] (sl [0,3] (.one (.loop 1 [0,3] (sq [0,3] (.seq 2 [0,3,11] lf bl) (sq [0,3] (.one (.seq 3 [0,3,33] (.ord (nn 0 20 .done)) (.br (sl [2] lf) lf))) lf))))) (sl [2] lf)))
theorem Y13.dist:aL (places Y13.ann Y13.body)=true:=by kernel_rfl
noncomputable def Y13.J (Q:AV→aA→Prop):JT:=bJ prog C Tryz.f109 Y13.ann Y13.body Q
def Y13.p1 (Q:AV→aA→Prop) (x0:List UInt8) (x3:Int) (x11:Bool) (h:aA):Prop:=Y13.J Q 2 [(0,(AV.s x0)),(3,(AV.i .i64 x3)),(11,(AV.b x11))] h
def Y13.p2 (Q:AV→aA→Prop) (x0:List UInt8) (x3:Int) (x33:Bool) (h:aA):Prop:=Y13.J Q 3 [(0,(AV.s x0)),(3,(AV.i .i64 x3)),(33,(AV.b x33))] h
def Y13.p0 (Q:AV→aA→Prop) (x0:List UInt8) (x3:Int) (h:aA):Prop:=Y13.J Q 1 [(0,(AV.s x0)),(3,(AV.i .i64 x3))] h
def Y13.t1 (Q:AV→aA→Prop) (x0:List UInt8) (x3:Int) (x11:Bool) (h:aA) (J:JT):Prop:=
(bif x11 then
((bif (decide ((x3:Int)<3)) then
(cK (AV.s x0) (AV.i .i64 x3) fun n6=>
cK (AV.s [31,139,8]) (AV.i .i64 x3) fun n7=>
(bif (!decide ((n6:Int)=n7)) then
(J 3 [(0,(AV.s x0)),(3,(AV.i .i64 x3)),(33,(AV.b true))] h)
else
((bif (decide ((x3:Int)=3)) then
(cK (AV.s x0) (AV.i .i64 x3) fun n9=>
J 3 [(0,(AV.s x0)),(3,(AV.i .i64 x3)),(33,(AV.b (decide ((32:Int)≤n9))))] h)
else
(J 3 [(0,(AV.s x0)),(3,(AV.i .i64 x3)),(33,(AV.b false))] h)))))
else
((bif (decide ((x3:Int)=3)) then
(cK (AV.s x0) (AV.i .i64 x3) fun n12=>
J 3 [(0,(AV.s x0)),(3,(AV.i .i64 x3)),(33,(AV.b (decide ((32:Int)≤n12))))] h)
else
(J 3 [(0,(AV.s x0)),(3,(AV.i .i64 x3)),(33,(AV.b false))] h)))))
else
(Q (AV.b true) h))
theorem Y13.i1 {Q x0 x3 x11 h} (H:Y13.t1 Q x0 x3 x11 h (Y13.J Q)):Y13.p1 Q x0 x3 x11 h:=gR Y13.J Tryz.f109 Y13.dist [1,0,1,0,0,0,1] H
def Y13.t2 (Q:AV→aA→Prop) (x0:List UInt8) (x3:Int) (x33:Bool) (h:aA) (J:JT):Prop:=
(bif x33 then
(Q (AV.b false) h)
else
(aM (IntKind.wrap .i64 (x3+1)) fun n17=>
J 1 [(0,(AV.s x0)),(3,(AV.i .i64 n17))] h))
theorem Y13.i2 {Q x0 x3 x33 h} (H:Y13.t2 Q x0 x3 x33 h (Y13.J Q)):Y13.p2 Q x0 x3 x33 h:=gR Y13.J Tryz.f109 Y13.dist [1,0,1,0,0,1,0,0,1] H
def Y13.t0 (Q:AV→aA→Prop) (x0:List UInt8) (x3:Int) (h:aA) (J:JT):Prop:=
(bif (decide ((x3:Int)<(x0.length:Int))) then
(J 2 [(0,(AV.s x0)),(3,(AV.i .i64 x3)),(11,(AV.b (decide ((x3:Int)<4))))] h)
else
(J 2 [(0,(AV.s x0)),(3,(AV.i .i64 x3)),(11,(AV.b false))] h))
theorem Y13.i0 {Q x0 x3 h} (H:Y13.t0 Q x0 x3 h (Y13.J Q)):Y13.p0 Q x0 x3 h:=gH Y13.J Tryz.f109 Y13.dist [1,0,1,0] H
def Y13.t (Q:AV→aA→Prop) (x0:List UInt8) (h:aA) (J:JT):Prop:=
J 1 [(0,(AV.s x0)),(3,(AV.i .i64 0))] h
theorem Y13.call {K x0 h} (H:Y13.t (aH h K) x0 h (Y13.J (aH h K))):C Y13.id [(AV.s x0)] h K:=
 gC Y13.J Tryz.func109 Y13.dist H
noncomputable def Y38.body:Code:=(Tryz.f110.body).getD .skip
def Y38.ann:Ann:=(sl [0,1] (sq [0,1] (sl [0,1,7] (.one (.loop 1 [0,1,7] (sq [0,1,7] (sl [0,1,7,12] bl) (sq [0,1,7] (.one (sl [0,1,7,18] (.br (sl [4,5,6] lf) lf))) lf))))) (sl [4,5,6] lf)))
theorem Y38.dist:aL (places Y38.ann Y38.body)=true:=by kernel_rfl
noncomputable def Y38.J (Q:AV→aA→Prop):JT:=bJ prog C Tryz.f110 Y38.ann Y38.body Q
def Y38.p0 (Q:AV→aA→Prop) (x0:List UInt8) (x1 x7:Int) (h:aA):Prop:=Y38.J Q 1 [(0,(AV.s x0)),(1,(AV.i .i64 x1)),(7,(AV.i .i64 x7))] h
def Y38.t0 (Q:AV→aA→Prop) (x0:List UInt8) (x1 x7:Int) (h:aA) (J:JT):Prop:=
(bif (decide ((x7:Int)<(x0.length:Int))) then
(cK (AV.s x0) (AV.i .i64 x7) fun n5=>
(bif (decide ((n5:Int)=0)) then
(bV (AV.s x0) (some (AV.i .i64 x1)) (some (AV.i .i64 x7)) fun l7=>
aM (IntKind.wrap .i64 (x7+1)) fun n8=>
Q (AV.tu [(AV.s l7),(AV.i .i64 n8),(AV.b true)]) h)
else
(aM (IntKind.wrap .i64 (x7+1)) fun n11=>
J 1 [(0,(AV.s x0)),(1,(AV.i .i64 x1)),(7,(AV.i .i64 n11))] h)))
else
(aM (mmI false x1 (x0.length:Int)) fun n13=>
bV (AV.s x0) (some (AV.i .i64 n13)) none fun l14=>
Q (AV.tu [(AV.s l14),(AV.i .i64 0),(AV.b false)]) h))
theorem Y38.i0 {Q x0 x1 x7 h} (H:Y38.t0 Q x0 x1 x7 h (Y38.J Q)):Y38.p0 Q x0 x1 x7 h:=gH Y38.J Tryz.f110 Y38.dist [1,0,1,0] H
def Y38.t (Q:AV→aA→Prop) (x0:List UInt8) (x1:Int) (h:aA) (J:JT):Prop:=
J 1 [(0,(AV.s x0)),(1,(AV.i .i64 x1)),(7,(AV.i .i64 x1))] h
theorem Y38.call {K x0 x1 h} (H:Y38.t (aH h K) x0 x1 h (Y38.J (aH h K))):C Y38.id [(AV.s x0),(AV.i .i64 x1)] h K:=
 gC Y38.J Tryz.func110 Y38.dist H
noncomputable def Y78.body:Code:=(Tryz.f111.body).getD .skip
def Y78.ann:Ann:=(sl [0] (sl [2] lf))
theorem Y78.dist:aL (places Y78.ann Y78.body)=true:=by kernel_rfl
noncomputable def Y78.J (Q:AV→aA→Prop):JT:=bJ prog C Tryz.f111 Y78.ann Y78.body Q
def Y78.t (Q:AV→aA→Prop) (x0:List UInt8) (h:aA) (J:JT):Prop:=
C Y16.id [(AV.i .u32 0),(AV.s x0)] h fun v1 h2=>
asI .u32 v1 fun n3=>
Q (AV.i .u32 n3) h2
theorem Y78.call {K x0 h} (H:Y78.t (aH h K) x0 h (Y78.J (aH h K))):C Y78.id [(AV.s x0)] h K:=
 gC Y78.J Tryz.func111 Y78.dist H
noncomputable def Y35.body:Code:=(Tryz.f112.body).getD .skip
def Y35.ann:Ann:=(sl [0,1,2] (sq [0,1,2] (.seq 1 [0,1,2,17] lf (.br (sl [6,7] lf) lf)) (sq [0,1,2] (.seq 2 [0,1,2,29] lf (.br (sl [6,7] lf) lf)) (sl [6,7] lf))))
theorem Y35.dist:aL (places Y35.ann Y35.body)=true:=by kernel_rfl
noncomputable def Y35.J (Q:AV→aA→Prop):JT:=bJ prog C Tryz.f112 Y35.ann Y35.body Q
def Y35.p0 (Q:AV→aA→Prop) (x0:List UInt8) (x1 x2:Int) (x17:Bool) (h:aA):Prop:=Y35.J Q 1 [(0,(AV.s x0)),(1,(AV.i .i64 x1)),(2,(AV.i .i64 x2)),(17,(AV.b x17))] h
def Y35.p1 (Q:AV→aA→Prop) (x0:List UInt8) (x1 x2:Int) (x29:Bool) (h:aA):Prop:=Y35.J Q 2 [(0,(AV.s x0)),(1,(AV.i .i64 x1)),(2,(AV.i .i64 x2)),(29,(AV.b x29))] h
def Y35.t0 (Q:AV→aA→Prop) (x0:List UInt8) (x1 x2:Int) (x17:Bool) (h:aA) (J:JT):Prop:=
(bif x17 then
(Q (AV.tu [(AV.i .i64 0),(AV.i .i64 4)]) h)
else
((bif (decide (((x0.length:Int):Int)<x1)) then
(J 2 [(0,(AV.s x0)),(1,(AV.i .i64 x1)),(2,(AV.i .i64 x2)),(29,(AV.b true))] h)
else
(aM (IntKind.wrap .i64 ((x0.length:Int) - x1)) fun n7=>
J 2 [(0,(AV.s x0)),(1,(AV.i .i64 x1)),(2,(AV.i .i64 x2)),(29,(AV.b (decide ((n7:Int)<x2))))] h))))
theorem Y35.i0 {Q x0 x1 x2 x17 h} (H:Y35.t0 Q x0 x1 x2 x17 h (Y35.J Q)):Y35.p0 Q x0 x1 x2 x17 h:=gR Y35.J Tryz.f112 Y35.dist [1,0,1] H
def Y35.t1 (Q:AV→aA→Prop) (x0:List UInt8) (x1 x2:Int) (x29:Bool) (h:aA) (J:JT):Prop:=
(bif x29 then
(Q (AV.tu [(AV.i .i64 0),(AV.i .i64 1)]) h)
else
(aM (IntKind.wrap .i64 (x1+x2)) fun n11=>
bV (AV.s x0) (some (AV.i .i64 x1)) (some (AV.i .i64 n11)) fun l12=>
C Y41.id [(AV.s l12)] h fun v13 h14=>
asI .i64 v13 fun n15=>
Q (AV.tu [(AV.i .i64 n15),(AV.i .i64 0)]) h14))
theorem Y35.i1 {Q x0 x1 x2 x29 h} (H:Y35.t1 Q x0 x1 x2 x29 h (Y35.J Q)):Y35.p1 Q x0 x1 x2 x29 h:=gR Y35.J Tryz.f112 Y35.dist [1,1,0,1] H
def Y35.t (Q:AV→aA→Prop) (x0:List UInt8) (x1 x2:Int) (h:aA) (J:JT):Prop:=
(bif (decide ((x2:Int)<1)) then
(J 1 [(0,(AV.s x0)),(1,(AV.i .i64 x1)),(2,(AV.i .i64 x2)),(17,(AV.b true))] h)
else
((bif (decide ((7:Int)<x2)) then
(J 1 [(0,(AV.s x0)),(1,(AV.i .i64 x1)),(2,(AV.i .i64 x2)),(17,(AV.b true))] h)
else
(J 1 [(0,(AV.s x0)),(1,(AV.i .i64 x1)),(2,(AV.i .i64 x2)),(17,(AV.b (decide ((x1:Int)<0))))] h))))
theorem Y35.call {K x0 x1 x2 h} (H:Y35.t (aH h K) x0 x1 x2 h (Y35.J (aH h K))):C Y35.id [(AV.s x0),(AV.i .i64 x1),(AV.i .i64 x2)] h K:=
 gC Y35.J Tryz.func112 Y35.dist H
noncomputable def Y41.body:Code:=(Tryz.f113.body).getD .skip
def Y41.ann:Ann:=(sl [0] (sl [0,3] (sq [3] (sl [0,3,4] (.one (.loop 1 [0,3,4] (sq [0,3,4] (sl [0,3,4,8] bl) (sq [0,3,4] (.one lf) lf))))) (sl [2] lf))))
theorem Y41.dist:aL (places Y41.ann Y41.body)=true:=by kernel_rfl
noncomputable def Y41.J (Q:AV→aA→Prop):JT:=bJ prog C Tryz.f113 Y41.ann Y41.body Q
def Y41.p0 (Q:AV→aA→Prop) (x0:List UInt8) (x3 x4:Int) (h:aA):Prop:=Y41.J Q 1 [(0,(AV.s x0)),(3,(AV.i .i64 x3)),(4,(AV.i .i64 x4))] h
def Y41.t0 (Q:AV→aA→Prop) (x0:List UInt8) (x3 x4:Int) (h:aA) (J:JT):Prop:=
(bif (decide ((x4:Int)<(x0.length:Int))) then
(aM (IntKind.wrap .i64 (x3 * 256)) fun n6=>
cK (AV.s x0) (AV.i .i64 x4) fun n7=>
aM (IntKind.wrap .i64 (n6+(IntKind.wrap .i64 n7))) fun n8=>
aM (IntKind.wrap .i64 (x4+1)) fun n10=>
J 1 [(0,(AV.s x0)),(3,(AV.i .i64 n8)),(4,(AV.i .i64 n10))] h)
else
(Q (AV.i .i64 x3) h))
theorem Y41.i0 {Q x0 x3 x4 h} (H:Y41.t0 Q x0 x3 x4 h (Y41.J Q)):Y41.p0 Q x0 x3 x4 h:=gH Y41.J Tryz.f113 Y41.dist [1,1,0,1,0] H
def Y41.t (Q:AV→aA→Prop) (x0:List UInt8) (h:aA) (J:JT):Prop:=
J 1 [(0,(AV.s x0)),(3,(AV.i .i64 0)),(4,(AV.i .i64 0))] h
theorem Y41.call {K x0 h} (H:Y41.t (aH h K) x0 h (Y41.J (aH h K))):C Y41.id [(AV.s x0)] h K:=
 gC Y41.J Tryz.func113 Y41.dist H
noncomputable def Y45.body:Code:=(Tryz.f114.body).getD .skip
def Y45.ann:Ann:=(sl [0] (sl [0,3] (sq [3] (sl [0,3,4] (.one (.loop 1 [0,3,4] (sq [0,3,4] (sl [0,3,4,9] bl) (sq [0,3,4] (.one lf) lf))))) (sl [2] lf))))
theorem Y45.dist:aL (places Y45.ann Y45.body)=true:=by kernel_rfl
noncomputable def Y45.J (Q:AV→aA→Prop):JT:=bJ prog C Tryz.f114 Y45.ann Y45.body Q
def Y45.p0 (Q:AV→aA→Prop) (x0:List UInt8) (x3:AV) (x4:Int) (h:aA):Prop:=Y45.J Q 1 [(0,(AV.s x0)),(3,x3),(4,(AV.i .i64 x4))] h
def Y45.t0 (Q:AV→aA→Prop) (x0:List UInt8) (x3:AV) (x4:Int) (h:aA) (J:JT):Prop:=
(bif (decide ((0:Int)≤x4)) then
(cK (AV.s x0) (AV.i .i64 x4) fun n7=>
bP 1 1 [(AV.i .u8 0)] [(0,1,(AV.i .u8 n7))] h fun v8 h9=>
bU (some 5) 1 1 x3 v8 h9 fun v10 h11=>
aM (IntKind.wrap .i64 (x4 - 1)) fun n13=>
J 1 [(0,(AV.s x0)),(3,v10),(4,(AV.i .i64 n13))] h11)
else
(cJ x3 h fun l15=>
Q (AV.s l15) h))
theorem Y45.i0 {Q x0 x3 x4 h} (H:Y45.t0 Q x0 x3 x4 h (Y45.J Q)):Y45.p0 Q x0 x3 x4 h:=gH Y45.J Tryz.f114 Y45.dist [1,1,0,1,0] H
def Y45.t (Q:AV→aA→Prop) (x0:List UInt8) (h:aA) (J:JT):Prop:=
aM (IntKind.wrap .i64 ((x0.length:Int) - 1)) fun n2=>
J 1 [(0,(AV.s x0)),(3,(AV.sl none 0 none)),(4,(AV.i .i64 n2))] h
theorem Y45.call {K x0 h} (H:Y45.t (aH h K) x0 h (Y45.J (aH h K))):C Y45.id [(AV.s x0)] h K:=
 gC Y45.J Tryz.func114 Y45.dist H
noncomputable def Y71.body:Code:=(Tryz.f122.body).getD .skip
def Y71.ann:Ann:=(sl [0,1] (sq [0,1] (.br (sl [6,7] (sl [4,5] lf)) lf) (sl [8,9] (sl [4,5] lf))))
theorem Y71.dist:aL (places Y71.ann Y71.body)=true:=by kernel_rfl
noncomputable def Y71.J (Q:AV→aA→Prop):JT:=bJ prog C Tryz.f122 Y71.ann Y71.body Q
def Y71.t (Q:AV→aA→Prop) (x0 x1:Int) (h:aA) (J:JT):Prop:=
C Y102.id [(AV.i .u64 x0),(AV.i .u64 x1)] h fun v2 h3=>
aO 0 v2 fun v4=>
asI .u64 v4 fun n5=>
aO 1 v2 fun v6=>
asI .u64 v6 fun n7=>
Q (AV.tu [(AV.i .u64 n5),(AV.i .u64 n7)]) h3
theorem Y71.call {K x0 x1 h} (H:Y71.t (aH h K) x0 x1 h (Y71.J (aH h K))):C Y71.id [(AV.i .u64 x0),(AV.i .u64 x1)] h K:=
 gC Y71.J Tryz.func122 Y71.dist H
end Go.Proofs.YtfoekpcljhbijaaGreatDoor
