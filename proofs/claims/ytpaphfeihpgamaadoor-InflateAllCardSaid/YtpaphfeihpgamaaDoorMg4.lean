/- Lemmas (several texts in one). -/
import Derived.Below
import Derived.ChangeArms
import Derived.ChangeSlices
import Derived.DataElems
import Derived.LaidMore
import Derived.Lib.Bytealg
import Derived.Test.YtpaphfeihpgamaaDoorMg3
set_option linter.unusedVariables false
set_option linter.unusedSectionVars false
set_option maxRecDepth 100000
namespace Go.Proofs.YtpaphfeihpgamaaDoor
open Go.GAM
variable [XR]
noncomputable def Y15.body:Code:=(Tryd.f80.body).getD .skip
def Y15.ann:Ann:=(sl [0,2] (sl [0,2,3] (sq [2,3] (sl [2,3,7,8,9] (.one (.loop 1 [2,3,7,8,9] (sl [2,3,7,8,9,10] (sq [2,3,7,8,9] bl (.seq 2 [2,3,7,8,9] (.one (sl [2,3,5,7,8,9] (sl [2,3,5,7,8,9,14] bl))) lf)))))) (sq [2,3] (sl [2,3,6] (.one (.loop 3 [2,3,6] (sq [2,3,6] (sl [2,3,6,24] bl) (sq [2,3,6] (.one (.ord (nn 0 15 (.eff 15 .done .stop)))) lf))))) (sl [2] lf)))))
theorem Y15.dist:aI (places Y15.ann Y15.body)=true:=by kernel_rfl
noncomputable def Y15.J (Q:AV→aA→Prop):JT:=bJ prog C Tryd.f80 Y15.ann Y15.body Q
def Y15.p1 (Q:AV→aA→Prop) (x2 x3 x7:AV) (x8 x9:Int) (h:aA):Prop:=Y15.J Q 2 [(2,x2),(3,x3),(7,x7),(8,(AV.i .i64 x8)),(9,(AV.i .i64 x9))] h
def Y15.p0 (Q:AV→aA→Prop) (x2 x3 x7:AV) (x8 x9:Int) (h:aA):Prop:=Y15.J Q 1 [(2,x2),(3,x3),(7,x7),(8,(AV.i .i64 x8)),(9,(AV.i .i64 x9))] h
def Y15.p2 (Q:AV→aA→Prop) (x2 x3:AV) (x6:Int) (h:aA):Prop:=Y15.J Q 3 [(2,x2),(3,x3),(6,(AV.i .i64 x6))] h
def Y15.t1 (Q:AV→aA→Prop) (x2 x3 x7:AV) (x8 x9:Int) (h:aA) (J:JT):Prop:=
aJ (IntKind.wrap .i64 (x9+1)) fun n26=>
J 1 [(2,x2),(3,x3),(7,x7),(8,(AV.i .i64 x8)),(9,(AV.i .i64 n26))] h
theorem Y15.i1 {Q x2 x3 x7 x8 x9 h} (H:Y15.t1 Q x2 x3 x7 x8 x9 h (Y15.J Q)):Y15.p1 Q x2 x3 x7 x8 x9 h:=gR Y15.J Tryd.f80 Y15.dist [1,1,0,1,0,0,1,1,1] H
def Y15.t0 (Q:AV→aA→Prop) (x2 x3 x7:AV) (x8 x9:Int) (h:aA) (J:JT):Prop:=
(bif (decide ((x9:Int)<x8)) then
(aP 1 x7 (AV.i .i64 x9) h fun v11=>
aD v11 h fun v12=>
asI .i64 v12 fun n13=>
(bif (decide ((0:Int)<n13)) then
(aC 0 x3 fun v16=>
bL 16 1 v16 (AV.i .i64 n13) fun v17=>
aD v17 h fun v18=>
asI .i64 v18 fun n19=>
aJ (IntKind.wrap .i64 (n19+1)) fun n20=>
aC 0 x3 fun v21=>
bL 16 1 v21 (AV.i .i64 n13) fun v22=>
aT 1 v22 (AV.i .i64 n20) h fun h23=>
J 2 [(2,x2),(3,x3),(7,x7),(8,(AV.i .i64 x8)),(9,(AV.i .i64 x9))] h23)
else
(J 2 [(2,x2),(3,x3),(7,x7),(8,(AV.i .i64 x8)),(9,(AV.i .i64 x9))] h)))
else
(J 3 [(2,x2),(3,x3),(6,(AV.i .i64 1))] h))
theorem Y15.i0 {Q x2 x3 x7 x8 x9 h} (H:Y15.t0 Q x2 x3 x7 x8 x9 h (Y15.J Q)):Y15.p0 Q x2 x3 x7 x8 x9 h:=gH Y15.J Tryd.f80 Y15.dist [1,1,0,1,0] H
def Y15.t2 (Q:AV→aA→Prop) (x2 x3:AV) (x6:Int) (h:aA) (J:JT):Prop:=
(bif (decide ((x6:Int)≤15)) then
(aJ (IntKind.wrap .i64 (x6 - 1)) fun n32=>
aC 16 x3 fun v33=>
bL 16 1 v33 (AV.i .i64 n32) fun v34=>
aD v34 h fun v35=>
asI .i64 v35 fun n36=>
aJ (IntKind.wrap .i64 (x6 - 1)) fun n37=>
aC 0 x3 fun v38=>
bL 16 1 v38 (AV.i .i64 n37) fun v39=>
aD v39 h fun v40=>
asI .i64 v40 fun n41=>
aJ (IntKind.wrap .i64 (n36+n41)) fun n42=>
jO .i64 n42 1 fun n43=>
aC 16 x3 fun v44=>
bL 16 1 v44 (AV.i .i64 x6) fun v45=>
aT 1 v45 (AV.i .i64 n43) h fun h46=>
aJ (IntKind.wrap .i64 (x6+1)) fun n48=>
J 3 [(2,x2),(3,x3),(6,(AV.i .i64 n48))] h46)
else
(dG 32 x3 h fun v50=>
aT 32 x2 v50 h fun h51=>
dG 32 x2 h51 fun v53=>
Q v53 h51))
theorem Y15.i2 {Q x2 x3 x6 h} (H:Y15.t2 Q x2 x3 x6 h (Y15.J Q)):Y15.p2 Q x2 x3 x6 h:=gH Y15.J Tryd.f80 Y15.dist [1,1,1,0,1,0] H
def Y15.t (Q:AV→aA→Prop) (x0:AV) (h:aA) (J:JT):Prop:=
dD (some 120) [(AV.i .i64 0),(AV.i .i64 0),(AV.i .i64 0),(AV.i .i64 0),(AV.i .i64 0),(AV.i .i64 0),(AV.i .i64 0),(AV.i .i64 0),(AV.i .i64 0),(AV.i .i64 0),(AV.i .i64 0),(AV.i .i64 0),(AV.i .i64 0),(AV.i .i64 0),(AV.i .i64 0),(AV.i .i64 0),(AV.i .i64 0),(AV.i .i64 0),(AV.i .i64 0),(AV.i .i64 0),(AV.i .i64 0),(AV.i .i64 0),(AV.i .i64 0),(AV.i .i64 0),(AV.i .i64 0),(AV.i .i64 0),(AV.i .i64 0),(AV.i .i64 0),(AV.i .i64 0),(AV.i .i64 0),(AV.i .i64 0),(AV.i .i64 0)] h fun v0 h1=>
dD (some 120) [(AV.i .i64 0),(AV.i .i64 0),(AV.i .i64 0),(AV.i .i64 0),(AV.i .i64 0),(AV.i .i64 0),(AV.i .i64 0),(AV.i .i64 0),(AV.i .i64 0),(AV.i .i64 0),(AV.i .i64 0),(AV.i .i64 0),(AV.i .i64 0),(AV.i .i64 0),(AV.i .i64 0),(AV.i .i64 0),(AV.i .i64 0),(AV.i .i64 0),(AV.i .i64 0),(AV.i .i64 0),(AV.i .i64 0),(AV.i .i64 0),(AV.i .i64 0),(AV.i .i64 0),(AV.i .i64 0),(AV.i .i64 0),(AV.i .i64 0),(AV.i .i64 0),(AV.i .i64 0),(AV.i .i64 0),(AV.i .i64 0),(AV.i .i64 0)] h1 fun v3 h4=>
bK x0 fun n6=>
J 1 [(2,v0),(3,v3),(7,x0),(8,(AV.i .i64 n6)),(9,(AV.i .i64 0))] h4
theorem Y15.call {K x0 h} (H:Y15.t (aH h K) x0 h (Y15.J (aH h K))):C Y15.id [x0] h K:=
 gC Y15.J Tryd.func80 Y15.dist H
noncomputable def Y32.body:Code:=(Tryd.f81.body).getD .skip
def Y32.ann:Ann:=(sq [0,1] (sl [0,1,6] bl) (sl [0,1,4] (sq [0,1] (.seq 1 [0,1,37] (.ord (nn 0 25 .done)) (.br (sl [] lf) lf)) lf)))
theorem Y32.dist:aI (places Y32.ann Y32.body)=true:=by kernel_rfl
noncomputable def Y32.J (Q:AV→aA→Prop):JT:=bJ prog C Tryd.f81 Y32.ann Y32.body Q
def Y32.p0 (Q:AV→aA→Prop) (x0:AV) (x1:Int) (x37:Bool) (h:aA):Prop:=Y32.J Q 1 [(0,x0),(1,(AV.i .u8 x1)),(37,(AV.b x37))] h
def Y32.t0 (Q:AV→aA→Prop) (x0:AV) (x1:Int) (x37:Bool) (h:aA) (J:JT):Prop:=
(bif x37 then
(aU x0 fun v32=>
aC 6 v32 fun v33=>
aT 1 v33 (AV.i .i64 16) h fun h34=>
Q (AV.tu []) h34)
else
(aU x0 fun v37=>
aC 2 v37 fun v38=>
aD v38 h fun v39=>
bM 1 1 [(AV.i .u8 0)] [(0,1,(AV.i .u8 x1))] h fun v40 h41=>
bV (some 5) 1 1 v39 v40 h41 fun v42 h43=>
aU x0 fun v44=>
aC 2 v44 fun v45=>
aT 1 v45 v42 h43 fun h46=>
Q (AV.tu []) h46))
theorem Y32.i0 {Q x0 x1 x37 h} (H:Y32.t0 Q x0 x1 x37 h (Y32.J Q)):Y32.p0 Q x0 x1 x37 h:=gR Y32.J Tryd.f81 Y32.dist [1,1,0,1] H
def Y32.t (Q:AV→aA→Prop) (x0:AV) (x1:Int) (h:aA) (J:JT):Prop:=
C Y25.id [x0] h fun v0 h1=>
asB v0 fun c2=>
(bif c2 then
(Q (AV.tu []) h1)
else
(aU x0 fun v5=>
aC 1 v5 fun v6=>
aD v6 h1 fun v7=>
asI .i64 v7 fun n8=>
aJ (IntKind.wrap .i64 (n8+7)) fun n9=>
rU .i64 n9 8 fun n10=>
aU x0 fun v12=>
aC 2 v12 fun v13=>
aD v13 h1 fun v14=>
bK v14 fun n15=>
aU x0 fun v16=>
aC 3 v16 fun v17=>
aD v17 h1 fun v18=>
asI .i64 v18 fun n19=>
(bif (decide ((n19:Int)≤n15)) then
(J 1 [(0,x0),(1,(AV.i .u8 x1)),(37,(AV.b true))] h1)
else
(aU x0 fun v21=>
aC 2 v21 fun v22=>
aD v22 h1 fun v23=>
bK v23 fun n24=>
aU x0 fun v25=>
aC 4 v25 fun v26=>
aD v26 h1 fun v27=>
asI .i64 v27 fun n28=>
aJ (IntKind.wrap .i64 (n28 * n10)) fun n29=>
aJ (IntKind.wrap .i64 (n29+1024)) fun n30=>
J 1 [(0,x0),(1,(AV.i .u8 x1)),(37,(AV.b (decide ((n30:Int)≤n24))))] h1))))
theorem Y32.call {K x0 x1 h} (H:Y32.t (aH h K) x0 x1 h (Y32.J (aH h K))):C Y32.id [x0,(AV.i .u8 x1)] h K:=
 gC Y32.J Tryd.func81 Y32.dist H
noncomputable def Y46.body:Code:=(Tryd.f82.body).getD .skip
def Y46.ann:Ann:=(sl [0] (sl [0,4] (sq [0] (sl [0,4,8] (.br (sl [2,3] lf) lf)) (sl [2,3] lf))))
theorem Y46.dist:aI (places Y46.ann Y46.body)=true:=by kernel_rfl
noncomputable def Y46.J (Q:AV→aA→Prop):JT:=bJ prog C Tryd.f82 Y46.ann Y46.body Q
def Y46.t (Q:AV→aA→Prop) (x0:AV) (h:aA) (J:JT):Prop:=
C Y7.id [x0] h fun v1 h2=>
asI .i64 v1 fun n3=>
(bif (!decide ((n3:Int)=0)) then
(Q (AV.tu [(AV.p none),(AV.i .i64 n3)]) h2)
else
(C Y8.id [x0] h2 fun v8 h9=>
gQ [(AV.sl none 0 none),(AV.sl none 0 none),(AV.i .i64 0),(AV.i .i64 0)] [(0,1,x0),(1,1,v8)] fun v10=>
cZ (some 139) v10 h9 fun v11 h12=>
Q (AV.tu [v11,(AV.i .i64 0)]) h12))
theorem Y46.call {K x0 h} (H:Y46.t (aH h K) x0 h (Y46.J (aH h K))):C Y46.id [x0] h K:=
 gC Y46.J Tryd.func82 Y46.dist H
noncomputable def Y29.body:Code:=(Tryd.f83.body).getD .skip
def Y29.ann:Ann:=(sl [0,1] (sq [0,1] (sl [0,1,10] (.br (sl [] (sl [4] lf)) lf)) (.one (.loop 1 [0,1] (.one (sl [0,1,5] (sq [0,1,5] (sl [0,1,5,16] (.br (sl [4] lf) lf)) (sl [0,1,6,7,8] (sq [0,1,6,7] (sl [0,1,6,7,25] (.br (sl [] (sl [4] lf)) lf)) (sl [0,1,6,28] (.br (sl [4] lf) lf)))))))))))
theorem Y29.dist:aI (places Y29.ann Y29.body)=true:=by kernel_rfl
noncomputable def Y29.J (Q:AV→aA→Prop):JT:=bJ prog C Tryd.f83 Y29.ann Y29.body Q
def Y29.p0 (Q:AV→aA→Prop) (x0 x1:AV) (h:aA):Prop:=Y29.J Q 1 [(0,x0),(1,x1)] h
def Y29.t0 (Q:AV→aA→Prop) (x0 x1:AV) (h:aA) (J:JT):Prop:=
C Y23.id [x0] h fun v9 h10=>
asI .i64 v9 fun n11=>
C Y25.id [x0] h10 fun v13 h14=>
asB v13 fun c15=>
(bif c15 then
(Q (AV.i .i64 0) h14)
else
(C Y11.id [x1,(AV.i .i64 n11)] h14 fun v19 h20=>
aL 0 v19 fun v21=>
asI .i64 v21 fun n22=>
aL 1 v19 fun v23=>
asB v23 fun c24=>
aL 2 v19 fun v25=>
asI .i64 v25 fun n26=>
(bif (!decide ((n26:Int)=0)) then
(C Y37.id [x0] h20 fun v29 h30=>
Q (AV.i .i64 0) h30)
else
((bif c24 then
(Q (AV.i .i64 n22) h20)
else
(J 1 [(0,x0),(1,x1)] h20))))))
theorem Y29.i0 {Q x0 x1 h} (H:Y29.t0 Q x0 x1 h (Y29.J Q)):Y29.p0 Q x0 x1 h:=gH Y29.J Tryd.f83 Y29.dist [1,1,0] H
def Y29.t (Q:AV→aA→Prop) (x0 x1:AV) (h:aA) (J:JT):Prop:=
d7 prog .eql 123 x1 (AV.p none) fun v1=>
asB v1 fun c2=>
(bif c2 then
(C Y37.id [x0] h fun v4 h5=>
Q (AV.i .i64 0) h5)
else
(J 1 [(0,x0),(1,x1)] h))
theorem Y29.call {K x0 x1 h} (H:Y29.t (aH h K) x0 x1 h (Y29.J (aH h K))):C Y29.id [x0,x1] h K:=
 gC Y29.J Tryd.func83 Y29.dist H
noncomputable def Y7.body:Code:=(Tryd.f84.body).getD .skip
def Y7.ann:Ann:=(sl [0] (sq [0] (sl [0,8] (.br (sl [2] lf) lf)) (sl [0,3] (sq [0,3] (sl [0,3,4] (.one (.loop 1 [0,3,4] (sq [0,3,4] (sl [0,3,4,12] bl) (.seq 3 [0,3,4] (.one (sq [0,3,4] (.seq 2 [0,3,4,26] lf (.br (sl [2] lf) lf)) (sl [0,3,4,31] bl))) lf))))) (sl [3,5] (sq [3,5] (sl [3,5,44] (.br (sl [2] lf) lf)) (sq [] (.seq 4 [58] lf (.br (sl [2] lf) lf)) (sl [2] lf))))))))
theorem Y7.dist:aI (places Y7.ann Y7.body)=true:=by kernel_rfl
noncomputable def Y7.J (Q:AV→aA→Prop):JT:=bJ prog C Tryd.f84 Y7.ann Y7.body Q
def Y7.p1 (Q:AV→aA→Prop) (x0:AV) (x3 x4:Int) (x26:Bool) (h:aA):Prop:=Y7.J Q 2 [(0,x0),(3,(AV.i .i64 x3)),(4,(AV.i .i64 x4)),(26,(AV.b x26))] h
def Y7.p2 (Q:AV→aA→Prop) (x0:AV) (x3 x4:Int) (h:aA):Prop:=Y7.J Q 3 [(0,x0),(3,(AV.i .i64 x3)),(4,(AV.i .i64 x4))] h
def Y7.p0 (Q:AV→aA→Prop) (x0:AV) (x3 x4:Int) (h:aA):Prop:=Y7.J Q 1 [(0,x0),(3,(AV.i .i64 x3)),(4,(AV.i .i64 x4))] h
def Y7.p3 (Q:AV→aA→Prop) (x58:Bool) (h:aA):Prop:=Y7.J Q 4 [(58,(AV.b x58))] h
def Y7.t1 (Q:AV→aA→Prop) (x0:AV) (x3 x4:Int) (x26:Bool) (h:aA) (J:JT):Prop:=
(bif x26 then
(Q (AV.i .i64 4) h)
else
(aP 1 x0 (AV.i .i64 x4) h fun v21=>
aD v21 h fun v22=>
asI .i64 v22 fun n23=>
(bif (decide ((0:Int)<n23)) then
(aP 1 x0 (AV.i .i64 x4) h fun v25=>
aD v25 h fun v26=>
asI .i64 v26 fun n27=>
aJ (IntKind.wrap .i64 (15 - n27)) fun n28=>
jO .i64 1 (IntKind.wrap .u64 n28) fun n29=>
aJ (IntKind.wrap .i64 (x3+n29)) fun n30=>
J 3 [(0,x0),(3,(AV.i .i64 n30)),(4,(AV.i .i64 x4))] h)
else
(J 3 [(0,x0),(3,(AV.i .i64 x3)),(4,(AV.i .i64 x4))] h))))
theorem Y7.i1 {Q x0 x3 x4 x26 h} (H:Y7.t1 Q x0 x3 x4 x26 h (Y7.J Q)):Y7.p1 Q x0 x3 x4 x26 h:=gR Y7.J Tryd.f84 Y7.dist [1,1,1,0,1,0,0,1,0,0,0,1] H
def Y7.t2 (Q:AV→aA→Prop) (x0:AV) (x3 x4:Int) (h:aA) (J:JT):Prop:=
aJ (IntKind.wrap .i64 (x4+1)) fun n33=>
J 1 [(0,x0),(3,(AV.i .i64 x3)),(4,(AV.i .i64 n33))] h
theorem Y7.i2 {Q x0 x3 x4 h} (H:Y7.t2 Q x0 x3 x4 h (Y7.J Q)):Y7.p2 Q x0 x3 x4 h:=gR Y7.J Tryd.f84 Y7.dist [1,1,1,0,1,0,0,1,1] H
def Y7.t0 (Q:AV→aA→Prop) (x0:AV) (x3 x4:Int) (h:aA) (J:JT):Prop:=
bK x0 fun n7=>
(bif (decide ((x4:Int)<n7)) then
(aP 1 x0 (AV.i .i64 x4) h fun v11=>
aD v11 h fun v12=>
asI .i64 v12 fun n13=>
(bif (decide ((n13:Int)<0)) then
(J 2 [(0,x0),(3,(AV.i .i64 x3)),(4,(AV.i .i64 x4)),(26,(AV.b true))] h)
else
(aP 1 x0 (AV.i .i64 x4) h fun v15=>
aD v15 h fun v16=>
asI .i64 v16 fun n17=>
J 2 [(0,x0),(3,(AV.i .i64 x3)),(4,(AV.i .i64 x4)),(26,(AV.b (decide ((15:Int)<n17))))] h)))
else
(C Y18.id [x0] h fun v35 h36=>
asI .i64 v35 fun n37=>
(bif (decide ((32768:Int)<x3)) then
(Q (AV.i .i64 2) h36)
else
((bif (decide ((x3:Int)=32768)) then
(J 4 [(58,(AV.b true))] h36)
else
((bif (decide ((n37:Int)=0)) then
(J 4 [(58,(AV.b true))] h36)
else
((bif (decide ((n37:Int)=1)) then
(J 4 [(58,(AV.b (decide ((x3:Int)=16384))))] h36)
else
(J 4 [(58,(AV.b false))] h36))))))))))
theorem Y7.i0 {Q x0 x3 x4 h} (H:Y7.t0 Q x0 x3 x4 h (Y7.J Q)):Y7.p0 Q x0 x3 x4 h:=gH Y7.J Tryd.f84 Y7.dist [1,1,1,0,1,0] H
def Y7.t3 (Q:AV→aA→Prop) (x58:Bool) (h:aA) (J:JT):Prop:=
(bif x58 then
(Q (AV.i .i64 0) h)
else
(Q (AV.i .i64 1) h))
theorem Y7.i3 {Q x58 h} (H:Y7.t3 Q x58 h (Y7.J Q)):Y7.p3 Q x58 h:=gR Y7.J Tryd.f84 Y7.dist [1,1,1,1,1,1,0,1] H
def Y7.t (Q:AV→aA→Prop) (x0:AV) (h:aA) (J:JT):Prop:=
bK x0 fun n1=>
(bif (decide ((320:Int)<n1)) then
(Q (AV.i .i64 3) h)
else
(J 1 [(0,x0),(3,(AV.i .i64 0)),(4,(AV.i .i64 0))] h))
theorem Y7.call {K x0 h} (H:Y7.t (aH h K) x0 h (Y7.J (aH h K))):C Y7.id [x0] h K:=
 gC Y7.J Tryd.func84 Y7.dist H
noncomputable def Y45.body:Code:=(Tryd.f85.body).getD .skip
def Y45.ann:Ann:=(sl [0] (sq [2] (.ord (nn 0 11 .done)) lf))
theorem Y45.dist:aI (places Y45.ann Y45.body)=true:=by kernel_rfl
noncomputable def Y45.J (Q:AV→aA→Prop):JT:=bJ prog C Tryd.f85 Y45.ann Y45.body Q
def Y45.t (Q:AV→aA→Prop) (x0:AV) (h:aA) (J:JT):Prop:=
aU x0 fun v1=>
aC 0 v1 fun v2=>
aD v2 h fun v3=>
bK v3 fun n4=>
aU x0 fun v5=>
aC 1 v5 fun v6=>
aD v6 h fun v7=>
asI .i64 v7 fun n8=>
aJ (IntKind.wrap .i64 (n4 - n8)) fun n9=>
Q (AV.i .i64 n9) h
theorem Y45.call {K x0 h} (H:Y45.t (aH h K) x0 h (Y45.J (aH h K))):C Y45.id [x0] h K:=
 gC Y45.J Tryd.func85 Y45.dist H
noncomputable def Y64.body:Code:=(Tryd.f88.body).getD .skip
def Y64.ann:Ann:=(sl [0,1] (sq [0,1] (.br (sl [6,7] (sl [4,5] lf)) lf) (sl [8,9] (sl [4,5] lf))))
theorem Y64.dist:aI (places Y64.ann Y64.body)=true:=by kernel_rfl
noncomputable def Y64.J (Q:AV→aA→Prop):JT:=bJ prog C Tryd.f88 Y64.ann Y64.body Q
def Y64.t (Q:AV→aA→Prop) (x0 x1:Int) (h:aA) (J:JT):Prop:=
C Y85.id [(AV.i .u64 x0),(AV.i .u64 x1)] h fun v2 h3=>
aL 0 v2 fun v4=>
asI .u64 v4 fun n5=>
aL 1 v2 fun v6=>
asI .u64 v6 fun n7=>
Q (AV.tu [(AV.i .u64 n5),(AV.i .u64 n7)]) h3
theorem Y64.call {K x0 x1 h} (H:Y64.t (aH h K) x0 x1 h (Y64.J (aH h K))):C Y64.id [(AV.i .u64 x0),(AV.i .u64 x1)] h K:=
 gC Y64.J Tryd.func88 Y64.dist H
noncomputable def Y86.body:Code:=(Tryd.f89.body).getD .skip
def Y86.ann:Ann:=(sl [1] (sl [2] lf))
theorem Y86.dist:aI (places Y86.ann Y86.body)=true:=by kernel_rfl
noncomputable def Y86.J (Q:AV→aA→Prop):JT:=bJ prog C Tryd.f89 Y86.ann Y86.body Q
def Y86.t (Q:AV→aA→Prop) (x0:AV) (h:aA) (J:JT):Prop:=
cZ none x0 h fun v0 h1=>
Q (AV.fn (.func Y36.id) [] [v0]) h1
theorem Y86.call {K x0 h} (H:Y86.t (aH h K) x0 h (Y86.J (aH h K))):C Y86.id [x0] h K:=
 gC Y86.J Tryd.func89 Y86.dist H
noncomputable def Y62.body:Code:=(Tryd.f90.body).getD .skip
def Y62.ann:Ann:=(sl [1,2] (sl [3] lf))
theorem Y62.dist:aI (places Y62.ann Y62.body)=true:=by kernel_rfl
noncomputable def Y62.J (Q:AV→aA→Prop):JT:=bJ prog C Tryd.f90 Y62.ann Y62.body Q
def Y62.t (Q:AV→aA→Prop) (x0:Int) (x1:AV) (h:aA) (J:JT):Prop:=
cZ none (AV.i .i64 x0) h fun v0 h1=>
aD x1 h1 fun v3=>
C Y41.id [v3,(AV.i .i64 16),(AV.fn (.func Y83.id) [] [v0,x1])] h1 fun v4 h5=>
asI .i64 v4 fun n6=>
Q (AV.i .i64 n6) h5
theorem Y62.call {K x0 x1 h} (H:Y62.t (aH h K) x0 x1 h (Y62.J (aH h K))):C Y62.id [(AV.i .i64 x0),x1] h K:=
 gC Y62.J Tryd.func90 Y62.dist H
noncomputable def Y83.body:Code:=(Tryd.f91.body).getD .skip
def Y83.ann:Ann:=(sl [0,1,2] (sq [1,2] (sl [1,2,8] (.br (sl [4] lf) lf)) (sl [4] lf)))
theorem Y83.dist:aI (places Y83.ann Y83.body)=true:=by kernel_rfl
noncomputable def Y83.J (Q:AV→aA→Prop):JT:=bJ prog C Tryd.f91 Y83.ann Y83.body Q
def Y83.t (Q:AV→aA→Prop) (x0:Int) (x1 x2:AV) (h:aA) (J:JT):Prop:=
aD x1 h fun v1=>
asI .i64 v1 fun n2=>
aJ (IntKind.wrap .i64 (65535 - n2)) fun n3=>
(bif (!decide ((x0:Int)=n3)) then
(Q (AV.i .i64 2) h)
else
(aD x2 h fun v7=>
aD x1 h fun v8=>
asI .i64 v8 fun n9=>
C Y58.id [v7,(AV.i .i64 n9)] h fun v10 h11=>
asI .i64 v10 fun n12=>
Q (AV.i .i64 n12) h11))
theorem Y83.call {K x0 x1 x2 h} (H:Y83.t (aH h K) x0 x1 x2 h (Y83.J (aH h K))):C Y83.id [(AV.i .i64 x0),x1,x2] h K:=
 gC Y83.J Tryd.func91 Y83.dist H
noncomputable def Y58.body:Code:=(Tryd.f92.body).getD .skip
def Y58.ann:Ann:=(sl [2,3] (sq [2,3] (sl [2,3,6] (.br (sl [4] lf) lf)) (sl [4] lf)))
theorem Y58.dist:aI (places Y58.ann Y58.body)=true:=by kernel_rfl
noncomputable def Y58.J (Q:AV→aA→Prop):JT:=bJ prog C Tryd.f92 Y58.ann Y58.body Q
def Y58.t (Q:AV→aA→Prop) (x0:AV) (x1:Int) (h:aA) (J:JT):Prop:=
cZ none x0 h fun v0 h1=>
cZ none (AV.i .i64 x1) h1 fun v2 h3=>
aD v2 h3 fun v5=>
asI .i64 v5 fun n6=>
(bif (decide ((n6:Int)=0)) then
(aD v0 h3 fun v8=>
C Y53.id [v8] h3 fun v9 h10=>
asI .i64 v9 fun n11=>
Q (AV.i .i64 n11) h10)
else
(aD v0 h3 fun v14=>
C Y41.id [v14,(AV.i .i64 8),(AV.fn (.func Y78.id) [] [v0,v2])] h3 fun v15 h16=>
asI .i64 v15 fun n17=>
Q (AV.i .i64 n17) h16))
theorem Y58.call {K x0 x1 h} (H:Y58.t (aH h K) x0 x1 h (Y58.J (aH h K))):C Y58.id [x0,(AV.i .i64 x1)] h K:=
 gC Y58.J Tryd.func92 Y58.dist H
noncomputable def Y56.body:Code:=(Tryd.f93.body).getD .skip
def Y56.ann:Ann:=(sl [0,1,2] (sl [0,2,7,8] (sq [0,2,7] (sl [0,2,7,16] (.br (sl [6] lf) lf)) (sl [0,7,8,9] (sq [0,7,9] (sl [0,7,9,23] (.br (sl [6] lf) lf)) (sl [6] lf))))))
theorem Y56.dist:aI (places Y56.ann Y56.body)=true:=by kernel_rfl
noncomputable def Y56.J (Q:AV→aA→Prop):JT:=bJ prog C Tryd.f93 Y56.ann Y56.body Q
def Y56.t (Q:AV→aA→Prop) (x0 x1 x2:AV) (h:aA) (J:JT):Prop:=
C Y13.id [x1] h fun v1 h2=>
aL 0 v1 fun v3=>
aL 1 v1 fun v4=>
asI .i64 v4 fun n5=>
(bif (!decide ((n5:Int)=0)) then
(Q (AV.i .i64 2) h2)
else
(C Y13.id [x2] h2 fun v10 h11=>
aL 0 v10 fun v12=>
aL 1 v10 fun v13=>
asI .i64 v13 fun n14=>
(bif (!decide ((n14:Int)=0)) then
(Q (AV.i .i64 2) h11)
else
(C Y50.id [x0,v3,v12] h11 fun v19 h20=>
asI .i64 v19 fun n21=>
Q (AV.i .i64 n21) h20))))
theorem Y56.call {K x0 x1 x2 h} (H:Y56.t (aH h K) x0 x1 x2 h (Y56.J (aH h K))):C Y56.id [x0,x1,x2] h K:=
 gC Y56.J Tryd.func93 Y56.dist H
noncomputable def Y66.body:Code:=(Tryd.f94.body).getD .skip
def Y66.ann:Ann:=(sl [0,1] (sl [1,4] (sq [1,4] (sl [1,4,8] (.br (sl [3] lf) lf)) (sl [3] lf))))
theorem Y66.dist:aI (places Y66.ann Y66.body)=true:=by kernel_rfl
noncomputable def Y66.J (Q:AV→aA→Prop):JT:=bJ prog C Tryd.f94 Y66.ann Y66.body Q
def Y66.t (Q:AV→aA→Prop) (x0:Int) (x1:AV) (h:aA) (J:JT):Prop:=
aJ (IntKind.wrap .i64 (x0+257)) fun n1=>
dD none [(AV.i .i64 0)] h fun v2 h3=>
aT 1 v2 (AV.i .i64 n1) h3 fun h4=>
aD v2 h4 fun v6=>
asI .i64 v6 fun n7=>
(bif (decide ((286:Int)<n7)) then
(Q (AV.i .i64 2) h4)
else
(aD x1 h4 fun v11=>
C Y41.id [v11,(AV.i .i64 5),(AV.fn (.func Y71.id) [] [x1,v2])] h4 fun v12 h13=>
asI .i64 v12 fun n14=>
Q (AV.i .i64 n14) h13))
theorem Y66.call {K x0 x1 h} (H:Y66.t (aH h K) x0 x1 h (Y66.J (aH h K))):C Y66.id [(AV.i .i64 x0),x1] h K:=
 gC Y66.J Tryd.func94 Y66.dist H
noncomputable def Y71.body:Code:=(Tryd.f95.body).getD .skip
def Y71.ann:Ann:=(sl [0,1,2] (sl [1,2,5] (sq [1,2,5] (sl [1,2,5,9] (.br (sl [4] lf) lf)) (sl [4] lf))))
theorem Y71.dist:aI (places Y71.ann Y71.body)=true:=by kernel_rfl
noncomputable def Y71.J (Q:AV→aA→Prop):JT:=bJ prog C Tryd.f95 Y71.ann Y71.body Q
def Y71.t (Q:AV→aA→Prop) (x0:Int) (x1 x2:AV) (h:aA) (J:JT):Prop:=
aJ (IntKind.wrap .i64 (x0+1)) fun n1=>
dD none [(AV.i .i64 0)] h fun v2 h3=>
aT 1 v2 (AV.i .i64 n1) h3 fun h4=>
aD v2 h4 fun v6=>
asI .i64 v6 fun n7=>
(bif (decide ((30:Int)<n7)) then
(Q (AV.i .i64 2) h4)
else
(aD x1 h4 fun v11=>
C Y41.id [v11,(AV.i .i64 4),(AV.fn (.func Y76.id) [] [x1,x2,v2])] h4 fun v12 h13=>
asI .i64 v12 fun n14=>
Q (AV.i .i64 n14) h13))
theorem Y71.call {K x0 x1 x2 h} (H:Y71.t (aH h K) x0 x1 x2 h (Y71.J (aH h K))):C Y71.id [(AV.i .i64 x0),x1,x2] h K:=
 gC Y71.J Tryd.func95 Y71.dist H
noncomputable def Y76.body:Code:=(Tryd.f96.body).getD .skip
def Y76.ann:Ann:=(sl [0,1,2,3] (sq [5] (.ord (.neu 0 (nn 2 4 (.eff 1 (.eff 6 (.neu 7 .done) .stop) .stop)))) lf))
theorem Y76.dist:aI (places Y76.ann Y76.body)=true:=by kernel_rfl
noncomputable def Y76.J (Q:AV→aA→Prop):JT:=bJ prog C Tryd.f96 Y76.ann Y76.body Q
def Y76.t (Q:AV→aA→Prop) (x0:Int) (x1 x2 x3:AV) (h:aA) (J:JT):Prop:=
aD x1 h fun v1=>
aJ (IntKind.wrap .i64 (x0+4)) fun n2=>
aD x2 h fun v3=>
asI .i64 v3 fun n4=>
aD x3 h fun v5=>
asI .i64 v5 fun n6=>
mD 1 8 [(AV.i .i64 0)] (AV.i .i64 19) (AV.i .i64 19) h fun v7 h8=>
aD x3 h8 fun v9=>
asI .i64 v9 fun n10=>
((AV.i .i64 n6)=(AV.i .i64 n10) ∧
(aD x2 h8 fun v11=>
asI .i64 v11 fun n12=>
((AV.i .i64 n4)=(AV.i .i64 n12) ∧
(aD x1 h8 fun v13=>
(v1=v13 ∧
(C Y61.id [v1,v7,(AV.i .i64 0),(AV.i .i64 n2),(AV.i .i64 n4),(AV.i .i64 n6)] h8 fun v14 h15=>
asI .i64 v14 fun n16=>
Q (AV.i .i64 n16) h15))))))
theorem Y76.call {K x0 x1 x2 x3 h} (H:Y76.t (aH h K) x0 x1 x2 x3 h (Y76.J (aH h K))):C Y76.id [(AV.i .i64 x0),x1,x2,x3] h K:=
 gC Y76.J Tryd.func96 Y76.dist H
noncomputable def Y61.body:Code:=(Tryd.f97.body).getD .skip
def Y61.ann:Ann:=(sl [6,7,8,9,10,11] (sq [6,7,8,9,10,11] (sl [6,7,8,9,10,11,17] (.br (sl [6,10,11,13,14] (sq [6,10,11,13] (sl [6,10,11,13,24] (.br (sl [12] lf) lf)) (sl [12] lf))) lf)) (sl [12] lf)))
theorem Y61.dist:aI (places Y61.ann Y61.body)=true:=by kernel_rfl
noncomputable def Y61.J (Q:AV→aA→Prop):JT:=bJ prog C Tryd.f97 Y61.ann Y61.body Q
def Y61.t (Q:AV→aA→Prop) (x0 x1:AV) (x2 x3 x4 x5:Int) (h:aA) (J:JT):Prop:=
cZ none x0 h fun v0 h1=>
cZ none x1 h1 fun v2 h3=>
cZ none (AV.i .i64 x2) h3 fun v4 h5=>
cZ none (AV.i .i64 x3) h5 fun v6 h7=>
cZ none (AV.i .i64 x4) h7 fun v8 h9=>
cZ none (AV.i .i64 x5) h9 fun v10 h11=>
aD v4 h11 fun v13=>
asI .i64 v13 fun n14=>
aD v6 h11 fun v15=>
asI .i64 v15 fun n16=>
(bif (decide ((n14:Int)=n16)) then
(aD v2 h11 fun v18=>
C Y13.id [v18] h11 fun v19 h20=>
aL 0 v19 fun v21=>
aL 1 v19 fun v22=>
asI .i64 v22 fun n23=>
(bif (!decide ((n23:Int)=0)) then
(Q (AV.i .i64 2) h20)
else
(aD v0 h20 fun v28=>
aD v8 h20 fun v29=>
asI .i64 v29 fun n30=>
aD v10 h20 fun v31=>
asI .i64 v31 fun n32=>
C Y47.id [v28,v21,(AV.sl none 0 none),(AV.i .i64 n30),(AV.i .i64 n32)] h20 fun v33 h34=>
asI .i64 v33 fun n35=>
Q (AV.i .i64 n35) h34)))
else
(aD v0 h11 fun v38=>
C Y41.id [v38,(AV.i .i64 3),(AV.fn (.func Y74.id) [] [v2,v4,v0,v6,v8,v10])] h11 fun v39 h40=>
asI .i64 v39 fun n41=>
Q (AV.i .i64 n41) h40))
theorem Y61.call {K x0 x1 x2 x3 x4 x5 h} (H:Y61.t (aH h K) x0 x1 x2 x3 x4 x5 h (Y61.J (aH h K))):C Y61.id [x0,x1,(AV.i .i64 x2),(AV.i .i64 x3),(AV.i .i64 x4),(AV.i .i64 x5)] h K:=
 gC Y61.J Tryd.func97 Y61.dist H
noncomputable def Y11.body:Code:=(Tryd.f100.body).getD .skip
def Y11.ann:Ann:=(sl [0,1] (sq [0,1] (sl [0,1,10] (.br (sl [4,5,6] lf) lf)) (sl [0,1] (sl [0] (sl [0,7] (sq [0,7] (sl [0,7,8] (.one (.loop 1 [0,7,8] (sq [0,7,8] (sl [0,7,8,35] bl) (.seq 4 [0,7,8] (.one (sq [0,7,8] (.seq 2 [0,7,8,63] (.ord (nn 0 26 .done)) (.br (sl [0,8] (sl [8] (sl [4,5,6] lf))) lf)) (.seq 3 [0,7,8,110] (.ord (nn 0 40 .done)) bl))) lf))))) (sq [0] (sl [0,111] (.br (sl [4,5,6] lf) lf)) (sl [0] (sl [] (sl [4,5,6] lf))))))))))
theorem Y11.dist:aI (places Y11.ann Y11.body)=true:=by kernel_rfl
noncomputable def Y11.J (Q:AV→aA→Prop):JT:=bJ prog C Tryd.f100 Y11.ann Y11.body Q
def Y11.p1 (Q:AV→aA→Prop) (x0:AV) (x7:Bool) (x8:Int) (x63:Bool) (h:aA):Prop:=Y11.J Q 2 [(0,x0),(7,(AV.b x7)),(8,(AV.i .i64 x8)),(63,(AV.b x63))] h
def Y11.p2 (Q:AV→aA→Prop) (x0:AV) (x7:Bool) (x8:Int) (x110:Bool) (h:aA):Prop:=Y11.J Q 3 [(0,x0),(7,(AV.b x7)),(8,(AV.i .i64 x8)),(110,(AV.b x110))] h
def Y11.p3 (Q:AV→aA→Prop) (x0:AV) (x7:Bool) (x8:Int) (h:aA):Prop:=Y11.J Q 4 [(0,x0),(7,(AV.b x7)),(8,(AV.i .i64 x8))] h
def Y11.p0 (Q:AV→aA→Prop) (x0:AV) (x7:Bool) (x8:Int) (h:aA):Prop:=Y11.J Q 1 [(0,x0),(7,(AV.b x7)),(8,(AV.i .i64 x8))] h
def Y11.t1 (Q:AV→aA→Prop) (x0:AV) (x7:Bool) (x8:Int) (x63:Bool) (h:aA) (J:JT):Prop:=
(bif x63 then
(aU x0 fun v56=>
aC 2 v56 fun v57=>
aT 1 v57 (AV.i .i64 0) h fun h58=>
aU x0 fun v60=>
aC 3 v60 fun v61=>
aT 1 v61 (AV.i .i64 0) h58 fun h62=>
Q (AV.tu [(AV.i .i64 x8),(AV.b true),(AV.i .i64 0)]) h62)
else
(aU x0 fun v66=>
aC 0 v66 fun v67=>
aD v67 h fun v68=>
aP 1 v68 (AV.i .i64 x8) h fun v69=>
aD v69 h fun v70=>
asI .i64 v70 fun n71=>
aU x0 fun v72=>
aC 2 v72 fun v73=>
aD v73 h fun v74=>
asI .i64 v74 fun n75=>
(bif (decide ((n75:Int)<n71)) then
(aU x0 fun v76=>
aC 1 v76 fun v77=>
aD v77 h fun v78=>
aP 1 v78 (AV.i .i64 x8) h fun v79=>
aD v79 h fun v80=>
asI .i64 v80 fun n81=>
aU x0 fun v82=>
aC 0 v82 fun v83=>
aD v83 h fun v84=>
aP 1 v84 (AV.i .i64 x8) h fun v85=>
aD v85 h fun v86=>
asI .i64 v86 fun n87=>
aU x0 fun v88=>
aC 2 v88 fun v89=>
aD v89 h fun v90=>
asI .i64 v90 fun n91=>
aJ (IntKind.wrap .i64 (n87 - n91)) fun n92=>
kU .i64 n81 (IntKind.wrap .u64 n92) fun n93=>
aU x0 fun v94=>
aC 3 v94 fun v95=>
aD v95 h fun v96=>
asI .i64 v96 fun n97=>
J 3 [(0,x0),(7,(AV.b x7)),(8,(AV.i .i64 x8)),(110,(AV.b (decide ((n93:Int)=n97))))] h)
else
(J 3 [(0,x0),(7,(AV.b x7)),(8,(AV.i .i64 x8)),(110,(AV.b false))] h))))
theorem Y11.i1 {Q x0 x7 x8 x63 h} (H:Y11.t1 Q x0 x7 x8 x63 h (Y11.J Q)):Y11.p1 Q x0 x7 x8 x63 h:=gR Y11.J Tryd.f100 Y11.dist [1,1,1,1,1,0,1,0,0,1,0,0,0,1] H
def Y11.t2 (Q:AV→aA→Prop) (x0:AV) (x7:Bool) (x8:Int) (x110:Bool) (h:aA) (J:JT):Prop:=
(bif x110 then
(J 4 [(0,x0),(7,(AV.b true)),(8,(AV.i .i64 x8))] h)
else
(J 4 [(0,x0),(7,(AV.b x7)),(8,(AV.i .i64 x8))] h))
theorem Y11.i2 {Q x0 x7 x8 x110 h} (H:Y11.t2 Q x0 x7 x8 x110 h (Y11.J Q)):Y11.p2 Q x0 x7 x8 x110 h:=gR Y11.J Tryd.f100 Y11.dist [1,1,1,1,1,0,1,0,0,1,0,0,1,1] H
def Y11.t3 (Q:AV→aA→Prop) (x0:AV) (x7:Bool) (x8:Int) (h:aA) (J:JT):Prop:=
aJ (IntKind.wrap .i64 (x8+1)) fun n102=>
J 1 [(0,x0),(7,(AV.b x7)),(8,(AV.i .i64 n102))] h
theorem Y11.i3 {Q x0 x7 x8 h} (H:Y11.t3 Q x0 x7 x8 h (Y11.J Q)):Y11.p3 Q x0 x7 x8 h:=gR Y11.J Tryd.f100 Y11.dist [1,1,1,1,1,0,1,0,0,1,1] H
def Y11.t0 (Q:AV→aA→Prop) (x0:AV) (x7:Bool) (x8:Int) (h:aA) (J:JT):Prop:=
aU x0 fun v27=>
aC 0 v27 fun v28=>
aD v28 h fun v29=>
bK v29 fun n30=>
(bif (decide ((x8:Int)<n30)) then
(aU x0 fun v34=>
aC 0 v34 fun v35=>
aD v35 h fun v36=>
aP 1 v36 (AV.i .i64 x8) h fun v37=>
aD v37 h fun v38=>
asI .i64 v38 fun n39=>
aU x0 fun v40=>
aC 2 v40 fun v41=>
aD v41 h fun v42=>
asI .i64 v42 fun n43=>
(bif (decide ((n39:Int)=n43)) then
(aU x0 fun v44=>
aC 1 v44 fun v45=>
aD v45 h fun v46=>
aP 1 v46 (AV.i .i64 x8) h fun v47=>
aD v47 h fun v48=>
asI .i64 v48 fun n49=>
aU x0 fun v50=>
aC 3 v50 fun v51=>
aD v51 h fun v52=>
asI .i64 v52 fun n53=>
J 2 [(0,x0),(7,(AV.b x7)),(8,(AV.i .i64 x8)),(63,(AV.b (decide ((n49:Int)=n53))))] h)
else
(J 2 [(0,x0),(7,(AV.b x7)),(8,(AV.i .i64 x8)),(63,(AV.b false))] h)))
else
((bif x7 then
(Q (AV.tu [(AV.i .i64 0),(AV.b false),(AV.i .i64 0)]) h)
else
(aU x0 fun v107=>
aC 2 v107 fun v108=>
aT 1 v108 (AV.i .i64 0) h fun h109=>
aU x0 fun v111=>
aC 3 v111 fun v112=>
aT 1 v112 (AV.i .i64 0) h109 fun h113=>
Q (AV.tu [(AV.i .i64 0),(AV.b false),(AV.i .i64 2)]) h113))))
theorem Y11.i0 {Q x0 x7 x8 h} (H:Y11.t0 Q x0 x7 x8 h (Y11.J Q)):Y11.p0 Q x0 x7 x8 h:=gH Y11.J Tryd.f100 Y11.dist [1,1,1,1,1,0,1,0] H
def Y11.t (Q:AV→aA→Prop) (x0:AV) (x1:Int) (h:aA) (J:JT):Prop:=
d7 prog .eql 123 x0 (AV.p none) fun v1=>
asB v1 fun c2=>
(bif c2 then
(Q (AV.tu [(AV.i .i64 0),(AV.b false),(AV.i .i64 6)]) h)
else
(aU x0 fun v6=>
aC 2 v6 fun v7=>
aD v7 h fun v8=>
asI .i64 v8 fun n9=>
aJ (IntKind.wrap .i64 (n9+1)) fun n10=>
aU x0 fun v11=>
aC 2 v11 fun v12=>
aT 1 v12 (AV.i .i64 n10) h fun h13=>
aU x0 fun v15=>
aC 3 v15 fun v16=>
aD v16 h13 fun v17=>
asI .i64 v17 fun n18=>
aJ (IntKind.wrap .i64 (2 * n18)) fun n19=>
aJ (IntKind.wrap .i64 (n19+(bN .and .i64 x1 1))) fun n20=>
aU x0 fun v21=>
aC 3 v21 fun v22=>
aT 1 v22 (AV.i .i64 n20) h13 fun h23=>
J 1 [(0,x0),(7,(AV.b false)),(8,(AV.i .i64 0))] h23))
theorem Y11.call {K x0 x1 h} (H:Y11.t (aH h K) x0 x1 h (Y11.J (aH h K))):C Y11.id [x0,(AV.i .i64 x1)] h K:=
 gC Y11.J Tryd.func100 Y11.dist H
noncomputable def Y18.body:Code:=(Tryd.f101.body).getD .skip
def Y18.ann:Ann:=(sl [0] (sl [0,3] (sq [3] (sl [0,3,4] (.one (.loop 1 [0,3,4] (sq [0,3,4] (sl [0,3,4,8] bl) (.seq 2 [0,3,4] (.one (sl [0,3,4,15] bl)) lf))))) (sl [2] lf))))
theorem Y18.dist:aI (places Y18.ann Y18.body)=true:=by kernel_rfl
noncomputable def Y18.J (Q:AV→aA→Prop):JT:=bJ prog C Tryd.f101 Y18.ann Y18.body Q
def Y18.p1 (Q:AV→aA→Prop) (x0:AV) (x3 x4:Int) (h:aA):Prop:=Y18.J Q 2 [(0,x0),(3,(AV.i .i64 x3)),(4,(AV.i .i64 x4))] h
def Y18.p0 (Q:AV→aA→Prop) (x0:AV) (x3 x4:Int) (h:aA):Prop:=Y18.J Q 1 [(0,x0),(3,(AV.i .i64 x3)),(4,(AV.i .i64 x4))] h
def Y18.t1 (Q:AV→aA→Prop) (x0:AV) (x3 x4:Int) (h:aA) (J:JT):Prop:=
aJ (IntKind.wrap .i64 (x4+1)) fun n14=>
J 1 [(0,x0),(3,(AV.i .i64 x3)),(4,(AV.i .i64 n14))] h
theorem Y18.i1 {Q x0 x3 x4 h} (H:Y18.t1 Q x0 x3 x4 h (Y18.J Q)):Y18.p1 Q x0 x3 x4 h:=gR Y18.J Tryd.f101 Y18.dist [1,1,0,1,0,0,1,1] H
def Y18.t0 (Q:AV→aA→Prop) (x0:AV) (x3 x4:Int) (h:aA) (J:JT):Prop:=
bK x0 fun n3=>
(bif (decide ((x4:Int)<n3)) then
(aP 1 x0 (AV.i .i64 x4) h fun v7=>
aD v7 h fun v8=>
asI .i64 v8 fun n9=>
(bif (decide ((0:Int)<n9)) then
(aJ (IntKind.wrap .i64 (x3+1)) fun n11=>
J 2 [(0,x0),(3,(AV.i .i64 n11)),(4,(AV.i .i64 x4))] h)
else
(J 2 [(0,x0),(3,(AV.i .i64 x3)),(4,(AV.i .i64 x4))] h)))
else
(Q (AV.i .i64 x3) h))
theorem Y18.i0 {Q x0 x3 x4 h} (H:Y18.t0 Q x0 x3 x4 h (Y18.J Q)):Y18.p0 Q x0 x3 x4 h:=gH Y18.J Tryd.f101 Y18.dist [1,1,0,1,0] H
def Y18.t (Q:AV→aA→Prop) (x0:AV) (h:aA) (J:JT):Prop:=
J 1 [(0,x0),(3,(AV.i .i64 0)),(4,(AV.i .i64 0))] h
theorem Y18.call {K x0 h} (H:Y18.t (aH h K) x0 h (Y18.J (aH h K))):C Y18.id [x0] h K:=
 gC Y18.J Tryd.func101 Y18.dist H
noncomputable def Y85.body:Code:=(Tryd.f104.body).getD .skip
def Y85.ann:Ann:=(sl [0,1] (sl [0,1,6] (sl [0,1,6,7] (sl [0,1,6,7,8] (sl [0,1,6,7,8,9] (sl [0,1,6,7,8,9,10] (sl [0,1,6,7,9,11] (sl [0,1,6,7,9,11,12] (sl [0,1,6,7,9,12,13] (sl [0,1,7,9,12,13] (sl [0,1,4] (sl [4,5] lf))))))))))))
theorem Y85.dist:aI (places Y85.ann Y85.body)=true:=by kernel_rfl
noncomputable def Y85.J (Q:AV→aA→Prop):JT:=bJ prog C Tryd.f104 Y85.ann Y85.body Q
def Y85.t (Q:AV→aA→Prop) (x0 x1:Int) (h:aA) (J:JT):Prop:=
aJ (bN .and .u64 x0 4294967295) fun n1=>
kU .u64 x0 32 fun n3=>
aJ (bN .and .u64 x1 4294967295) fun n5=>
kU .u64 x1 32 fun n7=>
aJ (IntKind.wrap .u64 (n1 * n5)) fun n9=>
aJ (IntKind.wrap .u64 (n3 * n5)) fun n11=>
kU .u64 n9 32 fun n12=>
aJ (IntKind.wrap .u64 (n11+n12)) fun n13=>
aJ (bN .and .u64 n13 4294967295) fun n15=>
kU .u64 n13 32 fun n17=>
aJ (IntKind.wrap .u64 (n1 * n7)) fun n19=>
aJ (IntKind.wrap .u64 (n15+n19)) fun n20=>
aJ (IntKind.wrap .u64 (n3 * n7)) fun n22=>
aJ (IntKind.wrap .u64 (n22+n17)) fun n23=>
kU .u64 n20 32 fun n24=>
aJ (IntKind.wrap .u64 (n23+n24)) fun n25=>
aJ (IntKind.wrap .u64 (x0 * x1)) fun n27=>
Q (AV.tu [(AV.i .u64 n25),(AV.i .u64 n27)]) h
theorem Y85.call {K x0 x1 h} (H:Y85.t (aH h K) x0 x1 h (Y85.J (aH h K))):C Y85.id [(AV.i .u64 x0),(AV.i .u64 x1)] h K:=
 gC Y85.J Tryd.func104 Y85.dist H
noncomputable def Y36.body:Code:=(Tryd.f105.body).getD .skip
def Y36.ann:Ann:=(sl [0,1,3] (.one (.loop 1 [0,1,3] (sq [0,1,3] (sl [0,1,3,8] bl) (sq [0,1,3] (.one (sl [0,1,3,18] bl)) lf)))))
theorem Y36.dist:aI (places Y36.ann Y36.body)=true:=by kernel_rfl
noncomputable def Y36.J (Q:AV→aA→Prop):JT:=bJ prog C Tryd.f105 Y36.ann Y36.body Q
def Y36.p0 (Q:AV→aA→Prop) (x0 x1:AV) (x3:Int) (h:aA):Prop:=Y36.J Q 1 [(0,x0),(1,x1),(3,(AV.i .i64 x3))] h
def Y36.t0 (Q:AV→aA→Prop) (x0 x1:AV) (x3:Int) (h:aA) (J:JT):Prop:=
(bif (decide ((0:Int)≤x3)) then
(aD x1 h fun v6=>
aP 1 v6 (AV.i .i64 x3) h fun v7=>
aD v7 h fun v8=>
asI .i64 v8 fun n9=>
bX C x0 [(AV.i .i64 x3),(AV.i .i64 n9)] h fun v10 h11=>
asB v10 fun c12=>
(bif (!c12) then
(Q (AV.tu []) h11)
else
(aJ (IntKind.wrap .i64 (x3 - 1)) fun n15=>
J 1 [(0,x0),(1,x1),(3,(AV.i .i64 n15))] h11)))
else
(Q (AV.tu []) h))
theorem Y36.i0 {Q x0 x1 x3 h} (H:Y36.t0 Q x0 x1 x3 h (Y36.J Q)):Y36.p0 Q x0 x1 x3 h:=gH Y36.J Tryd.f105 Y36.dist [1,0] H
def Y36.t (Q:AV→aA→Prop) (x0 x1:AV) (h:aA) (J:JT):Prop:=
aD x1 h fun v0=>
bK v0 fun n1=>
aJ (IntKind.wrap .i64 (n1 - 1)) fun n2=>
J 1 [(0,x0),(1,x1),(3,(AV.i .i64 n2))] h
theorem Y36.call {K x0 x1 h} (H:Y36.t (aH h K) x0 x1 h (Y36.J (aH h K))):C Y36.id [x0,x1] h K:=
 gC Y36.J Tryd.func105 Y36.dist H
noncomputable def Y78.body:Code:=(Tryd.f106.body).getD .skip
def Y78.ann:Ann:=(sl [0,1,2] (sq [1,2] (sl [1,2,5] (sl [1,2,5,11] (.br (sl [4] lf) lf))) (sl [4] lf)))
theorem Y78.dist:aI (places Y78.ann Y78.body)=true:=by kernel_rfl
noncomputable def Y78.J (Q:AV→aA→Prop):JT:=bJ prog C Tryd.f106 Y78.ann Y78.body Q
def Y78.t (Q:AV→aA→Prop) (x0:Int) (x1 x2:AV) (h:aA) (J:JT):Prop:=
aD x1 h fun v1=>
C Y26.id [v1,(AV.i .u8 (IntKind.wrap .u8 x0))] h fun v2 h3=>
asI .i64 v2 fun n4=>
(bif (!decide ((n4:Int)=0)) then
(Q (AV.i .i64 n4) h3)
else
(aD x1 h3 fun v9=>
aD x2 h3 fun v10=>
asI .i64 v10 fun n11=>
aJ (IntKind.wrap .i64 (n11 - 1)) fun n12=>
C Y58.id [v9,(AV.i .i64 n12)] h3 fun v13 h14=>
asI .i64 v13 fun n15=>
Q (AV.i .i64 n15) h14))
theorem Y78.call {K x0 x1 x2 h} (H:Y78.t (aH h K) x0 x1 x2 h (Y78.J (aH h K))):C Y78.id [(AV.i .i64 x0),x1,x2] h K:=
 gC Y78.J Tryd.func106 Y78.dist H
noncomputable def Y26.body:Code:=(Tryd.f107.body).getD .skip
def Y26.ann:Ann:=(sl [0,1] (sq [0,1] (.seq 1 [0,1,32] (.ord (nn 0 28 .done)) (.br (sl [4] lf) lf)) (sl [0,1] (sl [0,1] (.seq 2 [0,1] (sl [0,1,55] bl) (sl [] (sl [4] lf)))))))
theorem Y26.dist:aI (places Y26.ann Y26.body)=true:=by kernel_rfl
noncomputable def Y26.J (Q:AV→aA→Prop):JT:=bJ prog C Tryd.f107 Y26.ann Y26.body Q
def Y26.p0 (Q:AV→aA→Prop) (x0:AV) (x1:Int) (x32:Bool) (h:aA):Prop:=Y26.J Q 1 [(0,x0),(1,(AV.i .u8 x1)),(32,(AV.b x32))] h
def Y26.p1 (Q:AV→aA→Prop) (x0:AV) (x1:Int) (h:aA):Prop:=Y26.J Q 2 [(0,x0),(1,(AV.i .u8 x1))] h
def Y26.t0 (Q:AV→aA→Prop) (x0:AV) (x1:Int) (x32:Bool) (h:aA) (J:JT):Prop:=
(bif x32 then
(Q (AV.i .i64 16) h)
else
(aU x0 fun v29=>
aC 3 v29 fun v30=>
aD v30 h fun v31=>
asI .i64 v31 fun n32=>
aJ (IntKind.wrap .i64 (n32+1)) fun n33=>
aU x0 fun v34=>
aC 3 v34 fun v35=>
aT 1 v35 (AV.i .i64 n33) h fun h36=>
aU x0 fun v38=>
aC 4 v38 fun v39=>
aD v39 h36 fun v40=>
bM 1 1 [(AV.i .u8 0)] [(0,1,(AV.i .u8 x1))] h36 fun v41 h42=>
bV (some 5) 1 1 v40 v41 h42 fun v43 h44=>
aU x0 fun v45=>
aC 4 v45 fun v46=>
aT 1 v46 v43 h44 fun h47=>
aU x0 fun v49=>
aC 2 v49 fun v50=>
aD v50 h47 fun v51=>
bK v51 fun n52=>
(bif (decide ((65536:Int)≤n52)) then
(aU x0 fun v54=>
aC 2 v54 fun v55=>
aD v55 h47 fun v56=>
bH 1 v56 (some (AV.i .i64 32768)) none none h47 fun v57=>
C Y87.id [v57] h47 fun v58 h59=>
aU x0 fun v60=>
aC 2 v60 fun v61=>
aT 1 v61 v58 h59 fun h62=>
J 2 [(0,x0),(1,(AV.i .u8 x1))] h62)
else
(J 2 [(0,x0),(1,(AV.i .u8 x1))] h47))))
theorem Y26.i0 {Q x0 x1 x32 h} (H:Y26.t0 Q x0 x1 x32 h (Y26.J Q)):Y26.p0 Q x0 x1 x32 h:=gR Y26.J Tryd.f107 Y26.dist [1,0,1] H
def Y26.t1 (Q:AV→aA→Prop) (x0:AV) (x1:Int) (h:aA) (J:JT):Prop:=
aU x0 fun v65=>
aC 2 v65 fun v66=>
aD v66 h fun v67=>
bM 1 1 [(AV.i .u8 0)] [(0,1,(AV.i .u8 x1))] h fun v68 h69=>
bV (some 5) 1 1 v67 v68 h69 fun v70 h71=>
aU x0 fun v72=>
aC 2 v72 fun v73=>
aT 1 v73 v70 h71 fun h74=>
Q (AV.i .i64 0) h74
theorem Y26.i1 {Q x0 x1 h} (H:Y26.t1 Q x0 x1 h (Y26.J Q)):Y26.p1 Q x0 x1 h:=gR Y26.J Tryd.f107 Y26.dist [1,1,1,1,1] H
def Y26.t (Q:AV→aA→Prop) (x0:AV) (x1:Int) (h:aA) (J:JT):Prop:=
aU x0 fun v1=>
aC 3 v1 fun v2=>
aD v2 h fun v3=>
asI .i64 v3 fun n4=>
aU x0 fun v5=>
aC 0 v5 fun v6=>
aC 0 v6 fun v7=>
aD v7 h fun v8=>
asI .i64 v8 fun n9=>
(bif (decide ((n9:Int)≤n4)) then
(J 1 [(0,x0),(1,(AV.i .u8 x1)),(32,(AV.b true))] h)
else
(aU x0 fun v11=>
aC 3 v11 fun v12=>
aD v12 h fun v13=>
asI .i64 v13 fun n14=>
aU x0 fun v15=>
aC 0 v15 fun v16=>
aC 1 v16 fun v17=>
aD v17 h fun v18=>
asI .i64 v18 fun n19=>
aU x0 fun v20=>
aC 5 v20 fun v21=>
aD v21 h fun v22=>
asI .i64 v22 fun n23=>
aJ (IntKind.wrap .i64 (n19 * n23)) fun n24=>
aJ (IntKind.wrap .i64 (n24+1024)) fun n25=>
J 1 [(0,x0),(1,(AV.i .u8 x1)),(32,(AV.b (decide ((n25:Int)≤n14))))] h))
theorem Y26.call {K x0 x1 h} (H:Y26.t (aH h K) x0 x1 h (Y26.J (aH h K))):C Y26.id [x0,(AV.i .u8 x1)] h K:=
 gC Y26.J Tryd.func107 Y26.dist H
noncomputable def Y13.body:Code:=(Tryd.f108.body).getD .skip
def Y13.ann:Ann:=(sl [0] (sq [0] (sl [0,4] (sl [0,4,12] (.br (sl [2,3] lf) lf))) (sl [0,5] (sq [5] (sl [0,5,6] (.one (.loop 1 [0,5,6] (sq [0,5,6] (sl [0,5,6,19] bl) (sq [0,5,6] (.one (sq [0,5,6] (.ord (nn 0 10 (.eff 10 .done .stop))) (sl [0,5,6,32,33,34] (.one (.loop 2 [0,5,6,32,33,34] (sl [0,5,6,32,33,34,35] (sq [0,5,6,32,33,34] bl (.seq 3 [0,5,6,32,33,34] (.one (sl [0,5,6,7,8,32,33,34] (sl [0,5,6,7,32,33,34,41] (.br (sl [0,5,6,32,33,34] lf) lf)))) lf)))))))) lf))))) (sl [2,3] lf)))))
theorem Y13.dist:aI (places Y13.ann Y13.body)=true:=by kernel_rfl
noncomputable def Y13.J (Q:AV→aA→Prop):JT:=bJ prog C Tryd.f108 Y13.ann Y13.body Q
def Y13.p2 (Q:AV→aA→Prop) (x0 x5:AV) (x6:Int) (x32:AV) (x33 x34:Int) (h:aA):Prop:=Y13.J Q 3 [(0,x0),(5,x5),(6,(AV.i .i64 x6)),(32,x32),(33,(AV.i .i64 x33)),(34,(AV.i .i64 x34))] h
def Y13.p1 (Q:AV→aA→Prop) (x0 x5:AV) (x6:Int) (x32:AV) (x33 x34:Int) (h:aA):Prop:=Y13.J Q 2 [(0,x0),(5,x5),(6,(AV.i .i64 x6)),(32,x32),(33,(AV.i .i64 x33)),(34,(AV.i .i64 x34))] h
def Y13.p0 (Q:AV→aA→Prop) (x0 x5:AV) (x6:Int) (h:aA):Prop:=Y13.J Q 1 [(0,x0),(5,x5),(6,(AV.i .i64 x6))] h
def Y13.t2 (Q:AV→aA→Prop) (x0 x5:AV) (x6:Int) (x32:AV) (x33 x34:Int) (h:aA) (J:JT):Prop:=
aJ (IntKind.wrap .i64 (x34+1)) fun n53=>
J 2 [(0,x0),(5,x5),(6,(AV.i .i64 x6)),(32,x32),(33,(AV.i .i64 x33)),(34,(AV.i .i64 n53))] h
theorem Y13.i2 {Q x0 x5 x6 x32 x33 x34 h} (H:Y13.t2 Q x0 x5 x6 x32 x33 x34 h (Y13.J Q)):Y13.p2 Q x0 x5 x6 x32 x33 x34 h:=gR Y13.J Tryd.f108 Y13.dist [1,1,1,0,1,0,0,1,0,0,1,1,0,0,1,1,1] H
def Y13.t1 (Q:AV→aA→Prop) (x0 x5:AV) (x6:Int) (x32:AV) (x33 x34:Int) (h:aA) (J:JT):Prop:=
(bif (decide ((x34:Int)<x33)) then
(aP 1 x32 (AV.i .i64 x34) h fun v32=>
aD v32 h fun v33=>
asI .i64 v33 fun n34=>
(bif (decide ((n34:Int)=x6)) then
(aU x5 fun v37=>
aC 32 v37 fun v38=>
aD v38 h fun v39=>
bM 1 1 [(AV.i .i64 0)] [(0,1,(AV.i .i64 x34))] h fun v40 h41=>
bV none 1 8 v39 v40 h41 fun v42 h43=>
aU x5 fun v44=>
aC 32 v44 fun v45=>
aT 1 v45 v42 h43 fun h46=>
aU x5 fun v48=>
aC 49 v48 fun v49=>
aT 1 v49 (AV.i .i64 x6) h46 fun h50=>
J 3 [(0,x0),(5,x5),(6,(AV.i .i64 x6)),(32,x32),(33,(AV.i .i64 x33)),(34,(AV.i .i64 x34))] h50)
else
(J 3 [(0,x0),(5,x5),(6,(AV.i .i64 x6)),(32,x32),(33,(AV.i .i64 x33)),(34,(AV.i .i64 x34))] h)))
else
(aJ (IntKind.wrap .i64 (x6+1)) fun n55=>
J 1 [(0,x0),(5,x5),(6,(AV.i .i64 n55))] h))
theorem Y13.i1 {Q x0 x5 x6 x32 x33 x34 h} (H:Y13.t1 Q x0 x5 x6 x32 x33 x34 h (Y13.J Q)):Y13.p1 Q x0 x5 x6 x32 x33 x34 h:=gH Y13.J Tryd.f108 Y13.dist [1,1,1,0,1,0,0,1,0,0,1,1,0] H
def Y13.t0 (Q:AV→aA→Prop) (x0 x5:AV) (x6:Int) (h:aA) (J:JT):Prop:=
(bif (decide ((x6:Int)≤15)) then
(aU x5 fun v18=>
aC 32 v18 fun v19=>
aD v19 h fun v20=>
bK v20 fun n21=>
aU x5 fun v22=>
aC 33 v22 fun v23=>
bL 16 1 v23 (AV.i .i64 x6) fun v24=>
aT 1 v24 (AV.i .i64 n21) h fun h25=>
bK x0 fun n27=>
J 2 [(0,x0),(5,x5),(6,(AV.i .i64 x6)),(32,x0),(33,(AV.i .i64 n27)),(34,(AV.i .i64 0))] h25)
else
(Q (AV.tu [x5,(AV.i .i64 0)]) h))
theorem Y13.i0 {Q x0 x5 x6 h} (H:Y13.t0 Q x0 x5 x6 h (Y13.J Q)):Y13.p0 Q x0 x5 x6 h:=gH Y13.J Tryd.f108 Y13.dist [1,1,1,0,1,0] H
def Y13.t (Q:AV→aA→Prop) (x0:AV) (h:aA) (J:JT):Prop:=
C Y10.id [x0] h fun v1 h2=>
asI .i64 v1 fun n3=>
(bif (!decide ((n3:Int)=0)) then
(Q (AV.tu [(AV.p none),(AV.i .i64 n3)]) h2)
else
(C Y15.id [x0] h2 fun v8 h9=>
gQ [(AV.i .i64 0),(AV.i .i64 0),(AV.i .i64 0),(AV.i .i64 0),(AV.i .i64 0),(AV.i .i64 0),(AV.i .i64 0),(AV.i .i64 0),(AV.i .i64 0),(AV.i .i64 0),(AV.i .i64 0),(AV.i .i64 0),(AV.i .i64 0),(AV.i .i64 0),(AV.i .i64 0),(AV.i .i64 0),(AV.i .i64 0),(AV.i .i64 0),(AV.i .i64 0),(AV.i .i64 0),(AV.i .i64 0),(AV.i .i64 0),(AV.i .i64 0),(AV.i .i64 0),(AV.i .i64 0),(AV.i .i64 0),(AV.i .i64 0),(AV.i .i64 0),(AV.i .i64 0),(AV.i .i64 0),(AV.i .i64 0),(AV.i .i64 0),(AV.sl none 0 none),(AV.i .i64 0),(AV.i .i64 0),(AV.i .i64 0),(AV.i .i64 0),(AV.i .i64 0),(AV.i .i64 0),(AV.i .i64 0),(AV.i .i64 0),(AV.i .i64 0),(AV.i .i64 0),(AV.i .i64 0),(AV.i .i64 0),(AV.i .i64 0),(AV.i .i64 0),(AV.i .i64 0),(AV.i .i64 0),(AV.i .i64 0),(AV.i .i64 0),(AV.i .i64 0)] [(0,32,v8)] fun v10=>
cZ (some 136) v10 h9 fun v11 h12=>
J 1 [(0,x0),(5,v11),(6,(AV.i .i64 1))] h12))
theorem Y13.call {K x0 h} (H:Y13.t (aH h K) x0 h (Y13.J (aH h K))):C Y13.id [x0] h K:=
 gC Y13.J Tryd.func108 Y13.dist H
noncomputable def Y50.body:Code:=(Tryd.f109.body).getD .skip
def Y50.ann:Ann:=(sl [3,4,5] (sl [6] lf))
theorem Y50.dist:aI (places Y50.ann Y50.body)=true:=by kernel_rfl
noncomputable def Y50.J (Q:AV→aA→Prop):JT:=bJ prog C Tryd.f109 Y50.ann Y50.body Q
def Y50.t (Q:AV→aA→Prop) (x0 x1 x2:AV) (h:aA) (J:JT):Prop:=
cZ none x0 h fun v0 h1=>
cZ none x1 h1 fun v2 h3=>
cZ none x2 h3 fun v4 h5=>
aD v0 h5 fun v7=>
aD v2 h5 fun v8=>
C Y49.id [v7,v8,(AV.fn (.func Y82.id) [] [v0,v2,v4])] h5 fun v9 h10=>
asI .i64 v9 fun n11=>
Q (AV.i .i64 n11) h10
theorem Y50.call {K x0 x1 x2 h} (H:Y50.t (aH h K) x0 x1 x2 h (Y50.J (aH h K))):C Y50.id [x0,x1,x2] h K:=
 gC Y50.J Tryd.func109 Y50.dist H
noncomputable def Y47.body:Code:=(Tryd.f110.body).getD .skip
def Y47.ann:Ann:=(sl [5,6,7,8,9] (sq [5,6,7,8,9] (sl [5,6,7,8,9,17] (.br (sq [10] (.ord (nn 0 7 (.eff 7 (.neu 8 .done) .stop))) lf) lf)) (sl [5,6,7,8,9,11] (sl [10] lf))))
theorem Y47.dist:aI (places Y47.ann Y47.body)=true:=by kernel_rfl
noncomputable def Y47.J (Q:AV→aA→Prop):JT:=bJ prog C Tryd.f110 Y47.ann Y47.body Q
def Y47.t (Q:AV→aA→Prop) (x0 x1 x2:AV) (x3 x4:Int) (h:aA) (J:JT):Prop:=
cZ none x0 h fun v0 h1=>
cZ none x1 h1 fun v2 h3=>
cZ none x2 h3 fun v4 h5=>
cZ none (AV.i .i64 x3) h5 fun v6 h7=>
cZ none (AV.i .i64 x4) h7 fun v8 h9=>
aD v4 h9 fun v11=>
bK v11 fun n12=>
aD v6 h9 fun v13=>
asI .i64 v13 fun n14=>
aD v8 h9 fun v15=>
asI .i64 v15 fun n16=>
aJ (IntKind.wrap .i64 (n14+n16)) fun n17=>
(bif (decide ((n12:Int)=n17)) then
(aD v0 h9 fun v19=>
aD v4 h9 fun v20=>
aD v6 h9 fun v21=>
asI .i64 v21 fun n22=>
bH 1 v20 none (some (AV.i .i64 n22)) none h9 fun v23=>
aD v4 h9 fun v24=>
aD v6 h9 fun v25=>
asI .i64 v25 fun n26=>
bH 1 v24 (some (AV.i .i64 n26)) none none h9 fun v27=>
C Y56.id [v19,v23,v27] h9 fun v28 h29=>
asI .i64 v28 fun n30=>
Q (AV.i .i64 n30) h29)
else
(dD none [AV.nf] h9 fun v33 h34=>
aT 1 v33 (AV.fn (.func Y60.id) [] [v0,v4,v6,v8,v2]) h34 fun h35=>
aD v0 h35 fun v37=>
aD v2 h35 fun v38=>
C Y49.id [v37,v38,(AV.fn (.func Y38.id) [] [v0,v2,v4,v6,v8,v33])] h35 fun v39 h40=>
asI .i64 v39 fun n41=>
Q (AV.i .i64 n41) h40))
theorem Y47.call {K x0 x1 x2 x3 x4 h} (H:Y47.t (aH h K) x0 x1 x2 x3 x4 h (Y47.J (aH h K))):C Y47.id [x0,x1,x2,(AV.i .i64 x3),(AV.i .i64 x4)] h K:=
 gC Y47.J Tryd.func110 Y47.dist H
noncomputable def Y74.body:Code:=(Tryd.f111.body).getD .skip
def Y74.ann:Ann:=(sl [0,1,2,3,4,5,6] (sq [1,2,3,4,5,6] (.ord (nn 0 6 (.eff 6 .done .stop))) (sl [8] lf)))
theorem Y74.dist:aI (places Y74.ann Y74.body)=true:=by kernel_rfl
noncomputable def Y74.J (Q:AV→aA→Prop):JT:=bJ prog C Tryd.f111 Y74.ann Y74.body Q
def Y74.t (Q:AV→aA→Prop) (x0:Int) (x1 x2 x3 x4 x5 x6:AV) (h:aA) (J:JT):Prop:=
aD x1 h fun v1=>
aD x2 h fun v2=>
asI .i64 v2 fun n3=>
bL 19 1 (aBO h 0) (AV.i .i64 n3) fun v4=>
aD v4 h fun v5=>
asI .i64 v5 fun n6=>
aP 1 v1 (AV.i .i64 n6) h fun v7=>
aT 1 v7 (AV.i .i64 x0) h fun h8=>
aD x3 h8 fun v10=>
aD x1 h8 fun v11=>
aD x2 h8 fun v12=>
asI .i64 v12 fun n13=>
aJ (IntKind.wrap .i64 (n13+1)) fun n14=>
aD x4 h8 fun v15=>
asI .i64 v15 fun n16=>
aD x5 h8 fun v17=>
asI .i64 v17 fun n18=>
aD x6 h8 fun v19=>
asI .i64 v19 fun n20=>
C Y61.id [v10,v11,(AV.i .i64 n14),(AV.i .i64 n16),(AV.i .i64 n18),(AV.i .i64 n20)] h8 fun v21 h22=>
asI .i64 v21 fun n23=>
Q (AV.i .i64 n23) h22
theorem Y74.call {K x0 x1 x2 x3 x4 x5 x6 h} (H:Y74.t (aH h K) x0 x1 x2 x3 x4 x5 x6 h (Y74.J (aH h K))):C Y74.id [(AV.i .i64 x0),x1,x2,x3,x4,x5,x6] h K:=
 gC Y74.J Tryd.func111 Y74.dist H
noncomputable def Y49.body:Code:=(Tryd.f113.body).getD .skip
def Y49.ann:Ann:=(sl [0,1,2] (sl [] (sl [6] lf)))
theorem Y49.dist:aI (places Y49.ann Y49.body)=true:=by kernel_rfl
noncomputable def Y49.J (Q:AV→aA→Prop):JT:=bJ prog C Tryd.f113 Y49.ann Y49.body Q
def Y49.t (Q:AV→aA→Prop) (x0 x1 x2:AV) (h:aA) (J:JT):Prop:=
aU x0 fun v1=>
aC 14 v1 fun v2=>
aT 1 v2 x1 h fun h3=>
aU x0 fun v4=>
aC 15 v4 fun v5=>
aT 1 v5 x2 h3 fun h6=>
Q (AV.i .i64 0) h6
theorem Y49.call {K x0 x1 x2 h} (H:Y49.t (aH h K) x0 x1 x2 h (Y49.J (aH h K))):C Y49.id [x0,x1,x2] h K:=
 gC Y49.J Tryd.func113 Y49.dist H
noncomputable def Y82.body:Code:=(Tryd.f114.body).getD .skip
def Y82.ann:Ann:=(sl [0,1,2,3] (sq [0,1,2,3] (.one (sl [0,1,2,3,9] (.br (sq [1,2,3] (sl [1,2,3,6] (sl [1,2,3,6,17] (.br (sl [5] lf) lf))) (sl [5] lf)) (sl [0,1,2,3,23] (.br (sl [5] lf) (sl [0,1,2,3,28] (.br (sl [5] lf) lf))))))) (sl [1,2,3,7,8] (sl [5] lf))))
theorem Y82.dist:aI (places Y82.ann Y82.body)=true:=by kernel_rfl
noncomputable def Y82.J (Q:AV→aA→Prop):JT:=bJ prog C Tryd.f114 Y82.ann Y82.body Q
def Y82.t (Q:AV→aA→Prop) (x0:Int) (x1 x2 x3:AV) (h:aA) (J:JT):Prop:=
(bif (decide ((x0:Int)<256)) then
(aD x1 h fun v2=>
C Y26.id [v2,(AV.i .u8 (IntKind.wrap .u8 x0))] h fun v3 h4=>
asI .i64 v3 fun n5=>
(bif (!decide ((n5:Int)=0)) then
(Q (AV.i .i64 n5) h4)
else
(aD x1 h4 fun v10=>
aD x2 h4 fun v11=>
aD x3 h4 fun v12=>
C Y50.id [v10,v11,v12] h4 fun v13 h14=>
asI .i64 v13 fun n15=>
Q (AV.i .i64 n15) h14)))
else
((bif (decide ((x0:Int)=256)) then
(aD x1 h fun v18=>
C Y53.id [v18] h fun v19 h20=>
asI .i64 v19 fun n21=>
Q (AV.i .i64 n21) h20)
else
((bif (decide ((285:Int)<x0)) then
(Q (AV.i .i64 2) h)
else
(C Y51.id [(AV.i .i64 x0)] h fun v26 h27=>
aL 0 v26 fun v28=>
asI .i64 v28 fun n29=>
aL 1 v26 fun v30=>
asI .i64 v30 fun n31=>
dD none [(AV.i .i64 0)] h27 fun v32 h33=>
aT 1 v32 (AV.i .i64 n29) h33 fun h34=>
aD x1 h34 fun v36=>
C Y41.id [v36,(AV.i .i64 n31),(AV.fn (.func Y68.id) [] [x1,x3,v32,x2])] h34 fun v37 h38=>
asI .i64 v37 fun n39=>
Q (AV.i .i64 n39) h38))))))
theorem Y82.call {K x0 x1 x2 x3 h} (H:Y82.t (aH h K) x0 x1 x2 x3 h (Y82.J (aH h K))):C Y82.id [(AV.i .i64 x0),x1,x2,x3] h K:=
 gC Y82.J Tryd.func114 Y82.dist H
noncomputable def Y68.body:Code:=(Tryd.f115.body).getD .skip
def Y68.ann:Ann:=(sl [1,2,3,4,5] (sl [6] lf))
theorem Y68.dist:aI (places Y68.ann Y68.body)=true:=by kernel_rfl
noncomputable def Y68.J (Q:AV→aA→Prop):JT:=bJ prog C Tryd.f115 Y68.ann Y68.body Q
def Y68.t (Q:AV→aA→Prop) (x0:Int) (x1 x2 x3 x4:AV) (h:aA) (J:JT):Prop:=
cZ none (AV.i .i64 x0) h fun v0 h1=>
aD x1 h1 fun v3=>
aD x2 h1 fun v4=>
C Y49.id [v3,v4,(AV.fn (.func Y81.id) [] [x1,x3,v0,x4,x2])] h1 fun v5 h6=>
asI .i64 v5 fun n7=>
Q (AV.i .i64 n7) h6
theorem Y68.call {K x0 x1 x2 x3 x4 h} (H:Y68.t (aH h K) x0 x1 x2 x3 x4 h (Y68.J (aH h K))):C Y68.id [(AV.i .i64 x0),x1,x2,x3,x4] h K:=
 gC Y68.J Tryd.func115 Y68.dist H
noncomputable def Y81.body:Code:=(Tryd.f116.body).getD .skip
def Y81.ann:Ann:=(sl [0,1,2,3,4,5] (sq [0,1,2,3,4,5] (sl [0,1,2,3,4,5,11] (.br (sl [7] lf) lf)) (sl [1,2,3,4,5,8,9] (sl [7] lf))))
theorem Y81.dist:aI (places Y81.ann Y81.body)=true:=by kernel_rfl
noncomputable def Y81.J (Q:AV→aA→Prop):JT:=bJ prog C Tryd.f116 Y81.ann Y81.body Q
def Y81.t (Q:AV→aA→Prop) (x0:Int) (x1 x2 x3 x4 x5:AV) (h:aA) (J:JT):Prop:=
(bif (decide ((29:Int)<x0)) then
(Q (AV.i .i64 2) h)
else
(C Y52.id [(AV.i .i64 x0)] h fun v4 h5=>
aL 0 v4 fun v6=>
asI .i64 v6 fun n7=>
aL 1 v4 fun v8=>
asI .i64 v8 fun n9=>
dD none [(AV.i .i64 0)] h5 fun v10 h11=>
aT 1 v10 (AV.i .i64 n7) h11 fun h12=>
aD x1 h12 fun v14=>
C Y41.id [v14,(AV.i .i64 n9),(AV.fn (.func Y75.id) [] [x1,x2,x3,v10,x4,x5])] h12 fun v15 h16=>
asI .i64 v15 fun n17=>
Q (AV.i .i64 n17) h16))
theorem Y81.call {K x0 x1 x2 x3 x4 x5 h} (H:Y81.t (aH h K) x0 x1 x2 x3 x4 x5 h (Y81.J (aH h K))):C Y81.id [(AV.i .i64 x0),x1,x2,x3,x4,x5] h K:=
 gC Y81.J Tryd.func116 Y81.dist H
noncomputable def Y75.body:Code:=(Tryd.f117.body).getD .skip
def Y75.ann:Ann:=(sl [0,1,2,3,4,5,6] (sq [1,5,6] (sl [1,5,6,9] (sl [1,5,6,9,19] (.br (sl [8] lf) lf))) (sl [8] lf)))
theorem Y75.dist:aI (places Y75.ann Y75.body)=true:=by kernel_rfl
noncomputable def Y75.J (Q:AV→aA→Prop):JT:=bJ prog C Tryd.f117 Y75.ann Y75.body Q
def Y75.t (Q:AV→aA→Prop) (x0:Int) (x1 x2 x3 x4 x5 x6:AV) (h:aA) (J:JT):Prop:=
aD x1 h fun v1=>
aD x2 h fun v2=>
asI .i64 v2 fun n3=>
aD x3 h fun v4=>
asI .i64 v4 fun n5=>
aJ (IntKind.wrap .i64 (n3+n5)) fun n6=>
aD x4 h fun v7=>
asI .i64 v7 fun n8=>
aJ (IntKind.wrap .i64 (n8+x0)) fun n9=>
C Y33.id [v1,(AV.i .i64 n6),(AV.i .i64 n9)] h fun v10 h11=>
asI .i64 v10 fun n12=>
(bif (!decide ((n12:Int)=0)) then
(Q (AV.i .i64 n12) h11)
else
(aD x1 h11 fun v17=>
aD x5 h11 fun v18=>
aD x6 h11 fun v19=>
C Y50.id [v17,v18,v19] h11 fun v20 h21=>
asI .i64 v20 fun n22=>
Q (AV.i .i64 n22) h21))
theorem Y75.call {K x0 x1 x2 x3 x4 x5 x6 h} (H:Y75.t (aH h K) x0 x1 x2 x3 x4 x5 x6 h (Y75.J (aH h K))):C Y75.id [(AV.i .i64 x0),x1,x2,x3,x4,x5,x6] h K:=
 gC Y75.J Tryd.func117 Y75.dist H
noncomputable def Y33.body:Code:=(Tryd.f118.body).getD .skip
def Y33.ann:Ann:=(sl [0,1,2] (sq [0,1,2] (sl [0,1,2,13] (.br (sl [6] lf) lf)) (sq [] (sl [0,2,14,15] (.one (.loop 1 [0,2,14,15] (sl [0,2,14,15,16] (sq [0,2,14,15] bl (sq [0,2,14,15] (.one (sq [0,2,7,14,15] (.ord (nn 0 14 (.eff 14 (.neu 15 .done) .stop))) (sl [0,2,7,14,15,33] (.br (sl [6] lf) lf)))) lf)))))) (sl [6] lf))))
theorem Y33.dist:aI (places Y33.ann Y33.body)=true:=by kernel_rfl
noncomputable def Y33.J (Q:AV→aA→Prop):JT:=bJ prog C Tryd.f118 Y33.ann Y33.body Q
def Y33.p0 (Q:AV→aA→Prop) (x0:AV) (x2 x14 x15:Int) (h:aA):Prop:=Y33.J Q 1 [(0,x0),(2,(AV.i .i64 x2)),(14,(AV.i .i64 x14)),(15,(AV.i .i64 x15))] h
def Y33.t0 (Q:AV→aA→Prop) (x0:AV) (x2 x14 x15:Int) (h:aA) (J:JT):Prop:=
(bif (decide ((x15:Int)<x14)) then
(aU x0 fun v12=>
aC 2 v12 fun v13=>
aD v13 h fun v14=>
aU x0 fun v15=>
aC 2 v15 fun v16=>
aD v16 h fun v17=>
bK v17 fun n18=>
aJ (IntKind.wrap .i64 (n18 - x2)) fun n19=>
aP 1 v14 (AV.i .i64 n19) h fun v20=>
aD v20 h fun v21=>
asI .u8 v21 fun n22=>
C Y26.id [x0,(AV.i .u8 n22)] h fun v23 h24=>
asI .i64 v23 fun n25=>
(bif (!decide ((n25:Int)=0)) then
(Q (AV.i .i64 n25) h24)
else
(aJ (IntKind.wrap .i64 (x15+1)) fun n30=>
J 1 [(0,x0),(2,(AV.i .i64 x2)),(14,(AV.i .i64 x14)),(15,(AV.i .i64 n30))] h24)))
else
(Q (AV.i .i64 0) h))
theorem Y33.i0 {Q x0 x2 x14 x15 h} (H:Y33.t0 Q x0 x2 x14 x15 h (Y33.J Q)):Y33.p0 Q x0 x2 x14 x15 h:=gH Y33.J Tryd.f118 Y33.dist [1,1,0,1,0] H
def Y33.t (Q:AV→aA→Prop) (x0:AV) (x1 x2:Int) (h:aA) (J:JT):Prop:=
aU x0 fun v1=>
aC 3 v1 fun v2=>
aD v2 h fun v3=>
asI .i64 v3 fun n4=>
(bif (decide ((n4:Int)<x2)) then
(Q (AV.i .i64 2) h)
else
(J 1 [(0,x0),(2,(AV.i .i64 x2)),(14,(AV.i .i64 x1)),(15,(AV.i .i64 0))] h))
theorem Y33.call {K x0 x1 x2 h} (H:Y33.t (aH h K) x0 x1 x2 h (Y33.J (aH h K))):C Y33.id [x0,(AV.i .i64 x1),(AV.i .i64 x2)] h K:=
 gC Y33.J Tryd.func118 Y33.dist H
noncomputable def Y60.body:Code:=(Tryd.f119.body).getD .skip
def Y60.ann:Ann:=(sl [0,3,4,5,6,7,9,10] (sl [11] lf))
theorem Y60.dist:aI (places Y60.ann Y60.body)=true:=by kernel_rfl
noncomputable def Y60.J (Q:AV→aA→Prop):JT:=bJ prog C Tryd.f119 Y60.ann Y60.body Q
def Y60.t (Q:AV→aA→Prop) (x0 x1 x2:Int) (x3 x4 x5 x6 x7:AV) (h:aA) (J:JT):Prop:=
cZ none (AV.i .i64 x1) h fun v0 h1=>
cZ none (AV.i .i64 x2) h1 fun v2 h3=>
aD x3 h3 fun v5=>
C Y41.id [v5,(AV.i .i64 x0),(AV.fn (.func Y80.id) [] [x4,v0,x5,x6,x3,x7,v2])] h3 fun v6 h7=>
asI .i64 v6 fun n8=>
Q (AV.i .i64 n8) h7
theorem Y60.call {K x0 x1 x2 x3 x4 x5 x6 x7 h} (H:Y60.t (aH h K) x0 x1 x2 x3 x4 x5 x6 x7 h (Y60.J (aH h K))):C Y60.id [(AV.i .i64 x0),(AV.i .i64 x1),(AV.i .i64 x2),x3,x4,x5,x6,x7] h K:=
 gC Y60.J Tryd.func119 Y60.dist H
noncomputable def Y80.body:Code:=(Tryd.f120.body).getD .skip
def Y80.ann:Ann:=(sl [0,1,2,3,4,5,6,7] (sq [0,1,2,3,4,5,6,7] (sl [0,1,2,3,4,5,6,7,19] (.br (sl [9] lf) lf)) (sq [9] (.ord (nn 0 4 (nn 5 3 (nn 10 2 (.eff 4 (.eff 8 (.eff 9 (.eff 12 (.neu 13 .done) .stop) .stop) .stop) .stop))))) lf)))
theorem Y80.dist:aI (places Y80.ann Y80.body)=true:=by kernel_rfl
noncomputable def Y80.J (Q:AV→aA→Prop):JT:=bJ prog C Tryd.f120 Y80.ann Y80.body Q
def Y80.t (Q:AV→aA→Prop) (x0:Int) (x1 x2 x3 x4 x5 x6 x7:AV) (h:aA) (J:JT):Prop:=
aD x1 h fun v1=>
bK v1 fun n2=>
aD x2 h fun v3=>
asI .i64 v3 fun n4=>
aJ (IntKind.wrap .i64 (n2+n4)) fun n5=>
aJ (IntKind.wrap .i64 (n5+x0)) fun n6=>
aD x3 h fun v7=>
asI .i64 v7 fun n8=>
aD x4 h fun v9=>
asI .i64 v9 fun n10=>
aJ (IntKind.wrap .i64 (n8+n10)) fun n11=>
(bif (decide ((n11:Int)<n6)) then
(Q (AV.i .i64 2) h)
else
(aD x5 h fun v15=>
aD x6 h fun v16=>
aD x1 h fun v17=>
aD x7 h fun v18=>
asI .i64 v18 fun n19=>
aD x2 h fun v20=>
asI .i64 v20 fun n21=>
aJ (IntKind.wrap .i64 (n21+x0)) fun n22=>
aD x3 h fun v23=>
asI .i64 v23 fun n24=>
aD x4 h fun v25=>
asI .i64 v25 fun n26=>
bM 1 1 [(AV.i .i64 0)] [(0,1,(AV.i .i64 n19))] h fun v27 h28=>
aD x4 h28 fun v29=>
asI .i64 v29 fun n30=>
((AV.i .i64 n26)=(AV.i .i64 n30) ∧
(aD x3 h28 fun v31=>
asI .i64 v31 fun n32=>
((AV.i .i64 n24)=(AV.i .i64 n32) ∧
(aD x2 h28 fun v33=>
asI .i64 v33 fun n34=>
((AV.i .i64 n21)=(AV.i .i64 n34) ∧
(aD x1 h28 fun v35=>
(v17=v35 ∧
(aD x6 h28 fun v36=>
(v16=v36 ∧
(aD x5 h28 fun v37=>
(v15=v37 ∧
(C Y27.id [v27,(AV.i .i64 n22)] h28 fun v38 h39=>
aD x4 h39 fun v40=>
asI .i64 v40 fun n41=>
((AV.i .i64 n26)=(AV.i .i64 n41) ∧
(aD x3 h39 fun v42=>
asI .i64 v42 fun n43=>
((AV.i .i64 n24)=(AV.i .i64 n43) ∧
(aD x1 h39 fun v44=>
(v17=v44 ∧
(aD x6 h39 fun v45=>
(v16=v45 ∧
(aD x5 h39 fun v46=>
(v15=v46 ∧
(bV none 1 8 v17 v38 h39 fun v47 h48=>
aD x4 h48 fun v49=>
asI .i64 v49 fun n50=>
((AV.i .i64 n26)=(AV.i .i64 n50) ∧
(aD x3 h48 fun v51=>
asI .i64 v51 fun n52=>
((AV.i .i64 n24)=(AV.i .i64 n52) ∧
(aD x6 h48 fun v53=>
(v16=v53 ∧
(aD x5 h48 fun v54=>
(v15=v54 ∧
(C Y47.id [v15,v16,v47,(AV.i .i64 n24),(AV.i .i64 n26)] h48 fun v55 h56=>
asI .i64 v55 fun n57=>
Q (AV.i .i64 n57) h56))))))))))))))))))))))))))))))))
theorem Y80.call {K x0 x1 x2 x3 x4 x5 x6 x7 h} (H:Y80.t (aH h K) x0 x1 x2 x3 x4 x5 x6 x7 h (Y80.J (aH h K))):C Y80.id [(AV.i .i64 x0),x1,x2,x3,x4,x5,x6,x7] h K:=
 gC Y80.J Tryd.func120 Y80.dist H
noncomputable def Y38.body:Code:=(Tryd.f121.body).getD .skip
def Y38.ann:Ann:=(sl [0,1,2,3,4,5,6] (sq [6] (.one (sl [0,1,2,3,4,5,6,9] (.br (sq [8] (.ord (nn 0 4 (nn 6 2 (.eff 4 (.eff 5 (.eff 8 (.neu 9 .done) .stop) .stop) .stop)))) lf) (.seq 1 [0,3,6,21] lf (.br (sl [8] lf) (sl [0,3,6,29] (.br (sq [8] (.ord (nn 0 7 (.eff 7 (.neu 8 .done) .stop))) lf) (sl [6,40] (.br (sl [8] lf) lf))))))))) (sl [8] lf)))
theorem Y38.dist:aI (places Y38.ann Y38.body)=true:=by kernel_rfl
noncomputable def Y38.J (Q:AV→aA→Prop):JT:=bJ prog C Tryd.f121 Y38.ann Y38.body Q
def Y38.p0 (Q:AV→aA→Prop) (x0:Int) (x3 x6:AV) (x21:Bool) (h:aA):Prop:=Y38.J Q 1 [(0,(AV.i .i64 x0)),(3,x3),(6,x6),(21,(AV.b x21))] h
def Y38.t0 (Q:AV→aA→Prop) (x0:Int) (x3 x6:AV) (x21:Bool) (h:aA) (J:JT):Prop:=
(bif x21 then
(Q (AV.i .i64 2) h)
else
((bif (decide ((x0:Int)=16)) then
(aD x6 h fun v36=>
aD x3 h fun v37=>
aD x3 h fun v38=>
bK v38 fun n39=>
aJ (IntKind.wrap .i64 (n39 - 1)) fun n40=>
aP 1 v37 (AV.i .i64 n40) h fun v41=>
aD v41 h fun v42=>
asI .i64 v42 fun n43=>
bX C v36 [(AV.i .i64 2),(AV.i .i64 3),(AV.i .i64 n43)] h fun v44 h45=>
asI .i64 v44 fun n46=>
Q (AV.i .i64 n46) h45)
else
((bif (decide ((x0:Int)=17)) then
(aD x6 h fun v49=>
bX C v49 [(AV.i .i64 3),(AV.i .i64 3),(AV.i .i64 0)] h fun v50 h51=>
asI .i64 v50 fun n52=>
Q (AV.i .i64 n52) h51)
else
(aD x6 h fun v55=>
bX C v55 [(AV.i .i64 7),(AV.i .i64 11),(AV.i .i64 0)] h fun v56 h57=>
asI .i64 v56 fun n58=>
Q (AV.i .i64 n58) h57))))))
theorem Y38.i0 {Q x0 x3 x6 x21 h} (H:Y38.t0 Q x0 x3 x6 x21 h (Y38.J Q)):Y38.p0 Q x0 x3 x6 x21 h:=gR Y38.J Tryd.f121 Y38.dist [1,0,0,1,1,1] H
def Y38.t (Q:AV→aA→Prop) (x0:Int) (x1 x2 x3 x4 x5 x6:AV) (h:aA) (J:JT):Prop:=
(bif (decide ((x0:Int)<16)) then
(aD x1 h fun v2=>
aD x2 h fun v3=>
aD x3 h fun v4=>
aD x4 h fun v5=>
asI .i64 v5 fun n6=>
aD x5 h fun v7=>
asI .i64 v7 fun n8=>
bM 1 1 [(AV.i .i64 0)] [(0,1,(AV.i .i64 x0))] h fun v9 h10=>
aD x5 h10 fun v11=>
asI .i64 v11 fun n12=>
((AV.i .i64 n8)=(AV.i .i64 n12) ∧
(aD x4 h10 fun v13=>
asI .i64 v13 fun n14=>
((AV.i .i64 n6)=(AV.i .i64 n14) ∧
(aD x3 h10 fun v15=>
(v4=v15 ∧
(aD x2 h10 fun v16=>
(v3=v16 ∧
(aD x1 h10 fun v17=>
(v2=v17 ∧
(bV none 1 8 v4 v9 h10 fun v18 h19=>
aD x5 h19 fun v20=>
asI .i64 v20 fun n21=>
((AV.i .i64 n8)=(AV.i .i64 n21) ∧
(aD x4 h19 fun v22=>
asI .i64 v22 fun n23=>
((AV.i .i64 n6)=(AV.i .i64 n23) ∧
(aD x2 h19 fun v24=>
(v3=v24 ∧
(aD x1 h19 fun v25=>
(v2=v25 ∧
(C Y47.id [v2,v3,v18,(AV.i .i64 n6),(AV.i .i64 n8)] h19 fun v26 h27=>
asI .i64 v26 fun n28=>
Q (AV.i .i64 n28) h27)))))))))))))))))))
else
((bif (decide ((x0:Int)=16)) then
(aD x3 h fun v30=>
bK v30 fun n31=>
J 1 [(0,(AV.i .i64 x0)),(3,x3),(6,x6),(21,(AV.b (decide ((n31:Int)=0))))] h)
else
(J 1 [(0,(AV.i .i64 x0)),(3,x3),(6,x6),(21,(AV.b false))] h))))
theorem Y38.call {K x0 x1 x2 x3 x4 x5 x6 h} (H:Y38.t (aH h K) x0 x1 x2 x3 x4 x5 x6 h (Y38.J (aH h K))):C Y38.id [(AV.i .i64 x0),x1,x2,x3,x4,x5,x6] h K:=
 gC Y38.J Tryd.func121 Y38.dist H
end Go.Proofs.YtpaphfeihpgamaaDoor
set_option linter.unusedSimpArgs false
namespace Go.GAM
variable {ty:Option TypeId}
def Ext (h0 h:aA):Prop:=h0.length≤h.length∧∀ id,id<h0.length→h[id]? = h0[id]?
theorem Ext.take {h0 h:aA} (a:Ext h0 h):h.take h0.length=h0:=by
 apply List.ext_getElem?
 intro i
 rw [List.getElem?_take]
 by_cases hi:i<h0.length
 ·rw [if_pos hi,a.2 i hi]
 ·rw [if_neg hi,List.getElem?_eq_none (Nat.le_of_not_lt hi)]
def pF:AV→Bool
 | .b _ | .i _ _ | .s _ | .p none | .sl none _ _ | .nf | .ni=>true
 | _=>false
def aCI:AV→Bool
 | .ag cs | .tu cs=>cs.all pF
 | v=>pF v
theorem qR {n:Nat} {v:AV} (h:pF v=true):pE n [] v=v∧ok1 n [] v=true:=by
 unfold pF at h
 split at h <;> first | exact ⟨rfl,rfl⟩ | cases h
theorem aBM {n:Nat} {v:AV} (h:aCI v=true):ren n [] v=v∧okR n [] v=true:=by
 have hl:∀ cs:List AV,cs.all pF=true→cs.map (pE n [])=cs∧cs.all (ok1 n [])=true:=by
  intro cs
  induction cs with
  | nil=>exact fun _=>⟨rfl,rfl⟩
  | cons c cs ih =>
   intro hc
   simp only [List.all_cons,Bool.and_eq_true] at hc
   obtain ⟨h1,h2⟩:=ih hc.2
   obtain ⟨h3,h4⟩:=qR (n:=n) hc.1
   simp [h1,h2,h3,h4]
 unfold aCI at h
 split at h
 ·rename_i cs; obtain ⟨h1,h2⟩:=hl cs h; exact ⟨by simp [ren,h1],by simpa [okR] using h2⟩
 ·rename_i cs; obtain ⟨h1,h2⟩:=hl cs h; exact ⟨by simp [ren,h1],by simpa [okR] using h2⟩
 ·rename_i h1 h2
  obtain ⟨h3,h4⟩:=qR (n:=n) h
  constructor
  ·unfold ren; split
   ·exact absurd rfl (h1 _)
   ·exact absurd rfl (h2 _)
   ·exact h3
  ·unfold okR; split
   ·exact absurd rfl (h1 _)
   ·exact absurd rfl (h2 _)
   ·exact h4
theorem iM {h0 h:aA} {K:AV→aA→Prop} {r:AV} (hp:aCI r=true) (hE:Ext h0 h) (hk:K r h0):aH h0 K r h:=by
 obtain ⟨h1,h2⟩:=aBM (n:=h0.length) hp
 refine .inr ⟨[],List.nodup_nil,h2,by simp,fun id hi=>.inl (hE.2 id hi),hE.1, ?_⟩
 rw [h1,hE.take]
 simpa using hk
theorem rZ (l:List UInt8):(l.map byteAV).all lG=true:=by
 rw [List.all_eq_true]; intro x hx; simp only [List.mem_map] at hx; obtain ⟨c,_,rfl⟩:=hx; rfl
theorem rI (c:UInt8):toByte (byteAV c)=c:=by simp [toByte,byteAV]
theorem vS (l:List UInt8):(l.map byteAV).map toByte=l:=by
 rw [List.map_map]
 have:toByte ∘ byteAV=id:=by funext c; exact rI c
 rw [this,List.map_id]
theorem bA {n:Int} (h0 : -9223372036854775808≤n) (h1:n<9223372036854775808):IntKind.wrap .i64 n=n:=by
 have e1:(2:Int) ^ 64=18446744073709551616:=by decide
 have e2:(2:Int) ^ (64 - 1)=9223372036854775808:=by decide
 simp only [IntKind.wrap,IntKind.bits,IntKind.signed,Bool.true_and,decide_eq_true_eq,e1,e2]
 split <;> omega
theorem zG {n:Int} (h0:0≤n) (h1:n<256):IntKind.wrap .u8 n=n:=by
 simp only [IntKind.wrap,IntKind.bits,IntKind.signed,Bool.false_and,Bool.false_eq_true,if_false]
 omega
theorem getD_some {α:Type} {l:List α} {i:Nat} {c d:α} (hc:l[i]? = some c):l.getD i d=c:=by
 rw [List.getD_eq_getElem?_getD,hc] <;> rfl
theorem qG {l:List UInt8} {k:IntKind} {i:Nat} {c:UInt8} {K:Int→Prop} (hc:l[i]? = some c) (hk:K (c.toNat:Int)):eY (.s l) (.i k (i:Int)) K:=by
 obtain ⟨hlt,_⟩:=List.getElem?_eq_some_iff.1 hc
 refine ⟨by omega,by simpa using hlt, ?_⟩
 rw [Int.toNat_natCast,getD_some hc]
 exact hk
theorem aAK {α:Type} {l:List α} {i:Nat} {c:α} (hc:l[i]? = some c):l.take (i+1)=l.take i++[c]:=by
 rw [List.take_add_one,hc] <;> rfl
theorem aV {c:Bool} {A B:Prop} (hc:c=true) (h:A):(bif c then A else B):=by rw [hc]; exact h
theorem aO {c:Bool} {A B:Prop} (hc:c=false) (h:B):(bif c then A else B):=by rw [hc]; exact h
theorem aG {c:Bool} {A B:Prop} (h1:c=true→A) (h2:c=false→B):(bif c then A else B):=by
 cases c
 ·exact h2 rfl
 ·exact h1 rfl
theorem aW {e n:Int} {K:Int→Prop} (h:e=n) (hk:K n):aJ e K:=by subst h; exact hk
end Go.GAM
namespace Go.GAM
section
variable {P:Program}
end
end Go.GAM
namespace Go.GAM
variable {ty:Option TypeId}
def Upd (M:Nat→Prop) (h h':aA):Prop:=h.length≤h'.length∧∀ i,i<h.length→¬ M i→h'[i]? = h[i]?
theorem Upd.refl (M:Nat→Prop) (h:aA):Upd M h h:=⟨Nat.le_refl _,fun _ _ _=>rfl⟩
theorem Upd.trans {M M':Nat→Prop} {h h1 h2:aA} (a:Upd M h h1) (b:Upd M' h1 h2) (hM:∀ i,i<h.length→M' i→M i):Upd M h h2:=
 ⟨Nat.le_trans a.1 b.1,fun i hi hn=>(b.2 i (Nat.lt_of_lt_of_le hi a.1) fun hm=>hn (hM i hi hm)).trans (a.2 i hi hn)⟩
theorem Upd.mono {M M':Nat→Prop} {h h1:aA} (a:Upd M h h1) (hM:∀ i,i<h.length→M i→M' i):Upd M' h h1:=
 ⟨a.1,fun i hi hn=>a.2 i hi fun hm=>hn (hM i hi hm)⟩
theorem Upd.app (h s:aA):Upd (fun _=>False) h (h++s):=⟨by simp,fun i hi _=>by rw [List.getElem?_append_left hi]⟩
theorem Upd.set (h:aA) (id:Nat) (b:ABlk):Upd (· = id) h (h.set id b):=⟨by simp,fun i hi hn=>by rw [List.getElem?_set_ne (fun e=>hn e.symm)]⟩
theorem aM {α:Type} {l:List α} {i:Nat} {a:α} (h:l[i]? = some a):i<l.length:=(List.getElem?_eq_some_iff.1 h).1
def bD (h:aA) (id:Nat) (cs:List AV):Prop:=∃ b:ABlk,h[id]? = some b∧b.cells=cs∧b.floor≤cs.length∧b.ro=false
theorem bD.lt {h:aA} {id:Nat} {cs:List AV} (R:bD h id cs):id<h.length:=by obtain ⟨b,h1,_⟩:=R; exact aM h1
theorem bD.upd {M:Nat→Prop} {h h':aA} {id:Nat} {cs:List AV} (R:bD h id cs) (U:Upd M h h') (hM:¬ M id):bD h' id cs:=by
 have hl:=R.lt
 obtain ⟨b,h1,h2⟩:=R
 exact ⟨b,(U.2 id hl hM).trans h1,h2⟩
theorem g8 {a:AA} {K:AV→Prop} (hk:K (.p (some a))):aU (.p (some a)) K:=hk
theorem dB {id ver off o:Nat} {K:AV→Prop} (hk:K (.p (some ⟨id,ver,off+o⟩))):aC o (.p (some ⟨id,ver,off⟩)) K:=hk
theorem kF {k:IntKind} {a b n:Int} {K:Int→Prop} (hb:b≠0) (hn:k.wrap (a.tdiv b)=n) (hk:K n):rU k a b K:=by subst hn; exact ⟨hb,hk⟩
theorem lR {a b n:Int} {K:Int→Prop} (hb:b≠0) (hn:a.tmod b=n) (hk:K n):uN a b K:=by subst hn; exact ⟨hb,hk⟩
theorem aE {h:aA} {id n o:Nat} {cs:List AV} {v:AV} {K:AV→Prop} (R:bD h id cs) (hn:n=cs.length) (hc:cs[o]? = some v) (hk:K v):aD (.p (some ⟨id,n,o⟩)) h K:=by
 obtain ⟨b,h1,rfl,h3,h4⟩:=R
 subst hn
 have:=aM hc
 refine ⟨b,h1,⟨h3,Nat.le_refl _,this⟩, ?_⟩
 show K (b.cells.getD o .u)
 rw [getD_some hc]; exact hk
theorem aQ {h:aA} {id n o:Nat} {cs:List AV} {v:AV} {K:aA→Prop} (R:bD h id cs) (hn:n=cs.length) (ho:o<cs.length) (hv:v.parts=[v]:=by rfl) (hs:v.sizeOK=true:=by rfl) (hc:v.cellOK=true:=by rfl)
  (hk:∀ h',h'.length=h.length→Upd (· = id) h h'→bD h' id (cs.set o v)→K h'):aT 1 (.p (some ⟨id,n,o⟩)) v h K:=by
 have hl:=R.lt
 obtain ⟨b,h1,rfl,h3,h4⟩:=R
 subst hn
 refine ⟨b,h1,h4,h3,rfl,(by show o+1≤b.cells.length; omega),hs,by rw [hv] <;> rfl,by rw [hv]; simp [hc], ?_⟩
 refine hk _ (by simp) (Upd.set _ _ _) ⟨_,List.getElem?_set_self hl, ?_, ?_,h4⟩
 ·rw [hv] <;> rfl
 ·simp
theorem cF {cells:List AV} {h:aA} {K:AV→aA→Prop} (hk:∀ h',h'.length=h.length+1→Upd (fun _=>False) h h'→bD h' h.length cells→K (.p (some ⟨h.length,cells.length,0⟩)) h'):dD ty cells h K:=
 hk _ (by simp) (Upd.app _ _) ⟨bC cells 1 true ty,by simp,rfl,Nat.le_refl _,rfl⟩
theorem bQ {x:AV} {h:aA} {K:AV→aA→Prop} (hs:x.sizeOK=true:=by rfl) (hk:∀ h',h'.length=h.length+1→Upd (fun _=>False) h h'→bD h' h.length x.parts→K (.p (some ⟨h.length,x.parts.length,0⟩)) h'):cZ ty x h K:=
 ⟨hs,hk _ (by simp) (Upd.app _ _) ⟨bC x.parts 1 true ty,by simp,rfl,Nat.le_refl _,rfl⟩⟩
theorem aB {n:Int} {K:Int→Prop} (hk:K n):asI .i64 (.i .i64 n) K:=hk
theorem lJ {k:IntKind} {n:Int} {K:Int→Prop} (hk:K n):asI k (.i k n) K:=by cases k <;> exact hk
theorem aY {n:Bool} {K:Bool→Prop} (hk:K n):asB (.b n) K:=hk
theorem b9 {n:List UInt8} {K:List UInt8→Prop} (hk:K n):asS (.s n) K:=hk
theorem pH {a:Option AA} {n:Nat} {c:Option Nat} {K:Int→Prop} (hk:K n):bK (.sl a n c) K:=hk
theorem aCN:∀ (ws pre cs:List AV),ws.length=cs.length→wr (pre++cs) pre.length ws=pre++ws
 | [], pre, cs, h => by
  have:cs=[]:=List.eq_nil_of_length_eq_zero (by simpa using h.symm)
  subst this; simp [wr]
 | w :: ws,pre,[],h=>by simp at h
 | w :: ws, pre, c :: cs, h => by
  simp only [wr]
  have e:(pre++c :: cs).set pre.length w=(pre++[w])++cs:=by simp
  rw [e]
  have:=aCN ws (pre++[w]) cs (by simpa using h)
  simpa using this
theorem e7 {h:aA} {id n:Nat} {cs:List AV} {K:AV→Prop} (R:bD h id cs) (hn:n=cs.length) (hk:K (.ag cs)):dG n (.p (some ⟨id,n,0⟩)) h K:=by
 obtain ⟨b,h1,rfl,h3,h4⟩:=R
 subst hn
 refine ⟨b,h1,⟨h3,Nat.le_refl _,by simp⟩, ?_⟩
 simpa using hk
theorem hH {h:aA} {id n:Nat} {cs ws:List AV} {K:aA→Prop} (R:bD h id cs) (hn:n=cs.length) (hw:ws.length=n) (hc:ws.all AV.cellOK=true)
  (hk:∀ h',h'.length=h.length→Upd (· = id) h h'→bD h' id ws→K h'):aT n (.p (some ⟨id,n,0⟩)) (.ag ws) h K:=by
 have hl:=R.lt
 obtain ⟨b,h1,rfl,h3,h4⟩:=R
 subst hn
 refine ⟨b,h1,h4,h3,rfl,(by show 0+b.cells.length≤b.cells.length; omega),rfl,hw,hc, ?_⟩
 refine hk _ (by simp) (Upd.set _ _ _) ⟨_,List.getElem?_set_self hl, ?_, ?_,h4⟩
 ·exact aCN ws [] b.cells hw
 ·rw [hw]; exact Nat.le_refl _
def aN (v:AV) (id:Nat):Prop:=match v with
 | .sl (some a) _ _=>a.id=id
 | _=>False
def Rd (sz:Nat) (h:aA) (v:AV) (cs:List AV) (len:Nat):Prop:=
 (v = .sl none 0 none∧len=0∧cs=[])∨∃ id ver off cap b,v = .sl (some ⟨id,ver,off⟩) len cap∧h[id]? = some b∧(b.sz=sz∨b.sz=1)∧b.floor≤ver∧ver≤b.cells.length∧off+len * sz≤ver∧(b.cells.drop off).take (len * sz)=cs
theorem Rd.upd {sz:Nat} {M:Nat→Prop} {h h':aA} {v:AV} {cs:List AV} {len:Nat} (R:Rd sz h v cs len) (U:Upd M h h') (hM:∀ id,aN v id→¬ M id):Rd sz h' v cs len:=by
 rcases R with h1 | ⟨id,ver,off,cap,b,rfl,h2,h3⟩
 ·exact .inl h1
 ·exact .inr ⟨id,ver,off,cap,b,rfl,(U.2 id (aM h2) (hM id rfl)).trans h2,h3⟩
theorem Rd.lt {sz:Nat} {h:aA} {v:AV} {cs:List AV} {len:Nat} (R:Rd sz h v cs len) {id:Nat} (hs:aN v id):id<h.length:=by
 rcases R with ⟨rfl,_⟩ | ⟨id',ver,off,cap,b,rfl,h2,h3⟩
 ·exact hs.elim
 ·cases hs; exact aM h2
theorem Rd.length {sz:Nat} {h:aA} {v:AV} {cs:List AV} {len:Nat} (R:Rd sz h v cs len):cs.length=len * sz:=by
 rcases R with ⟨_,rfl,rfl⟩ | ⟨id,ver,off,cap,b,rfl,h2,h3,h4,h5,h6,rfl⟩
 ·simp
 ·simp; omega
theorem Rd.sl {sz:Nat} {h:aA} {v:AV} {cs:List AV} {len:Nat} (R:Rd sz h v cs len) {K:List AV→Prop} (hk:K cs):eF sz v h K:=by
 rcases R with ⟨rfl,rfl,rfl⟩ | ⟨id,ver,off,cap,b,rfl,h2,h3,h4,h5,h6,rfl⟩
 ·exact hk
 ·exact .inr ⟨b,h2,⟨h4,h5,h6⟩,hk⟩
theorem Rd.len {sz:Nat} {h:aA} {v:AV} {cs:List AV} {len:Nat} (R:Rd sz h v cs len) {K:Int→Prop} (hk:K len):bK v K:=by
 rcases R with ⟨rfl,rfl,rfl⟩ | ⟨id,ver,off,cap,b,rfl,h2⟩ <;> exact hk
theorem Rd.news {sz:Nat} {h:aA} {v:AV} {cs:List AV} {len:Nat} (R:Rd sz h v cs len) {K:List AV→Nat→Prop} (hk:K cs len):eH sz v h K:=by
 rcases R with ⟨rfl,rfl,rfl⟩ | ⟨id,ver,off,cap,b,rfl,h2,h3,h4,h5,h6,rfl⟩
 ·exact hk
 ·exact .inr ⟨b,h2,⟨h4,h5,h6⟩,hk⟩
theorem Rd.idx {sz:Nat} {h:aA} {v:AV} {cs:List AV} {len:Nat} (R:Rd sz h v cs len) {k:IntKind} {i:Int} (h0:0≤i) (h1:i<len) {K:AV→Prop}
  (hk:∀ id ver off,(∃ b:ABlk,h[id]? = some b∧b.floor≤ver∧ver≤b.cells.length∧off+sz≤ver∧(b.cells.drop off).take sz=(cs.drop (i.toNat * sz)).take sz)→K (.p (some ⟨id,ver,off⟩))):aP sz v (.i k i) h K:=by
 rcases R with ⟨rfl,rfl,rfl⟩ | ⟨id,ver,off,cap,b,rfl,h2,h3,h4,h5,h6,rfl⟩
 ·omega
 ·refine ⟨h0, h1, ⟨b, h2, h4, by omega⟩, hk _ _ _ ⟨b, h2, h4, h5, ?_, ?_⟩⟩
  ·have : (i.toNat + 1) * sz ≤ len * sz := Nat.mul_le_mul_right _ (by omega)
   rw [Nat.add_mul] at this; simp only; omega
  ·have : (i.toNat + 1) * sz ≤ len * sz := Nat.mul_le_mul_right _ (by omega)
   rw [Nat.add_mul] at this
   rw [List.drop_take,List.drop_drop,List.take_take,Nat.min_eq_left (by omega)]
structure aGG (sz:Nat) (h:aA) (id ver off:Nat) (b:ABlk) (cs:List AV) (len:Nat):Prop where
 blk:h[id]? = some b
 siz:b.sz=sz∨b.sz=1
 flo:b.floor≤ver
 vle:ver≤b.cells.length
 end_:off+len * sz≤ver
 cel:(b.cells.drop off).take (len * sz)=cs
theorem aGY {sz:Nat} {h:aA} {id ver off:Nat} {b:ABlk} {cs:List AV} {len:Nat} {cap:Option Nat} {k:IntKind} {i:Nat} {K:AV→Prop} (R:aGG sz h id ver off b cs len) (hi:i<len) (hk:K (.p (some ⟨id,ver,off+i * sz⟩))) :
  aP sz (.sl (some ⟨id,ver,off⟩) len cap) (.i k (i:Int)) h K:=
 ⟨by omega,by omega,⟨b,R.1,R.3,Nat.le_trans R.3 R.4⟩,by simpa using hk⟩
theorem aER {sz:Nat} {h:aA} {id ver off:Nat} {b:ABlk} {cs:List AV} {len i o:Nat} {c:AV} {K:AV→Prop} (R:aGG sz h id ver off b cs len) (hi:i<len) (ho:o<sz) (hc:cs[i * sz+o]? = some c) (hk:K c):aD (.p (some ⟨id,ver,off+i * sz+o⟩)) h K:=by
 have h1:(i+1) * sz≤len * sz:=Nat.mul_le_mul_right _ hi
 rw [Nat.add_mul] at h1
 have h2:=R.end_
 refine ⟨b,R.1,⟨R.3,R.4,by simp only; omega⟩, ?_⟩
 have h3:=R.cel
 rw [← h3,List.getElem?_take_of_lt (by omega),List.getElem?_drop] at hc
 show K (b.cells.getD (off+i * sz+o) .u)
 rw [getD_some (show b.cells[off+i * sz+o]? = some c by rw [← hc]; congr 1; omega)]
 exact hk
def Arr (sz:Nat) (h:aA) (v:AV) (cs:List AV) (len:Nat):Prop:=
 (v = .sl none 0 none∧len=0∧cs=[])∨∃ id b,v = .sl (some ⟨id,cs.length,0⟩) len none∧h[id]? = some b∧b.cells=cs∧cs.length=len * sz∧b.sz=sz∧b.floor≤cs.length∧b.ro=false∧b.gl=false
theorem Arr.rd {sz:Nat} {h:aA} {v:AV} {cs:List AV} {len:Nat} (A:Arr sz h v cs len):Rd sz h v cs len:=by
 rcases A with h1 | ⟨id,b,rfl,h2,rfl,h4,h5,h6,h7⟩
 ·exact .inl h1
 ·refine .inr ⟨id, _, 0, none, b, rfl, h2, .inl h5, h6, Nat.le_refl _, by omega, ?_⟩
  rw [List.drop_zero, ← h4,List.take_length]
theorem Arr.upd {sz:Nat} {M:Nat→Prop} {h h':aA} {v:AV} {cs:List AV} {len:Nat} (A:Arr sz h v cs len) (U:Upd M h h') (hM:∀ id,aN v id→¬ M id):Arr sz h' v cs len:=by
 rcases A with h1 | ⟨id,b,rfl,h2,h3⟩
 ·exact .inl h1
 ·exact .inr ⟨id,b,rfl,(U.2 id (aM h2) (hM id rfl)).trans h2,h3⟩
theorem Arr.append {sz bytes : Nat} {h : aA} {v x : AV} {cs ns : List AV} {len k : Nat} (A : Arr sz h v cs len) (hz : 0 < sz) {K : AV → aA → Prop}
  (hx:∀ K:List AV→Nat→Prop,K ns k→eH sz x h K) (hns:ns.length=k * sz) (hok:ns.all AV.cellOK=true) (hlen:(len+k) * bytes≤140737488355328) (hl2:len+k≤9223372036854775807)
  (hk:∀ v' h',Upd (aN v) h h'→Arr sz h' v' (cs++ns) (len+k)→(∀ id,aN v' id→aN v id∨h.length≤id)→K v' h'):bV ty sz bytes v x h K:=by
 refine ⟨hz,hx _ ?_⟩
 rcases A with ⟨rfl,rfl,rfl⟩ | ⟨id,b,rfl,h2,rfl,h4,h5,h6,h7,h8⟩
 ·refine ⟨by simpa using hlen, by omega, ?_⟩
  split
  ·rename_i h0
   subst h0
   have:ns=[]:=List.eq_nil_of_length_eq_zero (by simpa using hns)
   subst this
   exact hk _ _ (Upd.refl _ _) (.inl ⟨rfl,rfl,rfl⟩) fun id hi=>.inl hi
  ·refine hk _ _ ((Upd.app _ _).mono fun _ _ h=>h.elim) (.inr ⟨h.length,bC ns sz false ty,by simp,by simp,rfl,by simpa using hns,rfl,Nat.le_refl _,rfl,rfl⟩) fun id hi=>.inr (by cases hi; exact Nat.le_refl _)
 ·have hid := aM h2
  refine ⟨hlen,by omega,b,h2,h5,⟨h6,Nat.le_refl _,by simp only; omega⟩, ?_⟩
  have hcells:(b.cells.drop 0).take (len * sz)=b.cells:=by rw [List.drop_zero, ← h4,List.take_length]
  by_cases ht:k=0
  ·subst ht
   have:ns=[]:=List.eq_nil_of_length_eq_zero (by simpa using hns)
   subst this
   refine .inl ⟨rfl,hk _ _ (Upd.refl _ _) ?_ fun id hi=>.inl hi⟩
   rw [List.append_nil]
   exact .inr ⟨id,b,rfl,h2,rfl,h4,h5,h6,h7,h8⟩
  ·have htp : 0 < k := Nat.pos_of_ne_zero ht
   have hmul:(len+k) * sz=len * sz+k * sz:=Nat.add_mul _ _ _
   cases hex:b.ex with
   | true =>
    have hkz:0<k * sz:=Nat.mul_pos htp hz
    refine .inr (.inl ⟨htp,.inr ⟨rfl,rfl,rfl,by simp only; omega⟩, ?_⟩)
    rw [hcells]
    refine hk _ _ ((Upd.app _ _).mono fun _ _ h=>h.elim) (.inr ⟨h.length,bC (b.cells++ns) sz false ty,rfl,by simp,rfl,by simp [bC,hns,h4,hmul],rfl,by simp [bC],rfl,rfl⟩) fun id hi=>.inr (by cases hi; exact Nat.le_refl _)
   | false =>
    refine .inr (.inr (.inr (.inl ⟨htp,h7,rfl,rfl,h4.symm,rfl,rfl,h8,hok, ?_⟩)))
    refine hk _ _ ((Upd.set _ _ _).mono fun i _ h=>h.symm) (.inr ⟨id,{ b with cells:=b.cells++ns,ty:=fD b.ty ty },rfl,by simp [hid,hex],rfl,by simp [hns,h4,hmul],h5,by simp; omega,h7,h8⟩) fun id hi=>.inl hi
theorem dT {sz len:Nat} {zeros cs:List AV} {parts:List (Nat × Nat × AV)} {h:aA} {K:AV→aA→Prop} (hf:eO zeros parts=some cs) (hl:cs.length=len * sz)
  (hk:∀ v h',h'.length=h.length+1→Upd (fun _=>False) h h'→Rd sz h' v cs len→(∀ id,aN v id→h.length≤id)→K v h'):bM sz len zeros parts h K:=by
 unfold bM
 rw [hf]
 refine ⟨hl,hk _ _ (by simp) (Upd.app _ _) (.inr ⟨h.length,cs.length,0,none,bC cs sz true,rfl,by simp,.inl rfl,Nat.le_refl _,Nat.le_refl _,by omega, ?_⟩) fun id hi=>by cases hi; exact Nat.le_refl _⟩
 simp [bC, ← hl]
theorem Arr.push {sz bytes:Nat} {h:aA} {v x:AV} {cs zeros:List AV} {len:Nat} (A:Arr sz h v cs len) (hz:0<sz) {K:AV→aA→Prop} (hf:eO zeros [(0,sz,x)]=some x.parts) (hxl:x.parts.length=sz) (hok:x.parts.all AV.cellOK=true)
  (hlen:(len+1) * bytes≤140737488355328) (hl2:len+1≤9223372036854775807)
  (hk:∀ v' h',Upd (aN v) h h'→Arr sz h' v' (cs++x.parts) (len+1)→(∀ id,aN v' id→aN v id∨h.length≤id)→K v' h') :
  bM sz 1 zeros [(0,sz,x)] h fun y h'=>bV ty sz bytes v y h' K:=by
 refine dT hf (by omega) fun y h1 hl1 U1 R1 F1=>?_
 refine (A.upd U1 fun _ _ h=>h).append hz (ns:=x.parts) (k:=1) (fun K hK=>R1.news hK) (by omega) hok hlen hl2 fun v' h' U2 A2 F2=>hk v' h' ((U1.mono fun _ _ h=>h.elim).trans U2 fun _ _ h=>h) A2 fun id hi=>?_
 rcases F2 id hi with h | h
 ·exact .inl h
 ·exact .inr (by omega)
def Byt (h:aA) (v:AV) (l:List UInt8):Prop:=Rd 1 h v (l.map byteAV) l.length
theorem Byt.str {h:aA} {v:AV} {l:List UInt8} (B:Byt h v l) {K:List UInt8→Prop} (hk:K l):cJ v h K:=by
 refine Rd.sl B ⟨rZ l, ?_⟩
 rw [vS]; exact hk
theorem y1 {l:List UInt8} {lo:Nat} {K:List UInt8→Prop} (h:lo≤l.length) (hk:K (l.drop lo)):cD (.s l) (some (.i .i64 lo)) none K:=by
 refine ⟨by omega,by simpa using h,Nat.le_refl _, ?_⟩
 simpa using hk
theorem qE {l:List UInt8} {lo hi:Nat} {K:List UInt8→Prop} (h:lo≤hi) (h2:hi≤l.length) (hk:K ((l.take hi).drop lo)):cD (.s l) (some (.i .i64 lo)) (some (.i .i64 hi)) K:=by
 refine ⟨by omega,by omega,by simpa using h,by simpa using h2, ?_⟩
 simpa using hk
theorem aDR {l:List UInt8} {hi:Nat} {K:List UInt8→Prop} (h2:hi≤l.length) (hk:K (l.take hi)):cD (.s l) none (some (.i .i64 hi)) K:=by
 refine ⟨by omega,by simp,by simpa using h2, ?_⟩
 simpa using hk
theorem aFB {v w:AV} {K:AV→AV→Prop} (hk:K v w):aFL [v,w] K:=hk
end Go.GAM
namespace Go.GAM
open Go.RowKit
def oH (w : World) (szOf : Nat → Nat) : Value → AV
 | .bool x=>.b x
 | .int k n=>.i k n
 | .string s=>.s s.data.toList
 | .pointer none=>.p none
 | .pointer (some a) => match w.shape? a.block, a.spot with
  | some (_,n),none=>.p (some ⟨a.block,n,a.off⟩)
  | _,_=>.u
 | .slice none 0 0=>.sl none 0 none
 | .slice (some a) len cap => if cap = 0 then (if len = 0 then .sl (some ⟨w.heap.size, 0, 0⟩) 0 (some 0) else .u) else
  match w.shape? a.block,a.spot with
  | some (_,n),none=>if len≤cap∧a.off+cap * szOf a.block≤n then .sl (some ⟨a.block,n,a.off⟩) len (some cap) else .u
  | _,_=>.u
 | .nilFunc=>.nf
 | .nilIface=>.ni
 | .map none=>.mp none
 | _=>.u
def tW (w:World) (szOf:Nat→Nat):Value→AV
 | .agg cs=>.ag (cs.toList.map (oH w szOf))
 | .iface t v=>.ifc t (oH w szOf v)
 | v=>oH w szOf v
def rR (w:World) (szOf:Nat→Nat) (B:Nat):ABlk:=match w.heap[B]? with
 | some (.cells c _ _)=>⟨c.toList.map (tW w szOf),szOf B,c.size,false,true,true,none,none⟩
 | _=>cI
def g9 (w:World) (szOf:Nat→Nat):aA:=(List.range w.heap.size).map (rR w szOf)++[cI]
def muC (w:World) (szOf:Nat→Nat):Mu:=fun id ver=>
 if id=w.heap.size then (if ver=0 then some ⟨0,0,0,1⟩ else none) else
 match w.shape? id with
 | some (_,n)=>if ver=n then some ⟨id,0,n,szOf id⟩ else none
 | none=>none
def aDS (w:World):Nat→Option Nat:=fun B=>if (w.shape? B).isSome then some B else none
section
variable {w:World} {szOf:Nat→Nat}
theorem pK {B:Nat} {t:TypeId} {n:Nat} (h:w.shape? B=some (t,n)):∃ c fr,w.heap[B]? = some (.cells c t fr)∧c.size=n:=by
 unfold World.shape? at h
 split at h
 ·rename_i c el fr hh
  simp only [Option.some.injEq,Prod.mk.injEq] at h
  obtain ⟨rfl,rfl⟩:=h
  exact ⟨c,fr,hh,rfl⟩
 ·cases h
theorem pG {B:Nat} {x:TypeId × Nat} (h:w.shape? B=some x):B<w.heap.size:=by
 obtain ⟨c,fr,hh,_⟩:=pK (t:=x.1) (n:=x.2) h
 exact (Array.getElem?_eq_some_iff.1 hh).1
theorem tE {B:Nat} {t:TypeId} {n:Nat} (h:w.shape? B=some (t,n)):muC w szOf B n=some ⟨B,0,n,szOf B⟩:=by
 have:=pG h
 unfold muC
 rw [if_neg (by omega),h]
 simp
theorem nE (v : Value) : aS (muC w szOf) (oH w szOf v) v := by
  cases v <;> first | exact .u _ | exact .b _ | exact .i _ _ | exact .s _ _ rfl | exact .nf | exact .ni | skip
  case pointer a=>
    cases a with
    | none=>exact .pn
    | some a =>
      obtain ⟨B,off,spot⟩:=a
      simp only [oH]
      split
      · rename_i t n hs
        exact .p _ _ _ (tE hs) (by simp)
      · exact .u _
  case slice a len cap=>
    cases a with
    | none =>
      cases len with
      | succ l=>exact .u _
      | zero => cases cap with
        | succ c=>exact .u _
        | zero=>exact .sn
    | some a =>
      obtain ⟨B,off,spot⟩:=a
      simp only [oH]
      split
      · rename_i hc
        subst hc
        split
        · rename_i hl
          subst hl
          exact .sl _ _ _ 0 _ ⟨0,0,0,1⟩ (by unfold muC; simp) (Nat.le_refl _) (by simp) (by simp) (by simp) (by simp)
        · exact .u _
      · split
        · rename_i t n hs
          split
          · rename_i hl
            exact .sl _ _ _ cap _ _ (tE hs) hl.1 hl.2 (by simp) (by simp) (by simp)
          · exact .u _
        · exact .u _
  case map r=>cases r <;> first | exact .mpn | exact .u _
theorem pL:∀ vs:List Value,VRels (muC w szOf) (vs.map (oH w szOf)) vs
 | []=>.nil
 | v :: vs=>.cons _ _ _ _ (nE v) (pL vs)
theorem aC1 (v:Value):aS (muC w szOf) (tW w szOf v) v:=by
 cases v <;> simp only [tW] <;> first | exact nE _ | exact .ag _ _ (pL _) | exact .ifc _ _ _ (nE _)
theorem vW {B:Nat} (h:B<w.heap.size):(g9 w szOf)[B]? = some (rR w szOf B):=by
 unfold g9
 rw [List.getElem?_append_left (by simpa using h)]
 simp [h]
theorem z4:(g9 w szOf).length=w.heap.size+1:=by simp [g9]
theorem aAO (w : World) (szOf : Nat → Nat) : Rel w (fun B => B < w.heap.size) (muC w szOf) (aDS w) (g9 w szOf) w where
 os:=rfl
 tape:=rfl
 output:=rfl
 size0:=Nat.le_refl _
 fz:=fun B hB=>⟨hB,rfl⟩
 ownlt:=fun B id h=>by
  unfold aDS at h
  split at h
  ·rename_i hs
   obtain ⟨x,hx⟩:=Option.isSome_iff_exists.1 hs
   exact pG hx
  ·cases h
 mulen := fun id ver l h => by
  unfold muC at h
  split at h
  ·rename_i he
   subst he
   exact ⟨cI,by simp [g9],by simp [cI]⟩
  ·split at h
   ·rename_i t n hs
    obtain ⟨c,fr,hh,hc⟩:=pK hs
    refine ⟨rR w szOf id,vW (pG hs),fun _=>?_⟩
    split at h
    ·rename_i hv
     unfold rR
     rw [hh]
     simp [hv,hc]
    ·cases h
   ·cases h
 blk := fun id b hb hl => by
  rcases Nat.lt_or_ge id w.heap.size with hi | hi
  ·rw [vW hi] at hb
   cases hb
   unfold rR at hl ⊢
   split at hl
   ·rename_i c el fr hh
    have hs:w.shape? id=some (el,c.size):=by unfold World.shape?; rw [hh]
    refine ⟨⟨id,0,c.size,szOf id⟩, ?_⟩
    have hlen:(c.toList.map (tW w szOf)).length=c.size:=by simp
    refine { cur:=by simp only [hlen]; exact tE hs,owned:=by simp [aDS,hs],sz:=rfl,len:=by simp,ex:=by simp,ro:=by simp,gl:=by simp,nomap:=rfl,tyok:=fun t ht=>(by cases ht),row:=⟨c,el,fr,hh,by simp⟩,free:=by simp,vers:=fun ver h1 h2 l' hl'=>?_ }
    have hv:ver=c.size:=by simp only [hlen] at h2; simp only at h1; omega
    subst hv
    rw [tE hs] at hl'
    cases hl'
    refine { own:=by simp [aDS,hs],sz:=rfl,le:=Nat.le_refl _,base:=fun _=>rfl,cells:=fun j hj=>?_ }
    refine ⟨c[j],by simp [World.cell?,hh,hj], ?_⟩
    have e:(c.toList.map (tW w szOf)).getD j .u=tW w szOf c[j]:=by simp [List.getD,hj]
    simp only [e]
    exact aC1 _
   ·exact absurd hl (by simp [cI])
  ·exfalso
   rcases Nat.lt_or_ge id (w.heap.size+1) with h2 | h2
   ·have : id = w.heap.size := by omega
    subst this
    simp [g9] at hb
    subst hb
    simp [cI] at hl
   ·rw [List.getElem?_eq_none (by rw [z4]; omega)] at hb; cases hb
 maps:=fun id b es hb he=>by
  exfalso
  have hm:b∈g9 w szOf:=List.mem_of_getElem? hb
  unfold g9 at hm
  rcases List.mem_append.1 hm with h1 | h1
  ·obtain ⟨B, _, rfl⟩ := List.mem_map.1 h1
   unfold rR at he
   split at he <;> cases he
  ·simp at h1; subst h1; cases he
end
def Yes:AV→aA→Prop:=fun v _=>v = .b true
end Go.GAM
namespace Go.GAM
open Go.RowKit Go.ChangeShapes
section
variable {H:Type} {enc:TypeId × Value→H} {P:Program} {w:World} {szOf:Nat→Nat}
end
end Go.GAM
namespace Go.GAM
variable {ty:Option TypeId}
open Go.RowKit
theorem Upd.ext {h h':aA} (U:Upd (fun _=>False) h h'):Ext h h':=⟨U.1,fun i hi=>U.2 i hi fun h=>h⟩
theorem aE6 {α:Type} {l r:List α} {i:Nat} {c:α} (h:l.drop i=c :: r):i<l.length:=by
 rcases Nat.lt_or_ge i l.length with h1 | h1
 ·exact h1
 ·rw [List.drop_eq_nil_of_le h1] at h; cases h
theorem aBQ {α:Type} {l r:List α} {i:Nat} {c:α} (h:l.drop i=c :: r):l.drop (i+1)=r:=by
 have:(l.drop i).drop 1=r:=by rw [h] <;> rfl
 rwa [List.drop_drop] at this
theorem uT {α:Type} {l:List α} {i:Nat} (h:l.drop i=[]):l.length≤i:=by
 have:=congrArg List.length h
 simp at this; omega
def Stk (h:aA) (v:AV) (l:List AV):Prop:=
 (v = .sl none 0 none∧l=[])∨∃ id b,v = .sl (some ⟨id,b.cells.length,0⟩) l.length none∧h[id]? = some b∧b.sz=1∧l.length≤b.cells.length∧b.cells.take l.length=l∧b.floor≤b.cells.length∧b.ro=false∧b.gl=false
theorem Stk.rd {h:aA} {v:AV} {l:List AV} (S:Stk h v l):Rd 1 h v l l.length:=by
 rcases S with ⟨rfl,rfl⟩ | ⟨id,b,rfl,h1,h2,h3,h4,h5,h6,h7⟩
 ·exact .inl ⟨rfl,rfl,rfl⟩
 ·exact .inr ⟨id,_,0,none,b,rfl,h1,.inl h2,h5,Nat.le_refl _,by omega,by rw [List.drop_zero,Nat.mul_one]; exact h4⟩
theorem Stk.upd {M:Nat→Prop} {h h':aA} {v:AV} {l:List AV} (S:Stk h v l) (U:Upd M h h') (hM:∀ i,aN v i→¬ M i):Stk h' v l:=by
 rcases S with h1 | ⟨id,b,rfl,h1,h2⟩
 ·exact .inl h1
 ·exact .inr ⟨id,b,rfl,(U.2 id (aM h1) (hM id rfl)).trans h1,h2⟩
theorem Stk.push {bytes : Nat} {h : aA} {v x : AV} {l zeros : List AV} (S : Stk h v l) (hf : eO zeros [(0, 1, x)] = some [x]) (hx : x.cellOK = true) (hlen : (l.length + 1) * bytes ≤ 140737488355328) (hl2 : l.length + 1 ≤ 9223372036854775807) {K : AV → aA → Prop}
  (hk:∀ v' h',Upd (aN v) h h'→Stk h' v' (l++[x])→(∀ i,aN v' i→aN v i∨h.length≤i)→K v' h'):bM 1 1 zeros [(0,1,x)] h fun y h'=>bV ty 1 bytes v y h' K:=by
 refine dT hf rfl fun y h1 hl1 U1 R1 F1=>⟨Nat.one_pos,R1.news ?_⟩
 have S1:=S.upd U1 fun _ _ h=>h
 rcases S1 with ⟨rfl,rfl⟩ | ⟨id,b,rfl,g1,g2,g3,g4,g5,g6,g7⟩
 ·refine ⟨by simpa using hlen, by omega, ?_⟩
  rw [if_neg (by decide)]
  exact hk _ _ ((U1.mono fun _ _ h=>h.elim).trans (Upd.app _ _) fun _ _ h=>h.elim) (.inr ⟨h1.length,bC [x] 1 false ty,by simp [bC],by simp,rfl,by simp [bC],by simp [bC],by simp [bC],rfl,rfl⟩) fun i hi=>.inr (by have e:h1.length=i:=hi; omega)
 ·have hid := aM g1
  have hidh:id<h.length:=Rd.lt S.rd (id:=id) rfl
  refine ⟨hlen,by omega,b,g1,g2,⟨g5,Nat.le_refl _,by simp only; omega⟩, ?_⟩
  by_cases hfull:l.length=b.cells.length
  ·cases hex : b.ex with
   | true =>
    refine .inr (.inl ⟨Nat.one_pos,.inr ⟨rfl,rfl,rfl,by simp only; omega⟩, ?_⟩)
    refine hk _ _ ((U1.mono fun _ _ h=>h.elim).trans (Upd.app _ _) fun _ _ h=>h.elim) (.inr ⟨h1.length,bC (l++[x]) 1 false ty, ?_, ?_,rfl,by simp [bC],by simp only [bC,List.length_append]; exact List.take_of_length_le (by simp),by simp [bC],rfl,rfl⟩) fun i hi=>.inr (by have e:h1.length=i:=hi; omega)
    ·simp [bC,g4,g3]
    ·simp [g4]
   | false =>
    refine .inr (.inr (.inr (.inl ⟨Nat.one_pos,g6,rfl,rfl,by omega,rfl,rfl,g7,by simp [hx], ?_⟩)))
    have hcl:b.cells=l:=by rw [hfull,List.take_length] at g4; exact g4
    refine hk _ _ ((U1.mono fun _ _ h=>h.elim).trans (Upd.set _ _ _) fun i _ h=>h.symm) (.inr ⟨id,{ b with cells:=b.cells++[x],ty:=fD b.ty ty }, ?_,by simp [hid,hex],g2,by simp; omega, ?_,by simp; omega,g6,g7⟩) fun i hi=>.inl hi
    ·simp
    ·simp only [hcl]
     rw [List.take_of_length_le (by simp)]
  ·refine .inr (.inr (.inl ⟨Nat.one_pos, g6, rfl, by simp only; omega, .inl rfl, by simp [hx], ?_⟩))
   refine hk _ _ ((U1.mono fun _ _ h=>h.elim).trans (Upd.set _ _ _) fun i _ h=>h.symm) (.inr ⟨id,{ b with cells:=wr b.cells (0+l.length * 1) [x],floor:=b.cells.length }, ?_,show (h1.set id _)[id]? = some _ from List.getElem?_set_self hid,g2, ?_, ?_, ?_,g6,g7⟩) fun i hi=>.inl hi
   ·simp [wr]
   ·simp [wr]; omega
   ·simp only [wr, Nat.zero_add, Nat.mul_one, List.length_append, List.length_cons, List.length_nil]
    apply List.ext_getElem?
    intro i
    by_cases h1:i<l.length
    ·rw [List.getElem?_take_of_lt (by omega), List.getElem?_set_ne (by omega), List.getElem?_append_left h1]
     conv=>rhs; rw [← g4]
     rw [List.getElem?_take_of_lt h1]
    ·by_cases h2 : i = l.length
     ·subst h2
      rw [List.getElem?_take_of_lt (by omega),List.getElem?_set_self (by omega),List.getElem?_append_right (by omega)]
      simp
     ·rw [List.getElem?_eq_none (by simp; omega),List.getElem?_eq_none (by simp; omega)]
   ·simp [wr]
theorem Rd.cell {sz:Nat} {h:aA} {v:AV} {cs:List AV} {len:Nat} (R:Rd sz h v cs len) {k:IntKind} {i:Nat} {c:AV} (hz:0<sz) (hi:i<len) (hc:cs[i * sz]? = some c) {K:AV→Prop} (hk:K c) :
  aP sz v (.i k (i:Int)) h fun a=>aD a h K:=by
 rcases R with ⟨rfl,rfl,rfl⟩ | ⟨id,ver,off,cap,b,rfl,h2,h3,h4,h5,h6,h7⟩
 ·omega
 ·have A : aGG sz h id ver off b cs len := ⟨h2, h3, h4, h5, h6, h7⟩
  exact aGY A hi (aER (o:=0) A hi hz (by simpa using hc) hk)
theorem mP {x:Nat} (h:x<2 ^ 64):(BitVec.ofInt 64 (x:Int)).toNat=x:=by
 simp [BitVec.toNat_ofInt]; omega
theorem y8 {x y:Nat} (hx:x<2 ^ 62) (hy:y<2 ^ 62):bN .or .i64 x y=((x ||| y:Nat):Int):=by
 have h:x ||| y<2 ^ 62:=Nat.or_lt_two_pow hx hy
 show IntKind.wrap .i64 (((BitVec.ofInt 64 (x:Int)) ||| (BitVec.ofInt 64 (y:Int))).toNat:Int)=_
 rw [BitVec.toNat_or,mP (by omega),mP (by omega),bA (by omega) (by omega)]
theorem fS {x y:Nat} (hx:x<2 ^ 62) (hy:y<2 ^ 62):bN .and .i64 x y=((x &&& y:Nat):Int):=by
 have h:x &&& y<2 ^ 62:=Nat.and_lt_two_pow _ hy
 show IntKind.wrap .i64 (((BitVec.ofInt 64 (x:Int)) &&& (BitVec.ofInt 64 (y:Int))).toNat:Int)=_
 rw [BitVec.toNat_and,mP (by omega),mP (by omega),bA (by omega) (by omega)]
theorem eK {a b:Nat} {K:Int→Prop} (hb:b≤64) (h:a * 2 ^ b<2 ^ 62) (hk:K ((a * 2 ^ b:Nat):Int)):jO .i64 a b K:=by
 refine ⟨by omega, ?_⟩
 have e:(a:Int) * 2 ^ (min (b:Int).toNat IntKind.i64.bits)=((a * 2 ^ b:Nat):Int):=by
  rw [Int.toNat_natCast,show IntKind.i64.bits=64 from rfl,Nat.min_eq_left hb]; simp
 rw [e,bA (by omega) (by omega)]; exact hk
theorem m8 {a b:Nat} {k:IntKind} {K:Int→Prop} (hb:b≤k.bits) (hk:K ((a / 2 ^ b:Nat):Int)):kU k a b K:=by
 refine ⟨by omega, ?_⟩
 have e:(a:Int).fdiv (2 ^ (min (b:Int).toNat k.bits))=((a / 2 ^ b:Nat):Int):=by
  rw [Int.toNat_natCast,Nat.min_eq_left hb]
  have h2:((2:Int) ^ b)=((2 ^ b:Nat):Int):=by simp
  rw [h2,Int.fdiv_eq_ediv_of_nonneg _ (Int.natCast_nonneg (2 ^ b))] <;> rfl
 rw [e]; exact hk
end Go.GAM
namespace Go.GAM
open Go.RowKit
section
variable {H:Type} {enc:TypeId × Value→H} {P:Program} {w:World} {szOf:Nat→Nat}
end
theorem Rd.byte {h:aA} {v:AV} {l:List UInt8} {len:Nat} (R:Rd 1 h v (l.map byteAV) len) {k:IntKind} {i:Nat} {x:UInt8} (hx:l[i]? = some x) {K:Int→Prop} (hk:K (x.toNat:Int)) :
  aP 1 v (.i k (i:Int)) h fun a=>aD a h fun y=>asI .u8 y K:=by
 have hl:=R.length
 rw [List.length_map,Nat.mul_one] at hl
 exact R.cell Nat.one_pos (by have:=aM hx; omega) (c:=byteAV x) (by rw [Nat.mul_one,List.getElem?_map,hx] <;> rfl) (lJ hk)
end Go.GAM
namespace Go.GAM
open Go.RowKit Go.ChangeShapes
section
variable {H:Type} {enc:TypeId × Value→H} {P:Program} {w:World} {szOf:Nat→Nat}
theorem wV {n:String} {d:DataW Unit} {l:List (String × DataW Unit)} (hm:(n,d)∈l) (hL:laidMet P l w) :
  ∃ g t cs fuel p,P.globalNamed n=some g∧(P.globals[g]?).map (·.type)=some t∧w.var? P n=some cs∧DataW.trod (fun _=>()) P w 0 (fun _=>true) false fuel t cs.toList=some (d,p):=by
 obtain ⟨ps,h,hx⟩:=hL
 clear hx
 induction l generalizing ps with
 | nil=>cases hm
 | cons x l ih =>
  obtain ⟨n',d'⟩:=x
  obtain ⟨g,t,cs,fuel,p,q,h1,h2,h3,h4,h5,h6⟩:=h
  rcases List.mem_cons.1 hm with h | h
  ·cases h; exact ⟨g,t,cs,fuel,p,h1,h2,h3,h4⟩
  ·exact ih h _ h5
theorem aBW {n:String} {g:Nat} {cs:Array Value} (hg:P.globalNamed n=some g) (hv:w.var? P n=some cs):∃ t fr,w.heap[g]? = some (.cells cs t fr):=by
 unfold World.var? at hv
 rw [hg] at hv
 simp only [Option.bind_some] at hv
 split at hv
 ·rename_i c t fr h
  cases hv
  exact ⟨t,fr,h⟩
 ·cases hv
end
theorem Rd.cutAt {sz:Nat} {h:aA} {v:AV} {cs:List AV} {len:Nat} (R:Rd sz h v cs len) (hz:0<sz) {lo:Option AV} {lo' hi:Nat} (hlo:lo=none∧lo'=0∨lo=some (.i .i64 lo')) (h1:lo'≤hi) (h2:hi≤len) (z1:sz=1:=by rfl) :
  ∃ v',Rd sz h v' ((cs.take (hi * sz)).drop (lo' * sz)) (hi - lo')∧∀ (K:AV→Prop),K v'→bH sz v lo (some (.i .i64 (hi:Int))) none h K:=by
 rcases R with ⟨rfl,h0,rfl⟩ | ⟨id,ver,off,cap,b,rfl,g2,g3,g4,g5,g6,g7⟩
 ·have : hi = 0 := by omega
  subst this
  have:lo'=0:=by omega
  subst this
  refine ⟨.sl none 0 none,.inl ⟨rfl,rfl,by simp⟩,fun K hk=>⟨by simp, ?_⟩⟩
  rcases hlo with ⟨rfl,_⟩ | rfl
  ·exact ⟨rfl,rfl,rfl,fun h=>by simp at h,hk⟩
  ·exact ⟨by simp,rfl,rfl,rfl,fun h=>by simp at h,hk⟩
 ·have e2 : hi * sz ≤ len * sz := Nat.mul_le_mul_right _ h2
  have e1:lo' * sz≤hi * sz:=Nat.mul_le_mul_right _ h1
  have e3:(hi - lo') * sz=hi * sz - lo' * sz:=Nat.sub_mul _ _ _
  refine ⟨.sl (some ⟨id,ver,off+lo' * sz⟩) (hi - lo') (cap.map (· - lo')),.inr ⟨id,ver,off+lo' * sz,_,b,rfl,g2,g3,g4,g5,by omega, ?_⟩,fun K hk=>?_⟩
  ·rw [← g7,List.take_take,Nat.min_eq_left e2,List.drop_take,List.drop_drop,e3]
  ·refine ⟨hz, fun h => by simp at h, by omega, ?_⟩
   rcases hlo with ⟨rfl,rfl⟩ | rfl
   ·exact ⟨by omega,b,g2,by omega,g4,.inl (g3.elim (fun x=>x) fun x=>x.trans z1.symm),.inl (by simpa using h2),by simpa using hk⟩
   ·exact ⟨by omega,by simpa using h1,b,g2,by omega,g4,.inl (g3.elim (fun x=>x) fun x=>x.trans z1.symm),.inl (by simpa using h2),by simpa using hk⟩
end Go.GAM
namespace Go.GAM
variable {ty:Option TypeId}
open Go.RowKit
theorem inc {i:Nat} {K:Int→Prop} (h:i<9223372036854775807) (hk:K ((i+1:Nat):Int)):aJ (IntKind.wrap .i64 ((i:Int)+1)) K:=
 aW (n:=((i+1:Nat):Int)) (by rw [bA (by omega) (by omega)]; omega) hk
theorem bR {e n:Int} {K:Int→Prop} (h:e=n) (h0 : -9223372036854775808≤n) (h1:n<9223372036854775808) (hk:K n):aJ (IntKind.wrap .i64 e) K:=
 aW (by rw [h,bA h0 h1]) hk
theorem dP {α:Type} {l:List α} {i:Nat} {c:α} (hc:l[i]? = some c):l.take (i+1)=l.take i++[c]:=by
 rw [List.take_add_one,hc] <;> rfl
theorem xU {α:Type} {l r:List α} {i:Nat} {c:α} (h:l.drop i=c :: r):l[i]? = some c:=by
 have:(l.drop i)[0]? = some c:=by rw [h] <;> rfl
 simpa using this
theorem cU {R:aZ} {f:Nat} {first cap vs:List AV} {h:aA} {K:AV→aA→Prop} (hf:Nat.blt f yid0=true) (hk:R f (first++vs++cap) h K):bX R (.fn (.func f) first cap) vs h K:=by
 unfold bX
 simp only
 unfold kZ
 exact aV hf hk
theorem uZ (z:AV):∀ n,(List.replicate n [z]).flatten=List.replicate n z
 | 0=>rfl
 | n+1=>by rw [List.replicate_succ,List.flatten_cons,uZ z n,List.replicate_succ] <;> rfl
theorem wrap_u64 {n:Int} (h0:0≤n) (h1:n<18446744073709551616):IntKind.wrap .u64 n=n:=by
 have:IntKind.wrap .u64 n=n % 18446744073709551616:=by
  show n.emod (2 ^ 64)=_
  rfl
 rw [this]; omega
end Go.GAM
namespace Go.GAM
open Go.RowKit
end Go.GAM
namespace Go.GAM
open Go.RowKit
section
variable {P:Program} {α:Type} [DecidableEq α]
def gZ (κ:α→AV) (kv:List (α × AV)):List (AV × AV):=kv.map fun p=>(κ p.1,p.2)
def lkI:List (α × AV)→α→Nat→Option (Nat × AV)
 | [],_,_=>none
 | (k,v) :: r,x,i=>if x=k then some (i,v) else lkI r x (i+1)
def lkM (kv:List (α × AV)) (x:α):Option AV:=(lkI kv x 0).map (·.2)
def upM:List (α × AV)→α→AV→List (α × AV)
 | [],x,v=>[(x,v)]
 | (k,w) :: r,x,v=>if x=k then (k,v) :: r else (k,w) :: upM r x v
theorem zJ (x:α):∀ (kv:List (α × AV)) (i j:Nat),(lkI kv x i).map (·.2)=(lkI kv x j).map (·.2)
 | [],_,_=>rfl
 | (k, v) :: r, i, j => by
  unfold lkI
  split
  ·rfl
  ·exact zJ x r _ _
theorem kE (k:α) (v:AV) (r:List (α × AV)) (x:α):lkM ((k,v) :: r) x=if x=k then some v else lkM r x:=by
 unfold lkM
 rw [lkI]
 split
 ·rfl
 ·exact zJ x r _ _
theorem aCJ (x:α) (v:AV) (y:α):∀ kv:List (α × AV),lkM (upM kv x v) y=if y=x then some v else lkM kv y
 | []=>by rw [upM,kE]
 | (k, w) :: r => by
  unfold upM
  by_cases h:x=k
  ·subst h
   rw [if_pos rfl,kE,kE]
   split <;> rfl
  ·rw [if_neg h, kE, kE, aCJ x v y r]
   by_cases hy:y=k
   ·subst hy; rw [if_pos rfl,if_pos rfl,if_neg (fun e=>h e.symm)]
   ·rw [if_neg hy,if_neg hy]
def uI (P:Program) (kt:TypeId) (κ:α→AV):Prop:=∀ a b,aEq P 64 kt (κ a) (κ b)=some (decide (a=b))
theorem qZ {kt:TypeId} {κ:α→AV} (hκ:uI P kt κ) (x:α):∀ (kv:List (α × AV)) (i:Nat),jH P kt (κ x) (gZ κ kv) i=some (lkI kv x i)
 | [],_=>rfl
 | (k, v) :: r, i => by
  have e:=qZ hκ x r (i+1)
  show jH P kt (κ x) ((κ k,v) :: gZ κ r) i=_
  rw [jH]
  show (match aEq P 64 kt (κ x) (κ k) with
   | some true=>some (some (i,v))
   | some false=>jH P kt (κ x) (gZ κ r) (i+1)
   | none=>none)=_
  rw [hκ x k,lkI]
  by_cases h:x=k
  ·rw [decide_eq_true h,if_pos h]
  ·rw [decide_eq_false h,if_neg h]; exact e
def j6 (κ:α→AV) (h:aA) (id:Nat) (kv:List (α × AV)):Prop:=h[id]? = some (eS (gZ κ kv))
theorem j6.lt {κ:α→AV} {h:aA} {id:Nat} {kv:List (α × AV)} (M:j6 κ h id kv):id<h.length:=aM M
theorem j6.upd {κ:α→AV} {M:Nat→Prop} {h h':aA} {id:Nat} {kv:List (α × AV)} (A:j6 κ h id kv) (U:Upd M h h') (hM:¬ M id):j6 κ h' id kv:=(U.2 id A.lt hM).trans A
theorem xG (κ:α→AV) {h:aA} {K:AV→aA→Prop} (hk:∀ h',h'.length=h.length+1→Upd (fun _=>False) h h'→j6 κ h' h.length []→K (.mp (some h.length)) h'):mB h K:=
 hk _ (by simp) (Upd.app _ _) (by unfold j6; simp [gZ])
theorem nS {κ:α→AV} {h:aA} {id:Nat} {kv:List (α × AV)} {kt el:TypeId} {x:α} {z:AV} {K:AV→Prop} (M:j6 κ h id kv) (hκ:uI P kt κ) (hv:zW P kt (κ x)=true) (hz:wI P el=some z) (hk:K ((lkM kv x).getD z)):e6 P kt el false (.mp (some id)) (κ x) h K:=by
 refine ⟨hv, ?_⟩
 have e:yO (.mp (some id)) h=some (gZ κ kv):=by show ((h[id]?).bind (·.mp)).bind aGH=_; rw [M] <;> rfl
 rw [e]
 simp only
 rw [qZ hκ]
 unfold lkM at hk
 cases hl:lkI kv x 0 with
 | none=>rw [hl] at hk; simp only; rw [hz]; exact hk
 | some p=>rw [hl] at hk; exact hk
theorem aC6 {κ : α → AV} (x : α) (v : AV) : ∀ (kv : List (α × AV)) (i : Nat), match lkI kv x i with
  | none=>upM kv x v=kv++[(x,v)]
  | some (j,_)=>i≤j∧kv[j - i]?.map (·.1)=some x∧upM kv x v=kv.set (j - i) (x,v)
 | [],i=>rfl
 | (k, w) :: r, i => by
  have ih:=aC6 (κ:=κ) x v r (i+1)
  rw [lkI]
  by_cases h:x=k
  ·subst h
   rw [if_pos rfl]
   exact ⟨Nat.le_refl _,by simp,by simp [upM]⟩
  ·rw [if_neg h]
   cases hl:lkI r x (i+1) with
   | none=>rw [hl] at ih; simp only at ih ⊢; rw [upM,if_neg h,ih] <;> rfl
   | some p =>
    obtain ⟨j,u1⟩:=p
    rw [hl] at ih
    simp only at ih ⊢
    obtain ⟨h1,h2,h3⟩:=ih
    obtain ⟨m,rfl⟩:∃ m,j=i+1+m:=⟨j - (i+1),by omega⟩
    rw [show i+1+m - (i+1)=m by omega] at h2 h3
    rw [show i+1+m - i=m+1 by omega,upM,if_neg h,h3]
    exact ⟨by omega,by simpa using h2,by simp⟩
theorem aAS {κ:α→AV} {h:aA} {id:Nat} {kv:List (α × AV)} {kt:TypeId} {x:α} {v:AV} {K:aA→Prop} (M:j6 κ h id kv) (hκ:uI P kt κ) (hv:zW P kt (κ x)=true) (hp:sG (κ x)=true)
  (hk:∀ h',h'.length=h.length→Upd (· = id) h h'→j6 κ h' id (upM kv x v)→K h'):gF P kt (.mp (some id)) (κ x) v h K:=by
 refine ⟨hv,hp,_,_,M,rfl, ?_⟩
 rw [qZ hκ]
 have hu:=aC6 (κ:=κ) x v kv 0
 have fin:∀ es,es=gZ κ (upM kv x v)→K (h.set id (eS es)):=by
  rintro es rfl
  exact hk _ (by simp) (Upd.set _ _ _) (List.getElem?_set_self M.lt)
 cases hl:lkI kv x 0 with
 | none =>
  rw [hl] at hu
  exact fin _ (by simp only at hu; rw [hu]; simp [gZ])
 | some p =>
  obtain ⟨j,u1⟩:=p
  rw [hl] at hu
  simp only [Nat.sub_zero] at hu
  obtain ⟨_,h2,h3⟩:=hu
  refine ⟨?_,fin _ (by rw [h3]; simp [gZ,List.map_set])⟩
  obtain ⟨q,hq,hqx⟩:=Option.map_eq_some_iff.1 h2
  exact ⟨q.2,by unfold gZ; rw [List.getElem?_map,hq]; simp [hqx]⟩
theorem aA9 {kt:TypeId} (hu:P.underlying kt=some .string):uI P kt (fun l:List UInt8=>.s l):=fun a b=>by
 rw [y3 (d:=63) hu]
 show some (a == b)=_
 congr 1
 rw [Bool.eq_iff_iff]; simp
end
section
variable {P:Program}
end
end Go.GAM
namespace Go.GAM
section
variable {P:Program} {w0:World} {Fz:Nat→Prop} {μ:Mu} {own:Nat→Option Nat} {h:aA} {w:World}
theorem aCP {f:FuncId} {fn:Func} {ex:Array Value→Sem Value} (hf:P.funcs[f]? = some fn) (hn:(fn.name == "runtime.NumGoroutine")=false) (hb:fn.body.isNone=true)
  (h1:Extern.findNext fn=none) (h2:Extern.find fn=some ex) {args:Array Value} {v:Value} {w w':World} (he:(ex args).run P w = .ok v w'):(callFunc f args).run P w = .ok (.value v) w':=by
 have hn':fn.name ≠ "runtime.NumGoroutine":=by simpa using hn
 have hb':fn.body=none:=by simpa using hb
 have hm:∀ (m:Mark) (k:Sem Unit) (w:World),Sem.run P (Sem.mark m k) w=Sem.run P k w:=fun _ _ _=>rfl
 unfold callFunc
 simp [go_sem,hf,hn',hb',h1,h2,mark,hm,he]
def aFS (P : Program) (ex : Array Value → Sem Value) (X : List AV → aA → (AV → aA → Prop) → Prop) : Prop :=
 ∀ (w0 : World) (Fz : Nat → Prop) (μ : Mu) (own : Nat → Option Nat) (h : aA) (w : World) (args : List AV) (cargs : List Value) (K : AV → aA → Prop), Rel w0 Fz μ own h w → VRels μ args cargs → X args h K →
  ∃ cv w',(ex cargs.toArray).run P w = .ok cv w'∧jC w0 Fz μ K cv w'
structure aB4 (P:Program) (f:FuncId) (ex:Array Value→Sem Value):Prop where
 is:∃ fn,P.funcs[f]? = some fn∧(fn.name == "runtime.NumGoroutine")=false∧fn.body.isNone=true∧Extern.findNext fn=none∧Extern.find fn=some ex
theorem aB4.sim {f:FuncId} {ex:Array Value→Sem Value} {X:List AV→aA→(AV→aA→Prop)→Prop} (A:aB4 P f ex) (E:aFS P ex X) (hlt:f<yid0) {μb:Mu} {args:List AV} {h:aA} {K:AV→aA→Prop} (hk:X args h K):yU P w0 Fz μb f args h K:=by
 intro μ own w cargs hsb R hc
 rw [if_pos hlt]
 obtain ⟨fn,h1,h2,h3,h4,h5⟩:=A.is
 obtain ⟨cv,w',e1,e2⟩:=E w0 Fz μ own h w args cargs K R hc hk
 exact .inr ⟨cv,w',aCP h1 h2 h3 h4 h5 e1,e2⟩
end
end Go.GAM
namespace Go.GAM
def eU (E:TypeId) (h:aA) (v:AV) (l:List UInt8):Prop:=
 (v = .sl none 0 none∧l=[])∨∃ id b,v = .sl (some ⟨id,l.length,0⟩) l.length none∧h[id]? = some b∧b.cells=l.map byteAV∧b.sz=1∧b.floor≤l.length∧b.ro=false∧b.ex=false∧b.gl=false∧b.ty=some E∧l≠[]
theorem eU.upd {E:TypeId} {M:Nat→Prop} {h h':aA} {v:AV} {l:List UInt8} (B:eU E h v l) (U:Upd M h h') (hM:∀ i,aN v i→¬ M i):eU E h' v l:=by
 rcases B with B | ⟨id,b,rfl,h1,h2⟩
 ·exact .inl B
 ·exact .inr ⟨id,b,rfl,(U.2 id (aM h1) (hM id rfl)).trans h1,h2⟩
theorem eU.lt {E:TypeId} {h:aA} {v:AV} {l:List UInt8} (B:eU E h v l) {i:Nat} (hi:aN v i):i<h.length:=by
 rcases B with ⟨rfl,_⟩ | ⟨id,b,rfl,h1,h2⟩
 ·exact hi.elim
 ·cases hi; exact aM h1
theorem eU.append {E:TypeId} {h:aA} {v x:AV} {l t:List UInt8} (B:eU E h v l) (hx:∀ K:List AV→Nat→Prop,K (t.map byteAV) t.length→eH 1 x h K) (hlen:l.length+t.length≤140737488355328) {K:AV→aA→Prop}
  (hk:∀ v' h',Upd (aN v) h h'→eU E h' v' (l++t)→(∀ i,aN v' i→aN v i∨h.length≤i)→K v' h'):bV (some E) 1 1 v x h K:=by
 refine ⟨by decide,hx _ ?_⟩
 have hok:(t.map byteAV).all AV.cellOK=true:=by
  rw [List.all_eq_true]; intro x hx
  obtain ⟨c,_,rfl⟩:=List.mem_map.1 hx
  rfl
 rcases B with ⟨rfl,rfl⟩ | ⟨id,b,rfl,h1,h2,h3,h4,h5,h6,h7,h8,h9⟩
 ·refine ⟨by simp only [List.length_nil] at hlen; omega, by simp only [List.length_nil] at hlen; omega, ?_⟩
  by_cases ht:t=[]
  ·subst ht
   show K (.sl none 0 none) h
   exact hk _ _ (Upd.refl _ _) (.inl ⟨rfl,rfl⟩) fun i hi=>.inl hi
  ·have htl : t.length ≠ 0 := by simpa using ht
   rw [if_neg htl]
   refine hk _ _ ((Upd.app _ _).mono fun _ _ h=>h.elim) (.inr ⟨h.length,bC (t.map byteAV) 1 false (some E),by simp,by simp,rfl,rfl,by simp [bC],rfl,rfl,rfl,rfl,by simpa using ht⟩) fun i hi=>.inr ?_
   cases hi; exact Nat.le_refl _
 ·have hidl := aM h1
  have hbl:b.cells.length=l.length:=by rw [h2]; simp
  have hll:0<l.length:=List.length_pos_iff.2 h9
  refine ⟨by omega,by omega,b,h1,h3,⟨h4,by rw [hbl]; exact Nat.le_refl _,by simp⟩, ?_⟩
  by_cases ht:t=[]
  ·subst ht
   left
   exact ⟨rfl,hk _ _ (Upd.refl _ _) (.inr ⟨id,b,by simp,h1,by simpa using h2,h3,by simpa using h4,h5,h6,h7,h8,by simpa using h9⟩) fun i hi=>.inl hi⟩
  ·have htl : 0 < t.length := List.length_pos_iff.2 ht
   right; right; right; left
   refine ⟨htl,h5,hbl.symm,rfl,by rw [hbl]; simp,rfl,h6,h7,hok, ?_⟩
   have hty:fD b.ty (some E)=some E:=by rw [h8]; simp [fD]
   refine hk _ _ ((Upd.set _ _ _).mono fun i _ h=>h.symm) (.inr ⟨id,{ b with cells:=b.cells++t.map byteAV,ty:=fD b.ty (some E) },by simp [hbl],List.getElem?_set_self hidl,by simp [h2],h3,by simp; omega,h5,h6,h7,hty,by simp [h9]⟩) fun i hi=>.inl ?_
   exact hi
section
variable {P:Program} {T E:TypeId} {h:aA} {id off:Nat} {cs:List AV} {buf:AV} {l:List UInt8}
theorem qF {t:TypeId} {K:AV→Prop} (ht:lB P t=true) (hk:K (.b true)):d7 P .eql t (.p none) (.p none) K:=by
 simp only [d7,ht,cond_true]; exact hk
theorem eP {t:TypeId} {a:AA} {K:AV→Prop} (ht:lB P t=true) (hk:K (.b false)):d7 P .eql t (.p (some a)) (.p none) K:=by
 simp only [d7,ht,cond_true]; exact hk
end
end Go.GAM
namespace Go.GAM
abbrev yK:=List AV→aA→(AV→aA→Prop)→Prop
def aEB (T:List (FuncId × yK)):aZ:=fun f args h K=>∃ X,(f,X)∈T∧X args h K
section
variable {P:Program} {w0:World} {Fz:Nat→Prop} {μ:Mu} {own:Nat→Option Nat} {h:aA} {w:World}
def aHK (P:Program) (r:FuncId × yK):Prop:=r.1<yid0∧∃ ex,aB4 P r.1 ex∧aFS P ex r.2
theorem yH {T:List (FuncId × yK)} (hT:∀ r∈T,aHK P r):jX P (aEB T):=by
 rintro w0 Fz μb f args h K ⟨X,hm,hk⟩
 obtain ⟨hlt,ex,hA,hE⟩:=hT _ hm
 exact hA.sim hE hlt hk
end
open Go.RowKit in
theorem uK {P:Program} {X:aZ} (hm:P.follows .mixedOrders=true) (hsz:P.funcs.size≤yid0) {w:World} (hX:b7 P w (fun B=>B<w.heap.size) (fun _ _=>none) X) {f:FuncId} (hb:m7 P f=true) {szOf:Nat→Nat} {avs:List AV} {args:Array Value}
  (hv:VRels (muC w szOf) avs args.toList) (hk:dV P X f avs (g9 w szOf) Yes):Calls P f args w fun e w'=>e = .returned (.bool true)∧Below w.heap.size w w':=by
 have hlt:f<yid0:=by
  unfold m7 at hb
  split at hb
  ·rename_i fn hf; exact Nat.lt_of_lt_of_le (Array.getElem?_eq_some_iff.1 hf).1 hsz
  ·cases hb
 have hs:=gX hm hsz hX f avs _ _ hk (muC w szOf) (aDS w) w args.toList (fun _ _ _ h=>by cases h) (aAO w szOf) hv
 rw [if_pos hlt] at hs
 have hrun:=pU hb args w
 rcases hs with ⟨g,as',h1,h2⟩ | ⟨v,w',h1,h2⟩
 ·rw [Array.toArray_toList, hrun] at h1
  cases h1
  refine h2.mono fun e w' ⟨v,he,v',μ',own',h',g1,g2,g3,g4⟩=>?_
  subst he
  have g1:v' = .b true:=g1
  subst g1
  cases g2
  exact ⟨rfl,g3.os,g3.tape,g3.output,g3.size0,fun k hk=>(g3.fz k hk).2⟩
 ·rw [Array.toArray_toList,hrun] at h1; cases h1
end Go.GAM
set_option maxRecDepth 20000
namespace Go.Proofs.YtpaphfeihpgamaaDoor
open Go.GAM
theorem mixedOK:prog.follows .mixedOrders=true:=by kernel_rfl
theorem sizeOK:prog.funcs.size≤yid0:=Nat.le_of_ble_eq_true (by kernel_rfl)
def aEW:List (FuncId × yK):=[]
theorem aFO:∀ r∈aEW,aHK prog r:=fun r hr=>by cases hr
theorem qX:jX prog (aEB aEW):=yH aFO
end Go.Proofs.YtpaphfeihpgamaaDoor
namespace Go.GAM
open Go.RowKit Go.ChangeShapes
section
variable {H:Type} {enc:TypeId × Value→H} {P:Program} {w:World} {szOf:Nat→Nat}
end
end Go.GAM
namespace Go.GAM
open Go.RowKit Go.ChangeShapes
theorem Upd.own {h h1 h2:aA} {id:Nat} (a:Upd (fun _=>False) h h1) (b:Upd (· = id) h1 h2) (hid:h.length≤id):Upd (fun _=>False) h h2:=a.trans b fun i hi e=>by omega
theorem Upd.ownP {M:Nat→Prop} {h h1 h2:aA} (a:Upd (fun _=>False) h h1) (b:Upd M h1 h2) (hM:∀ i,M i→h.length≤i):Upd (fun _=>False) h h2:=a.trans b fun i hi e=>by have:=hM i e; omega
theorem Upd.then {h h1 h2:aA} (a:Upd (fun _=>False) h h1) (b:Upd (fun _=>False) h1 h2):Upd (fun _=>False) h h2:=a.trans b fun _ _ h=>h
theorem aBY {zeros cs:List AV} {parts:List (Nat × Nat × AV)} {K:AV→Prop} (hf:eO zeros parts=some cs) (hk:K (.ag cs)):gQ zeros parts K:=by
 unfold gQ; rw [hf]; exact hk
def RdI (sz:Nat) (h:aA) (v:AV) (cs:List AV) (len:Nat):Prop:=
 (v = .sl none 0 none∧len=0∧cs=[])∨(len=0∧cs=[]∧∃ a c,v = .sl (some a) 0 c)∨∃ id ver off cap b,v = .sl (some ⟨id,ver,off⟩) len cap∧h[id]? = some b∧b.floor≤ver∧ver≤b.cells.length∧off+len * sz≤ver∧(b.cells.drop off).take (len * sz)=cs
theorem Rd.i {sz:Nat} {h:aA} {v:AV} {cs:List AV} {len:Nat} (R:Rd sz h v cs len):RdI sz h v cs len:=by
 rcases R with h1 | ⟨id,ver,off,cap,b,h1,h2,h3,h4⟩
 ·exact .inl h1
 ·exact .inr (.inr ⟨id,ver,off,cap,b,h1,h2,h4⟩)
theorem RdI.ext {sz:Nat} {h h':aA} {v:AV} {cs:List AV} {len:Nat} (R:RdI sz h v cs len) (U:Upd (fun _=>False) h h'):RdI sz h' v cs len:=by
 rcases R with h1 | h1 | ⟨id,ver,off,cap,b,rfl,h2,h3⟩
 ·exact .inl h1
 ·exact .inr (.inl h1)
 ·exact .inr (.inr ⟨id,ver,off,cap,b,rfl,(U.2 id (aM h2) fun h=>h).trans h2,h3⟩)
theorem RdI.len {sz:Nat} {h:aA} {v:AV} {cs:List AV} {len:Nat} (R:RdI sz h v cs len) {K:Int→Prop} (hk:K len):bK v K:=by
 rcases R with ⟨rfl,rfl,rfl⟩ | ⟨rfl,_,a,c,rfl⟩ | ⟨id,ver,off,cap,b,rfl,h2⟩ <;> exact hk
def aD0 (sz:Nat) (h:aA) (p:AV) (cs:List AV):Prop:=∃ id ver off,p = .p (some ⟨id,ver,off⟩)∧∃ b:ABlk,h[id]? = some b∧b.floor≤ver∧ver≤b.cells.length∧off+sz≤ver∧(b.cells.drop off).take sz=cs
theorem RdI.at {sz:Nat} {h:aA} {v:AV} {cs:List AV} {len:Nat} (R:RdI sz h v cs len) {i:Nat} (h1:i<len):∃ p,aD0 sz h p ((cs.drop (i * sz)).take sz)∧∀ (k:IntKind) (h':aA) (K:AV→Prop),Upd (fun _=>False) h h'→K p→aP sz v (.i k (i:Int)) h' K:=by
 rcases R with ⟨rfl,rfl,rfl⟩ | ⟨rfl,_⟩ | ⟨id,ver,off,cap,b,rfl,h2,h4,h5,h6,rfl⟩
 ·omega
 ·omega
 ·have e1 : (i + 1) * sz ≤ len * sz := Nat.mul_le_mul_right _ (by omega)
  rw [Nat.add_mul] at e1
  refine ⟨.p (some ⟨id,ver,off+i * sz⟩),⟨id,ver,off+i * sz,rfl,b,h2,h4,h5,by omega, ?_⟩,fun k h' K U hk=>?_⟩
  ·rw [List.drop_take,List.drop_drop,List.take_take,Nat.min_eq_left (by omega)]
  ·refine ⟨by omega, by omega, ⟨b, (U.2 id (aM h2) fun h => h).trans h2, h4, by omega⟩, ?_⟩
   simpa using hk
theorem aD0.loadN {sz:Nat} {h:aA} {p:AV} {cs:List AV} (A:aD0 sz h p cs) {K:AV→Prop} (hk:K (.ag cs)):dG sz p h K:=by
 obtain ⟨id,ver,off,rfl,b,h1,h2,h3,h4,rfl⟩:=A
 exact ⟨b,h1,⟨h2,h3,h4⟩,hk⟩
theorem aD0.load1 {h:aA} {p:AV} {c:AV} (A:aD0 1 h p [c]) {K:AV→Prop} (hk:K c):aD p h K:=by
 obtain ⟨id,ver,off,rfl,b,h1,h2,h3,h4,h5⟩:=A
 refine ⟨b,h1,⟨h2,h3,h4⟩, ?_⟩
 have:b.cells[off]? = some c:=by
  have:((b.cells.drop off).take 1)[0]? = some c:=by rw [h5] <;> rfl
  rw [List.getElem?_take_of_lt (by omega),List.getElem?_drop] at this
  simpa using this
 show K (b.cells.getD off .u)
 rw [getD_some this]; exact hk
theorem RdI.news {sz:Nat} {h:aA} {v:AV} {cs:List AV} {len:Nat} (R:RdI sz h v cs len) {K:List AV→Nat→Prop} (hk:K cs len):eH sz v h K:=by
 rcases R with ⟨rfl,rfl,rfl⟩ | ⟨rfl,rfl,a,c,rfl⟩ | ⟨id,ver,off,cap,b,rfl,h2,h3,h4,h5,h6⟩
 ·exact hk
 ·exact .inl ⟨rfl,hk⟩
 ·refine .inr ⟨b, h2, ⟨h3, h4, h5⟩, ?_⟩
  rw [h6]; exact hk
section
variable {H:Type} {enc:TypeId × Value→H} {P:Program} {w:World} {t:TypeId} {cs:List Value}
def InW (enc:TypeId × Value→H) (P:Program) (w:World) (t:TypeId) (cs:List Value):Prop:=
 ∃ fuel d p,DataW.trod enc P w 0 (fun _=>true) true fuel t cs=some (d,p)∧∀ m∈d.weights P t,m≤reachBytes
theorem fE {m:Nat}:∀ (ts:List TypeId) (ds:List (DataW H)) (i:Nat) (t:TypeId) (d:DataW H),ts[i]? = some t→ds[i]? = some d→m∈d.weights P t→m∈DataW.weightsEach P ts ds
 | [],_,_,_,_,h,_,_=>by simp at h
 | _ :: _,[],_,_,_,_,h,_=>by simp at h
 | t' :: ts, d' :: ds, 0, t, d, h1, h2, h => by
  simp at h1 h2; subst h1; subst h2
  unfold DataW.weightsEach
  exact List.mem_append_left _ h
 | t' :: ts, d' :: ds, i + 1, t, d, h1, h2, h => by
  unfold DataW.weightsEach
  exact List.mem_append_right _ (fE ts ds i t d (by simpa using h1) (by simpa using h2) h)
theorem InW.int {k:IntKind} (ht:P.underlying t=some (.int k)) (h:InW enc P w t cs):∃ n,cs=[.int k n]∧(Lit.int k n).wf=true:=by
 obtain ⟨fuel,d,p,h1,h2⟩:=h
 obtain ⟨n,e1,_,e3⟩:=DataW.trod_int ht h1
 exact ⟨n,e1,e3⟩
theorem InW.struct {fs:Array Field} (ht:P.underlying t=some (.struct fs)) (h:InW enc P w t cs):cs.length=P.cellsOf t∧∀ (i:Nat) (f:Field),fs[i]? = some f→InW enc P w f.type ((cs.drop f.offset).take (P.cellsOf f.type)):=by
 obtain ⟨fuel,d,p,h1,h2⟩:=h
 obtain ⟨xs,n,_,hx,hlen,hl,hf⟩:=DataW.trod_struct ht h1
 refine ⟨hlen,fun i f hi=>?_⟩
 have hi':i<fs.size:=(Array.getElem?_eq_some_iff.1 hi).1
 have hxi:xs[i]? = some (xs[i]'(by omega)):=List.getElem?_eq_getElem _
 generalize xs[i]'(by omega)=y at hxi
 obtain ⟨d',p'⟩:=y
 refine ⟨n,d',p',(hf i f hi).trans hxi,fun m hm=>h2 m ?_⟩
 have hd:d = .agg (xs.map (·.1)):=congrArg Prod.fst hx
 subst hd
 unfold DataW.weights
 rw [ht]
 refine fE _ _ i f.type d' ?_ ?_ hm
 ·rw [List.getElem?_map,Array.getElem?_toList,hi] <;> rfl
 ·rw [List.getElem?_map,hxi] <;> rfl
theorem oP:∀ {ts:List TypeId} {vs:List Value} {ds:List (DataW H)} {ps:List MemPlace},DataW.TrodAll enc P w 0 (fun _=>true) true ts vs ds ps→∀ (i:Nat) (t:TypeId) (v:Value),ts[i]? = some t→vs[i]? = some v→∃ d p,ds[i]? = some d∧DataW.Trod enc P w 0 (fun _=>true) true t v d p
 | [],_,_,_,_,i,t,v,h,_=>by simp at h
 | _ :: _,[],_,_,_,i,t,v,_,h=>by simp at h
 | _ :: _,_ :: _,[],_,h,_,_,_,_,_=>by simp [DataW.TrodAll] at h
 | t' :: ts, v' :: vs, d' :: ds, ps, h, 0, t, v, h1, h2 => by
  simp at h1 h2; subst h1; subst h2
  obtain ⟨p,q,g1,_⟩:=h
  exact ⟨d',p,rfl,g1⟩
 | t' :: ts, v' :: vs, d' :: ds, ps, h, i + 1, t, v, h1, h2 => by
  obtain ⟨p,q,_,g2,_⟩:=h
  exact oP g2 i t v (by simpa using h1) (by simpa using h2)
theorem sized_reads {f:Func} {vars:List String} {ap:Bool} {args:Array Value} {ds gs:List (DataW H)} {before:List MemPlace} {vts:List TypeId} (hW:DataW.Whole enc P f.params.toList vars ap w args.toList ds gs before)
  (hw:(DataW.weightsEach P (f.params.toList++vts) (ds++gs)).all (· ≤ reachBytes)=true) (i:Nat) (t:TypeId) (v:Value) (h1:f.params[i]? = some t) (h2:args[i]? = some v):InW enc P w t v.cells.toList:=by
 obtain ⟨p,q,hA,_⟩:=hW
 have h1':f.params.toList[i]? = some t:=by rw [Array.getElem?_toList]; exact h1
 obtain ⟨d,p',g1,fuel,g2⟩:=oP hA i t v h1' (by rw [Array.getElem?_toList]; exact h2)
 refine ⟨fuel,d,p',g2,fun m hm=>?_⟩
 have:=List.all_eq_true.1 hw m (fE _ _ i t d ?_ ?_ hm)
 ·simpa using this
 ·rw [List.getElem?_append_left (aM h1')]; exact h1'
 ·rw [List.getElem?_append_left (aM g1)]; exact g1
end
end Go.GAM
namespace Go.GAM
theorem bG {a:AA} {K:AV→Prop}:aU (.p (some a)) K=K (.p (some a)):=rfl
theorem bE {id ver off o:Nat} {K:AV→Prop}:aC o (.p (some ⟨id,ver,off⟩)) K=K (.p (some ⟨id,ver,off+o⟩)):=rfl
theorem iF {n:Int} {K:Int→Prop}:asI .i64 (.i .i64 n) K=K n:=rfl
theorem cY {a:AV} {l:List AV} {K:AV→Prop}:aL 0 (.tu (a :: l)) K=K a:=propext ⟨fun h=>h.2,fun h=>⟨by simp,h⟩⟩
theorem cX {a b:AV} {l:List AV} {K:AV→Prop}:aL 1 (.tu (a :: b :: l)) K=K b:=propext ⟨fun h=>h.2,fun h=>⟨by simp,h⟩⟩
theorem xR {a b c:AV} {l:List AV} {K:AV→Prop}:aL 2 (.tu (a :: b :: c :: l)) K=K c:=propext ⟨fun h=>h.2,fun h=>⟨by simp,h⟩⟩
theorem nZ {v:AV} {A:Prop}:(v=v∧A)=A:=by simp
theorem aHN {h:aA} {id n o:Nat} {cs:List AV} {v:AV} {K:AV→Prop} (R:bD h id cs) (hn:n=cs.length) (hc:cs[o]? = some v):aD (.p (some ⟨id,n,o⟩)) h K=K v:=by
 refine propext ⟨fun hk=>?_,fun hk=>aE R hn hc hk⟩
 obtain ⟨b,h1,_,h2⟩:=hk
 obtain ⟨b',g1,g2,_⟩:=R
 have h1:h[id]? = some b:=h1
 rw [g1] at h1
 cases h1
 have h2:K (b.cells.getD o .u):=h2
 rw [g2,getD_some hc] at h2
 exact h2
def ptr (v:AV) (sz i o:Nat):AV:=match v with
 | .sl (some a) _ _=>.p (some ⟨a.id,a.ver,a.off+i * sz+o⟩)
 | _=>.u
theorem aCY {sz:Nat} {h:aA} {v:AV} {cs:List AV} {len:Nat} (R:RdI sz h v cs len) {k:IntKind} {n:Int} (h0:0≤n) (h1:n<len) {K:AV→Prop}:aP sz v (.i k n) h K=K (ptr v sz n.toNat 0):=by
 rcases R with ⟨rfl,rfl,rfl⟩ | ⟨rfl,_⟩ | ⟨id,ver,off,cap,b,rfl,h2,h4,h5,h6,h7⟩
 ·omega
 ·omega
 ·exact propext ⟨fun hk=>hk.2.2.2,fun hk=>⟨h0,h1,⟨b,h2,h4,by omega⟩,hk⟩⟩
theorem aBX {v:AV} {sz i o:Nat} {h:aA} {cs:List AV} {len:Nat} {c:AV} (R:RdI sz h v cs len) (hi:i<len) (ho:o<sz) (hc:cs[i * sz+o]? = some c) {K:AV→Prop}:aD (ptr v sz i o) h K=K c:=by
 rcases R with ⟨rfl,rfl,rfl⟩ | ⟨rfl,_⟩ | ⟨id,ver,off,cap,b,rfl,h2,h4,h5,h6,h7⟩
 ·omega
 ·omega
 ·have e1 : (i + 1) * sz ≤ len * sz := Nat.mul_le_mul_right _ (by omega)
  rw [Nat.add_mul] at e1
  have hcell:b.cells.getD (off+i * sz+o) .u=c:=by
   rw [← h7,List.getElem?_take_of_lt (by omega),List.getElem?_drop] at hc
   exact getD_some (by rw [← hc]; congr 1; omega)
  refine propext ⟨fun hk=>?_,fun hk=>⟨b,h2,⟨h4,h5,by simp only; omega⟩,by simp only; rw [hcell]; exact hk⟩⟩
  obtain ⟨b',g1,_,g2⟩:=hk
  have g1:h[id]? = some b':=g1
  rw [h2] at g1
  cases g1
  have g2:K (b.cells.getD (off+i * sz+o) .u):=g2
  rw [hcell] at g2
  exact g2
theorem RdI.upd {sz:Nat} {M:Nat→Prop} {h h':aA} {v:AV} {cs:List AV} {len:Nat} (R:RdI sz h v cs len) (U:Upd M h h') (hM:∀ id,aN v id→¬ M id):RdI sz h' v cs len:=by
 rcases R with h1 | h1 | ⟨id,ver,off,cap,b,rfl,h2,h3⟩
 ·exact .inl h1
 ·exact .inr (.inl h1)
 ·exact .inr (.inr ⟨id,ver,off,cap,b,rfl,(U.2 id (aM h2) (hM id rfl)).trans h2,h3⟩)
theorem Stk.app1 {ty : Option TypeId} {bytes : Nat} {h : aA} {v x y : AV} {l : List AV} (S : Stk h v l) (R1 : Rd 1 h y [x] 1) (hx : x.cellOK = true) (hlen : (l.length + 1) * bytes ≤ 140737488355328) (hl2 : l.length + 1 ≤ 9223372036854775807) {K : AV → aA → Prop}
  (hk:∀ v' h',Upd (aN v) h h'→Stk h' v' (l++[x])→(∀ i,aN v' i→aN v i∨h.length≤i)→K v' h'):bV ty 1 bytes v y h K:=by
 refine ⟨Nat.one_pos,R1.news ?_⟩
 rcases S with ⟨rfl,rfl⟩ | ⟨id,b,rfl,g1,g2,g3,g4,g5,g6,g7⟩
 ·refine ⟨by simpa using hlen, by omega, ?_⟩
  rw [if_neg (by decide)]
  exact hk _ _ ((Upd.app _ _).mono fun _ _ h=>h.elim) (.inr ⟨h.length,bC [x] 1 false ty,by simp [bC],by simp,rfl,by simp [bC],by simp [bC],by simp [bC],rfl,rfl⟩) fun i hi=>.inr (by have e:h.length=i:=hi; omega)
 ·have hid := aM g1
  refine ⟨hlen,by omega,b,g1,g2,⟨g5,Nat.le_refl _,by simp only; omega⟩, ?_⟩
  by_cases hfull:l.length=b.cells.length
  ·cases hex : b.ex with
   | true =>
    refine .inr (.inl ⟨Nat.one_pos,.inr ⟨rfl,rfl,rfl,by simp only; omega⟩, ?_⟩)
    refine hk _ _ ((Upd.app _ _).mono fun _ _ h=>h.elim) (.inr ⟨h.length,bC (l++[x]) 1 false ty, ?_, ?_,rfl,by simp [bC],by simp only [bC,List.length_append]; exact List.take_of_length_le (by simp),by simp [bC],rfl,rfl⟩) fun i hi=>.inr (by have e:h.length=i:=hi; omega)
    ·simp [bC,g4,g3]
    ·simp [g4]
   | false =>
    refine .inr (.inr (.inr (.inl ⟨Nat.one_pos,g6,rfl,rfl,by omega,rfl,rfl,g7,by simp [hx], ?_⟩)))
    have hcl:b.cells=l:=by rw [hfull,List.take_length] at g4; exact g4
    refine hk _ _ ((Upd.set _ _ _).mono fun i _ h=>h.symm) (.inr ⟨id,{ b with cells:=b.cells++[x],ty:=fD b.ty ty }, ?_,by simp [hid,hex],g2,by simp; omega, ?_,by simp; omega,g6,g7⟩) fun i hi=>.inl hi
    ·simp
    ·simp only [hcl]
     rw [List.take_of_length_le (by simp)]
  ·refine .inr (.inr (.inl ⟨Nat.one_pos, g6, rfl, by simp only; omega, .inl rfl, by simp [hx], ?_⟩))
   refine hk _ _ ((Upd.set _ _ _).mono fun i _ h=>h.symm) (.inr ⟨id,{ b with cells:=wr b.cells (0+l.length * 1) [x],floor:=b.cells.length }, ?_,show (h.set id _)[id]? = some _ from List.getElem?_set_self hid,g2, ?_, ?_, ?_,g6,g7⟩) fun i hi=>.inl hi
   ·simp [wr]
   ·simp [wr]; omega
   ·simp only [wr, Nat.zero_add, Nat.mul_one, List.length_append, List.length_cons, List.length_nil]
    apply List.ext_getElem?
    intro i
    by_cases h1:i<l.length
    ·rw [List.getElem?_take_of_lt (by omega), List.getElem?_set_ne (by omega), List.getElem?_append_left h1]
     conv=>rhs; rw [← g4]
     rw [List.getElem?_take_of_lt h1]
    ·by_cases h2 : i = l.length
     ·subst h2
      rw [List.getElem?_take_of_lt (by omega),List.getElem?_set_self (by omega),List.getElem?_append_right (by omega)]
      simp
     ·rw [List.getElem?_eq_none (by simp; omega),List.getElem?_eq_none (by simp; omega)]
   ·simp [wr]
end Go.GAM
namespace Go.Proofs.YtpaphfeihpgamaaDoor
open Go.GAM
open Go.Infl (bP dI bY Out Lim)
structure DR where
 past:AV
 total:Nat
 fresh:AV
 input:Nat
 last:Bool
 done:Bool
 bad:Bool
 skip:Bool
 rest:List UInt8
 acc:Nat
 have':Nat
 need:Nat
 code:AV
 next:AV
abbrev iN (n:Nat):AV:=.i .i64 (n:Int)
def DR.cells (L:Lim) (r:DR):List AV:=[iN L.output,iN L.ratio,r.past,iN r.total,r.fresh,iN r.input,.b r.last,.b r.done,.b r.bad,.b r.skip,.s r.rest,iN r.acc,iN r.have',iN r.need,r.code,r.next]
abbrev dp (d:Nat):AV:=.p (some ⟨d,16,0⟩)
abbrev cp (c:Nat):AV:=.p (some ⟨c,52,0⟩)
abbrev Fn (f:FuncId) (cap:List AV):AV:=.fn (.func f) [] cap
def bB (l:List Nat):List AV:=l.map fun n:Nat=>.i .i64 (n:Int)
def Mut (d:Nat) (r:DR) (i:Nat):Prop:=i=d∨aN r.past i∨aN r.fresh i
structure Dec (L:Lim) (h:aA) (F:Nat→Prop) (d:Nat) (r:DR) (out:List UInt8) (told:Nat):Prop where
 recd:bD h d (r.cells L)
 past:Stk h r.past (out.map byteAV)
 fresh:Stk h r.fresh ((out.drop told).map byteAV)
 total:r.total=out.length
 told:told≤out.length
 d1:¬ aN r.past d
 d2:¬ aN r.fresh d
 d3:∀ i,aN r.past i→¬ aN r.fresh i
 lim:L.output≤65536∧L.ratio≤1100
 inp:r.input≤1099511627776
 len:out.length≤65536
 f:∀ i,Mut d r i→F i
theorem Dec.lt {L:Lim} {h:aA} {F:Nat→Prop} {d:Nat} {r:DR} {out:List UInt8} {told:Nat} (D:Dec L h F d r out told) {i:Nat} (hi:Mut d r i):i<h.length:=by
 rcases hi with rfl | hi | hi
 ·exact D.recd.lt
 ·exact D.past.rd.lt hi
 ·exact D.fresh.rd.lt hi
theorem Dec.upd {L:Lim} {h h':aA} {F:Nat→Prop} {d:Nat} {r:DR} {out:List UInt8} {told:Nat} (D:Dec L h F d r out told) {M:Nat→Prop} (U:Upd M h h') (hM:∀ i,Mut d r i→¬ M i):Dec L h' F d r out told:=
 { D with recd:=D.recd.upd U (hM d (.inl rfl)),past:=D.past.upd U fun i hi=>hM i (.inr (.inl hi)),fresh:=D.fresh.upd U fun i hi=>hM i (.inr (.inr hi)) }
theorem Dec.ext {L:Lim} {h h':aA} {F:Nat→Prop} {d:Nat} {r:DR} {out:List UInt8} {told:Nat} (D:Dec L h F d r out told) (U:Upd (fun _=>False) h h'):Dec L h' F d r out told:=D.upd U fun _ _ h=>h
theorem Dec.with {L:Lim} {h h':aA} {F:Nat→Prop} {d:Nat} {r r':DR} {out:List UInt8} {told:Nat} (D:Dec L h F d r out told) (U:Upd (· = d) h h') (R:bD h' d (r'.cells L)) (h1:r'.past=r.past) (h2:r'.fresh=r.fresh) (h3:r'.total=r.total) (h4:r'.input=r.input):Dec L h' F d r' out told:=
 { recd:=R,past:=by rw [h1]; exact D.past.upd U fun i hi e=>D.d1 (e ▸ hi),fresh:=by rw [h2]; exact D.fresh.upd U fun i hi e=>D.d2 (e ▸ hi),total:=by rw [h3]; exact D.total,told:=D.told,d1:=by rw [h1]; exact D.d1,d2:=by rw [h2]; exact D.d2,d3:=by rw [h1,h2]; exact D.d3,lim:=D.lim,inp:=by rw [h4]; exact D.inp,len:=D.len,f:=fun i hi=>D.f i (by unfold Mut at hi ⊢; rw [h1,h2] at hi; exact hi) }
def Bx (h:aA) (G:Nat→Prop) (b v:AV):Prop:=∃ id,b = .p (some ⟨id,1,0⟩)∧bD h id [v]∧G id
theorem Bx.upd {h h':aA} {G G' N:Nat→Prop} {b v:AV} (B:Bx h G b v) (U:Upd N h h') (hN:∀ i,G i→¬ N i) (hG:∀ i,i<h.length→G i→G' i):Bx h' G' b v:=by
 obtain ⟨id,e,R,g⟩:=B
 exact ⟨id,e,R.upd U (hN id g),hG id R.lt g⟩
theorem Bx.ld {h:aA} {G:Nat→Prop} {b v:AV} {K:AV→Prop} (B:Bx h G b v):aD b h K=K v:=by
 obtain ⟨id,rfl,R,g⟩:=B
 exact aHN R rfl rfl
theorem Bx.new {h h1:aA} {G:Nat→Prop} {v:AV} (R:bD h1 h.length [v]) (hG:G h.length):Bx h1 G (.p (some ⟨h.length,1,0⟩)) v:=⟨_,rfl,R,hG⟩
def cV (l:List Nat) (n:Nat):Nat:=((List.range n).map (Huff.cnt l)).sum
def jN (n:Nat):List Nat→Nat→List Nat
 | [],_=>[]
 | x :: r,i=>if x=n then i :: jN n r (i+1) else jN n r (i+1)
def xF (l:List Nat) (n:Nat):List Nat:=jN n l 0
def eW (l:List Nat) (n:Nat):List Nat:=(List.range n).flatMap fun k=>xF l (k+1)
def cW (l:List Nat) (sym:AV) (n x:Nat):List AV:=bB ((List.range 16).map (Huff.cnt l))++bB ((List.range 16).map (Huff.fst l))++[sym]++bB ((List.range 16).map (cV l))++[iN (Huff.longest l),iN x,iN n]
structure b6 (h:aA) (G:Nat→Prop) (id:Nat) (l:List Nat) (sym:AV) (n x:Nat):Prop where
 recd:bD h id (cW l sym n x)
 syms:RdI 1 h sym (bB (eW l 15)) (eW l 15).length
 g:G id
 gs:∀ i,aN sym i→G i∧i≠id∧i<h.length
 ok:Huff.checkP l=0
 len:l.length≤320
 le:∀ x∈l,x≤15
theorem b6.upd {h h':aA} {G G' N:Nat→Prop} {id n x:Nat} {l:List Nat} {sym:AV} (A:b6 h G id l sym n x) (U:Upd N h h') (hN:∀ i,G i→¬ N i) (hG:∀ i,i<h.length→G i→G' i):b6 h' G' id l sym n x:=
 { A with recd:=A.recd.upd U (hN id A.g),syms:=A.syms.upd U fun i hi=>hN i (A.gs i hi).1,g:=hG id A.recd.lt A.g,gs:=fun i hi=>⟨hG i (A.gs i hi).2.2 (A.gs i hi).1,(A.gs i hi).2.1,Nat.lt_of_lt_of_le (A.gs i hi).2.2 U.1⟩ }
def cO (h:aA) (G:Nat→Prop) (v:AV) (l:List Nat):Prop:=∃ id b,v = .sl (some ⟨id,l.length,0⟩) l.length none∧h[id]? = some b∧b.cells=bB l∧b.floor≤l.length∧b.ro=false∧b.sz=1∧G id
theorem cO.upd {h h':aA} {G G' N:Nat→Prop} {v:AV} {l:List Nat} (A:cO h G v l) (U:Upd N h h') (hN:∀ i,G i→¬ N i) (hG:∀ i,i<h.length→G i→G' i):cO h' G' v l:=by
 obtain ⟨id,b,e,h1,h2,h3,h4,h5,g⟩:=A
 exact ⟨id,b,e,(U.2 id (aM h1) (hN id g)).trans h1,h2,h3,h4,h5,hG id (aM h1) g⟩
def Exa (h:aA) (v:AV) (l:List Nat):Prop:=
 (v = .sl none 0 none∧l=[])∨∃ id b,v = .sl (some ⟨id,l.length,0⟩) l.length none∧h[id]? = some b∧b.sz=1∧b.cells=bB l∧b.floor≤l.length∧b.ro=false∧b.gl=false
theorem Exa.upd {M:Nat→Prop} {h h':aA} {v:AV} {l:List Nat} (S:Exa h v l) (U:Upd M h h') (hM:∀ i,aN v i→¬ M i):Exa h' v l:=by
 rcases S with h1 | ⟨id,b,rfl,h1,h2⟩
 ·exact .inl h1
 ·exact .inr ⟨id,b,rfl,(U.2 id (aM h1) (hM id rfl)).trans h1,h2⟩
theorem Exa.lt {h:aA} {v:AV} {l:List Nat} (S:Exa h v l) {i:Nat} (hi:aN v i):i<h.length:=by
 rcases S with ⟨rfl,_⟩ | ⟨id,b,rfl,h1,h2⟩
 ·exact hi.elim
 ·have e : id = i := hi
  exact e ▸ aM h1
def Lst (h:aA) (G:Nat→Prop) (v:AV) (l:List Nat):Prop:=Exa h v l∧∀ i,aN v i→G i
theorem Lst.upd {h h':aA} {G G' N:Nat→Prop} {v:AV} {l:List Nat} (A:Lst h G v l) (U:Upd N h h') (hN:∀ i,G i→¬ N i) (hG:∀ i,i<h.length→G i→G' i):Lst h' G' v l:=
 ⟨A.1.upd U fun i hi=>hN i (A.2 i hi),fun i hi=>hG i (A.1.lt hi) (A.2 i hi)⟩
def Two (h:aA) (G:Nat→Prop) (ia:Nat) (syma:AV) (a:List Nat) (ib:Nat) (symb:AV) (b:List Nat):Prop:=
 b6 h (fun i=>G i∧i≠ib) ia a syma 0 0∧b6 h (fun i=>G i∧i≠ia) ib b symb 0 0
theorem Two.upd {h h':aA} {G G' N:Nat→Prop} {ia ib:Nat} {syma symb:AV} {a b:List Nat} (A:Two h G ia syma a ib symb b) (U:Upd N h h') (hN:∀ i,G i→¬ N i) (hG:∀ i,i<h.length→G i→G' i):Two h' G' ia syma a ib symb b:=
 ⟨A.1.upd U (fun i hi=>hN i hi.1) fun i hl hi=>⟨hG i hl hi.1,hi.2⟩,A.2.upd U (fun i hi=>hN i hi.1) fun i hl hi=>⟨hG i hl hi.1,hi.2⟩⟩
def Clo (h:aA) (G:Nat→Prop) (d:Nat) (ic:Nat) (sym:AV):bY→AV→Prop
 | .block,v=>∃ bd,v=Fn Y72.id [bd]∧Bx h G bd (dp d)
 | .stored1,v=>∃ bd,v=Fn Y62.id [bd]∧Bx h G bd (dp d)
 | .stored2 n,v=>∃ bn bd,v=Fn Y83.id [bn,bd]∧Bx h G bn (iN n)∧Bx h G bd (dp d)
 | .raw n,v=>∃ bd bn,v=Fn Y78.id [bd,bn]∧Bx h G bd (dp d)∧Bx h G bn (iN n)
 | .lit a b,v=>∃ bd ba bb ib symb,v=Fn Y82.id [bd,ba,bb]∧Bx h G bd (dp d)∧Bx h G ba (cp ic)∧Bx h G bb (cp ib)∧b6 h G ib b symb 0 0∧¬ aN sym ib
 | .more a b n,v=>∃ bd bb bn ba ia syma ib symb,v=Fn Y68.id [bd,bb,bn,ba]∧Bx h G bd (dp d)∧Bx h G bb (cp ib)∧Bx h G bn (iN n)∧Bx h G ba (cp ia)∧Two h G ia syma a ib symb b
 | .far a b n,v=>∃ bd bn bm ba bb n0 m ia syma,v=Fn Y81.id [bd,bn,bm,ba,bb]∧n=n0+m∧Bx h G bd (dp d)∧Bx h G bn (iN n0)∧Bx h G bm (iN m)∧Bx h G ba (cp ia)∧Bx h G bb (cp ic)∧b6 h G ia a syma 0 0∧¬ aN sym ia
 | .farMore a b n f,v=>∃ bd bn bm bf ba bb n0 m ia syma ib symb,v=Fn Y75.id [bd,bn,bm,bf,ba,bb]∧n=n0+m∧Bx h G bd (dp d)∧Bx h G bn (iN n0)∧Bx h G bm (iN m)∧Bx h G bf (iN f)∧Bx h G ba (cp ia)∧Bx h G bb (cp ib)∧Two h G ia syma a ib symb b
 | .dyn1,v=>∃ bd,v=Fn Y66.id [bd]∧Bx h G bd (dp d)
 | .dyn2 lits,v=>∃ bd bl,v=Fn Y71.id [bd,bl]∧Bx h G bd (dp d)∧Bx h G bl (iN lits)
 | .dyn3 lits dists,v=>∃ bd bl bs,v=Fn Y76.id [bd,bl,bs]∧Bx h G bd (dp d)∧Bx h G bl (iN lits)∧Bx h G bs (iN dists)
 | .third l i n lits dists,v=>∃ bl bi bd bn bt bs lv,v=Fn Y74.id [bl,bi,bd,bn,bt,bs]∧cO h G lv l∧Bx h (fun i=>G i∧¬ aN lv i) bl lv∧Bx h (fun i=>G i∧¬ aN lv i) bi (iN i)∧Bx h (fun i=>G i∧¬ aN lv i) bd (dp d)∧Bx h (fun i=>G i∧¬ aN lv i) bn (iN n)∧Bx h (fun i=>G i∧¬ aN lv i) bt (iN lits)∧Bx h (fun i=>G i∧¬ aN lv i) bs (iN dists)
 | .lens c l lits dists,v=>∃ bd bc bl bt bs br lv,v=Fn Y38.id [bd,bc,bl,bt,bs,br]∧Lst h G lv l∧(∀ i,aN lv i→¬ aN sym i)∧Bx h (fun i=>G i∧¬ aN lv i) bd (dp d)∧Bx h (fun i=>G i∧¬ aN lv i) bc (cp ic)∧Bx h (fun i=>G i∧¬ aN lv i) bl lv∧Bx h (fun i=>G i∧¬ aN lv i) bt (iN lits)∧Bx h (fun i=>G i∧¬ aN lv i) bs (iN dists)∧Bx h (fun i=>G i∧¬ aN lv i) br (Fn Y60.id [bd,bl,bt,bs,bc])
 | .rep c l lits dists m x,v=>∃ bl bm bt bs bd bc bx ic symc lv,v=Fn Y80.id [bl,bm,bt,bs,bd,bc,bx]∧Lst h (fun i=>G i∧i≠ic∧¬ aN symc i) lv l∧b6 h G ic c symc 0 0∧Bx h (fun i=>G i∧¬ aN lv i) bl lv∧Bx h (fun i=>G i∧¬ aN lv i) bm (iN m)∧Bx h (fun i=>G i∧¬ aN lv i) bt (iN lits)∧Bx h (fun i=>G i∧¬ aN lv i) bs (iN dists)∧Bx h (fun i=>G i∧¬ aN lv i) bd (dp d)∧Bx h (fun i=>G i∧¬ aN lv i) bc (cp ic)∧Bx h (fun i=>G i∧¬ aN lv i) bx (iN x)
theorem Clo.upd {h h':aA} {G G' N:Nat→Prop} {d ic:Nat} {sym:AV} {c:bY} {v:AV} (A:Clo h G d ic sym c v) (U:Upd N h h') (hN:∀ i,G i→¬ N i) (hG:∀ i,i<h.length→G i→G' i):Clo h' G' d ic sym c v:=by
 have b:∀ {x y},Bx h G x y→Bx h' G' x y:=fun B=>B.upd U hN hG
 have b2:∀ {x y} {S:Nat→Prop},Bx h (fun i=>G i∧¬ S i) x y→Bx h' (fun i=>G' i∧¬ S i) x y:=fun B=>B.upd U (fun i hi=>hN i hi.1) fun i hl hi=>⟨hG i hl hi.1,hi.2⟩
 have k:∀ {i l s n x},b6 h G i l s n x→b6 h' G' i l s n x:=fun B=>B.upd U hN hG
 have tw:∀ {ia syma a ib symb b},Two h G ia syma a ib symb b→Two h' G' ia syma a ib symb b:=fun B=>B.upd U hN hG
 cases c with
 | block=>obtain ⟨bd,e,h1⟩:=A; exact ⟨bd,e,b h1⟩
 | stored1=>obtain ⟨bd,e,h1⟩:=A; exact ⟨bd,e,b h1⟩
 | stored2 n=>obtain ⟨bn,bd,e,h1,h2⟩:=A; exact ⟨bn,bd,e,b h1,b h2⟩
 | raw n=>obtain ⟨bn,bd,e,h1,h2⟩:=A; exact ⟨bn,bd,e,b h1,b h2⟩
 | lit x y=>obtain ⟨bd,ba,bb,ib,symb,e,h1,h2,h3,h4,h5⟩:=A; exact ⟨bd,ba,bb,ib,symb,e,b h1,b h2,b h3,k h4,h5⟩
 | more x y n=>obtain ⟨bd,bb,bn,ba,ia,syma,ib,symb,e,h1,h2,h3,h4,h5⟩:=A; exact ⟨bd,bb,bn,ba,ia,syma,ib,symb,e,b h1,b h2,b h3,b h4,tw h5⟩
 | far x y n=>obtain ⟨bd,bn,bm,ba,bb,n0,m,ia,syma,e,hn,h1,h2,h3,h4,h5,h6,h7⟩:=A; exact ⟨bd,bn,bm,ba,bb,n0,m,ia,syma,e,hn,b h1,b h2,b h3,b h4,b h5,k h6,h7⟩
 | farMore x y n f=>obtain ⟨bd,bn,bm,bf,ba,bb,n0,m,ia,syma,ib,symb,e,hn,h1,h2,h3,h4,h5,h6,h7⟩:=A; exact ⟨bd,bn,bm,bf,ba,bb,n0,m,ia,syma,ib,symb,e,hn,b h1,b h2,b h3,b h4,b h5,b h6,tw h7⟩
 | dyn1=>obtain ⟨bd,e,h1⟩:=A; exact ⟨bd,e,b h1⟩
 | dyn2 lits=>obtain ⟨bd,bl,e,h1,h2⟩:=A; exact ⟨bd,bl,e,b h1,b h2⟩
 | dyn3 lits dists=>obtain ⟨bd,bl,bs,e,h1,h2,h3⟩:=A; exact ⟨bd,bl,bs,e,b h1,b h2,b h3⟩
 | third l i n lits dists=>obtain ⟨bl,bi,bd,bn,bt,bs,lv,e,h0,h1,h2,h3,h4,h5,h6⟩:=A; exact ⟨bl,bi,bd,bn,bt,bs,lv,e,h0.upd U hN hG,b2 h1,b2 h2,b2 h3,b2 h4,b2 h5,b2 h6⟩
 | lens x l lits dists=>obtain ⟨bd,bc,bl,bt,bs,br,lv,e,h0,h00,h1,h2,h3,h4,h5,h6⟩:=A; exact ⟨bd,bc,bl,bt,bs,br,lv,e,h0.upd U hN hG,h00,b2 h1,b2 h2,b2 h3,b2 h4,b2 h5,b2 h6⟩
 | rep x l lits dists m y=>obtain ⟨bl,bm,bt,bs,bd,bc,bx,ic,symc,lv,e,h0,h00,h1,h2,h3,h4,h5,h6,h7⟩:=A; exact ⟨bl,bm,bt,bs,bd,bc,bx,ic,symc,lv,e,h0.upd U (fun i hi=>hN i hi.1) (fun i hl hi=>⟨hG i hl hi.1,hi.2⟩),k h00,b2 h1,b2 h2,b2 h3,b2 h4,b2 h5,b2 h6,b2 h7⟩
def Gd (F:Nat→Prop) (d:Nat) (r:DR) (i:Nat):Prop:=F i∧¬ Mut d r i
def kG:bY→Option (List Nat)
 | .lit a _=>some a
 | .far _ b _=>some b
 | .lens c _ _ _=>some c
 | _=>none
def wG (h:aA) (F:Nat→Prop) (d:Nat) (r:DR):dI→bY→Prop
 | .num need have' acc,c=>kG c=none∧r.code = .p none∧r.need=need∧r.have'=have'∧r.acc=acc∧Clo h (Gd F d r) d 0 (.p none) c r.next
 | .sym l n x,c=>kG c=some l∧∃ ic sym,r.code=cp ic∧b6 h (Gd F d r) ic l sym n x∧Clo h (fun i=>Gd F d r i∧i≠ic) d ic sym c r.next
def fit:bY→Nat→Prop
 | .block,v=>v<8
 | .stored1,v=>v<65536
 | .stored2 n,v=>n<65536∧v<65536
 | .raw n,v=>0<n∧n<65536∧v<256
 | .lit a b,v=>v<320
 | .more a b n,v=>n+v≤300
 | .far a b n,v=>n≤300∧v<320
 | .farMore a b n f,v=>n≤300∧0<f∧f+v≤32768
 | .dyn1,v=>v<32
 | .dyn2 lits,v=>lits≤286∧v<32
 | .dyn3 lits dists,v=>lits≤286∧dists≤30∧v<16
 | .third l i n lits dists,v=>lits≤286∧dists≤30∧l.length=19∧i<n∧n≤19∧(∀ x∈l,x<8)∧v<8
 | .lens c l lits dists,v=>c.length≤19∧lits≤286∧dists≤30∧l.length<lits+dists∧(∀ x∈l,x<16)∧v<19
 | .rep c l lits dists m x,v=>c.length≤19∧lits≤286∧dists≤30∧l.length<lits+dists∧(∀ x∈l,x<16)∧x<16∧0<m∧m+v≤138
def short:bY→Prop
 | .more .. | .farMore ..=>True
 | _=>False
def xP:dI→bY→Prop
 | .num need have' acc,c=>need≤16∧acc<2 ^ have'∧(have'<need∨need=0∧have'=0∧short c)∧∀ v,v<2 ^ need→fit c v
 | .sym l n x,c=>n≤15∧x<2 ^ n∧∀ v,v<l.length→fit c v
def eno:Nat→Int
 | 1=>2
 | 2=>16
 | _=>2
def St (h:aA) (F:Nat→Prop) (d:Nat) (r:DR):Out→Int→Prop
 | .wait k w c,e=>e=0∧r.last=k.last∧r.skip=k.skip∧r.done=false∧wG h F d r w c∧xP w c
 | .done k,e=>e=0∧r.done=true
 | .err x k,e=>e=eno x∧(x=1∨x=2)∧r.done=false
structure cQ (M:Nat→Prop) (L:Lim) (h:aA) (F:Nat→Prop) (d:Nat) (r:DR) (told:Nat) (o:Out) (e:Int) (h':aA) (r':DR):Prop where
 upd:Upd M h h'
 keep:∀ i,i<h.length→Mut d r' i→Mut d r i
 dec:Dec L h' F d r' o.core.out told
 inp:r'.input=r.input
 bad:r'.bad=r.bad
 rest:r'.rest=r.rest
 st:St h' F d r' o e
theorem cQ.from {M N:Nat→Prop} {L:Lim} {h h1 h':aA} {F:Nat→Prop} {d:Nat} {r r1 r':DR} {told:Nat} {o:Out} {e:Int} (P:cQ M L h1 F d r1 told o e h' r') (U:Upd N h h1) (hN:∀ i,i<h.length→N i→M i) (hk:∀ i,i<h.length→Mut d r1 i→Mut d r i) (e1:r1.input=r.input) (e2:r1.bad=r.bad) (e3:r1.rest=r.rest):cQ M L h F d r told o e h' r':=
 ⟨(U.mono hN).trans P.upd fun _ _ h=>h,fun i hi hm=>hk i hi (P.keep i (Nat.lt_of_lt_of_le hi U.1) hm),P.dec,P.inp.trans e1,P.bad.trans e2,P.rest.trans e3,P.st⟩
theorem cQ.mono {M N:Nat→Prop} {L:Lim} {h h':aA} {F:Nat→Prop} {d:Nat} {r r':DR} {told:Nat} {o:Out} {e:Int} (P:cQ M L h F d r told o e h' r') (hN:∀ i,i<h.length→M i→N i):cQ N L h F d r told o e h' r':={ P with upd:=P.upd.mono hN }
end Go.Proofs.YtpaphfeihpgamaaDoor
namespace Go.Proofs.YtpaphfeihpgamaaDoor
open Go.GAM
open Go.Infl (bP dI bY Out Lim)
theorem ltr {a b:Nat} (h:Nat.ble (a+1) b=true):a<b:=Nat.le_of_ble_eq_true h
section
variable [XR] {h:aA} {Q:AV→aA→Prop} {L:Lim} {F:Nat→Prop} {d:Nat} {r:DR} {out:List UInt8} {told:Nat}
theorem Dec.gd (D:Dec L h F d r out told) (hF:∀ i,h.length≤i→F i) {i:Nat} (hi:h.length≤i):Gd F d r i:=⟨hF i hi,fun m=>absurd (D.lt m) (by omega)⟩
theorem aCR (D:Dec L h F d r out told) {n:Nat} {f:FuncId} {cap:List AV} (hq:∀ h',h'.length=h.length→Upd (· = d) h h'→Dec L h' F d { r with acc:=0,have':=0,need:=n,code:=.p none,next:=Fn f cap } out told→Q (iN 0) h'):C Y41.id [dp d,iN n,Fn f cap] h Q:=by
 refine Y41.call ?_
 simp only [Y41.t,bG,bE]
 refine aQ D.recd rfl (ltr rfl) (hk:=fun h1 l1 U1 R1=>?_)
 refine aQ R1 rfl (ltr rfl) (hk:=fun h2 l2 U2 R2=>?_)
 refine aQ R2 rfl (ltr rfl) (hk:=fun h3 l3 U3 R3=>?_)
 refine aQ R3 rfl (ltr rfl) (hk:=fun h4 l4 U4 R4=>?_)
 refine aQ R4 rfl (ltr rfl) (hk:=fun h5 l5 U5 R5=>?_)
 have U:=(((U1.trans U2 fun _ _ h=>h).trans U3 fun _ _ h=>h).trans U4 fun _ _ h=>h).trans U5 fun _ _ h=>h
 exact .inl (hq h5 (by omega) U (D.with U R5 rfl rfl rfl rfl))
theorem dO (D:Dec L h F d r out told) (hd:r.done=false) {n:Nat} {c:bY} {f:FuncId} {cap:List AV} (hc:Clo h (Gd F d r) d 0 (.p none) c (Fn f cap)) (hf:xP (.num n 0 0) c)
  (hq:∀ h' r',cQ (· = d) L h F d r told (.wait ⟨out,r.last,r.skip⟩ (.num n 0 0) c) 0 h' r'→Q (iN 0) h') (hco:kG c=none:=by rfl):C Y41.id [dp d,iN n,Fn f cap] h Q:=
 aCR D fun h' hl U D'=>hq h' { r with acc:=0,have':=0,need:=n,code:=.p none,next:=Fn f cap } ⟨U,fun _ _ h=>h,D',rfl,rfl,rfl,rfl,rfl,rfl,hd,⟨hco,rfl,rfl,rfl,rfl,hc.upd U (fun i hi e=>hi.2 (.inl e)) fun _ _ h=>h⟩,hf⟩
theorem qY (D:Dec L h F d r out told) (hd:r.done=false) {l:List Nat} {ic:Nat} {sym:AV} {c:bY} {f:FuncId} {cap:List AV} (hk:b6 h (Gd F d r) ic l sym 0 0) (hc:Clo h (fun i=>Gd F d r i∧i≠ic) d ic sym c (Fn f cap)) (hf:xP (.sym l 0 0) c)
  (hq:∀ h' r',cQ (· = d) L h F d r told (.wait ⟨out,r.last,r.skip⟩ (.sym l 0 0) c) 0 h' r'→Q (iN 0) h') (hco:kG c=some l:=by rfl):C Y49.id [dp d,cp ic,Fn f cap] h Q:=by
 refine Y49.call ?_
 simp only [Y49.t,bG,bE]
 refine aQ D.recd rfl (ltr rfl) (hk:=fun h1 l1 U1 R1=>?_)
 refine aQ R1 rfl (ltr rfl) (hk:=fun h2 l2 U2 R2=>?_)
 have U:=U1.trans U2 fun _ _ h=>h
 exact .inl (hq h2 { r with code:=cp ic,next:=Fn f cap } ⟨U,fun _ _ h=>h,D.with U R2 rfl rfl rfl rfl,rfl,rfl,rfl,rfl,rfl,rfl,hd,⟨hco,ic,sym,rfl,hk.upd U (fun i hi e=>hi.2 (.inl e)) fun _ _ h=>h,hc.upd U (fun i hi e=>hi.1.2 (.inl e)) fun _ _ h=>h⟩,hf⟩)
theorem aBP:xP (.num 3 0 0) .block:=⟨by decide,by decide,.inl (by decide),fun v hv=>hv⟩
theorem tT (D:Dec L h F d r out told) (hF:∀ i,h.length≤i→F i) (hd:r.done=false) (hq:∀ e h' r',cQ (· = d) L h F d r told (Infl.block ⟨out,r.last,r.skip⟩) e h' r'→Q (.i .i64 e) h'):C Y53.id [dp d] h Q:=by
 refine Y53.call ?_
 simp only [Y53.t]
 refine bQ (hk:=fun h1 l1 U1 R1=>?_)
 have D1:=D.ext U1
 have B:Bx h1 (Gd F d r) (.p (some ⟨h.length,1,0⟩)) (dp d):=Bx.new R1 (D.gd hF (Nat.le_refl _))
 refine aE R1 rfl rfl ?_
 simp only [bG,bE]
 refine aE D1.recd rfl rfl (aY ?_)
 refine aG (fun e=>?_) fun e=>?_
 ·refine aE R1 rfl rfl ?_
  simp only [bG,bE]
  refine aQ D1.recd rfl (ltr rfl) (hk:=fun h2 l2 U2 R2=>?_)
  refine .inl (hq 0 h2 { r with done:=true } ⟨(U1.mono fun _ _ h=>h.elim).trans U2 fun _ _ h=>h,fun _ _ h=>h, ?_,rfl,rfl,rfl, ?_⟩)
  ·unfold Infl.block
   rw [if_pos e]
   exact D1.with U2 R2 rfl rfl rfl rfl
  ·unfold Infl.block
   rw [if_pos e]
   exact ⟨rfl,rfl⟩
 ·refine aE R1 rfl rfl ?_
  refine dO D1 hd (c:=.block) ⟨_,rfl,B⟩ aBP fun h2 r2 P=>?_
  refine aB (.inl (hq 0 h2 r2 ?_))
  unfold Infl.block
  rw [if_neg (by simp [e])]
  exact P.from U1 (fun _ _ h=>h.elim) (fun _ _ h=>h) rfl rfl rfl
theorem aEL {n:Nat} (h0:n≠0) (h1:n<65536):xP (.num 8 0 0) (.raw n):=⟨by decide,by decide,.inl (by decide),fun v hv=>⟨by omega,h1,hv⟩⟩
theorem aFW {n:Nat} (hn:n<65536) (D:Dec L h F d r out told) (hF:∀ i,h.length≤i→F i) (hd:r.done=false) (hq:∀ e h' r',cQ (· = d) L h F d r told (Infl.raw ⟨out,r.last,r.skip⟩ n) e h' r'→Q (.i .i64 e) h'):C Y58.id [dp d,iN n] h Q:=by
 refine Y58.call ?_
 simp only [Y58.t]
 refine bQ (hk:=fun h1 l1 U1 R1=>?_)
 refine bQ (hk:=fun h2 l2 U2 R2=>?_)
 have U:=U1.then U2
 have D2:=D.ext U
 have R1:=R1.upd U2 fun h=>h
 have B:Bx h2 (Gd F d r) (.p (some ⟨h.length,1,0⟩)) (dp d):=⟨_,rfl,R1,D.gd hF (Nat.le_refl _)⟩
 have B2:Bx h2 (Gd F d r) (.p (some ⟨h1.length,1,0⟩)) (iN n):=⟨_,rfl,R2,D.gd hF (by omega)⟩
 refine aE R2 rfl rfl (aB ?_)
 refine aG (fun e=>?_) fun e=>?_
 ·have e : n = 0 := by simpa using e
  refine aE R1 rfl rfl ?_
  refine tT D2 (fun i hi=>hF i (by omega)) hd fun e h3 r3 P=>aB (.inl (hq _ h3 r3 ?_))
  unfold Infl.raw
  rw [if_pos ‹n=0›]
  exact P.from U (fun _ _ h=>h.elim) (fun _ _ h=>h) rfl rfl rfl
 ·have e : n ≠ 0 := by simpa using e
  refine aE R1 rfl rfl ?_
  refine dO D2 hd (c:=.raw n) ⟨_,_,rfl,B,B2⟩ (aEL e hn) fun h3 r3 P=>aB (.inl (hq 0 h3 r3 ?_))
  unfold Infl.raw
  rw [if_neg e]
  exact P.from U (fun _ _ h=>h.elim) (fun _ _ h=>h) rfl rfl rfl
theorem aC4 (D:Dec L h F d r out told) (hF:∀ i,h.length≤i→F i) (hd:r.done=false) (hq:∀ e h' r',cQ (· = d) L h F d r told (.wait ⟨out,r.last,r.skip⟩ (.num 16 0 0) .stored1) e h' r'→Q (.i .i64 e) h'):C Y63.id [dp d] h Q:=by
 refine Y63.call ?_
 simp only [Y63.t]
 refine bQ (hk:=fun h1 l1 U1 R1=>?_)
 refine aE R1 rfl rfl ?_
 refine dO (D.ext U1) hd (c:=.stored1) ⟨_,rfl,Bx.new R1 (D.gd hF (Nat.le_refl _))⟩ ⟨by decide,by decide,.inl (by decide),fun v hv=>hv⟩ fun h2 r2 P=>aB (.inl (hq 0 h2 r2 ?_))
 exact P.from U1 (fun _ _ h=>h.elim) (fun _ _ h=>h) rfl rfl rfl
theorem zT (D:Dec L h F d r out told) (hF:∀ i,h.length≤i→F i) (hd:r.done=false) (hq:∀ e h' r',cQ (· = d) L h F d r told (.wait ⟨out,r.last,r.skip⟩ (.num 5 0 0) .dyn1) e h' r'→Q (.i .i64 e) h'):C Y73.id [dp d] h Q:=by
 refine Y73.call ?_
 simp only [Y73.t]
 refine bQ (hk:=fun h1 l1 U1 R1=>?_)
 refine aE R1 rfl rfl ?_
 refine dO (D.ext U1) hd (c:=.dyn1) ⟨_,rfl,Bx.new R1 (D.gd hF (Nat.le_refl _))⟩ ⟨by decide,by decide,.inl (by decide),fun v hv=>hv⟩ fun h2 r2 P=>aB (.inl (hq 0 h2 r2 ?_))
 exact P.from U1 (fun _ _ h=>h.elim) (fun _ _ h=>h) rfl rfl rfl
theorem z5 {x:Nat} {v:AV} (D:Dec L h F d r out told) (hF:∀ i,h.length≤i→F i) (hd:r.done=false) (hc:Clo h (Gd F d r) d 0 (.p none) .stored1 v) (hf:fit .stored1 x)
  (hq:∀ e h' r',cQ F L h F d r told (Infl.apply L r.input ⟨out,r.last,r.skip⟩ x .stored1) e h' r'→Q (.i .i64 e) h'):bX C v [iN x] h Q:=by
 obtain ⟨bd,rfl,B⟩:=hc
 refine cU (by decide) (Y62.call ?_)
 simp only [Y62.t]
 refine bQ (hk:=fun h1 l1 U1 R1=>?_)
 have B1:=B.upd U1 (fun _ _ h=>h) fun _ _ h=>h
 rw [B1.ld]
 refine dO (D.ext U1) hd (c:=.stored2 x) ⟨_,_,rfl,Bx.new R1 (D.gd hF (Nat.le_refl _)),B1⟩ ⟨by decide,by decide,.inl (by decide),fun v hv=>⟨hf,hv⟩⟩ fun h2 r2 P=>aB (.inl (hq 0 h2 r2 ?_))
 exact (P.from U1 (fun _ _ h=>h.elim) (fun _ _ h=>h) rfl rfl rfl).mono fun i _ e=>D.f i (.inl e)
theorem aAH {x n:Nat} {v:AV} (D:Dec L h F d r out told) (hF:∀ i,h.length≤i→F i) (hd:r.done=false) (hc:Clo h (Gd F d r) d 0 (.p none) (.stored2 n) v) (hf:fit (.stored2 n) x)
  (hq:∀ e h' r',cQ F L h F d r told (Infl.apply L r.input ⟨out,r.last,r.skip⟩ x (.stored2 n)) e h' r'→Q (.i .i64 e) h'):bX C v [iN x] h Q:=by
 obtain ⟨bn,bd,rfl,Bn,B⟩:=hc
 obtain ⟨hn,hx⟩:=hf
 refine cU (by decide) (Y83.call ?_)
 simp only [Y83.t,Bn.ld,B.ld,iF]
 refine bR (n:=((65535 - n:Nat):Int)) (by omega) (by omega) (by omega) ?_
 refine aG (fun e=>?_) fun e=>?_
 ·have e : ¬ (x + n = 65535) := by simp at e; omega
  refine .inl (hq 2 h r ?_)
  simp only [Infl.apply]
  rw [if_neg e]
  exact ⟨Upd.refl _ _,fun _ _ h=>h,D,rfl,rfl,rfl,rfl,.inl rfl,hd⟩
 ·have e : x + n = 65535 := by simp at e; omega
  refine aFW hn D hF hd fun e1 h1 r1 P=>aB (.inl (hq _ h1 r1 ?_))
  simp only [Infl.apply]
  rw [if_pos e]
  exact P.mono fun i _ e=>D.f i (.inl e)
theorem aGP {x:Nat} {v:AV} (D:Dec L h F d r out told) (hF:∀ i,h.length≤i→F i) (hd:r.done=false) (hc:Clo h (Gd F d r) d 0 (.p none) .dyn1 v) (hf:fit .dyn1 x)
  (hq:∀ e h' r',cQ F L h F d r told (Infl.apply L r.input ⟨out,r.last,r.skip⟩ x .dyn1) e h' r'→Q (.i .i64 e) h'):bX C v [iN x] h Q:=by
 obtain ⟨bd,rfl,B⟩:=hc
 have hf:x<32:=hf
 refine cU (by decide) (Y66.call ?_)
 simp only [Y66.t]
 refine bR (n:=((x+257:Nat):Int)) (by omega) (by omega) (by omega) ?_
 refine cF fun h1 l1 U1 R1=>?_
 refine aQ R1 rfl (ltr rfl) (hk:=fun h2 l2 U2 R2=>?_)
 have U:Upd (fun _=>False) h h2:=U1.own U2 (Nat.le_refl _)
 have B2:=B.upd U (fun _ _ h=>h) fun _ _ h=>h
 have Bn:Bx h2 (Gd F d r) (.p (some ⟨h.length,1,0⟩)) (iN (x+257)):=⟨_,rfl,R2,D.gd hF (Nat.le_refl _)⟩
 refine aE R2 rfl rfl (aB ?_)
 refine aG (fun e=>?_) fun e=>?_
 ·have e : 286 < x + 257 := by simp at e; omega
  refine .inl (hq 2 h2 r ?_)
  simp only [Infl.apply]
  rw [if_pos e]
  exact ⟨U.mono fun _ _ h=>h.elim,fun _ _ h=>h,D.ext U,rfl,rfl,rfl,rfl,.inl rfl,hd⟩
 ·have e : ¬ 286 < x + 257 := by simp at e; omega
  rw [B2.ld]
  refine dO (D.ext U) hd (c:=.dyn2 (x+257)) ⟨_,_,rfl,B2,Bn⟩ ⟨by decide,by decide,.inl (by decide),fun v hv=>⟨by omega,hv⟩⟩ fun h3 r3 P=>aB (.inl (hq 0 h3 r3 ?_))
  simp only [Infl.apply]
  rw [if_neg e]
  exact (P.from U (fun _ _ h=>h.elim) (fun _ _ h=>h) rfl rfl rfl).mono fun i _ e=>D.f i (.inl e)
theorem aGD {x lits:Nat} {v:AV} (D:Dec L h F d r out told) (hF:∀ i,h.length≤i→F i) (hd:r.done=false) (hc:Clo h (Gd F d r) d 0 (.p none) (.dyn2 lits) v) (hf:fit (.dyn2 lits) x)
  (hq:∀ e h' r',cQ F L h F d r told (Infl.apply L r.input ⟨out,r.last,r.skip⟩ x (.dyn2 lits)) e h' r'→Q (.i .i64 e) h'):bX C v [iN x] h Q:=by
 obtain ⟨bd,bl,rfl,B,Bl⟩:=hc
 obtain ⟨hl,hf⟩:=hf
 refine cU (by decide) (Y71.call ?_)
 simp only [Y71.t]
 refine bR (n:=((x+1:Nat):Int)) (by omega) (by omega) (by omega) ?_
 refine cF fun h1 l1 U1 R1=>?_
 refine aQ R1 rfl (ltr rfl) (hk:=fun h2 l2 U2 R2=>?_)
 have U:Upd (fun _=>False) h h2:=U1.own U2 (Nat.le_refl _)
 have B2:=B.upd U (fun _ _ h=>h) fun _ _ h=>h
 have Bl2:=Bl.upd U (fun _ _ h=>h) fun _ _ h=>h
 have Bn:Bx h2 (Gd F d r) (.p (some ⟨h.length,1,0⟩)) (iN (x+1)):=⟨_,rfl,R2,D.gd hF (Nat.le_refl _)⟩
 refine aE R2 rfl rfl (aB ?_)
 refine aG (fun e=>?_) fun e=>?_
 ·have e : 30 < x + 1 := by simp at e; omega
  refine .inl (hq 2 h2 r ?_)
  simp only [Infl.apply]
  rw [if_pos e]
  exact ⟨U.mono fun _ _ h=>h.elim,fun _ _ h=>h,D.ext U,rfl,rfl,rfl,rfl,.inl rfl,hd⟩
 ·have e : ¬ 30 < x + 1 := by simp at e; omega
  rw [B2.ld]
  refine dO (D.ext U) hd (c:=.dyn3 lits (x+1)) ⟨_,_,_,rfl,B2,Bl2,Bn⟩ ⟨by decide,by decide,.inl (by decide),fun v hv=>⟨hl,by omega,hv⟩⟩ fun h3 r3 P=>aB (.inl (hq 0 h3 r3 ?_))
  simp only [Infl.apply]
  rw [if_neg e]
  exact (P.from U (fun _ _ h=>h.elim) (fun _ _ h=>h) rfl rfl rfl).mono fun i _ e=>D.f i (.inl e)
end
end Go.Proofs.YtpaphfeihpgamaaDoor
namespace Go.Proofs.YtpaphfeihpgamaaDoor
open Go.GAM
open Go.Infl (bP dI bY Out Lim)
section
variable [XR] {h:aA} {Q:AV→aA→Prop} {L:Lim} {F:Nat→Prop} {d:Nat} {r:DR} {out:List UInt8} {told:Nat}
theorem Stk.kind {h:aA} {v:AV} {l:List AV} (S:Stk h v l):v.parts=[v]∧v.sizeOK=true∧v.cellOK=true:=by
 rcases S with ⟨rfl,_⟩ | ⟨id,b,rfl,_⟩ <;> exact ⟨rfl,rfl,rfl⟩
theorem aCU (D : Dec L h F d r out told) (hF : ∀ i, h.length ≤ i → F i) {c : UInt8} (hq0 : Infl.full L r.input out = true → Q (.i .i64 16) h)
    (hq1:Infl.full L r.input out=false→∀ p f h',Upd (Mut d r) h h'→(∀ i,i<h.length→Mut d { r with past:=p,total:=r.total+1,fresh:=f } i→Mut d r i)→Dec L h' F d { r with past:=p,total:=r.total+1,fresh:=f } (out++[c]) told→Q (.i .i64 0) h') :
    C Y26.id [dp d,.i .u8 (c.toNat:Int)] h Q:=by
  have ht:=D.total
  have hi:=D.inp
  obtain ⟨hl1,hl2⟩:=D.lim
  have hmul:L.ratio * r.input≤1100 * 1099511627776:=Nat.mul_le_mul hl2 hi
  have hld:=D.recd.lt
  have P0 : ∀ b, b = Infl.full L r.input out → Y26.p0 (aH h Q) (dp d) (c.toNat : Int) b h := by
    intro b hb
    refine Y26.i0 ?_
    simp only [Y26.t0,bG,bE, ← Y26.p1.eq_1]
    refine aG (fun e=>?_) fun e=>?_
    · exact .inl (hq0 (hb ▸ e))
    · have hfull : Infl.full L r.input out = false := hb ▸ e
      have hlen:out.length<65536:=by
        unfold Infl.full at hfull
        simp at hfull
        omega
      refine aE D.recd rfl rfl (aB (bR (n:=((r.total+1:Nat):Int)) (by omega) (by omega) (by omega) ?_))
      refine aQ D.recd rfl (ltr rfl) (hk:=fun h1 l1 U1 R1=>?_)
      refine aE R1 rfl rfl ?_
      have S1:=D.fresh.upd U1 fun i hi e=>D.d2 (e ▸ hi)
      refine S1.push rfl rfl (by simp; have:=D.told; omega) (by simp; have:=D.told; omega) fun f h2 U2 S2 N2=>?_
      have R2:=R1.upd U2 D.d2
      refine aQ R2 rfl (ltr rfl) (hv:=(Stk.kind S2).1) (hs:=(Stk.kind S2).2.1) (hc:=(Stk.kind S2).2.2) (hk:=fun h3 l3 U3 R3=>?_)
      refine aE R3 rfl rfl ?_
      have T1:=D.past.upd U1 fun i hi e=>D.d1 (e ▸ hi)
      have T2:=T1.upd U2 D.d3
      have T3:=T2.upd U3 fun i hi e=>D.d1 (e ▸ hi)
      refine T3.rd.len ?_
      refine aO (by simp; omega) ?_
      refine Y26.i1 ?_
      simp only [Y26.t1,bG,bE]
      refine aE R3 rfl rfl ?_
      refine T3.push rfl rfl (by simp; omega) (by simp; omega) fun p h4 U4 S4 N4=>?_
      have R4:=R3.upd U4 D.d1
      refine aQ R4 rfl (ltr rfl) (hv:=(Stk.kind S4).1) (hs:=(Stk.kind S4).2.1) (hc:=(Stk.kind S4).2.2) (hk:=fun h5 l5 U5 R5=>?_)
      have hl12:=U2.1
      have hl34:=U4.1
      have fd:¬ aN f d:=fun hs=>by rcases N2 d hs with g | g; exact D.d2 g; omega
      have pd:¬ aN p d:=fun hs=>by rcases N4 d hs with g | g; exact D.d1 g; omega
      have S3:=S2.upd U3 fun i hi e=>fd (e ▸ hi)
      have pf:∀ i,aN p i→¬ aN f i:=by
        intro i hp hf
        have hfl:=S2.rd.lt hf
        rcases N4 i hp with g | g
        · rcases N2 i hf with g2 | g2
          · exact D.d3 i g g2
          · have:=D.past.rd.lt g; omega
        · omega
      have S4':=S3.upd U4 fun i hi e=>by
        rcases N2 i hi with g2 | g2
        · exact D.d3 i e g2
        · have:=D.past.rd.lt e; omega
      have S5:=S4'.upd U5 fun i hi e=>fd (e ▸ hi)
      have T5:=S4.upd U5 fun i hi e=>pd (e ▸ hi)
      refine .inl (hq1 hfull p f h5 ?_ ?_ ?_)
      · have a1 := (U1.mono (M' := Mut d r) fun i _ e => .inl e).trans U2 fun i _ e => .inr (.inr e)
        exact ((a1.trans U3 fun i _ e=>.inl e).trans U4 fun i _ e=>.inr (.inl e)).trans U5 fun i _ e=>.inl e
      · rintro i hi (e | e | e)
        · exact .inl e
        · rcases N4 i e with g | g
          · exact .inr (.inl g)
          · omega
        · rcases N2 i e with g | g
          · exact .inr (.inr g)
          · omega
      · have hto := D.told
        exact { recd := R5, past := by rw [List.map_append]; exact T5, fresh := by rw [List.drop_append_of_le_length hto, List.map_append]; exact S5, total := by simp [ht], told := by simp; omega, d1 := pd, d2 := fd, d3 := pf, lim := D.lim, inp := D.inp, len := by simp; omega,
                f := by
                  rintro i (e | e | e)
                  · exact D.f i (.inl e)
                  · rcases N4 i e with g | g
                    · exact D.f i (.inr (.inl g))
                    · exact hF i (by omega)
                  · rcases N2 i e with g | g
                    · exact D.f i (.inr (.inr g))
                    · exact hF i (by omega) }
  refine Y26.call ?_
  simp only [Y26.t,bG,bE, ← Y26.p0.eq_1]
  refine aE D.recd rfl rfl (aB (aE D.recd rfl rfl (aB ?_)))
  refine aG (fun e=>?_) fun e=>?_
  · refine P0 true ?_
    unfold Infl.full
    simp at e
    simp; omega
  · refine aE D.recd rfl rfl (aB (aE D.recd rfl rfl (aB (aE D.recd rfl rfl (aB ?_)))))
    refine bR (n:=((L.ratio * r.input:Nat):Int)) (by rw [Int.natCast_mul]) (by omega) (by omega) ?_
    refine bR (n:=((L.ratio * r.input+1024:Nat):Int)) (by omega) (by omega) (by omega) ?_
    refine P0 _ ?_
    unfold Infl.full
    simp at e
    have:¬ L.output≤out.length:=by omega
    simp only [this,decide_false,Bool.false_or]
    congr 1
    simp; omega
end
end Go.Proofs.YtpaphfeihpgamaaDoor
namespace Go.Proofs.YtpaphfeihpgamaaDoor
open Go.GAM
open Go.Infl (bP dI bY Out Lim)
theorem uV {x:Nat} (h:x<256):IntKind.wrap .u8 (x:Int)=((UInt8.ofNat x).toNat:Int):=by
 rw [zG (by omega) (by omega)]; simp; omega
section
variable [XR] {h:aA} {Q:AV→aA→Prop} {L:Lim} {F:Nat→Prop} {d:Nat} {r:DR} {out:List UInt8} {told:Nat}
theorem eX {r r':DR} (hk:∀ i,i<h.length→Mut d r' i→Mut d r i):∀ i,i<h.length→Gd F d r i→Gd F d r' i:=fun i hl hi=>⟨hi.1,fun m=>hi.2 (hk i hl m)⟩
theorem aE8 {h0' : aA} {far : Nat} (h0 : 0 < far) {n : Nat} (hn : n ≤ 300) : ∀ (m i : Nat) (h : aA) (r : DR) (k : bP), i + m = n → Dec L h F d r k.out told → (∀ i, h.length ≤ i → F i) → far ≤ k.out.length →
  (∀ e h' p f t,Upd (Mut d r) h h'→(∀ i,i<h.length→Mut d { r with past:=p,total:=t,fresh:=f } i→Mut d r i)→Dec L h' F d { r with past:=p,total:=t,fresh:=f } (Infl.copyP L r.input far m k).1.out told→((Infl.copyP L r.input far m k).2=true∧e=0∨(Infl.copyP L r.input far m k).2=false∧e=16)→Q (.i .i64 e) h') →
  Y33.p0 (aH h0' Q) (dp d) far n i h:=by
 intro m
 induction m with
 | zero =>
  intro i h r k hi D hF hf hq
  obtain rfl:i=n:=by omega
  refine Y33.i0 ?_
  simp only [Y33.t0]
  exact aO (by simp) (.inl (hq 0 h r.past r.fresh r.total (Upd.refl _ _) (fun _ _ h=>h) D (.inl ⟨rfl,rfl⟩)))
 | succ m ih =>
  intro i h r k hi D hF hf hq
  refine Y33.i0 ?_
  simp only [Y33.t0,bG,bE, ← Y33.p0.eq_1]
  refine aV (by simp; omega) ?_
  refine aE D.recd rfl rfl (aE D.recd rfl rfl (D.past.rd.len ?_))
  have hlen:=D.len
  simp only [List.length_map]
  refine bR (n:=((k.out.length - far:Nat):Int)) (by omega) (by omega) (by omega) ?_
  obtain ⟨c,hc⟩:∃ c,k.out[k.out.length - far]? = some c:=⟨_,List.getElem?_eq_getElem (by omega)⟩
  refine D.past.rd.byte (i:=k.out.length - far) hc ?_
  have hg:k.out.getD (k.out.length - far) 0=c:=by rw [List.getD_eq_getElem?_getD,hc] <;> rfl
  refine aCU D hF (fun hfull=>?_) fun hfull p f h1 U1 K1 D1=>?_
  ·refine aB (aV rfl (.inl (hq 16 h r.past r.fresh r.total (Upd.refl _ _) (fun _ _ h => h) ?_ (.inr ?_))))
   ·unfold Infl.copyP Infl.putP
    rw [if_pos hfull]
    exact D
   ·unfold Infl.copyP Infl.putP
    rw [if_pos hfull]
    exact ⟨rfl,rfl⟩
  ·refine aB (aO rfl (inc (by omega) ?_))
   refine ih (i+1) h1 _ { k with out:=k.out++[c] } (by omega) D1 (fun i hi=>hF i (Nat.le_trans U1.1 hi)) (by simp; omega) fun e h2 p2 f2 t2 U2 K2 D2 he=>?_
   have hcp:Infl.copyP L r.input far (m+1) k=Infl.copyP L r.input far m { k with out:=k.out++[c] }:=by
    rw [Infl.copyP]
    unfold Infl.putP
    rw [if_neg (by simp [hfull]),hg]
   refine hq e h2 p2 f2 t2 (U1.trans U2 K1) (fun i hi hm=>K1 i hi (K2 i (Nat.lt_of_lt_of_le hi U1.1) hm)) (by rw [hcp]; exact D2) (by rw [hcp]; exact he)
theorem qM {input far:Nat}:∀ (m:Nat) (k:bP),(Infl.copyP L input far m k).1=⟨(Infl.copyP L input far m k).1.out,k.last,k.skip⟩
 | 0,k=>by rfl
 | m + 1, k => by
  rw [Infl.copyP]
  unfold Infl.putP
  by_cases hf:Infl.full L input k.out
  ·rw [if_pos hf]
  ·rw [if_neg hf]
   exact qM m _
theorem aGK {far n:Nat} (h0:0<far) (hn:n≤300) (hfar:far≤32768) (D:Dec L h F d r out told) (hF:∀ i,h.length≤i→F i) (hq0:out.length<far→Q (.i .i64 2) h)
  (hq:far≤out.length→∀ e h' p f t,Upd (Mut d r) h h'→(∀ i,i<h.length→Mut d { r with past:=p,total:=t,fresh:=f } i→Mut d r i)→Dec L h' F d { r with past:=p,total:=t,fresh:=f } (Infl.copyP L r.input far n ⟨out,r.last,r.skip⟩).1.out told→((Infl.copyP L r.input far n ⟨out,r.last,r.skip⟩).2=true∧e=0∨(Infl.copyP L r.input far n ⟨out,r.last,r.skip⟩).2=false∧e=16)→Q (.i .i64 e) h') :
  C Y33.id [dp d,iN n,iN far] h Q:=by
 have ht:=D.total
 refine Y33.call ?_
 simp only [Y33.t,bG,bE, ← Y33.p0.eq_1]
 refine aE D.recd rfl rfl (aB ?_)
 refine aG (fun e=>?_) fun e=>?_
 ·exact .inl (hq0 (by simp at e; omega))
 ·have e : far ≤ out.length := by simp at e; omega
  exact aE8 h0 hn n 0 h r ⟨out,r.last,r.skip⟩ (by omega) D hF e (hq e)
theorem aG4 {x n:Nat} {v:AV} (D:Dec L h F d r out told) (hF:∀ i,h.length≤i→F i) (hd:r.done=false) (hc:Clo h (Gd F d r) d 0 (.p none) (.raw n) v) (hf:fit (.raw n) x)
  (hq:∀ e h' r',cQ F L h F d r told (Infl.apply L r.input ⟨out,r.last,r.skip⟩ x (.raw n)) e h' r'→Q (.i .i64 e) h'):bX C v [iN x] h Q:=by
 obtain ⟨bd,bn,rfl,B,Bn⟩:=hc
 obtain ⟨hn0,hn,hx⟩:=hf
 refine cU (by decide) (Y78.call ?_)
 simp only [Y78.t,B.ld,uV hx]
 refine aCU D hF (fun hfull=>?_) fun hfull p f h1 U1 K1 D1=>?_
 ·refine aB (aV rfl (.inl (hq 16 h r ?_)))
  simp only [Infl.apply,Infl.putP]
  rw [if_pos hfull]
  exact ⟨Upd.refl _ _,fun _ _ h=>h,D,rfl,rfl,rfl,rfl,.inr rfl,hd⟩
 ·refine aB (aO rfl ?_)
  have B1:=B.upd U1 (fun i hi hm=>hi.2 hm) (eX K1)
  have Bn1:=Bn.upd U1 (fun i hi hm=>hi.2 hm) (eX K1)
  rw [B1.ld,Bn1.ld]
  refine aB (bR (n:=((n - 1:Nat):Int)) (by omega) (by omega) (by omega) ?_)
  refine aFW (by omega) D1 (fun i hi=>hF i (Nat.le_trans U1.1 hi)) hd fun e h2 r2 P=>aB (.inl (hq e h2 r2 ?_))
  simp only [Infl.apply,Infl.putP]
  rw [if_neg (by simp [hfull])]
  exact (P.mono fun i _ e=>D1.f i (.inl e)).from U1 (fun i _ hm=>D.f i hm) K1 rfl rfl rfl
end
end Go.Proofs.YtpaphfeihpgamaaDoor
