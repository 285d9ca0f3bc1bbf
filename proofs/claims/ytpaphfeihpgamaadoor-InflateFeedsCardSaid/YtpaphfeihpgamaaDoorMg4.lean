/- Lemmas (several texts in one). -/
import Derived.Below
import Derived.ChangeArms
import Derived.ChangeSlices
import Derived.DataElems
import Derived.LaidMore
import Derived.Lib.Bytealg
import Derived.Test.YtpaphfeihpgamaaDoorMg3
set_option linter.unusedVariables false
set_option linter.unusedSectionVars false
set_option maxRecDepth 100000
namespace Go.Proofs.YtpaphfeihpgamaaDoor
open Go.GAM
variable [XR]
noncomputable def Y14.body:Code:=(Tryd.f80.body).getD .skip
def Y14.ann:Ann:=(sl [0,2] (sl [0,2,3] (sq [2,3] (sl [2,3,7,8,9] (.one (.loop 1 [2,3,7,8,9] (sl [2,3,7,8,9,10] (sq [2,3,7,8,9] bl (.seq 2 [2,3,7,8,9] (.one (sl [2,3,5,7,8,9] (sl [2,3,5,7,8,9,14] bl))) lf)))))) (sq [2,3] (sl [2,3,6] (.one (.loop 3 [2,3,6] (sq [2,3,6] (sl [2,3,6,24] bl) (sq [2,3,6] (.one (.ord (nn 0 15 (.eff 15 .done .stop)))) lf))))) (sl [2] lf)))))
theorem Y14.dist:aI (places Y14.ann Y14.body)=true:=by kernel_rfl
noncomputable def Y14.J (Q:AV→aA→Prop):JT:=bH prog C Tryd.f80 Y14.ann Y14.body Q
def Y14.p1 (Q:AV→aA→Prop) (x2 x3 x7:AV) (x8 x9:Int) (h:aA):Prop:=Y14.J Q 2 [(2,x2),(3,x3),(7,x7),(8,(AV.i .i64 x8)),(9,(AV.i .i64 x9))] h
def Y14.p0 (Q:AV→aA→Prop) (x2 x3 x7:AV) (x8 x9:Int) (h:aA):Prop:=Y14.J Q 1 [(2,x2),(3,x3),(7,x7),(8,(AV.i .i64 x8)),(9,(AV.i .i64 x9))] h
def Y14.p2 (Q:AV→aA→Prop) (x2 x3:AV) (x6:Int) (h:aA):Prop:=Y14.J Q 3 [(2,x2),(3,x3),(6,(AV.i .i64 x6))] h
def Y14.t1 (Q:AV→aA→Prop) (x2 x3 x7:AV) (x8 x9:Int) (h:aA) (J:JT):Prop:=
aJ (IntKind.wrap .i64 (x9+1)) fun n26=>
J 1 [(2,x2),(3,x3),(7,x7),(8,(AV.i .i64 x8)),(9,(AV.i .i64 n26))] h
theorem Y14.i1 {Q x2 x3 x7 x8 x9 h} (H:Y14.t1 Q x2 x3 x7 x8 x9 h (Y14.J Q)):Y14.p1 Q x2 x3 x7 x8 x9 h:=gR Y14.J Tryd.f80 Y14.dist [1,1,0,1,0,0,1,1,1] H
def Y14.t0 (Q:AV→aA→Prop) (x2 x3 x7:AV) (x8 x9:Int) (h:aA) (J:JT):Prop:=
(bif (decide ((x9:Int)<x8)) then
(aN 1 x7 (AV.i .i64 x9) h fun v11=>
aD v11 h fun v12=>
asI .i64 v12 fun n13=>
(bif (decide ((0:Int)<n13)) then
(aB 0 x3 fun v16=>
bM 16 1 v16 (AV.i .i64 n13) fun v17=>
aD v17 h fun v18=>
asI .i64 v18 fun n19=>
aJ (IntKind.wrap .i64 (n19+1)) fun n20=>
aB 0 x3 fun v21=>
bM 16 1 v21 (AV.i .i64 n13) fun v22=>
aT 1 v22 (AV.i .i64 n20) h fun h23=>
J 2 [(2,x2),(3,x3),(7,x7),(8,(AV.i .i64 x8)),(9,(AV.i .i64 x9))] h23)
else
(J 2 [(2,x2),(3,x3),(7,x7),(8,(AV.i .i64 x8)),(9,(AV.i .i64 x9))] h)))
else
(J 3 [(2,x2),(3,x3),(6,(AV.i .i64 1))] h))
theorem Y14.i0 {Q x2 x3 x7 x8 x9 h} (H:Y14.t0 Q x2 x3 x7 x8 x9 h (Y14.J Q)):Y14.p0 Q x2 x3 x7 x8 x9 h:=gH Y14.J Tryd.f80 Y14.dist [1,1,0,1,0] H
def Y14.t2 (Q:AV→aA→Prop) (x2 x3:AV) (x6:Int) (h:aA) (J:JT):Prop:=
(bif (decide ((x6:Int)≤15)) then
(aJ (IntKind.wrap .i64 (x6 - 1)) fun n32=>
aB 16 x3 fun v33=>
bM 16 1 v33 (AV.i .i64 n32) fun v34=>
aD v34 h fun v35=>
asI .i64 v35 fun n36=>
aJ (IntKind.wrap .i64 (x6 - 1)) fun n37=>
aB 0 x3 fun v38=>
bM 16 1 v38 (AV.i .i64 n37) fun v39=>
aD v39 h fun v40=>
asI .i64 v40 fun n41=>
aJ (IntKind.wrap .i64 (n36+n41)) fun n42=>
jX .i64 n42 1 fun n43=>
aB 16 x3 fun v44=>
bM 16 1 v44 (AV.i .i64 x6) fun v45=>
aT 1 v45 (AV.i .i64 n43) h fun h46=>
aJ (IntKind.wrap .i64 (x6+1)) fun n48=>
J 3 [(2,x2),(3,x3),(6,(AV.i .i64 n48))] h46)
else
(dA 32 x3 h fun v50=>
aT 32 x2 v50 h fun h51=>
dA 32 x2 h51 fun v53=>
Q v53 h51))
theorem Y14.i2 {Q x2 x3 x6 h} (H:Y14.t2 Q x2 x3 x6 h (Y14.J Q)):Y14.p2 Q x2 x3 x6 h:=gH Y14.J Tryd.f80 Y14.dist [1,1,1,0,1,0] H
def Y14.t (Q:AV→aA→Prop) (x0:AV) (h:aA) (J:JT):Prop:=
dF (some 120) [(AV.i .i64 0),(AV.i .i64 0),(AV.i .i64 0),(AV.i .i64 0),(AV.i .i64 0),(AV.i .i64 0),(AV.i .i64 0),(AV.i .i64 0),(AV.i .i64 0),(AV.i .i64 0),(AV.i .i64 0),(AV.i .i64 0),(AV.i .i64 0),(AV.i .i64 0),(AV.i .i64 0),(AV.i .i64 0),(AV.i .i64 0),(AV.i .i64 0),(AV.i .i64 0),(AV.i .i64 0),(AV.i .i64 0),(AV.i .i64 0),(AV.i .i64 0),(AV.i .i64 0),(AV.i .i64 0),(AV.i .i64 0),(AV.i .i64 0),(AV.i .i64 0),(AV.i .i64 0),(AV.i .i64 0),(AV.i .i64 0),(AV.i .i64 0)] h fun v0 h1=>
dF (some 120) [(AV.i .i64 0),(AV.i .i64 0),(AV.i .i64 0),(AV.i .i64 0),(AV.i .i64 0),(AV.i .i64 0),(AV.i .i64 0),(AV.i .i64 0),(AV.i .i64 0),(AV.i .i64 0),(AV.i .i64 0),(AV.i .i64 0),(AV.i .i64 0),(AV.i .i64 0),(AV.i .i64 0),(AV.i .i64 0),(AV.i .i64 0),(AV.i .i64 0),(AV.i .i64 0),(AV.i .i64 0),(AV.i .i64 0),(AV.i .i64 0),(AV.i .i64 0),(AV.i .i64 0),(AV.i .i64 0),(AV.i .i64 0),(AV.i .i64 0),(AV.i .i64 0),(AV.i .i64 0),(AV.i .i64 0),(AV.i .i64 0),(AV.i .i64 0)] h1 fun v3 h4=>
bK x0 fun n6=>
J 1 [(2,v0),(3,v3),(7,x0),(8,(AV.i .i64 n6)),(9,(AV.i .i64 0))] h4
theorem Y14.call {K x0 h} (H:Y14.t (aH h K) x0 h (Y14.J (aH h K))):C Y14.id [x0] h K:=
 gC Y14.J Tryd.func80 Y14.dist H
noncomputable def Y34.body:Code:=(Tryd.f81.body).getD .skip
def Y34.ann:Ann:=(sq [0,1] (sl [0,1,6] bl) (sl [0,1,4] (sq [0,1] (.seq 1 [0,1,37] (.ord (nn 0 25 .done)) (.br (sl [] lf) lf)) lf)))
theorem Y34.dist:aI (places Y34.ann Y34.body)=true:=by kernel_rfl
noncomputable def Y34.J (Q:AV→aA→Prop):JT:=bH prog C Tryd.f81 Y34.ann Y34.body Q
def Y34.p0 (Q:AV→aA→Prop) (x0:AV) (x1:Int) (x37:Bool) (h:aA):Prop:=Y34.J Q 1 [(0,x0),(1,(AV.i .u8 x1)),(37,(AV.b x37))] h
def Y34.t0 (Q:AV→aA→Prop) (x0:AV) (x1:Int) (x37:Bool) (h:aA) (J:JT):Prop:=
(bif x37 then
(aS x0 fun v32=>
aB 6 v32 fun v33=>
aT 1 v33 (AV.i .i64 16) h fun h34=>
Q (AV.tu []) h34)
else
(aS x0 fun v37=>
aB 2 v37 fun v38=>
aD v38 h fun v39=>
bN 1 1 [(AV.i .u8 0)] [(0,1,(AV.i .u8 x1))] h fun v40 h41=>
bW (some 5) 1 1 v39 v40 h41 fun v42 h43=>
aS x0 fun v44=>
aB 2 v44 fun v45=>
aT 1 v45 v42 h43 fun h46=>
Q (AV.tu []) h46))
theorem Y34.i0 {Q x0 x1 x37 h} (H:Y34.t0 Q x0 x1 x37 h (Y34.J Q)):Y34.p0 Q x0 x1 x37 h:=gR Y34.J Tryd.f81 Y34.dist [1,1,0,1] H
def Y34.t (Q:AV→aA→Prop) (x0:AV) (x1:Int) (h:aA) (J:JT):Prop:=
C Y24.id [x0] h fun v0 h1=>
asB v0 fun c2=>
(bif c2 then
(Q (AV.tu []) h1)
else
(aS x0 fun v5=>
aB 1 v5 fun v6=>
aD v6 h1 fun v7=>
asI .i64 v7 fun n8=>
aJ (IntKind.wrap .i64 (n8+7)) fun n9=>
sN .i64 n9 8 fun n10=>
aS x0 fun v12=>
aB 2 v12 fun v13=>
aD v13 h1 fun v14=>
bK v14 fun n15=>
aS x0 fun v16=>
aB 3 v16 fun v17=>
aD v17 h1 fun v18=>
asI .i64 v18 fun n19=>
(bif (decide ((n19:Int)≤n15)) then
(J 1 [(0,x0),(1,(AV.i .u8 x1)),(37,(AV.b true))] h1)
else
(aS x0 fun v21=>
aB 2 v21 fun v22=>
aD v22 h1 fun v23=>
bK v23 fun n24=>
aS x0 fun v25=>
aB 4 v25 fun v26=>
aD v26 h1 fun v27=>
asI .i64 v27 fun n28=>
aJ (IntKind.wrap .i64 (n28 * n10)) fun n29=>
aJ (IntKind.wrap .i64 (n29+1024)) fun n30=>
J 1 [(0,x0),(1,(AV.i .u8 x1)),(37,(AV.b (decide ((n30:Int)≤n24))))] h1))))
theorem Y34.call {K x0 x1 h} (H:Y34.t (aH h K) x0 x1 h (Y34.J (aH h K))):C Y34.id [x0,(AV.i .u8 x1)] h K:=
 gC Y34.J Tryd.func81 Y34.dist H
noncomputable def Y48.body:Code:=(Tryd.f82.body).getD .skip
def Y48.ann:Ann:=(sl [0] (sl [0,4] (sq [0] (sl [0,4,8] (.br (sl [2,3] lf) lf)) (sl [2,3] lf))))
theorem Y48.dist:aI (places Y48.ann Y48.body)=true:=by kernel_rfl
noncomputable def Y48.J (Q:AV→aA→Prop):JT:=bH prog C Tryd.f82 Y48.ann Y48.body Q
def Y48.t (Q:AV→aA→Prop) (x0:AV) (h:aA) (J:JT):Prop:=
C Y7.id [x0] h fun v1 h2=>
asI .i64 v1 fun n3=>
(bif (!decide ((n3:Int)=0)) then
(Q (AV.tu [(AV.p none),(AV.i .i64 n3)]) h2)
else
(C Y8.id [x0] h2 fun v8 h9=>
fY [(AV.sl none 0 none),(AV.sl none 0 none),(AV.i .i64 0),(AV.i .i64 0)] [(0,1,x0),(1,1,v8)] fun v10=>
dC (some 139) v10 h9 fun v11 h12=>
Q (AV.tu [v11,(AV.i .i64 0)]) h12))
theorem Y48.call {K x0 h} (H:Y48.t (aH h K) x0 h (Y48.J (aH h K))):C Y48.id [x0] h K:=
 gC Y48.J Tryd.func82 Y48.dist H
noncomputable def Y30.body:Code:=(Tryd.f83.body).getD .skip
def Y30.ann:Ann:=(sl [0,1] (sq [0,1] (sl [0,1,10] (.br (sl [] (sl [4] lf)) lf)) (.one (.loop 1 [0,1] (.one (sl [0,1,5] (sq [0,1,5] (sl [0,1,5,16] (.br (sl [4] lf) lf)) (sl [0,1,6,7,8] (sq [0,1,6,7] (sl [0,1,6,7,25] (.br (sl [] (sl [4] lf)) lf)) (sl [0,1,6,28] (.br (sl [4] lf) lf)))))))))))
theorem Y30.dist:aI (places Y30.ann Y30.body)=true:=by kernel_rfl
noncomputable def Y30.J (Q:AV→aA→Prop):JT:=bH prog C Tryd.f83 Y30.ann Y30.body Q
def Y30.p0 (Q:AV→aA→Prop) (x0 x1:AV) (h:aA):Prop:=Y30.J Q 1 [(0,x0),(1,x1)] h
def Y30.t0 (Q:AV→aA→Prop) (x0 x1:AV) (h:aA) (J:JT):Prop:=
C Y26.id [x0] h fun v9 h10=>
asI .i64 v9 fun n11=>
C Y24.id [x0] h10 fun v13 h14=>
asB v13 fun c15=>
(bif c15 then
(Q (AV.i .i64 0) h14)
else
(C Y11.id [x1,(AV.i .i64 n11)] h14 fun v19 h20=>
aO 0 v19 fun v21=>
asI .i64 v21 fun n22=>
aO 1 v19 fun v23=>
asB v23 fun c24=>
aO 2 v19 fun v25=>
asI .i64 v25 fun n26=>
(bif (!decide ((n26:Int)=0)) then
(C Y39.id [x0] h20 fun v29 h30=>
Q (AV.i .i64 0) h30)
else
((bif c24 then
(Q (AV.i .i64 n22) h20)
else
(J 1 [(0,x0),(1,x1)] h20))))))
theorem Y30.i0 {Q x0 x1 h} (H:Y30.t0 Q x0 x1 h (Y30.J Q)):Y30.p0 Q x0 x1 h:=gH Y30.J Tryd.f83 Y30.dist [1,1,0] H
def Y30.t (Q:AV→aA→Prop) (x0 x1:AV) (h:aA) (J:JT):Prop:=
dS prog .eql 123 x1 (AV.p none) fun v1=>
asB v1 fun c2=>
(bif c2 then
(C Y39.id [x0] h fun v4 h5=>
Q (AV.i .i64 0) h5)
else
(J 1 [(0,x0),(1,x1)] h))
theorem Y30.call {K x0 x1 h} (H:Y30.t (aH h K) x0 x1 h (Y30.J (aH h K))):C Y30.id [x0,x1] h K:=
 gC Y30.J Tryd.func83 Y30.dist H
noncomputable def Y7.body:Code:=(Tryd.f84.body).getD .skip
def Y7.ann:Ann:=(sl [0] (sq [0] (sl [0,8] (.br (sl [2] lf) lf)) (sl [0,3] (sq [0,3] (sl [0,3,4] (.one (.loop 1 [0,3,4] (sq [0,3,4] (sl [0,3,4,12] bl) (.seq 3 [0,3,4] (.one (sq [0,3,4] (.seq 2 [0,3,4,26] lf (.br (sl [2] lf) lf)) (sl [0,3,4,31] bl))) lf))))) (sl [3,5] (sq [3,5] (sl [3,5,44] (.br (sl [2] lf) lf)) (sq [] (.seq 4 [58] lf (.br (sl [2] lf) lf)) (sl [2] lf))))))))
theorem Y7.dist:aI (places Y7.ann Y7.body)=true:=by kernel_rfl
noncomputable def Y7.J (Q:AV→aA→Prop):JT:=bH prog C Tryd.f84 Y7.ann Y7.body Q
def Y7.p1 (Q:AV→aA→Prop) (x0:AV) (x3 x4:Int) (x26:Bool) (h:aA):Prop:=Y7.J Q 2 [(0,x0),(3,(AV.i .i64 x3)),(4,(AV.i .i64 x4)),(26,(AV.b x26))] h
def Y7.p2 (Q:AV→aA→Prop) (x0:AV) (x3 x4:Int) (h:aA):Prop:=Y7.J Q 3 [(0,x0),(3,(AV.i .i64 x3)),(4,(AV.i .i64 x4))] h
def Y7.p0 (Q:AV→aA→Prop) (x0:AV) (x3 x4:Int) (h:aA):Prop:=Y7.J Q 1 [(0,x0),(3,(AV.i .i64 x3)),(4,(AV.i .i64 x4))] h
def Y7.p3 (Q:AV→aA→Prop) (x58:Bool) (h:aA):Prop:=Y7.J Q 4 [(58,(AV.b x58))] h
def Y7.t1 (Q:AV→aA→Prop) (x0:AV) (x3 x4:Int) (x26:Bool) (h:aA) (J:JT):Prop:=
(bif x26 then
(Q (AV.i .i64 4) h)
else
(aN 1 x0 (AV.i .i64 x4) h fun v21=>
aD v21 h fun v22=>
asI .i64 v22 fun n23=>
(bif (decide ((0:Int)<n23)) then
(aN 1 x0 (AV.i .i64 x4) h fun v25=>
aD v25 h fun v26=>
asI .i64 v26 fun n27=>
aJ (IntKind.wrap .i64 (15 - n27)) fun n28=>
jX .i64 1 (IntKind.wrap .u64 n28) fun n29=>
aJ (IntKind.wrap .i64 (x3+n29)) fun n30=>
J 3 [(0,x0),(3,(AV.i .i64 n30)),(4,(AV.i .i64 x4))] h)
else
(J 3 [(0,x0),(3,(AV.i .i64 x3)),(4,(AV.i .i64 x4))] h))))
theorem Y7.i1 {Q x0 x3 x4 x26 h} (H:Y7.t1 Q x0 x3 x4 x26 h (Y7.J Q)):Y7.p1 Q x0 x3 x4 x26 h:=gR Y7.J Tryd.f84 Y7.dist [1,1,1,0,1,0,0,1,0,0,0,1] H
def Y7.t2 (Q:AV→aA→Prop) (x0:AV) (x3 x4:Int) (h:aA) (J:JT):Prop:=
aJ (IntKind.wrap .i64 (x4+1)) fun n33=>
J 1 [(0,x0),(3,(AV.i .i64 x3)),(4,(AV.i .i64 n33))] h
theorem Y7.i2 {Q x0 x3 x4 h} (H:Y7.t2 Q x0 x3 x4 h (Y7.J Q)):Y7.p2 Q x0 x3 x4 h:=gR Y7.J Tryd.f84 Y7.dist [1,1,1,0,1,0,0,1,1] H
def Y7.t0 (Q:AV→aA→Prop) (x0:AV) (x3 x4:Int) (h:aA) (J:JT):Prop:=
bK x0 fun n7=>
(bif (decide ((x4:Int)<n7)) then
(aN 1 x0 (AV.i .i64 x4) h fun v11=>
aD v11 h fun v12=>
asI .i64 v12 fun n13=>
(bif (decide ((n13:Int)<0)) then
(J 2 [(0,x0),(3,(AV.i .i64 x3)),(4,(AV.i .i64 x4)),(26,(AV.b true))] h)
else
(aN 1 x0 (AV.i .i64 x4) h fun v15=>
aD v15 h fun v16=>
asI .i64 v16 fun n17=>
J 2 [(0,x0),(3,(AV.i .i64 x3)),(4,(AV.i .i64 x4)),(26,(AV.b (decide ((15:Int)<n17))))] h)))
else
(C Y18.id [x0] h fun v35 h36=>
asI .i64 v35 fun n37=>
(bif (decide ((32768:Int)<x3)) then
(Q (AV.i .i64 2) h36)
else
((bif (decide ((x3:Int)=32768)) then
(J 4 [(58,(AV.b true))] h36)
else
((bif (decide ((n37:Int)=0)) then
(J 4 [(58,(AV.b true))] h36)
else
((bif (decide ((n37:Int)=1)) then
(J 4 [(58,(AV.b (decide ((x3:Int)=16384))))] h36)
else
(J 4 [(58,(AV.b false))] h36))))))))))
theorem Y7.i0 {Q x0 x3 x4 h} (H:Y7.t0 Q x0 x3 x4 h (Y7.J Q)):Y7.p0 Q x0 x3 x4 h:=gH Y7.J Tryd.f84 Y7.dist [1,1,1,0,1,0] H
def Y7.t3 (Q:AV→aA→Prop) (x58:Bool) (h:aA) (J:JT):Prop:=
(bif x58 then
(Q (AV.i .i64 0) h)
else
(Q (AV.i .i64 1) h))
theorem Y7.i3 {Q x58 h} (H:Y7.t3 Q x58 h (Y7.J Q)):Y7.p3 Q x58 h:=gR Y7.J Tryd.f84 Y7.dist [1,1,1,1,1,1,0,1] H
def Y7.t (Q:AV→aA→Prop) (x0:AV) (h:aA) (J:JT):Prop:=
bK x0 fun n1=>
(bif (decide ((320:Int)<n1)) then
(Q (AV.i .i64 3) h)
else
(J 1 [(0,x0),(3,(AV.i .i64 0)),(4,(AV.i .i64 0))] h))
theorem Y7.call {K x0 h} (H:Y7.t (aH h K) x0 h (Y7.J (aH h K))):C Y7.id [x0] h K:=
 gC Y7.J Tryd.func84 Y7.dist H
noncomputable def Y46.body:Code:=(Tryd.f85.body).getD .skip
def Y46.ann:Ann:=(sl [0] (sq [2] (.ord (nn 0 11 .done)) lf))
theorem Y46.dist:aI (places Y46.ann Y46.body)=true:=by kernel_rfl
noncomputable def Y46.J (Q:AV→aA→Prop):JT:=bH prog C Tryd.f85 Y46.ann Y46.body Q
def Y46.t (Q:AV→aA→Prop) (x0:AV) (h:aA) (J:JT):Prop:=
aS x0 fun v1=>
aB 0 v1 fun v2=>
aD v2 h fun v3=>
bK v3 fun n4=>
aS x0 fun v5=>
aB 1 v5 fun v6=>
aD v6 h fun v7=>
asI .i64 v7 fun n8=>
aJ (IntKind.wrap .i64 (n4 - n8)) fun n9=>
Q (AV.i .i64 n9) h
theorem Y46.call {K x0 h} (H:Y46.t (aH h K) x0 h (Y46.J (aH h K))):C Y46.id [x0] h K:=
 gC Y46.J Tryd.func85 Y46.dist H
noncomputable def Y71.body:Code:=(Tryd.f88.body).getD .skip
def Y71.ann:Ann:=(sl [0,1] (sq [0,1] (.br (sl [6,7] (sl [4,5] lf)) lf) (sl [8,9] (sl [4,5] lf))))
theorem Y71.dist:aI (places Y71.ann Y71.body)=true:=by kernel_rfl
noncomputable def Y71.J (Q:AV→aA→Prop):JT:=bH prog C Tryd.f88 Y71.ann Y71.body Q
def Y71.t (Q:AV→aA→Prop) (x0 x1:Int) (h:aA) (J:JT):Prop:=
C Y91.id [(AV.i .u64 x0),(AV.i .u64 x1)] h fun v2 h3=>
aO 0 v2 fun v4=>
asI .u64 v4 fun n5=>
aO 1 v2 fun v6=>
asI .u64 v6 fun n7=>
Q (AV.tu [(AV.i .u64 n5),(AV.i .u64 n7)]) h3
theorem Y71.call {K x0 x1 h} (H:Y71.t (aH h K) x0 x1 h (Y71.J (aH h K))):C Y71.id [(AV.i .u64 x0),(AV.i .u64 x1)] h K:=
 gC Y71.J Tryd.func88 Y71.dist H
noncomputable def Y90.body:Code:=(Tryd.f89.body).getD .skip
def Y90.ann:Ann:=(sl [1] (sl [2] lf))
theorem Y90.dist:aI (places Y90.ann Y90.body)=true:=by kernel_rfl
noncomputable def Y90.J (Q:AV→aA→Prop):JT:=bH prog C Tryd.f89 Y90.ann Y90.body Q
def Y90.t (Q:AV→aA→Prop) (x0:AV) (h:aA) (J:JT):Prop:=
dC none x0 h fun v0 h1=>
Q (AV.fn (.func Y41.id) [] [v0]) h1
theorem Y90.call {K x0 h} (H:Y90.t (aH h K) x0 h (Y90.J (aH h K))):C Y90.id [x0] h K:=
 gC Y90.J Tryd.func89 Y90.dist H
noncomputable def Y76.body:Code:=(Tryd.f90.body).getD .skip
def Y76.ann:Ann:=(sl [1,2] (sl [3] lf))
theorem Y76.dist:aI (places Y76.ann Y76.body)=true:=by kernel_rfl
noncomputable def Y76.J (Q:AV→aA→Prop):JT:=bH prog C Tryd.f90 Y76.ann Y76.body Q
def Y76.t (Q:AV→aA→Prop) (x0:Int) (x1:AV) (h:aA) (J:JT):Prop:=
dC none (AV.i .i64 x0) h fun v0 h1=>
aD x1 h1 fun v3=>
C Y43.id [v3,(AV.i .i64 16),(AV.fn (.func Y81.id) [] [v0,x1])] h1 fun v4 h5=>
asI .i64 v4 fun n6=>
Q (AV.i .i64 n6) h5
theorem Y76.call {K x0 x1 h} (H:Y76.t (aH h K) x0 x1 h (Y76.J (aH h K))):C Y76.id [(AV.i .i64 x0),x1] h K:=
 gC Y76.J Tryd.func90 Y76.dist H
noncomputable def Y81.body:Code:=(Tryd.f91.body).getD .skip
def Y81.ann:Ann:=(sl [0,1,2] (sq [1,2] (sl [1,2,8] (.br (sl [4] lf) lf)) (sl [4] lf)))
theorem Y81.dist:aI (places Y81.ann Y81.body)=true:=by kernel_rfl
noncomputable def Y81.J (Q:AV→aA→Prop):JT:=bH prog C Tryd.f91 Y81.ann Y81.body Q
def Y81.t (Q:AV→aA→Prop) (x0:Int) (x1 x2:AV) (h:aA) (J:JT):Prop:=
aD x1 h fun v1=>
asI .i64 v1 fun n2=>
aJ (IntKind.wrap .i64 (65535 - n2)) fun n3=>
(bif (!decide ((x0:Int)=n3)) then
(Q (AV.i .i64 2) h)
else
(aD x2 h fun v7=>
aD x1 h fun v8=>
asI .i64 v8 fun n9=>
C Y60.id [v7,(AV.i .i64 n9)] h fun v10 h11=>
asI .i64 v10 fun n12=>
Q (AV.i .i64 n12) h11))
theorem Y81.call {K x0 x1 x2 h} (H:Y81.t (aH h K) x0 x1 x2 h (Y81.J (aH h K))):C Y81.id [(AV.i .i64 x0),x1,x2] h K:=
 gC Y81.J Tryd.func91 Y81.dist H
noncomputable def Y60.body:Code:=(Tryd.f92.body).getD .skip
def Y60.ann:Ann:=(sl [2,3] (sq [2,3] (sl [2,3,6] (.br (sl [4] lf) lf)) (sl [4] lf)))
theorem Y60.dist:aI (places Y60.ann Y60.body)=true:=by kernel_rfl
noncomputable def Y60.J (Q:AV→aA→Prop):JT:=bH prog C Tryd.f92 Y60.ann Y60.body Q
def Y60.t (Q:AV→aA→Prop) (x0:AV) (x1:Int) (h:aA) (J:JT):Prop:=
dC none x0 h fun v0 h1=>
dC none (AV.i .i64 x1) h1 fun v2 h3=>
aD v2 h3 fun v5=>
asI .i64 v5 fun n6=>
(bif (decide ((n6:Int)=0)) then
(aD v0 h3 fun v8=>
C Y50.id [v8] h3 fun v9 h10=>
asI .i64 v9 fun n11=>
Q (AV.i .i64 n11) h10)
else
(aD v0 h3 fun v14=>
C Y43.id [v14,(AV.i .i64 8),(AV.fn (.func Y74.id) [] [v0,v2])] h3 fun v15 h16=>
asI .i64 v15 fun n17=>
Q (AV.i .i64 n17) h16))
theorem Y60.call {K x0 x1 h} (H:Y60.t (aH h K) x0 x1 h (Y60.J (aH h K))):C Y60.id [x0,(AV.i .i64 x1)] h K:=
 gC Y60.J Tryd.func92 Y60.dist H
noncomputable def Y64.body:Code:=(Tryd.f93.body).getD .skip
def Y64.ann:Ann:=(sl [0,1,2] (sl [0,2,7,8] (sq [0,2,7] (sl [0,2,7,16] (.br (sl [6] lf) lf)) (sl [0,7,8,9] (sq [0,7,9] (sl [0,7,9,23] (.br (sl [6] lf) lf)) (sl [6] lf))))))
theorem Y64.dist:aI (places Y64.ann Y64.body)=true:=by kernel_rfl
noncomputable def Y64.J (Q:AV→aA→Prop):JT:=bH prog C Tryd.f93 Y64.ann Y64.body Q
def Y64.t (Q:AV→aA→Prop) (x0 x1 x2:AV) (h:aA) (J:JT):Prop:=
C Y13.id [x1] h fun v1 h2=>
aO 0 v1 fun v3=>
aO 1 v1 fun v4=>
asI .i64 v4 fun n5=>
(bif (!decide ((n5:Int)=0)) then
(Q (AV.i .i64 2) h2)
else
(C Y13.id [x2] h2 fun v10 h11=>
aO 0 v10 fun v12=>
aO 1 v10 fun v13=>
asI .i64 v13 fun n14=>
(bif (!decide ((n14:Int)=0)) then
(Q (AV.i .i64 2) h11)
else
(C Y51.id [x0,v3,v12] h11 fun v19 h20=>
asI .i64 v19 fun n21=>
Q (AV.i .i64 n21) h20))))
theorem Y64.call {K x0 x1 x2 h} (H:Y64.t (aH h K) x0 x1 x2 h (Y64.J (aH h K))):C Y64.id [x0,x1,x2] h K:=
 gC Y64.J Tryd.func93 Y64.dist H
noncomputable def Y85.body:Code:=(Tryd.f94.body).getD .skip
def Y85.ann:Ann:=(sl [0,1] (sl [1,4] (sq [1,4] (sl [1,4,8] (.br (sl [3] lf) lf)) (sl [3] lf))))
theorem Y85.dist:aI (places Y85.ann Y85.body)=true:=by kernel_rfl
noncomputable def Y85.J (Q:AV→aA→Prop):JT:=bH prog C Tryd.f94 Y85.ann Y85.body Q
def Y85.t (Q:AV→aA→Prop) (x0:Int) (x1:AV) (h:aA) (J:JT):Prop:=
aJ (IntKind.wrap .i64 (x0+257)) fun n1=>
dF none [(AV.i .i64 0)] h fun v2 h3=>
aT 1 v2 (AV.i .i64 n1) h3 fun h4=>
aD v2 h4 fun v6=>
asI .i64 v6 fun n7=>
(bif (decide ((286:Int)<n7)) then
(Q (AV.i .i64 2) h4)
else
(aD x1 h4 fun v11=>
C Y43.id [v11,(AV.i .i64 5),(AV.fn (.func Y83.id) [] [x1,v2])] h4 fun v12 h13=>
asI .i64 v12 fun n14=>
Q (AV.i .i64 n14) h13))
theorem Y85.call {K x0 x1 h} (H:Y85.t (aH h K) x0 x1 h (Y85.J (aH h K))):C Y85.id [(AV.i .i64 x0),x1] h K:=
 gC Y85.J Tryd.func94 Y85.dist H
noncomputable def Y83.body:Code:=(Tryd.f95.body).getD .skip
def Y83.ann:Ann:=(sl [0,1,2] (sl [1,2,5] (sq [1,2,5] (sl [1,2,5,9] (.br (sl [4] lf) lf)) (sl [4] lf))))
theorem Y83.dist:aI (places Y83.ann Y83.body)=true:=by kernel_rfl
noncomputable def Y83.J (Q:AV→aA→Prop):JT:=bH prog C Tryd.f95 Y83.ann Y83.body Q
def Y83.t (Q:AV→aA→Prop) (x0:Int) (x1 x2:AV) (h:aA) (J:JT):Prop:=
aJ (IntKind.wrap .i64 (x0+1)) fun n1=>
dF none [(AV.i .i64 0)] h fun v2 h3=>
aT 1 v2 (AV.i .i64 n1) h3 fun h4=>
aD v2 h4 fun v6=>
asI .i64 v6 fun n7=>
(bif (decide ((30:Int)<n7)) then
(Q (AV.i .i64 2) h4)
else
(aD x1 h4 fun v11=>
C Y43.id [v11,(AV.i .i64 4),(AV.fn (.func Y73.id) [] [x1,x2,v2])] h4 fun v12 h13=>
asI .i64 v12 fun n14=>
Q (AV.i .i64 n14) h13))
theorem Y83.call {K x0 x1 x2 h} (H:Y83.t (aH h K) x0 x1 x2 h (Y83.J (aH h K))):C Y83.id [(AV.i .i64 x0),x1,x2] h K:=
 gC Y83.J Tryd.func95 Y83.dist H
noncomputable def Y73.body:Code:=(Tryd.f96.body).getD .skip
def Y73.ann:Ann:=(sl [0,1,2,3] (sq [5] (.ord (.neu 0 (nn 2 4 (.eff 1 (.eff 6 (.neu 7 .done) .stop) .stop)))) lf))
theorem Y73.dist:aI (places Y73.ann Y73.body)=true:=by kernel_rfl
noncomputable def Y73.J (Q:AV→aA→Prop):JT:=bH prog C Tryd.f96 Y73.ann Y73.body Q
def Y73.t (Q:AV→aA→Prop) (x0:Int) (x1 x2 x3:AV) (h:aA) (J:JT):Prop:=
aD x1 h fun v1=>
aJ (IntKind.wrap .i64 (x0+4)) fun n2=>
aD x2 h fun v3=>
asI .i64 v3 fun n4=>
aD x3 h fun v5=>
asI .i64 v5 fun n6=>
nB 1 8 [(AV.i .i64 0)] (AV.i .i64 19) (AV.i .i64 19) h fun v7 h8=>
aD x3 h8 fun v9=>
asI .i64 v9 fun n10=>
((AV.i .i64 n6)=(AV.i .i64 n10) ∧
(aD x2 h8 fun v11=>
asI .i64 v11 fun n12=>
((AV.i .i64 n4)=(AV.i .i64 n12) ∧
(aD x1 h8 fun v13=>
(v1=v13 ∧
(C Y66.id [v1,v7,(AV.i .i64 0),(AV.i .i64 n2),(AV.i .i64 n4),(AV.i .i64 n6)] h8 fun v14 h15=>
asI .i64 v14 fun n16=>
Q (AV.i .i64 n16) h15))))))
theorem Y73.call {K x0 x1 x2 x3 h} (H:Y73.t (aH h K) x0 x1 x2 x3 h (Y73.J (aH h K))):C Y73.id [(AV.i .i64 x0),x1,x2,x3] h K:=
 gC Y73.J Tryd.func96 Y73.dist H
noncomputable def Y66.body:Code:=(Tryd.f97.body).getD .skip
def Y66.ann:Ann:=(sl [6,7,8,9,10,11] (sq [6,7,8,9,10,11] (sl [6,7,8,9,10,11,17] (.br (sl [6,10,11,13,14] (sq [6,10,11,13] (sl [6,10,11,13,24] (.br (sl [12] lf) lf)) (sl [12] lf))) lf)) (sl [12] lf)))
theorem Y66.dist:aI (places Y66.ann Y66.body)=true:=by kernel_rfl
noncomputable def Y66.J (Q:AV→aA→Prop):JT:=bH prog C Tryd.f97 Y66.ann Y66.body Q
def Y66.t (Q:AV→aA→Prop) (x0 x1:AV) (x2 x3 x4 x5:Int) (h:aA) (J:JT):Prop:=
dC none x0 h fun v0 h1=>
dC none x1 h1 fun v2 h3=>
dC none (AV.i .i64 x2) h3 fun v4 h5=>
dC none (AV.i .i64 x3) h5 fun v6 h7=>
dC none (AV.i .i64 x4) h7 fun v8 h9=>
dC none (AV.i .i64 x5) h9 fun v10 h11=>
aD v4 h11 fun v13=>
asI .i64 v13 fun n14=>
aD v6 h11 fun v15=>
asI .i64 v15 fun n16=>
(bif (decide ((n14:Int)=n16)) then
(aD v2 h11 fun v18=>
C Y13.id [v18] h11 fun v19 h20=>
aO 0 v19 fun v21=>
aO 1 v19 fun v22=>
asI .i64 v22 fun n23=>
(bif (!decide ((n23:Int)=0)) then
(Q (AV.i .i64 2) h20)
else
(aD v0 h20 fun v28=>
aD v8 h20 fun v29=>
asI .i64 v29 fun n30=>
aD v10 h20 fun v31=>
asI .i64 v31 fun n32=>
C Y54.id [v28,v21,(AV.sl none 0 none),(AV.i .i64 n30),(AV.i .i64 n32)] h20 fun v33 h34=>
asI .i64 v33 fun n35=>
Q (AV.i .i64 n35) h34)))
else
(aD v0 h11 fun v38=>
C Y43.id [v38,(AV.i .i64 3),(AV.fn (.func Y82.id) [] [v2,v4,v0,v6,v8,v10])] h11 fun v39 h40=>
asI .i64 v39 fun n41=>
Q (AV.i .i64 n41) h40))
theorem Y66.call {K x0 x1 x2 x3 x4 x5 h} (H:Y66.t (aH h K) x0 x1 x2 x3 x4 x5 h (Y66.J (aH h K))):C Y66.id [x0,x1,(AV.i .i64 x2),(AV.i .i64 x3),(AV.i .i64 x4),(AV.i .i64 x5)] h K:=
 gC Y66.J Tryd.func97 Y66.dist H
noncomputable def Y11.body:Code:=(Tryd.f100.body).getD .skip
def Y11.ann:Ann:=(sl [0,1] (sq [0,1] (sl [0,1,10] (.br (sl [4,5,6] lf) lf)) (sl [0,1] (sl [0] (sl [0,7] (sq [0,7] (sl [0,7,8] (.one (.loop 1 [0,7,8] (sq [0,7,8] (sl [0,7,8,35] bl) (.seq 4 [0,7,8] (.one (sq [0,7,8] (.seq 2 [0,7,8,63] (.ord (nn 0 26 .done)) (.br (sl [0,8] (sl [8] (sl [4,5,6] lf))) lf)) (.seq 3 [0,7,8,110] (.ord (nn 0 40 .done)) bl))) lf))))) (sq [0] (sl [0,111] (.br (sl [4,5,6] lf) lf)) (sl [0] (sl [] (sl [4,5,6] lf))))))))))
theorem Y11.dist:aI (places Y11.ann Y11.body)=true:=by kernel_rfl
noncomputable def Y11.J (Q:AV→aA→Prop):JT:=bH prog C Tryd.f100 Y11.ann Y11.body Q
def Y11.p1 (Q:AV→aA→Prop) (x0:AV) (x7:Bool) (x8:Int) (x63:Bool) (h:aA):Prop:=Y11.J Q 2 [(0,x0),(7,(AV.b x7)),(8,(AV.i .i64 x8)),(63,(AV.b x63))] h
def Y11.p2 (Q:AV→aA→Prop) (x0:AV) (x7:Bool) (x8:Int) (x110:Bool) (h:aA):Prop:=Y11.J Q 3 [(0,x0),(7,(AV.b x7)),(8,(AV.i .i64 x8)),(110,(AV.b x110))] h
def Y11.p3 (Q:AV→aA→Prop) (x0:AV) (x7:Bool) (x8:Int) (h:aA):Prop:=Y11.J Q 4 [(0,x0),(7,(AV.b x7)),(8,(AV.i .i64 x8))] h
def Y11.p0 (Q:AV→aA→Prop) (x0:AV) (x7:Bool) (x8:Int) (h:aA):Prop:=Y11.J Q 1 [(0,x0),(7,(AV.b x7)),(8,(AV.i .i64 x8))] h
def Y11.t1 (Q:AV→aA→Prop) (x0:AV) (x7:Bool) (x8:Int) (x63:Bool) (h:aA) (J:JT):Prop:=
(bif x63 then
(aS x0 fun v56=>
aB 2 v56 fun v57=>
aT 1 v57 (AV.i .i64 0) h fun h58=>
aS x0 fun v60=>
aB 3 v60 fun v61=>
aT 1 v61 (AV.i .i64 0) h58 fun h62=>
Q (AV.tu [(AV.i .i64 x8),(AV.b true),(AV.i .i64 0)]) h62)
else
(aS x0 fun v66=>
aB 0 v66 fun v67=>
aD v67 h fun v68=>
aN 1 v68 (AV.i .i64 x8) h fun v69=>
aD v69 h fun v70=>
asI .i64 v70 fun n71=>
aS x0 fun v72=>
aB 2 v72 fun v73=>
aD v73 h fun v74=>
asI .i64 v74 fun n75=>
(bif (decide ((n75:Int)<n71)) then
(aS x0 fun v76=>
aB 1 v76 fun v77=>
aD v77 h fun v78=>
aN 1 v78 (AV.i .i64 x8) h fun v79=>
aD v79 h fun v80=>
asI .i64 v80 fun n81=>
aS x0 fun v82=>
aB 0 v82 fun v83=>
aD v83 h fun v84=>
aN 1 v84 (AV.i .i64 x8) h fun v85=>
aD v85 h fun v86=>
asI .i64 v86 fun n87=>
aS x0 fun v88=>
aB 2 v88 fun v89=>
aD v89 h fun v90=>
asI .i64 v90 fun n91=>
aJ (IntKind.wrap .i64 (n87 - n91)) fun n92=>
kZ .i64 n81 (IntKind.wrap .u64 n92) fun n93=>
aS x0 fun v94=>
aB 3 v94 fun v95=>
aD v95 h fun v96=>
asI .i64 v96 fun n97=>
J 3 [(0,x0),(7,(AV.b x7)),(8,(AV.i .i64 x8)),(110,(AV.b (decide ((n93:Int)=n97))))] h)
else
(J 3 [(0,x0),(7,(AV.b x7)),(8,(AV.i .i64 x8)),(110,(AV.b false))] h))))
theorem Y11.i1 {Q x0 x7 x8 x63 h} (H:Y11.t1 Q x0 x7 x8 x63 h (Y11.J Q)):Y11.p1 Q x0 x7 x8 x63 h:=gR Y11.J Tryd.f100 Y11.dist [1,1,1,1,1,0,1,0,0,1,0,0,0,1] H
def Y11.t2 (Q:AV→aA→Prop) (x0:AV) (x7:Bool) (x8:Int) (x110:Bool) (h:aA) (J:JT):Prop:=
(bif x110 then
(J 4 [(0,x0),(7,(AV.b true)),(8,(AV.i .i64 x8))] h)
else
(J 4 [(0,x0),(7,(AV.b x7)),(8,(AV.i .i64 x8))] h))
theorem Y11.i2 {Q x0 x7 x8 x110 h} (H:Y11.t2 Q x0 x7 x8 x110 h (Y11.J Q)):Y11.p2 Q x0 x7 x8 x110 h:=gR Y11.J Tryd.f100 Y11.dist [1,1,1,1,1,0,1,0,0,1,0,0,1,1] H
def Y11.t3 (Q:AV→aA→Prop) (x0:AV) (x7:Bool) (x8:Int) (h:aA) (J:JT):Prop:=
aJ (IntKind.wrap .i64 (x8+1)) fun n102=>
J 1 [(0,x0),(7,(AV.b x7)),(8,(AV.i .i64 n102))] h
theorem Y11.i3 {Q x0 x7 x8 h} (H:Y11.t3 Q x0 x7 x8 h (Y11.J Q)):Y11.p3 Q x0 x7 x8 h:=gR Y11.J Tryd.f100 Y11.dist [1,1,1,1,1,0,1,0,0,1,1] H
def Y11.t0 (Q:AV→aA→Prop) (x0:AV) (x7:Bool) (x8:Int) (h:aA) (J:JT):Prop:=
aS x0 fun v27=>
aB 0 v27 fun v28=>
aD v28 h fun v29=>
bK v29 fun n30=>
(bif (decide ((x8:Int)<n30)) then
(aS x0 fun v34=>
aB 0 v34 fun v35=>
aD v35 h fun v36=>
aN 1 v36 (AV.i .i64 x8) h fun v37=>
aD v37 h fun v38=>
asI .i64 v38 fun n39=>
aS x0 fun v40=>
aB 2 v40 fun v41=>
aD v41 h fun v42=>
asI .i64 v42 fun n43=>
(bif (decide ((n39:Int)=n43)) then
(aS x0 fun v44=>
aB 1 v44 fun v45=>
aD v45 h fun v46=>
aN 1 v46 (AV.i .i64 x8) h fun v47=>
aD v47 h fun v48=>
asI .i64 v48 fun n49=>
aS x0 fun v50=>
aB 3 v50 fun v51=>
aD v51 h fun v52=>
asI .i64 v52 fun n53=>
J 2 [(0,x0),(7,(AV.b x7)),(8,(AV.i .i64 x8)),(63,(AV.b (decide ((n49:Int)=n53))))] h)
else
(J 2 [(0,x0),(7,(AV.b x7)),(8,(AV.i .i64 x8)),(63,(AV.b false))] h)))
else
((bif x7 then
(Q (AV.tu [(AV.i .i64 0),(AV.b false),(AV.i .i64 0)]) h)
else
(aS x0 fun v107=>
aB 2 v107 fun v108=>
aT 1 v108 (AV.i .i64 0) h fun h109=>
aS x0 fun v111=>
aB 3 v111 fun v112=>
aT 1 v112 (AV.i .i64 0) h109 fun h113=>
Q (AV.tu [(AV.i .i64 0),(AV.b false),(AV.i .i64 2)]) h113))))
theorem Y11.i0 {Q x0 x7 x8 h} (H:Y11.t0 Q x0 x7 x8 h (Y11.J Q)):Y11.p0 Q x0 x7 x8 h:=gH Y11.J Tryd.f100 Y11.dist [1,1,1,1,1,0,1,0] H
def Y11.t (Q:AV→aA→Prop) (x0:AV) (x1:Int) (h:aA) (J:JT):Prop:=
dS prog .eql 123 x0 (AV.p none) fun v1=>
asB v1 fun c2=>
(bif c2 then
(Q (AV.tu [(AV.i .i64 0),(AV.b false),(AV.i .i64 6)]) h)
else
(aS x0 fun v6=>
aB 2 v6 fun v7=>
aD v7 h fun v8=>
asI .i64 v8 fun n9=>
aJ (IntKind.wrap .i64 (n9+1)) fun n10=>
aS x0 fun v11=>
aB 2 v11 fun v12=>
aT 1 v12 (AV.i .i64 n10) h fun h13=>
aS x0 fun v15=>
aB 3 v15 fun v16=>
aD v16 h13 fun v17=>
asI .i64 v17 fun n18=>
aJ (IntKind.wrap .i64 (2 * n18)) fun n19=>
aJ (IntKind.wrap .i64 (n19+(bO .and .i64 x1 1))) fun n20=>
aS x0 fun v21=>
aB 3 v21 fun v22=>
aT 1 v22 (AV.i .i64 n20) h13 fun h23=>
J 1 [(0,x0),(7,(AV.b false)),(8,(AV.i .i64 0))] h23))
theorem Y11.call {K x0 x1 h} (H:Y11.t (aH h K) x0 x1 h (Y11.J (aH h K))):C Y11.id [x0,(AV.i .i64 x1)] h K:=
 gC Y11.J Tryd.func100 Y11.dist H
noncomputable def Y18.body:Code:=(Tryd.f101.body).getD .skip
def Y18.ann:Ann:=(sl [0] (sl [0,3] (sq [3] (sl [0,3,4] (.one (.loop 1 [0,3,4] (sq [0,3,4] (sl [0,3,4,8] bl) (.seq 2 [0,3,4] (.one (sl [0,3,4,15] bl)) lf))))) (sl [2] lf))))
theorem Y18.dist:aI (places Y18.ann Y18.body)=true:=by kernel_rfl
noncomputable def Y18.J (Q:AV→aA→Prop):JT:=bH prog C Tryd.f101 Y18.ann Y18.body Q
def Y18.p1 (Q:AV→aA→Prop) (x0:AV) (x3 x4:Int) (h:aA):Prop:=Y18.J Q 2 [(0,x0),(3,(AV.i .i64 x3)),(4,(AV.i .i64 x4))] h
def Y18.p0 (Q:AV→aA→Prop) (x0:AV) (x3 x4:Int) (h:aA):Prop:=Y18.J Q 1 [(0,x0),(3,(AV.i .i64 x3)),(4,(AV.i .i64 x4))] h
def Y18.t1 (Q:AV→aA→Prop) (x0:AV) (x3 x4:Int) (h:aA) (J:JT):Prop:=
aJ (IntKind.wrap .i64 (x4+1)) fun n14=>
J 1 [(0,x0),(3,(AV.i .i64 x3)),(4,(AV.i .i64 n14))] h
theorem Y18.i1 {Q x0 x3 x4 h} (H:Y18.t1 Q x0 x3 x4 h (Y18.J Q)):Y18.p1 Q x0 x3 x4 h:=gR Y18.J Tryd.f101 Y18.dist [1,1,0,1,0,0,1,1] H
def Y18.t0 (Q:AV→aA→Prop) (x0:AV) (x3 x4:Int) (h:aA) (J:JT):Prop:=
bK x0 fun n3=>
(bif (decide ((x4:Int)<n3)) then
(aN 1 x0 (AV.i .i64 x4) h fun v7=>
aD v7 h fun v8=>
asI .i64 v8 fun n9=>
(bif (decide ((0:Int)<n9)) then
(aJ (IntKind.wrap .i64 (x3+1)) fun n11=>
J 2 [(0,x0),(3,(AV.i .i64 n11)),(4,(AV.i .i64 x4))] h)
else
(J 2 [(0,x0),(3,(AV.i .i64 x3)),(4,(AV.i .i64 x4))] h)))
else
(Q (AV.i .i64 x3) h))
theorem Y18.i0 {Q x0 x3 x4 h} (H:Y18.t0 Q x0 x3 x4 h (Y18.J Q)):Y18.p0 Q x0 x3 x4 h:=gH Y18.J Tryd.f101 Y18.dist [1,1,0,1,0] H
def Y18.t (Q:AV→aA→Prop) (x0:AV) (h:aA) (J:JT):Prop:=
J 1 [(0,x0),(3,(AV.i .i64 0)),(4,(AV.i .i64 0))] h
theorem Y18.call {K x0 h} (H:Y18.t (aH h K) x0 h (Y18.J (aH h K))):C Y18.id [x0] h K:=
 gC Y18.J Tryd.func101 Y18.dist H
noncomputable def Y91.body:Code:=(Tryd.f104.body).getD .skip
def Y91.ann:Ann:=(sl [0,1] (sl [0,1,6] (sl [0,1,6,7] (sl [0,1,6,7,8] (sl [0,1,6,7,8,9] (sl [0,1,6,7,8,9,10] (sl [0,1,6,7,9,11] (sl [0,1,6,7,9,11,12] (sl [0,1,6,7,9,12,13] (sl [0,1,7,9,12,13] (sl [0,1,4] (sl [4,5] lf))))))))))))
theorem Y91.dist:aI (places Y91.ann Y91.body)=true:=by kernel_rfl
noncomputable def Y91.J (Q:AV→aA→Prop):JT:=bH prog C Tryd.f104 Y91.ann Y91.body Q
def Y91.t (Q:AV→aA→Prop) (x0 x1:Int) (h:aA) (J:JT):Prop:=
aJ (bO .and .u64 x0 4294967295) fun n1=>
kZ .u64 x0 32 fun n3=>
aJ (bO .and .u64 x1 4294967295) fun n5=>
kZ .u64 x1 32 fun n7=>
aJ (IntKind.wrap .u64 (n1 * n5)) fun n9=>
aJ (IntKind.wrap .u64 (n3 * n5)) fun n11=>
kZ .u64 n9 32 fun n12=>
aJ (IntKind.wrap .u64 (n11+n12)) fun n13=>
aJ (bO .and .u64 n13 4294967295) fun n15=>
kZ .u64 n13 32 fun n17=>
aJ (IntKind.wrap .u64 (n1 * n7)) fun n19=>
aJ (IntKind.wrap .u64 (n15+n19)) fun n20=>
aJ (IntKind.wrap .u64 (n3 * n7)) fun n22=>
aJ (IntKind.wrap .u64 (n22+n17)) fun n23=>
kZ .u64 n20 32 fun n24=>
aJ (IntKind.wrap .u64 (n23+n24)) fun n25=>
aJ (IntKind.wrap .u64 (x0 * x1)) fun n27=>
Q (AV.tu [(AV.i .u64 n25),(AV.i .u64 n27)]) h
theorem Y91.call {K x0 x1 h} (H:Y91.t (aH h K) x0 x1 h (Y91.J (aH h K))):C Y91.id [(AV.i .u64 x0),(AV.i .u64 x1)] h K:=
 gC Y91.J Tryd.func104 Y91.dist H
noncomputable def Y41.body:Code:=(Tryd.f105.body).getD .skip
def Y41.ann:Ann:=(sl [0,1,3] (.one (.loop 1 [0,1,3] (sq [0,1,3] (sl [0,1,3,8] bl) (sq [0,1,3] (.one (sl [0,1,3,18] bl)) lf)))))
theorem Y41.dist:aI (places Y41.ann Y41.body)=true:=by kernel_rfl
noncomputable def Y41.J (Q:AV→aA→Prop):JT:=bH prog C Tryd.f105 Y41.ann Y41.body Q
def Y41.p0 (Q:AV→aA→Prop) (x0 x1:AV) (x3:Int) (h:aA):Prop:=Y41.J Q 1 [(0,x0),(1,x1),(3,(AV.i .i64 x3))] h
def Y41.t0 (Q:AV→aA→Prop) (x0 x1:AV) (x3:Int) (h:aA) (J:JT):Prop:=
(bif (decide ((0:Int)≤x3)) then
(aD x1 h fun v6=>
aN 1 v6 (AV.i .i64 x3) h fun v7=>
aD v7 h fun v8=>
asI .i64 v8 fun n9=>
bZ C x0 [(AV.i .i64 x3),(AV.i .i64 n9)] h fun v10 h11=>
asB v10 fun c12=>
(bif (!c12) then
(Q (AV.tu []) h11)
else
(aJ (IntKind.wrap .i64 (x3 - 1)) fun n15=>
J 1 [(0,x0),(1,x1),(3,(AV.i .i64 n15))] h11)))
else
(Q (AV.tu []) h))
theorem Y41.i0 {Q x0 x1 x3 h} (H:Y41.t0 Q x0 x1 x3 h (Y41.J Q)):Y41.p0 Q x0 x1 x3 h:=gH Y41.J Tryd.f105 Y41.dist [1,0] H
def Y41.t (Q:AV→aA→Prop) (x0 x1:AV) (h:aA) (J:JT):Prop:=
aD x1 h fun v0=>
bK v0 fun n1=>
aJ (IntKind.wrap .i64 (n1 - 1)) fun n2=>
J 1 [(0,x0),(1,x1),(3,(AV.i .i64 n2))] h
theorem Y41.call {K x0 x1 h} (H:Y41.t (aH h K) x0 x1 h (Y41.J (aH h K))):C Y41.id [x0,x1] h K:=
 gC Y41.J Tryd.func105 Y41.dist H
noncomputable def Y74.body:Code:=(Tryd.f106.body).getD .skip
def Y74.ann:Ann:=(sl [0,1,2] (sq [1,2] (sl [1,2,5] (sl [1,2,5,11] (.br (sl [4] lf) lf))) (sl [4] lf)))
theorem Y74.dist:aI (places Y74.ann Y74.body)=true:=by kernel_rfl
noncomputable def Y74.J (Q:AV→aA→Prop):JT:=bH prog C Tryd.f106 Y74.ann Y74.body Q
def Y74.t (Q:AV→aA→Prop) (x0:Int) (x1 x2:AV) (h:aA) (J:JT):Prop:=
aD x1 h fun v1=>
C Y28.id [v1,(AV.i .u8 (IntKind.wrap .u8 x0))] h fun v2 h3=>
asI .i64 v2 fun n4=>
(bif (!decide ((n4:Int)=0)) then
(Q (AV.i .i64 n4) h3)
else
(aD x1 h3 fun v9=>
aD x2 h3 fun v10=>
asI .i64 v10 fun n11=>
aJ (IntKind.wrap .i64 (n11 - 1)) fun n12=>
C Y60.id [v9,(AV.i .i64 n12)] h3 fun v13 h14=>
asI .i64 v13 fun n15=>
Q (AV.i .i64 n15) h14))
theorem Y74.call {K x0 x1 x2 h} (H:Y74.t (aH h K) x0 x1 x2 h (Y74.J (aH h K))):C Y74.id [(AV.i .i64 x0),x1,x2] h K:=
 gC Y74.J Tryd.func106 Y74.dist H
noncomputable def Y28.body:Code:=(Tryd.f107.body).getD .skip
def Y28.ann:Ann:=(sl [0,1] (sq [0,1] (.seq 1 [0,1,32] (.ord (nn 0 28 .done)) (.br (sl [4] lf) lf)) (sl [0,1] (sl [0,1] (.seq 2 [0,1] (sl [0,1,55] bl) (sl [] (sl [4] lf)))))))
theorem Y28.dist:aI (places Y28.ann Y28.body)=true:=by kernel_rfl
noncomputable def Y28.J (Q:AV→aA→Prop):JT:=bH prog C Tryd.f107 Y28.ann Y28.body Q
def Y28.p0 (Q:AV→aA→Prop) (x0:AV) (x1:Int) (x32:Bool) (h:aA):Prop:=Y28.J Q 1 [(0,x0),(1,(AV.i .u8 x1)),(32,(AV.b x32))] h
def Y28.p1 (Q:AV→aA→Prop) (x0:AV) (x1:Int) (h:aA):Prop:=Y28.J Q 2 [(0,x0),(1,(AV.i .u8 x1))] h
def Y28.t0 (Q:AV→aA→Prop) (x0:AV) (x1:Int) (x32:Bool) (h:aA) (J:JT):Prop:=
(bif x32 then
(Q (AV.i .i64 16) h)
else
(aS x0 fun v29=>
aB 3 v29 fun v30=>
aD v30 h fun v31=>
asI .i64 v31 fun n32=>
aJ (IntKind.wrap .i64 (n32+1)) fun n33=>
aS x0 fun v34=>
aB 3 v34 fun v35=>
aT 1 v35 (AV.i .i64 n33) h fun h36=>
aS x0 fun v38=>
aB 4 v38 fun v39=>
aD v39 h36 fun v40=>
bN 1 1 [(AV.i .u8 0)] [(0,1,(AV.i .u8 x1))] h36 fun v41 h42=>
bW (some 5) 1 1 v40 v41 h42 fun v43 h44=>
aS x0 fun v45=>
aB 4 v45 fun v46=>
aT 1 v46 v43 h44 fun h47=>
aS x0 fun v49=>
aB 2 v49 fun v50=>
aD v50 h47 fun v51=>
bK v51 fun n52=>
(bif (decide ((65536:Int)≤n52)) then
(aS x0 fun v54=>
aB 2 v54 fun v55=>
aD v55 h47 fun v56=>
bI 1 v56 (some (AV.i .i64 32768)) none none h47 fun v57=>
C Y92.id [v57] h47 fun v58 h59=>
aS x0 fun v60=>
aB 2 v60 fun v61=>
aT 1 v61 v58 h59 fun h62=>
J 2 [(0,x0),(1,(AV.i .u8 x1))] h62)
else
(J 2 [(0,x0),(1,(AV.i .u8 x1))] h47))))
theorem Y28.i0 {Q x0 x1 x32 h} (H:Y28.t0 Q x0 x1 x32 h (Y28.J Q)):Y28.p0 Q x0 x1 x32 h:=gR Y28.J Tryd.f107 Y28.dist [1,0,1] H
def Y28.t1 (Q:AV→aA→Prop) (x0:AV) (x1:Int) (h:aA) (J:JT):Prop:=
aS x0 fun v65=>
aB 2 v65 fun v66=>
aD v66 h fun v67=>
bN 1 1 [(AV.i .u8 0)] [(0,1,(AV.i .u8 x1))] h fun v68 h69=>
bW (some 5) 1 1 v67 v68 h69 fun v70 h71=>
aS x0 fun v72=>
aB 2 v72 fun v73=>
aT 1 v73 v70 h71 fun h74=>
Q (AV.i .i64 0) h74
theorem Y28.i1 {Q x0 x1 h} (H:Y28.t1 Q x0 x1 h (Y28.J Q)):Y28.p1 Q x0 x1 h:=gR Y28.J Tryd.f107 Y28.dist [1,1,1,1,1] H
def Y28.t (Q:AV→aA→Prop) (x0:AV) (x1:Int) (h:aA) (J:JT):Prop:=
aS x0 fun v1=>
aB 3 v1 fun v2=>
aD v2 h fun v3=>
asI .i64 v3 fun n4=>
aS x0 fun v5=>
aB 0 v5 fun v6=>
aB 0 v6 fun v7=>
aD v7 h fun v8=>
asI .i64 v8 fun n9=>
(bif (decide ((n9:Int)≤n4)) then
(J 1 [(0,x0),(1,(AV.i .u8 x1)),(32,(AV.b true))] h)
else
(aS x0 fun v11=>
aB 3 v11 fun v12=>
aD v12 h fun v13=>
asI .i64 v13 fun n14=>
aS x0 fun v15=>
aB 0 v15 fun v16=>
aB 1 v16 fun v17=>
aD v17 h fun v18=>
asI .i64 v18 fun n19=>
aS x0 fun v20=>
aB 5 v20 fun v21=>
aD v21 h fun v22=>
asI .i64 v22 fun n23=>
aJ (IntKind.wrap .i64 (n19 * n23)) fun n24=>
aJ (IntKind.wrap .i64 (n24+1024)) fun n25=>
J 1 [(0,x0),(1,(AV.i .u8 x1)),(32,(AV.b (decide ((n25:Int)≤n14))))] h))
theorem Y28.call {K x0 x1 h} (H:Y28.t (aH h K) x0 x1 h (Y28.J (aH h K))):C Y28.id [x0,(AV.i .u8 x1)] h K:=
 gC Y28.J Tryd.func107 Y28.dist H
noncomputable def Y13.body:Code:=(Tryd.f108.body).getD .skip
def Y13.ann:Ann:=(sl [0] (sq [0] (sl [0,4] (sl [0,4,12] (.br (sl [2,3] lf) lf))) (sl [0,5] (sq [5] (sl [0,5,6] (.one (.loop 1 [0,5,6] (sq [0,5,6] (sl [0,5,6,19] bl) (sq [0,5,6] (.one (sq [0,5,6] (.ord (nn 0 10 (.eff 10 .done .stop))) (sl [0,5,6,32,33,34] (.one (.loop 2 [0,5,6,32,33,34] (sl [0,5,6,32,33,34,35] (sq [0,5,6,32,33,34] bl (.seq 3 [0,5,6,32,33,34] (.one (sl [0,5,6,7,8,32,33,34] (sl [0,5,6,7,32,33,34,41] (.br (sl [0,5,6,32,33,34] lf) lf)))) lf)))))))) lf))))) (sl [2,3] lf)))))
theorem Y13.dist:aI (places Y13.ann Y13.body)=true:=by kernel_rfl
noncomputable def Y13.J (Q:AV→aA→Prop):JT:=bH prog C Tryd.f108 Y13.ann Y13.body Q
def Y13.p2 (Q:AV→aA→Prop) (x0 x5:AV) (x6:Int) (x32:AV) (x33 x34:Int) (h:aA):Prop:=Y13.J Q 3 [(0,x0),(5,x5),(6,(AV.i .i64 x6)),(32,x32),(33,(AV.i .i64 x33)),(34,(AV.i .i64 x34))] h
def Y13.p1 (Q:AV→aA→Prop) (x0 x5:AV) (x6:Int) (x32:AV) (x33 x34:Int) (h:aA):Prop:=Y13.J Q 2 [(0,x0),(5,x5),(6,(AV.i .i64 x6)),(32,x32),(33,(AV.i .i64 x33)),(34,(AV.i .i64 x34))] h
def Y13.p0 (Q:AV→aA→Prop) (x0 x5:AV) (x6:Int) (h:aA):Prop:=Y13.J Q 1 [(0,x0),(5,x5),(6,(AV.i .i64 x6))] h
def Y13.t2 (Q:AV→aA→Prop) (x0 x5:AV) (x6:Int) (x32:AV) (x33 x34:Int) (h:aA) (J:JT):Prop:=
aJ (IntKind.wrap .i64 (x34+1)) fun n53=>
J 2 [(0,x0),(5,x5),(6,(AV.i .i64 x6)),(32,x32),(33,(AV.i .i64 x33)),(34,(AV.i .i64 n53))] h
theorem Y13.i2 {Q x0 x5 x6 x32 x33 x34 h} (H:Y13.t2 Q x0 x5 x6 x32 x33 x34 h (Y13.J Q)):Y13.p2 Q x0 x5 x6 x32 x33 x34 h:=gR Y13.J Tryd.f108 Y13.dist [1,1,1,0,1,0,0,1,0,0,1,1,0,0,1,1,1] H
def Y13.t1 (Q:AV→aA→Prop) (x0 x5:AV) (x6:Int) (x32:AV) (x33 x34:Int) (h:aA) (J:JT):Prop:=
(bif (decide ((x34:Int)<x33)) then
(aN 1 x32 (AV.i .i64 x34) h fun v32=>
aD v32 h fun v33=>
asI .i64 v33 fun n34=>
(bif (decide ((n34:Int)=x6)) then
(aS x5 fun v37=>
aB 32 v37 fun v38=>
aD v38 h fun v39=>
bN 1 1 [(AV.i .i64 0)] [(0,1,(AV.i .i64 x34))] h fun v40 h41=>
bW none 1 8 v39 v40 h41 fun v42 h43=>
aS x5 fun v44=>
aB 32 v44 fun v45=>
aT 1 v45 v42 h43 fun h46=>
aS x5 fun v48=>
aB 49 v48 fun v49=>
aT 1 v49 (AV.i .i64 x6) h46 fun h50=>
J 3 [(0,x0),(5,x5),(6,(AV.i .i64 x6)),(32,x32),(33,(AV.i .i64 x33)),(34,(AV.i .i64 x34))] h50)
else
(J 3 [(0,x0),(5,x5),(6,(AV.i .i64 x6)),(32,x32),(33,(AV.i .i64 x33)),(34,(AV.i .i64 x34))] h)))
else
(aJ (IntKind.wrap .i64 (x6+1)) fun n55=>
J 1 [(0,x0),(5,x5),(6,(AV.i .i64 n55))] h))
theorem Y13.i1 {Q x0 x5 x6 x32 x33 x34 h} (H:Y13.t1 Q x0 x5 x6 x32 x33 x34 h (Y13.J Q)):Y13.p1 Q x0 x5 x6 x32 x33 x34 h:=gH Y13.J Tryd.f108 Y13.dist [1,1,1,0,1,0,0,1,0,0,1,1,0] H
def Y13.t0 (Q:AV→aA→Prop) (x0 x5:AV) (x6:Int) (h:aA) (J:JT):Prop:=
(bif (decide ((x6:Int)≤15)) then
(aS x5 fun v18=>
aB 32 v18 fun v19=>
aD v19 h fun v20=>
bK v20 fun n21=>
aS x5 fun v22=>
aB 33 v22 fun v23=>
bM 16 1 v23 (AV.i .i64 x6) fun v24=>
aT 1 v24 (AV.i .i64 n21) h fun h25=>
bK x0 fun n27=>
J 2 [(0,x0),(5,x5),(6,(AV.i .i64 x6)),(32,x0),(33,(AV.i .i64 n27)),(34,(AV.i .i64 0))] h25)
else
(Q (AV.tu [x5,(AV.i .i64 0)]) h))
theorem Y13.i0 {Q x0 x5 x6 h} (H:Y13.t0 Q x0 x5 x6 h (Y13.J Q)):Y13.p0 Q x0 x5 x6 h:=gH Y13.J Tryd.f108 Y13.dist [1,1,1,0,1,0] H
def Y13.t (Q:AV→aA→Prop) (x0:AV) (h:aA) (J:JT):Prop:=
C Y10.id [x0] h fun v1 h2=>
asI .i64 v1 fun n3=>
(bif (!decide ((n3:Int)=0)) then
(Q (AV.tu [(AV.p none),(AV.i .i64 n3)]) h2)
else
(C Y14.id [x0] h2 fun v8 h9=>
fY [(AV.i .i64 0),(AV.i .i64 0),(AV.i .i64 0),(AV.i .i64 0),(AV.i .i64 0),(AV.i .i64 0),(AV.i .i64 0),(AV.i .i64 0),(AV.i .i64 0),(AV.i .i64 0),(AV.i .i64 0),(AV.i .i64 0),(AV.i .i64 0),(AV.i .i64 0),(AV.i .i64 0),(AV.i .i64 0),(AV.i .i64 0),(AV.i .i64 0),(AV.i .i64 0),(AV.i .i64 0),(AV.i .i64 0),(AV.i .i64 0),(AV.i .i64 0),(AV.i .i64 0),(AV.i .i64 0),(AV.i .i64 0),(AV.i .i64 0),(AV.i .i64 0),(AV.i .i64 0),(AV.i .i64 0),(AV.i .i64 0),(AV.i .i64 0),(AV.sl none 0 none),(AV.i .i64 0),(AV.i .i64 0),(AV.i .i64 0),(AV.i .i64 0),(AV.i .i64 0),(AV.i .i64 0),(AV.i .i64 0),(AV.i .i64 0),(AV.i .i64 0),(AV.i .i64 0),(AV.i .i64 0),(AV.i .i64 0),(AV.i .i64 0),(AV.i .i64 0),(AV.i .i64 0),(AV.i .i64 0),(AV.i .i64 0),(AV.i .i64 0),(AV.i .i64 0)] [(0,32,v8)] fun v10=>
dC (some 136) v10 h9 fun v11 h12=>
J 1 [(0,x0),(5,v11),(6,(AV.i .i64 1))] h12))
theorem Y13.call {K x0 h} (H:Y13.t (aH h K) x0 h (Y13.J (aH h K))):C Y13.id [x0] h K:=
 gC Y13.J Tryd.func108 Y13.dist H
noncomputable def Y51.body:Code:=(Tryd.f109.body).getD .skip
def Y51.ann:Ann:=(sl [3,4,5] (sl [6] lf))
theorem Y51.dist:aI (places Y51.ann Y51.body)=true:=by kernel_rfl
noncomputable def Y51.J (Q:AV→aA→Prop):JT:=bH prog C Tryd.f109 Y51.ann Y51.body Q
def Y51.t (Q:AV→aA→Prop) (x0 x1 x2:AV) (h:aA) (J:JT):Prop:=
dC none x0 h fun v0 h1=>
dC none x1 h1 fun v2 h3=>
dC none x2 h3 fun v4 h5=>
aD v0 h5 fun v7=>
aD v2 h5 fun v8=>
C Y53.id [v7,v8,(AV.fn (.func Y75.id) [] [v0,v2,v4])] h5 fun v9 h10=>
asI .i64 v9 fun n11=>
Q (AV.i .i64 n11) h10
theorem Y51.call {K x0 x1 x2 h} (H:Y51.t (aH h K) x0 x1 x2 h (Y51.J (aH h K))):C Y51.id [x0,x1,x2] h K:=
 gC Y51.J Tryd.func109 Y51.dist H
noncomputable def Y54.body:Code:=(Tryd.f110.body).getD .skip
def Y54.ann:Ann:=(sl [5,6,7,8,9] (sq [5,6,7,8,9] (sl [5,6,7,8,9,17] (.br (sq [10] (.ord (nn 0 7 (.eff 7 (.neu 8 .done) .stop))) lf) lf)) (sl [5,6,7,8,9,11] (sl [10] lf))))
theorem Y54.dist:aI (places Y54.ann Y54.body)=true:=by kernel_rfl
noncomputable def Y54.J (Q:AV→aA→Prop):JT:=bH prog C Tryd.f110 Y54.ann Y54.body Q
def Y54.t (Q:AV→aA→Prop) (x0 x1 x2:AV) (x3 x4:Int) (h:aA) (J:JT):Prop:=
dC none x0 h fun v0 h1=>
dC none x1 h1 fun v2 h3=>
dC none x2 h3 fun v4 h5=>
dC none (AV.i .i64 x3) h5 fun v6 h7=>
dC none (AV.i .i64 x4) h7 fun v8 h9=>
aD v4 h9 fun v11=>
bK v11 fun n12=>
aD v6 h9 fun v13=>
asI .i64 v13 fun n14=>
aD v8 h9 fun v15=>
asI .i64 v15 fun n16=>
aJ (IntKind.wrap .i64 (n14+n16)) fun n17=>
(bif (decide ((n12:Int)=n17)) then
(aD v0 h9 fun v19=>
aD v4 h9 fun v20=>
aD v6 h9 fun v21=>
asI .i64 v21 fun n22=>
bI 1 v20 none (some (AV.i .i64 n22)) none h9 fun v23=>
aD v4 h9 fun v24=>
aD v6 h9 fun v25=>
asI .i64 v25 fun n26=>
bI 1 v24 (some (AV.i .i64 n26)) none none h9 fun v27=>
C Y64.id [v19,v23,v27] h9 fun v28 h29=>
asI .i64 v28 fun n30=>
Q (AV.i .i64 n30) h29)
else
(dF none [AV.nf] h9 fun v33 h34=>
aT 1 v33 (AV.fn (.func Y58.id) [] [v0,v4,v6,v8,v2]) h34 fun h35=>
aD v0 h35 fun v37=>
aD v2 h35 fun v38=>
C Y53.id [v37,v38,(AV.fn (.func Y38.id) [] [v0,v2,v4,v6,v8,v33])] h35 fun v39 h40=>
asI .i64 v39 fun n41=>
Q (AV.i .i64 n41) h40))
theorem Y54.call {K x0 x1 x2 x3 x4 h} (H:Y54.t (aH h K) x0 x1 x2 x3 x4 h (Y54.J (aH h K))):C Y54.id [x0,x1,x2,(AV.i .i64 x3),(AV.i .i64 x4)] h K:=
 gC Y54.J Tryd.func110 Y54.dist H
noncomputable def Y82.body:Code:=(Tryd.f111.body).getD .skip
def Y82.ann:Ann:=(sl [0,1,2,3,4,5,6] (sq [1,2,3,4,5,6] (.ord (nn 0 6 (.eff 6 .done .stop))) (sl [8] lf)))
theorem Y82.dist:aI (places Y82.ann Y82.body)=true:=by kernel_rfl
noncomputable def Y82.J (Q:AV→aA→Prop):JT:=bH prog C Tryd.f111 Y82.ann Y82.body Q
def Y82.t (Q:AV→aA→Prop) (x0:Int) (x1 x2 x3 x4 x5 x6:AV) (h:aA) (J:JT):Prop:=
aD x1 h fun v1=>
aD x2 h fun v2=>
asI .i64 v2 fun n3=>
bM 19 1 (aBH h 0) (AV.i .i64 n3) fun v4=>
aD v4 h fun v5=>
asI .i64 v5 fun n6=>
aN 1 v1 (AV.i .i64 n6) h fun v7=>
aT 1 v7 (AV.i .i64 x0) h fun h8=>
aD x3 h8 fun v10=>
aD x1 h8 fun v11=>
aD x2 h8 fun v12=>
asI .i64 v12 fun n13=>
aJ (IntKind.wrap .i64 (n13+1)) fun n14=>
aD x4 h8 fun v15=>
asI .i64 v15 fun n16=>
aD x5 h8 fun v17=>
asI .i64 v17 fun n18=>
aD x6 h8 fun v19=>
asI .i64 v19 fun n20=>
C Y66.id [v10,v11,(AV.i .i64 n14),(AV.i .i64 n16),(AV.i .i64 n18),(AV.i .i64 n20)] h8 fun v21 h22=>
asI .i64 v21 fun n23=>
Q (AV.i .i64 n23) h22
theorem Y82.call {K x0 x1 x2 x3 x4 x5 x6 h} (H:Y82.t (aH h K) x0 x1 x2 x3 x4 x5 x6 h (Y82.J (aH h K))):C Y82.id [(AV.i .i64 x0),x1,x2,x3,x4,x5,x6] h K:=
 gC Y82.J Tryd.func111 Y82.dist H
noncomputable def Y53.body:Code:=(Tryd.f113.body).getD .skip
def Y53.ann:Ann:=(sl [0,1,2] (sl [] (sl [6] lf)))
theorem Y53.dist:aI (places Y53.ann Y53.body)=true:=by kernel_rfl
noncomputable def Y53.J (Q:AV→aA→Prop):JT:=bH prog C Tryd.f113 Y53.ann Y53.body Q
def Y53.t (Q:AV→aA→Prop) (x0 x1 x2:AV) (h:aA) (J:JT):Prop:=
aS x0 fun v1=>
aB 14 v1 fun v2=>
aT 1 v2 x1 h fun h3=>
aS x0 fun v4=>
aB 15 v4 fun v5=>
aT 1 v5 x2 h3 fun h6=>
Q (AV.i .i64 0) h6
theorem Y53.call {K x0 x1 x2 h} (H:Y53.t (aH h K) x0 x1 x2 h (Y53.J (aH h K))):C Y53.id [x0,x1,x2] h K:=
 gC Y53.J Tryd.func113 Y53.dist H
noncomputable def Y75.body:Code:=(Tryd.f114.body).getD .skip
def Y75.ann:Ann:=(sl [0,1,2,3] (sq [0,1,2,3] (.one (sl [0,1,2,3,9] (.br (sq [1,2,3] (sl [1,2,3,6] (sl [1,2,3,6,17] (.br (sl [5] lf) lf))) (sl [5] lf)) (sl [0,1,2,3,23] (.br (sl [5] lf) (sl [0,1,2,3,28] (.br (sl [5] lf) lf))))))) (sl [1,2,3,7,8] (sl [5] lf))))
theorem Y75.dist:aI (places Y75.ann Y75.body)=true:=by kernel_rfl
noncomputable def Y75.J (Q:AV→aA→Prop):JT:=bH prog C Tryd.f114 Y75.ann Y75.body Q
def Y75.t (Q:AV→aA→Prop) (x0:Int) (x1 x2 x3:AV) (h:aA) (J:JT):Prop:=
(bif (decide ((x0:Int)<256)) then
(aD x1 h fun v2=>
C Y28.id [v2,(AV.i .u8 (IntKind.wrap .u8 x0))] h fun v3 h4=>
asI .i64 v3 fun n5=>
(bif (!decide ((n5:Int)=0)) then
(Q (AV.i .i64 n5) h4)
else
(aD x1 h4 fun v10=>
aD x2 h4 fun v11=>
aD x3 h4 fun v12=>
C Y51.id [v10,v11,v12] h4 fun v13 h14=>
asI .i64 v13 fun n15=>
Q (AV.i .i64 n15) h14)))
else
((bif (decide ((x0:Int)=256)) then
(aD x1 h fun v18=>
C Y50.id [v18] h fun v19 h20=>
asI .i64 v19 fun n21=>
Q (AV.i .i64 n21) h20)
else
((bif (decide ((285:Int)<x0)) then
(Q (AV.i .i64 2) h)
else
(C Y52.id [(AV.i .i64 x0)] h fun v26 h27=>
aO 0 v26 fun v28=>
asI .i64 v28 fun n29=>
aO 1 v26 fun v30=>
asI .i64 v30 fun n31=>
dF none [(AV.i .i64 0)] h27 fun v32 h33=>
aT 1 v32 (AV.i .i64 n29) h33 fun h34=>
aD x1 h34 fun v36=>
C Y43.id [v36,(AV.i .i64 n31),(AV.fn (.func Y78.id) [] [x1,x3,v32,x2])] h34 fun v37 h38=>
asI .i64 v37 fun n39=>
Q (AV.i .i64 n39) h38))))))
theorem Y75.call {K x0 x1 x2 x3 h} (H:Y75.t (aH h K) x0 x1 x2 x3 h (Y75.J (aH h K))):C Y75.id [(AV.i .i64 x0),x1,x2,x3] h K:=
 gC Y75.J Tryd.func114 Y75.dist H
noncomputable def Y78.body:Code:=(Tryd.f115.body).getD .skip
def Y78.ann:Ann:=(sl [1,2,3,4,5] (sl [6] lf))
theorem Y78.dist:aI (places Y78.ann Y78.body)=true:=by kernel_rfl
noncomputable def Y78.J (Q:AV→aA→Prop):JT:=bH prog C Tryd.f115 Y78.ann Y78.body Q
def Y78.t (Q:AV→aA→Prop) (x0:Int) (x1 x2 x3 x4:AV) (h:aA) (J:JT):Prop:=
dC none (AV.i .i64 x0) h fun v0 h1=>
aD x1 h1 fun v3=>
aD x2 h1 fun v4=>
C Y53.id [v3,v4,(AV.fn (.func Y89.id) [] [x1,x3,v0,x4,x2])] h1 fun v5 h6=>
asI .i64 v5 fun n7=>
Q (AV.i .i64 n7) h6
theorem Y78.call {K x0 x1 x2 x3 x4 h} (H:Y78.t (aH h K) x0 x1 x2 x3 x4 h (Y78.J (aH h K))):C Y78.id [(AV.i .i64 x0),x1,x2,x3,x4] h K:=
 gC Y78.J Tryd.func115 Y78.dist H
noncomputable def Y89.body:Code:=(Tryd.f116.body).getD .skip
def Y89.ann:Ann:=(sl [0,1,2,3,4,5] (sq [0,1,2,3,4,5] (sl [0,1,2,3,4,5,11] (.br (sl [7] lf) lf)) (sl [1,2,3,4,5,8,9] (sl [7] lf))))
theorem Y89.dist:aI (places Y89.ann Y89.body)=true:=by kernel_rfl
noncomputable def Y89.J (Q:AV→aA→Prop):JT:=bH prog C Tryd.f116 Y89.ann Y89.body Q
def Y89.t (Q:AV→aA→Prop) (x0:Int) (x1 x2 x3 x4 x5:AV) (h:aA) (J:JT):Prop:=
(bif (decide ((29:Int)<x0)) then
(Q (AV.i .i64 2) h)
else
(C Y49.id [(AV.i .i64 x0)] h fun v4 h5=>
aO 0 v4 fun v6=>
asI .i64 v6 fun n7=>
aO 1 v4 fun v8=>
asI .i64 v8 fun n9=>
dF none [(AV.i .i64 0)] h5 fun v10 h11=>
aT 1 v10 (AV.i .i64 n7) h11 fun h12=>
aD x1 h12 fun v14=>
C Y43.id [v14,(AV.i .i64 n9),(AV.fn (.func Y84.id) [] [x1,x2,x3,v10,x4,x5])] h12 fun v15 h16=>
asI .i64 v15 fun n17=>
Q (AV.i .i64 n17) h16))
theorem Y89.call {K x0 x1 x2 x3 x4 x5 h} (H:Y89.t (aH h K) x0 x1 x2 x3 x4 x5 h (Y89.J (aH h K))):C Y89.id [(AV.i .i64 x0),x1,x2,x3,x4,x5] h K:=
 gC Y89.J Tryd.func116 Y89.dist H
noncomputable def Y84.body:Code:=(Tryd.f117.body).getD .skip
def Y84.ann:Ann:=(sl [0,1,2,3,4,5,6] (sq [1,5,6] (sl [1,5,6,9] (sl [1,5,6,9,19] (.br (sl [8] lf) lf))) (sl [8] lf)))
theorem Y84.dist:aI (places Y84.ann Y84.body)=true:=by kernel_rfl
noncomputable def Y84.J (Q:AV→aA→Prop):JT:=bH prog C Tryd.f117 Y84.ann Y84.body Q
def Y84.t (Q:AV→aA→Prop) (x0:Int) (x1 x2 x3 x4 x5 x6:AV) (h:aA) (J:JT):Prop:=
aD x1 h fun v1=>
aD x2 h fun v2=>
asI .i64 v2 fun n3=>
aD x3 h fun v4=>
asI .i64 v4 fun n5=>
aJ (IntKind.wrap .i64 (n3+n5)) fun n6=>
aD x4 h fun v7=>
asI .i64 v7 fun n8=>
aJ (IntKind.wrap .i64 (n8+x0)) fun n9=>
C Y35.id [v1,(AV.i .i64 n6),(AV.i .i64 n9)] h fun v10 h11=>
asI .i64 v10 fun n12=>
(bif (!decide ((n12:Int)=0)) then
(Q (AV.i .i64 n12) h11)
else
(aD x1 h11 fun v17=>
aD x5 h11 fun v18=>
aD x6 h11 fun v19=>
C Y51.id [v17,v18,v19] h11 fun v20 h21=>
asI .i64 v20 fun n22=>
Q (AV.i .i64 n22) h21))
theorem Y84.call {K x0 x1 x2 x3 x4 x5 x6 h} (H:Y84.t (aH h K) x0 x1 x2 x3 x4 x5 x6 h (Y84.J (aH h K))):C Y84.id [(AV.i .i64 x0),x1,x2,x3,x4,x5,x6] h K:=
 gC Y84.J Tryd.func117 Y84.dist H
noncomputable def Y35.body:Code:=(Tryd.f118.body).getD .skip
def Y35.ann:Ann:=(sl [0,1,2] (sq [0,1,2] (sl [0,1,2,13] (.br (sl [6] lf) lf)) (sq [] (sl [0,2,14,15] (.one (.loop 1 [0,2,14,15] (sl [0,2,14,15,16] (sq [0,2,14,15] bl (sq [0,2,14,15] (.one (sq [0,2,7,14,15] (.ord (nn 0 14 (.eff 14 (.neu 15 .done) .stop))) (sl [0,2,7,14,15,33] (.br (sl [6] lf) lf)))) lf)))))) (sl [6] lf))))
theorem Y35.dist:aI (places Y35.ann Y35.body)=true:=by kernel_rfl
noncomputable def Y35.J (Q:AV→aA→Prop):JT:=bH prog C Tryd.f118 Y35.ann Y35.body Q
def Y35.p0 (Q:AV→aA→Prop) (x0:AV) (x2 x14 x15:Int) (h:aA):Prop:=Y35.J Q 1 [(0,x0),(2,(AV.i .i64 x2)),(14,(AV.i .i64 x14)),(15,(AV.i .i64 x15))] h
def Y35.t0 (Q:AV→aA→Prop) (x0:AV) (x2 x14 x15:Int) (h:aA) (J:JT):Prop:=
(bif (decide ((x15:Int)<x14)) then
(aS x0 fun v12=>
aB 2 v12 fun v13=>
aD v13 h fun v14=>
aS x0 fun v15=>
aB 2 v15 fun v16=>
aD v16 h fun v17=>
bK v17 fun n18=>
aJ (IntKind.wrap .i64 (n18 - x2)) fun n19=>
aN 1 v14 (AV.i .i64 n19) h fun v20=>
aD v20 h fun v21=>
asI .u8 v21 fun n22=>
C Y28.id [x0,(AV.i .u8 n22)] h fun v23 h24=>
asI .i64 v23 fun n25=>
(bif (!decide ((n25:Int)=0)) then
(Q (AV.i .i64 n25) h24)
else
(aJ (IntKind.wrap .i64 (x15+1)) fun n30=>
J 1 [(0,x0),(2,(AV.i .i64 x2)),(14,(AV.i .i64 x14)),(15,(AV.i .i64 n30))] h24)))
else
(Q (AV.i .i64 0) h))
theorem Y35.i0 {Q x0 x2 x14 x15 h} (H:Y35.t0 Q x0 x2 x14 x15 h (Y35.J Q)):Y35.p0 Q x0 x2 x14 x15 h:=gH Y35.J Tryd.f118 Y35.dist [1,1,0,1,0] H
def Y35.t (Q:AV→aA→Prop) (x0:AV) (x1 x2:Int) (h:aA) (J:JT):Prop:=
aS x0 fun v1=>
aB 3 v1 fun v2=>
aD v2 h fun v3=>
asI .i64 v3 fun n4=>
(bif (decide ((n4:Int)<x2)) then
(Q (AV.i .i64 2) h)
else
(J 1 [(0,x0),(2,(AV.i .i64 x2)),(14,(AV.i .i64 x1)),(15,(AV.i .i64 0))] h))
theorem Y35.call {K x0 x1 x2 h} (H:Y35.t (aH h K) x0 x1 x2 h (Y35.J (aH h K))):C Y35.id [x0,(AV.i .i64 x1),(AV.i .i64 x2)] h K:=
 gC Y35.J Tryd.func118 Y35.dist H
noncomputable def Y58.body:Code:=(Tryd.f119.body).getD .skip
def Y58.ann:Ann:=(sl [0,3,4,5,6,7,9,10] (sl [11] lf))
theorem Y58.dist:aI (places Y58.ann Y58.body)=true:=by kernel_rfl
noncomputable def Y58.J (Q:AV→aA→Prop):JT:=bH prog C Tryd.f119 Y58.ann Y58.body Q
def Y58.t (Q:AV→aA→Prop) (x0 x1 x2:Int) (x3 x4 x5 x6 x7:AV) (h:aA) (J:JT):Prop:=
dC none (AV.i .i64 x1) h fun v0 h1=>
dC none (AV.i .i64 x2) h1 fun v2 h3=>
aD x3 h3 fun v5=>
C Y43.id [v5,(AV.i .i64 x0),(AV.fn (.func Y87.id) [] [x4,v0,x5,x6,x3,x7,v2])] h3 fun v6 h7=>
asI .i64 v6 fun n8=>
Q (AV.i .i64 n8) h7
theorem Y58.call {K x0 x1 x2 x3 x4 x5 x6 x7 h} (H:Y58.t (aH h K) x0 x1 x2 x3 x4 x5 x6 x7 h (Y58.J (aH h K))):C Y58.id [(AV.i .i64 x0),(AV.i .i64 x1),(AV.i .i64 x2),x3,x4,x5,x6,x7] h K:=
 gC Y58.J Tryd.func119 Y58.dist H
noncomputable def Y87.body:Code:=(Tryd.f120.body).getD .skip
def Y87.ann:Ann:=(sl [0,1,2,3,4,5,6,7] (sq [0,1,2,3,4,5,6,7] (sl [0,1,2,3,4,5,6,7,19] (.br (sl [9] lf) lf)) (sq [9] (.ord (nn 0 4 (nn 5 3 (nn 10 2 (.eff 4 (.eff 8 (.eff 9 (.eff 12 (.neu 13 .done) .stop) .stop) .stop) .stop))))) lf)))
theorem Y87.dist:aI (places Y87.ann Y87.body)=true:=by kernel_rfl
noncomputable def Y87.J (Q:AV→aA→Prop):JT:=bH prog C Tryd.f120 Y87.ann Y87.body Q
def Y87.t (Q:AV→aA→Prop) (x0:Int) (x1 x2 x3 x4 x5 x6 x7:AV) (h:aA) (J:JT):Prop:=
aD x1 h fun v1=>
bK v1 fun n2=>
aD x2 h fun v3=>
asI .i64 v3 fun n4=>
aJ (IntKind.wrap .i64 (n2+n4)) fun n5=>
aJ (IntKind.wrap .i64 (n5+x0)) fun n6=>
aD x3 h fun v7=>
asI .i64 v7 fun n8=>
aD x4 h fun v9=>
asI .i64 v9 fun n10=>
aJ (IntKind.wrap .i64 (n8+n10)) fun n11=>
(bif (decide ((n11:Int)<n6)) then
(Q (AV.i .i64 2) h)
else
(aD x5 h fun v15=>
aD x6 h fun v16=>
aD x1 h fun v17=>
aD x7 h fun v18=>
asI .i64 v18 fun n19=>
aD x2 h fun v20=>
asI .i64 v20 fun n21=>
aJ (IntKind.wrap .i64 (n21+x0)) fun n22=>
aD x3 h fun v23=>
asI .i64 v23 fun n24=>
aD x4 h fun v25=>
asI .i64 v25 fun n26=>
bN 1 1 [(AV.i .i64 0)] [(0,1,(AV.i .i64 n19))] h fun v27 h28=>
aD x4 h28 fun v29=>
asI .i64 v29 fun n30=>
((AV.i .i64 n26)=(AV.i .i64 n30) ∧
(aD x3 h28 fun v31=>
asI .i64 v31 fun n32=>
((AV.i .i64 n24)=(AV.i .i64 n32) ∧
(aD x2 h28 fun v33=>
asI .i64 v33 fun n34=>
((AV.i .i64 n21)=(AV.i .i64 n34) ∧
(aD x1 h28 fun v35=>
(v17=v35 ∧
(aD x6 h28 fun v36=>
(v16=v36 ∧
(aD x5 h28 fun v37=>
(v15=v37 ∧
(C Y27.id [v27,(AV.i .i64 n22)] h28 fun v38 h39=>
aD x4 h39 fun v40=>
asI .i64 v40 fun n41=>
((AV.i .i64 n26)=(AV.i .i64 n41) ∧
(aD x3 h39 fun v42=>
asI .i64 v42 fun n43=>
((AV.i .i64 n24)=(AV.i .i64 n43) ∧
(aD x1 h39 fun v44=>
(v17=v44 ∧
(aD x6 h39 fun v45=>
(v16=v45 ∧
(aD x5 h39 fun v46=>
(v15=v46 ∧
(bW none 1 8 v17 v38 h39 fun v47 h48=>
aD x4 h48 fun v49=>
asI .i64 v49 fun n50=>
((AV.i .i64 n26)=(AV.i .i64 n50) ∧
(aD x3 h48 fun v51=>
asI .i64 v51 fun n52=>
((AV.i .i64 n24)=(AV.i .i64 n52) ∧
(aD x6 h48 fun v53=>
(v16=v53 ∧
(aD x5 h48 fun v54=>
(v15=v54 ∧
(C Y54.id [v15,v16,v47,(AV.i .i64 n24),(AV.i .i64 n26)] h48 fun v55 h56=>
asI .i64 v55 fun n57=>
Q (AV.i .i64 n57) h56))))))))))))))))))))))))))))))))
theorem Y87.call {K x0 x1 x2 x3 x4 x5 x6 x7 h} (H:Y87.t (aH h K) x0 x1 x2 x3 x4 x5 x6 x7 h (Y87.J (aH h K))):C Y87.id [(AV.i .i64 x0),x1,x2,x3,x4,x5,x6,x7] h K:=
 gC Y87.J Tryd.func120 Y87.dist H
noncomputable def Y38.body:Code:=(Tryd.f121.body).getD .skip
def Y38.ann:Ann:=(sl [0,1,2,3,4,5,6] (sq [6] (.one (sl [0,1,2,3,4,5,6,9] (.br (sq [8] (.ord (nn 0 4 (nn 6 2 (.eff 4 (.eff 5 (.eff 8 (.neu 9 .done) .stop) .stop) .stop)))) lf) (.seq 1 [0,3,6,21] lf (.br (sl [8] lf) (sl [0,3,6,29] (.br (sq [8] (.ord (nn 0 7 (.eff 7 (.neu 8 .done) .stop))) lf) (sl [6,40] (.br (sl [8] lf) lf))))))))) (sl [8] lf)))
theorem Y38.dist:aI (places Y38.ann Y38.body)=true:=by kernel_rfl
noncomputable def Y38.J (Q:AV→aA→Prop):JT:=bH prog C Tryd.f121 Y38.ann Y38.body Q
def Y38.p0 (Q:AV→aA→Prop) (x0:Int) (x3 x6:AV) (x21:Bool) (h:aA):Prop:=Y38.J Q 1 [(0,(AV.i .i64 x0)),(3,x3),(6,x6),(21,(AV.b x21))] h
def Y38.t0 (Q:AV→aA→Prop) (x0:Int) (x3 x6:AV) (x21:Bool) (h:aA) (J:JT):Prop:=
(bif x21 then
(Q (AV.i .i64 2) h)
else
((bif (decide ((x0:Int)=16)) then
(aD x6 h fun v36=>
aD x3 h fun v37=>
aD x3 h fun v38=>
bK v38 fun n39=>
aJ (IntKind.wrap .i64 (n39 - 1)) fun n40=>
aN 1 v37 (AV.i .i64 n40) h fun v41=>
aD v41 h fun v42=>
asI .i64 v42 fun n43=>
bZ C v36 [(AV.i .i64 2),(AV.i .i64 3),(AV.i .i64 n43)] h fun v44 h45=>
asI .i64 v44 fun n46=>
Q (AV.i .i64 n46) h45)
else
((bif (decide ((x0:Int)=17)) then
(aD x6 h fun v49=>
bZ C v49 [(AV.i .i64 3),(AV.i .i64 3),(AV.i .i64 0)] h fun v50 h51=>
asI .i64 v50 fun n52=>
Q (AV.i .i64 n52) h51)
else
(aD x6 h fun v55=>
bZ C v55 [(AV.i .i64 7),(AV.i .i64 11),(AV.i .i64 0)] h fun v56 h57=>
asI .i64 v56 fun n58=>
Q (AV.i .i64 n58) h57))))))
theorem Y38.i0 {Q x0 x3 x6 x21 h} (H:Y38.t0 Q x0 x3 x6 x21 h (Y38.J Q)):Y38.p0 Q x0 x3 x6 x21 h:=gR Y38.J Tryd.f121 Y38.dist [1,0,0,1,1,1] H
def Y38.t (Q:AV→aA→Prop) (x0:Int) (x1 x2 x3 x4 x5 x6:AV) (h:aA) (J:JT):Prop:=
(bif (decide ((x0:Int)<16)) then
(aD x1 h fun v2=>
aD x2 h fun v3=>
aD x3 h fun v4=>
aD x4 h fun v5=>
asI .i64 v5 fun n6=>
aD x5 h fun v7=>
asI .i64 v7 fun n8=>
bN 1 1 [(AV.i .i64 0)] [(0,1,(AV.i .i64 x0))] h fun v9 h10=>
aD x5 h10 fun v11=>
asI .i64 v11 fun n12=>
((AV.i .i64 n8)=(AV.i .i64 n12) ∧
(aD x4 h10 fun v13=>
asI .i64 v13 fun n14=>
((AV.i .i64 n6)=(AV.i .i64 n14) ∧
(aD x3 h10 fun v15=>
(v4=v15 ∧
(aD x2 h10 fun v16=>
(v3=v16 ∧
(aD x1 h10 fun v17=>
(v2=v17 ∧
(bW none 1 8 v4 v9 h10 fun v18 h19=>
aD x5 h19 fun v20=>
asI .i64 v20 fun n21=>
((AV.i .i64 n8)=(AV.i .i64 n21) ∧
(aD x4 h19 fun v22=>
asI .i64 v22 fun n23=>
((AV.i .i64 n6)=(AV.i .i64 n23) ∧
(aD x2 h19 fun v24=>
(v3=v24 ∧
(aD x1 h19 fun v25=>
(v2=v25 ∧
(C Y54.id [v2,v3,v18,(AV.i .i64 n6),(AV.i .i64 n8)] h19 fun v26 h27=>
asI .i64 v26 fun n28=>
Q (AV.i .i64 n28) h27)))))))))))))))))))
else
((bif (decide ((x0:Int)=16)) then
(aD x3 h fun v30=>
bK v30 fun n31=>
J 1 [(0,(AV.i .i64 x0)),(3,x3),(6,x6),(21,(AV.b (decide ((n31:Int)=0))))] h)
else
(J 1 [(0,(AV.i .i64 x0)),(3,x3),(6,x6),(21,(AV.b false))] h))))
theorem Y38.call {K x0 x1 x2 x3 x4 x5 x6 h} (H:Y38.t (aH h K) x0 x1 x2 x3 x4 x5 x6 h (Y38.J (aH h K))):C Y38.id [(AV.i .i64 x0),x1,x2,x3,x4,x5,x6] h K:=
 gC Y38.J Tryd.func121 Y38.dist H
end Go.Proofs.YtpaphfeihpgamaaDoor
set_option linter.unusedSimpArgs false
namespace Go.GAM
variable {ty:Option TypeId}
def Ext (h0 h:aA):Prop:=h0.length≤h.length∧∀ id,id<h0.length→h[id]? = h0[id]?
theorem Ext.take {h0 h:aA} (a:Ext h0 h):h.take h0.length=h0:=by
 apply List.ext_getElem?
 intro i
 rw [List.getElem?_take]
 by_cases hi:i<h0.length
 ·rw [if_pos hi,a.2 i hi]
 ·rw [if_neg hi,List.getElem?_eq_none (Nat.le_of_not_lt hi)]
def qU:AV→Bool
 | .b _ | .i _ _ | .s _ | .p none | .sl none _ _ | .nf | .ni=>true
 | _=>false
def aDZ:AV→Bool
 | .ag cs | .tu cs=>cs.all qU
 | v=>qU v
theorem pT {n:Nat} {v:AV} (h:qU v=true):qI n [] v=v∧ok1 n [] v=true:=by
 unfold qU at h
 split at h <;> first | exact ⟨rfl,rfl⟩ | cases h
theorem aCE {n:Nat} {v:AV} (h:aDZ v=true):ren n [] v=v∧okR n [] v=true:=by
 have hl:∀ cs:List AV,cs.all qU=true→cs.map (qI n [])=cs∧cs.all (ok1 n [])=true:=by
  intro cs
  induction cs with
  | nil=>exact fun _=>⟨rfl,rfl⟩
  | cons c cs ih =>
   intro hc
   simp only [List.all_cons,Bool.and_eq_true] at hc
   obtain ⟨h1,h2⟩:=ih hc.2
   obtain ⟨h3,h4⟩:=pT (n:=n) hc.1
   simp [h1,h2,h3,h4]
 unfold aDZ at h
 split at h
 ·rename_i cs; obtain ⟨h1,h2⟩:=hl cs h; exact ⟨by simp [ren,h1],by simpa [okR] using h2⟩
 ·rename_i cs; obtain ⟨h1,h2⟩:=hl cs h; exact ⟨by simp [ren,h1],by simpa [okR] using h2⟩
 ·rename_i h1 h2
  obtain ⟨h3,h4⟩:=pT (n:=n) h
  constructor
  ·unfold ren; split
   ·exact absurd rfl (h1 _)
   ·exact absurd rfl (h2 _)
   ·exact h3
  ·unfold okR; split
   ·exact absurd rfl (h1 _)
   ·exact absurd rfl (h2 _)
   ·exact h4
theorem iO {h0 h:aA} {K:AV→aA→Prop} {r:AV} (hp:aDZ r=true) (hE:Ext h0 h) (hk:K r h0):aH h0 K r h:=by
 obtain ⟨h1,h2⟩:=aCE (n:=h0.length) hp
 refine .inr ⟨[],List.nodup_nil,h2,by simp,fun id hi=>.inl (hE.2 id hi),hE.1, ?_⟩
 rw [h1,hE.take]
 simpa using hk
theorem sC (l:List UInt8):(l.map byteAV).all lI=true:=by
 rw [List.all_eq_true]; intro x hx; simp only [List.mem_map] at hx; obtain ⟨c,_,rfl⟩:=hx; rfl
theorem r9 (c:UInt8):toByte (byteAV c)=c:=by simp [toByte,byteAV]
theorem wK (l:List UInt8):(l.map byteAV).map toByte=l:=by
 rw [List.map_map]
 have:toByte ∘ byteAV=id:=by funext c; exact r9 c
 rw [this,List.map_id]
theorem bA {n:Int} (h0 : -9223372036854775808≤n) (h1:n<9223372036854775808):IntKind.wrap .i64 n=n:=by
 have e1:(2:Int) ^ 64=18446744073709551616:=by decide
 have e2:(2:Int) ^ (64 - 1)=9223372036854775808:=by decide
 simp only [IntKind.wrap,IntKind.bits,IntKind.signed,Bool.true_and,decide_eq_true_eq,e1,e2]
 split <;> omega
theorem zG {n:Int} (h0:0≤n) (h1:n<256):IntKind.wrap .u8 n=n:=by
 simp only [IntKind.wrap,IntKind.bits,IntKind.signed,Bool.false_and,Bool.false_eq_true,if_false]
 omega
theorem getD_some {α:Type} {l:List α} {i:Nat} {c d:α} (hc:l[i]? = some c):l.getD i d=c:=by
 rw [List.getD_eq_getElem?_getD,hc] <;> rfl
theorem rL {l:List UInt8} {k:IntKind} {i:Nat} {c:UInt8} {K:Int→Prop} (hc:l[i]? = some c) (hk:K (c.toNat:Int)):e6 (.s l) (.i k (i:Int)) K:=by
 obtain ⟨hlt,_⟩:=List.getElem?_eq_some_iff.1 hc
 refine ⟨by omega,by simpa using hlt, ?_⟩
 rw [Int.toNat_natCast,getD_some hc]
 exact hk
theorem aCR {α:Type} {l:List α} {i:Nat} {c:α} (hc:l[i]? = some c):l.take (i+1)=l.take i++[c]:=by
 rw [List.take_add_one,hc] <;> rfl
theorem aW {c:Bool} {A B:Prop} (hc:c=true) (h:A):(bif c then A else B):=by rw [hc]; exact h
theorem aL {c:Bool} {A B:Prop} (hc:c=false) (h:B):(bif c then A else B):=by rw [hc]; exact h
theorem aG {c:Bool} {A B:Prop} (h1:c=true→A) (h2:c=false→B):(bif c then A else B):=by
 cases c
 ·exact h2 rfl
 ·exact h1 rfl
theorem aX {e n:Int} {K:Int→Prop} (h:e=n) (hk:K n):aJ e K:=by subst h; exact hk
end Go.GAM
namespace Go.GAM
section
variable {P:Program}
theorem ext_run {f:FuncId} {fn:Func} {ex:Array Value→Sem Value} (hf:P.funcs[f]? = some fn) (hn:(fn.name == "runtime.NumGoroutine")=false) (hb:fn.body.isNone=true)
  (h1:Extern.findNext fn=none) (h2:Extern.find fn=some ex) {args:Array Value} {v:Value} {w:World} (he:(ex args).run P w = .ok v w):(callFunc f args).run P w = .ok (.value v) w:=by
 have hn':fn.name ≠ "runtime.NumGoroutine":=by simpa using hn
 have hb':fn.body=none:=by simpa using hb
 have hm:∀ (m:Mark) (k:Sem Unit) (w:World),Sem.run P (Sem.mark m k) w=Sem.run P k w:=fun _ _ _=>rfl
 unfold callFunc
 simp [go_sem,hf,hn',hb',h1,h2,mark,hm,he]
end
end Go.GAM
namespace Go.GAM
variable {ty:Option TypeId}
def Upd (M:Nat→Prop) (h h':aA):Prop:=h.length≤h'.length∧∀ i,i<h.length→¬ M i→h'[i]? = h[i]?
theorem Upd.refl (M:Nat→Prop) (h:aA):Upd M h h:=⟨Nat.le_refl _,fun _ _ _=>rfl⟩
theorem Upd.trans {M M':Nat→Prop} {h h1 h2:aA} (a:Upd M h h1) (b:Upd M' h1 h2) (hM:∀ i,i<h.length→M' i→M i):Upd M h h2:=
 ⟨Nat.le_trans a.1 b.1,fun i hi hn=>(b.2 i (Nat.lt_of_lt_of_le hi a.1) fun hm=>hn (hM i hi hm)).trans (a.2 i hi hn)⟩
theorem Upd.mono {M M':Nat→Prop} {h h1:aA} (a:Upd M h h1) (hM:∀ i,i<h.length→M i→M' i):Upd M' h h1:=
 ⟨a.1,fun i hi hn=>a.2 i hi fun hm=>hn (hM i hi hm)⟩
theorem Upd.app (h s:aA):Upd (fun _=>False) h (h++s):=⟨by simp,fun i hi _=>by rw [List.getElem?_append_left hi]⟩
theorem Upd.set (h:aA) (id:Nat) (b:ABlk):Upd (· = id) h (h.set id b):=⟨by simp,fun i hi hn=>by rw [List.getElem?_set_ne (fun e=>hn e.symm)]⟩
theorem aM {α:Type} {l:List α} {i:Nat} {a:α} (h:l[i]? = some a):i<l.length:=(List.getElem?_eq_some_iff.1 h).1
def bC (h:aA) (id:Nat) (cs:List AV):Prop:=∃ b:ABlk,h[id]? = some b∧b.cells=cs∧b.floor≤cs.length∧b.ro=false
theorem bC.lt {h:aA} {id:Nat} {cs:List AV} (R:bC h id cs):id<h.length:=by obtain ⟨b,h1,_⟩:=R; exact aM h1
theorem bC.upd {M:Nat→Prop} {h h':aA} {id:Nat} {cs:List AV} (R:bC h id cs) (U:Upd M h h') (hM:¬ M id):bC h' id cs:=by
 have hl:=R.lt
 obtain ⟨b,h1,h2⟩:=R
 exact ⟨b,(U.2 id hl hM).trans h1,h2⟩
theorem gW {a:AA} {K:AV→Prop} (hk:K (.p (some a))):aS (.p (some a)) K:=hk
theorem dE {id ver off o:Nat} {K:AV→Prop} (hk:K (.p (some ⟨id,ver,off+o⟩))):aB o (.p (some ⟨id,ver,off⟩)) K:=hk
theorem kF {k:IntKind} {a b n:Int} {K:Int→Prop} (hb:b≠0) (hn:k.wrap (a.tdiv b)=n) (hk:K n):sN k a b K:=by subst hn; exact ⟨hb,hk⟩
theorem lR {a b n:Int} {K:Int→Prop} (hb:b≠0) (hn:a.tmod b=n) (hk:K n):vP a b K:=by subst hn; exact ⟨hb,hk⟩
theorem aE {h:aA} {id n o:Nat} {cs:List AV} {v:AV} {K:AV→Prop} (R:bC h id cs) (hn:n=cs.length) (hc:cs[o]? = some v) (hk:K v):aD (.p (some ⟨id,n,o⟩)) h K:=by
 obtain ⟨b,h1,rfl,h3,h4⟩:=R
 subst hn
 have:=aM hc
 refine ⟨b,h1,⟨h3,Nat.le_refl _,this⟩, ?_⟩
 show K (b.cells.getD o .u)
 rw [getD_some hc]; exact hk
theorem aP {h:aA} {id n o:Nat} {cs:List AV} {v:AV} {K:aA→Prop} (R:bC h id cs) (hn:n=cs.length) (ho:o<cs.length) (hv:v.parts=[v]:=by rfl) (hs:v.sizeOK=true:=by rfl) (hc:v.cellOK=true:=by rfl)
  (hk:∀ h',h'.length=h.length→Upd (· = id) h h'→bC h' id (cs.set o v)→K h'):aT 1 (.p (some ⟨id,n,o⟩)) v h K:=by
 have hl:=R.lt
 obtain ⟨b,h1,rfl,h3,h4⟩:=R
 subst hn
 refine ⟨b,h1,h4,h3,rfl,(by show o+1≤b.cells.length; omega),hs,by rw [hv] <;> rfl,by rw [hv]; simp [hc], ?_⟩
 refine hk _ (by simp) (Upd.set _ _ _) ⟨_,List.getElem?_set_self hl, ?_, ?_,h4⟩
 ·rw [hv] <;> rfl
 ·simp
theorem cF {cells:List AV} {h:aA} {K:AV→aA→Prop} (hk:∀ h',h'.length=h.length+1→Upd (fun _=>False) h h'→bC h' h.length cells→K (.p (some ⟨h.length,cells.length,0⟩)) h'):dF ty cells h K:=
 hk _ (by simp) (Upd.app _ _) ⟨bE cells 1 true ty,by simp,rfl,Nat.le_refl _,rfl⟩
theorem bQ {x:AV} {h:aA} {K:AV→aA→Prop} (hs:x.sizeOK=true:=by rfl) (hk:∀ h',h'.length=h.length+1→Upd (fun _=>False) h h'→bC h' h.length x.parts→K (.p (some ⟨h.length,x.parts.length,0⟩)) h'):dC ty x h K:=
 ⟨hs,hk _ (by simp) (Upd.app _ _) ⟨bE x.parts 1 true ty,by simp,rfl,Nat.le_refl _,rfl⟩⟩
theorem aC {n:Int} {K:Int→Prop} (hk:K n):asI .i64 (.i .i64 n) K:=hk
theorem lL {k:IntKind} {n:Int} {K:Int→Prop} (hk:K n):asI k (.i k n) K:=by cases k <;> exact hk
theorem aV {n:Bool} {K:Bool→Prop} (hk:K n):asB (.b n) K:=hk
theorem bR {n:List UInt8} {K:List UInt8→Prop} (hk:K n):asS (.s n) K:=hk
theorem pY {a:Option AA} {n:Nat} {c:Option Nat} {K:Int→Prop} (hk:K n):bK (.sl a n c) K:=hk
theorem aD5:∀ (ws pre cs:List AV),ws.length=cs.length→wr (pre++cs) pre.length ws=pre++ws
 | [], pre, cs, h => by
  have:cs=[]:=List.eq_nil_of_length_eq_zero (by simpa using h.symm)
  subst this; simp [wr]
 | w :: ws,pre,[],h=>by simp at h
 | w :: ws, pre, c :: cs, h => by
  simp only [wr]
  have e:(pre++c :: cs).set pre.length w=(pre++[w])++cs:=by simp
  rw [e]
  have:=aD5 ws (pre++[w]) cs (by simpa using h)
  simpa using this
theorem fC {h:aA} {id n:Nat} {cs:List AV} {K:AV→Prop} (R:bC h id cs) (hn:n=cs.length) (hk:K (.ag cs)):dA n (.p (some ⟨id,n,0⟩)) h K:=by
 obtain ⟨b,h1,rfl,h3,h4⟩:=R
 subst hn
 refine ⟨b,h1,⟨h3,Nat.le_refl _,by simp⟩, ?_⟩
 simpa using hk
theorem iL {h:aA} {id n:Nat} {cs ws:List AV} {K:aA→Prop} (R:bC h id cs) (hn:n=cs.length) (hw:ws.length=n) (hc:ws.all AV.cellOK=true)
  (hk:∀ h',h'.length=h.length→Upd (· = id) h h'→bC h' id ws→K h'):aT n (.p (some ⟨id,n,0⟩)) (.ag ws) h K:=by
 have hl:=R.lt
 obtain ⟨b,h1,rfl,h3,h4⟩:=R
 subst hn
 refine ⟨b,h1,h4,h3,rfl,(by show 0+b.cells.length≤b.cells.length; omega),rfl,hw,hc, ?_⟩
 refine hk _ (by simp) (Upd.set _ _ _) ⟨_,List.getElem?_set_self hl, ?_, ?_,h4⟩
 ·exact aD5 ws [] b.cells hw
 ·rw [hw]; exact Nat.le_refl _
def aQ (v:AV) (id:Nat):Prop:=match v with
 | .sl (some a) _ _=>a.id=id
 | _=>False
def Rd (sz:Nat) (h:aA) (v:AV) (cs:List AV) (len:Nat):Prop:=
 (v = .sl none 0 none∧len=0∧cs=[])∨∃ id ver off cap b,v = .sl (some ⟨id,ver,off⟩) len cap∧h[id]? = some b∧(b.sz=sz∨b.sz=1)∧b.floor≤ver∧ver≤b.cells.length∧off+len * sz≤ver∧(b.cells.drop off).take (len * sz)=cs
theorem Rd.upd {sz:Nat} {M:Nat→Prop} {h h':aA} {v:AV} {cs:List AV} {len:Nat} (R:Rd sz h v cs len) (U:Upd M h h') (hM:∀ id,aQ v id→¬ M id):Rd sz h' v cs len:=by
 rcases R with h1 | ⟨id,ver,off,cap,b,rfl,h2,h3⟩
 ·exact .inl h1
 ·exact .inr ⟨id,ver,off,cap,b,rfl,(U.2 id (aM h2) (hM id rfl)).trans h2,h3⟩
theorem Rd.lt {sz:Nat} {h:aA} {v:AV} {cs:List AV} {len:Nat} (R:Rd sz h v cs len) {id:Nat} (hs:aQ v id):id<h.length:=by
 rcases R with ⟨rfl,_⟩ | ⟨id',ver,off,cap,b,rfl,h2,h3⟩
 ·exact hs.elim
 ·cases hs; exact aM h2
theorem Rd.length {sz:Nat} {h:aA} {v:AV} {cs:List AV} {len:Nat} (R:Rd sz h v cs len):cs.length=len * sz:=by
 rcases R with ⟨_,rfl,rfl⟩ | ⟨id,ver,off,cap,b,rfl,h2,h3,h4,h5,h6,rfl⟩
 ·simp
 ·simp; omega
theorem Rd.sl {sz:Nat} {h:aA} {v:AV} {cs:List AV} {len:Nat} (R:Rd sz h v cs len) {K:List AV→Prop} (hk:K cs):eG sz v h K:=by
 rcases R with ⟨rfl,rfl,rfl⟩ | ⟨id,ver,off,cap,b,rfl,h2,h3,h4,h5,h6,rfl⟩
 ·exact hk
 ·exact .inr ⟨b,h2,⟨h4,h5,h6⟩,hk⟩
theorem Rd.len {sz:Nat} {h:aA} {v:AV} {cs:List AV} {len:Nat} (R:Rd sz h v cs len) {K:Int→Prop} (hk:K len):bK v K:=by
 rcases R with ⟨rfl,rfl,rfl⟩ | ⟨id,ver,off,cap,b,rfl,h2⟩ <;> exact hk
theorem Rd.news {sz:Nat} {h:aA} {v:AV} {cs:List AV} {len:Nat} (R:Rd sz h v cs len) {K:List AV→Nat→Prop} (hk:K cs len):eK sz v h K:=by
 rcases R with ⟨rfl,rfl,rfl⟩ | ⟨id,ver,off,cap,b,rfl,h2,h3,h4,h5,h6,rfl⟩
 ·exact hk
 ·exact .inr ⟨b,h2,⟨h4,h5,h6⟩,hk⟩
theorem Rd.idx {sz:Nat} {h:aA} {v:AV} {cs:List AV} {len:Nat} (R:Rd sz h v cs len) {k:IntKind} {i:Int} (h0:0≤i) (h1:i<len) {K:AV→Prop}
  (hk:∀ id ver off,(∃ b:ABlk,h[id]? = some b∧b.floor≤ver∧ver≤b.cells.length∧off+sz≤ver∧(b.cells.drop off).take sz=(cs.drop (i.toNat * sz)).take sz)→K (.p (some ⟨id,ver,off⟩))):aN sz v (.i k i) h K:=by
 rcases R with ⟨rfl,rfl,rfl⟩ | ⟨id,ver,off,cap,b,rfl,h2,h3,h4,h5,h6,rfl⟩
 ·omega
 ·refine ⟨h0, h1, ⟨b, h2, h4, by omega⟩, hk _ _ _ ⟨b, h2, h4, h5, ?_, ?_⟩⟩
  ·have : (i.toNat + 1) * sz ≤ len * sz := Nat.mul_le_mul_right _ (by omega)
   rw [Nat.add_mul] at this; simp only; omega
  ·have : (i.toNat + 1) * sz ≤ len * sz := Nat.mul_le_mul_right _ (by omega)
   rw [Nat.add_mul] at this
   rw [List.drop_take,List.drop_drop,List.take_take,Nat.min_eq_left (by omega)]
structure aHU (sz:Nat) (h:aA) (id ver off:Nat) (b:ABlk) (cs:List AV) (len:Nat):Prop where
 blk:h[id]? = some b
 siz:b.sz=sz∨b.sz=1
 flo:b.floor≤ver
 vle:ver≤b.cells.length
 end_:off+len * sz≤ver
 cel:(b.cells.drop off).take (len * sz)=cs
theorem aHB {sz:Nat} {h:aA} {id ver off:Nat} {b:ABlk} {cs:List AV} {len:Nat} {cap:Option Nat} {k:IntKind} {i:Nat} {K:AV→Prop} (R:aHU sz h id ver off b cs len) (hi:i<len) (hk:K (.p (some ⟨id,ver,off+i * sz⟩))) :
  aN sz (.sl (some ⟨id,ver,off⟩) len cap) (.i k (i:Int)) h K:=
 ⟨by omega,by omega,⟨b,R.1,R.3,Nat.le_trans R.3 R.4⟩,by simpa using hk⟩
theorem aGU {sz:Nat} {h:aA} {id ver off:Nat} {b:ABlk} {cs:List AV} {len i o:Nat} {c:AV} {K:AV→Prop} (R:aHU sz h id ver off b cs len) (hi:i<len) (ho:o<sz) (hc:cs[i * sz+o]? = some c) (hk:K c):aD (.p (some ⟨id,ver,off+i * sz+o⟩)) h K:=by
 have h1:(i+1) * sz≤len * sz:=Nat.mul_le_mul_right _ hi
 rw [Nat.add_mul] at h1
 have h2:=R.end_
 refine ⟨b,R.1,⟨R.3,R.4,by simp only; omega⟩, ?_⟩
 have h3:=R.cel
 rw [← h3,List.getElem?_take_of_lt (by omega),List.getElem?_drop] at hc
 show K (b.cells.getD (off+i * sz+o) .u)
 rw [getD_some (show b.cells[off+i * sz+o]? = some c by rw [← hc]; congr 1; omega)]
 exact hk
def Arr (sz:Nat) (h:aA) (v:AV) (cs:List AV) (len:Nat):Prop:=
 (v = .sl none 0 none∧len=0∧cs=[])∨∃ id b,v = .sl (some ⟨id,cs.length,0⟩) len none∧h[id]? = some b∧b.cells=cs∧cs.length=len * sz∧b.sz=sz∧b.floor≤cs.length∧b.ro=false∧b.gl=false
theorem Arr.rd {sz:Nat} {h:aA} {v:AV} {cs:List AV} {len:Nat} (A:Arr sz h v cs len):Rd sz h v cs len:=by
 rcases A with h1 | ⟨id,b,rfl,h2,rfl,h4,h5,h6,h7⟩
 ·exact .inl h1
 ·refine .inr ⟨id, _, 0, none, b, rfl, h2, .inl h5, h6, Nat.le_refl _, by omega, ?_⟩
  rw [List.drop_zero, ← h4,List.take_length]
theorem Arr.upd {sz:Nat} {M:Nat→Prop} {h h':aA} {v:AV} {cs:List AV} {len:Nat} (A:Arr sz h v cs len) (U:Upd M h h') (hM:∀ id,aQ v id→¬ M id):Arr sz h' v cs len:=by
 rcases A with h1 | ⟨id,b,rfl,h2,h3⟩
 ·exact .inl h1
 ·exact .inr ⟨id,b,rfl,(U.2 id (aM h2) (hM id rfl)).trans h2,h3⟩
theorem Arr.append {sz bytes : Nat} {h : aA} {v x : AV} {cs ns : List AV} {len k : Nat} (A : Arr sz h v cs len) (hz : 0 < sz) {K : AV → aA → Prop}
  (hx:∀ K:List AV→Nat→Prop,K ns k→eK sz x h K) (hns:ns.length=k * sz) (hok:ns.all AV.cellOK=true) (hlen:(len+k) * bytes≤140737488355328) (hl2:len+k≤9223372036854775807)
  (hk:∀ v' h',Upd (aQ v) h h'→Arr sz h' v' (cs++ns) (len+k)→(∀ id,aQ v' id→aQ v id∨h.length≤id)→K v' h'):bW ty sz bytes v x h K:=by
 refine ⟨hz,hx _ ?_⟩
 rcases A with ⟨rfl,rfl,rfl⟩ | ⟨id,b,rfl,h2,rfl,h4,h5,h6,h7,h8⟩
 ·refine ⟨by simpa using hlen, by omega, ?_⟩
  split
  ·rename_i h0
   subst h0
   have:ns=[]:=List.eq_nil_of_length_eq_zero (by simpa using hns)
   subst this
   exact hk _ _ (Upd.refl _ _) (.inl ⟨rfl,rfl,rfl⟩) fun id hi=>.inl hi
  ·refine hk _ _ ((Upd.app _ _).mono fun _ _ h=>h.elim) (.inr ⟨h.length,bE ns sz false ty,by simp,by simp,rfl,by simpa using hns,rfl,Nat.le_refl _,rfl,rfl⟩) fun id hi=>.inr (by cases hi; exact Nat.le_refl _)
 ·have hid := aM h2
  refine ⟨hlen,by omega,b,h2,h5,⟨h6,Nat.le_refl _,by simp only; omega⟩, ?_⟩
  have hcells:(b.cells.drop 0).take (len * sz)=b.cells:=by rw [List.drop_zero, ← h4,List.take_length]
  by_cases ht:k=0
  ·subst ht
   have:ns=[]:=List.eq_nil_of_length_eq_zero (by simpa using hns)
   subst this
   refine .inl ⟨rfl,hk _ _ (Upd.refl _ _) ?_ fun id hi=>.inl hi⟩
   rw [List.append_nil]
   exact .inr ⟨id,b,rfl,h2,rfl,h4,h5,h6,h7,h8⟩
  ·have htp : 0 < k := Nat.pos_of_ne_zero ht
   have hmul:(len+k) * sz=len * sz+k * sz:=Nat.add_mul _ _ _
   cases hex:b.ex with
   | true =>
    have hkz:0<k * sz:=Nat.mul_pos htp hz
    refine .inr (.inl ⟨htp,.inr ⟨rfl,rfl,rfl,by simp only; omega⟩, ?_⟩)
    rw [hcells]
    refine hk _ _ ((Upd.app _ _).mono fun _ _ h=>h.elim) (.inr ⟨h.length,bE (b.cells++ns) sz false ty,rfl,by simp,rfl,by simp [bE,hns,h4,hmul],rfl,by simp [bE],rfl,rfl⟩) fun id hi=>.inr (by cases hi; exact Nat.le_refl _)
   | false =>
    refine .inr (.inr (.inr (.inl ⟨htp,h7,rfl,rfl,h4.symm,rfl,rfl,h8,hok, ?_⟩)))
    refine hk _ _ ((Upd.set _ _ _).mono fun i _ h=>h.symm) (.inr ⟨id,{ b with cells:=b.cells++ns,ty:=fF b.ty ty },rfl,by simp [hid,hex],rfl,by simp [hns,h4,hmul],h5,by simp; omega,h7,h8⟩) fun id hi=>.inl hi
theorem dZ {sz len:Nat} {zeros cs:List AV} {parts:List (Nat × Nat × AV)} {h:aA} {K:AV→aA→Prop} (hf:eQ zeros parts=some cs) (hl:cs.length=len * sz)
  (hk:∀ v h',h'.length=h.length+1→Upd (fun _=>False) h h'→Rd sz h' v cs len→(∀ id,aQ v id→h.length≤id)→K v h'):bN sz len zeros parts h K:=by
 unfold bN
 rw [hf]
 refine ⟨hl,hk _ _ (by simp) (Upd.app _ _) (.inr ⟨h.length,cs.length,0,none,bE cs sz true,rfl,by simp,.inl rfl,Nat.le_refl _,Nat.le_refl _,by omega, ?_⟩) fun id hi=>by cases hi; exact Nat.le_refl _⟩
 simp [bE, ← hl]
theorem Arr.push {sz bytes:Nat} {h:aA} {v x:AV} {cs zeros:List AV} {len:Nat} (A:Arr sz h v cs len) (hz:0<sz) {K:AV→aA→Prop} (hf:eQ zeros [(0,sz,x)]=some x.parts) (hxl:x.parts.length=sz) (hok:x.parts.all AV.cellOK=true)
  (hlen:(len+1) * bytes≤140737488355328) (hl2:len+1≤9223372036854775807)
  (hk:∀ v' h',Upd (aQ v) h h'→Arr sz h' v' (cs++x.parts) (len+1)→(∀ id,aQ v' id→aQ v id∨h.length≤id)→K v' h') :
  bN sz 1 zeros [(0,sz,x)] h fun y h'=>bW ty sz bytes v y h' K:=by
 refine dZ hf (by omega) fun y h1 hl1 U1 R1 F1=>?_
 refine (A.upd U1 fun _ _ h=>h).append hz (ns:=x.parts) (k:=1) (fun K hK=>R1.news hK) (by omega) hok hlen hl2 fun v' h' U2 A2 F2=>hk v' h' ((U1.mono fun _ _ h=>h.elim).trans U2 fun _ _ h=>h) A2 fun id hi=>?_
 rcases F2 id hi with h | h
 ·exact .inl h
 ·exact .inr (by omega)
def Byt (h:aA) (v:AV) (l:List UInt8):Prop:=Rd 1 h v (l.map byteAV) l.length
theorem Byt.str {h:aA} {v:AV} {l:List UInt8} (B:Byt h v l) {K:List UInt8→Prop} (hk:K l):cJ v h K:=by
 refine Rd.sl B ⟨sC l, ?_⟩
 rw [wK]; exact hk
theorem pS {l:List UInt8} {lo:Nat} {K:List UInt8→Prop} (h:lo≤l.length) (hk:K (l.drop lo)):b7 (.s l) (some (.i .i64 lo)) none K:=by
 refine ⟨by omega,by simpa using h,Nat.le_refl _, ?_⟩
 simpa using hk
theorem qK {l:List UInt8} {lo hi:Nat} {K:List UInt8→Prop} (h:lo≤hi) (h2:hi≤l.length) (hk:K ((l.take hi).drop lo)):b7 (.s l) (some (.i .i64 lo)) (some (.i .i64 hi)) K:=by
 refine ⟨by omega,by omega,by simpa using h,by simpa using h2, ?_⟩
 simpa using hk
theorem aDC {l:List UInt8} {hi:Nat} {K:List UInt8→Prop} (h2:hi≤l.length) (hk:K (l.take hi)):b7 (.s l) none (some (.i .i64 hi)) K:=by
 refine ⟨by omega,by simp,by simpa using h2, ?_⟩
 simpa using hk
theorem aFW {v w:AV} {K:AV→AV→Prop} (hk:K v w):aFN [v,w] K:=hk
end Go.GAM
namespace Go.GAM
open Go.RowKit
def lH (w : World) (szOf : Nat → Nat) : Value → AV
 | .bool x=>.b x
 | .int k n=>.i k n
 | .string s=>.s s.data.toList
 | .pointer none=>.p none
 | .pointer (some a) => match w.shape? a.block, a.spot with
  | some (_,n),none=>.p (some ⟨a.block,n,a.off⟩)
  | _,_=>.u
 | .slice none 0 0=>.sl none 0 none
 | .slice (some a) len cap => if cap = 0 then (if len = 0 then .sl (some ⟨w.heap.size, 0, 0⟩) 0 (some 0) else .u) else
  match w.shape? a.block,a.spot with
  | some (_,n),none=>if len≤cap∧a.off+cap * szOf a.block≤n then .sl (some ⟨a.block,n,a.off⟩) len (some cap) else .u
  | _,_=>.u
 | .nilFunc=>.nf
 | .nilIface=>.ni
 | .map none=>.mp none
 | _=>.u
def iC (w:World) (szOf:Nat→Nat):Value→AV
 | .agg cs=>.ag (cs.toList.map (lH w szOf))
 | .iface t v=>.ifc t (lH w szOf v)
 | v=>lH w szOf v
def nD (w:World) (szOf:Nat→Nat) (B:Nat):ABlk:=match w.heap[B]? with
 | some (.cells c _ _)=>⟨c.toList.map (iC w szOf),szOf B,c.size,false,true,true,none,none⟩
 | _=>cK
def dX (w:World) (szOf:Nat→Nat):aA:=(List.range w.heap.size).map (nD w szOf)++[cK]
def muC (w:World) (szOf:Nat→Nat):Mu:=fun id ver=>
 if id=w.heap.size then (if ver=0 then some ⟨0,0,0,1⟩ else none) else
 match w.shape? id with
 | some (_,n)=>if ver=n then some ⟨id,0,n,szOf id⟩ else none
 | none=>none
def aD8 (w:World):Nat→Option Nat:=fun B=>if (w.shape? B).isSome then some B else none
section
variable {w:World} {szOf:Nat→Nat}
theorem lU {B:Nat} {t:TypeId} {n:Nat} (h:w.shape? B=some (t,n)):∃ c fr,w.heap[B]? = some (.cells c t fr)∧c.size=n:=by
 unfold World.shape? at h
 split at h
 ·rename_i c el fr hh
  simp only [Option.some.injEq,Prod.mk.injEq] at h
  obtain ⟨rfl,rfl⟩:=h
  exact ⟨c,fr,hh,rfl⟩
 ·cases h
theorem mC {B:Nat} {x:TypeId × Nat} (h:w.shape? B=some x):B<w.heap.size:=by
 obtain ⟨c,fr,hh,_⟩:=lU (t:=x.1) (n:=x.2) h
 exact (Array.getElem?_eq_some_iff.1 hh).1
theorem tR {B:Nat} {t:TypeId} {n:Nat} (h:w.shape? B=some (t,n)):muC w szOf B n=some ⟨B,0,n,szOf B⟩:=by
 have:=mC h
 unfold muC
 rw [if_neg (by omega),h]
 simp
theorem oO (v : Value) : aU (muC w szOf) (lH w szOf v) v := by
  cases v <;> first | exact .u _ | exact .b _ | exact .i _ _ | exact .s _ _ rfl | exact .nf | exact .ni | skip
  case pointer a=>
    cases a with
    | none=>exact .pn
    | some a =>
      obtain ⟨B,off,spot⟩:=a
      simp only [lH]
      split
      · rename_i t n hs
        exact .p _ _ _ (tR hs) (by simp)
      · exact .u _
  case slice a len cap=>
    cases a with
    | none =>
      cases len with
      | succ l=>exact .u _
      | zero => cases cap with
        | succ c=>exact .u _
        | zero=>exact .sn
    | some a =>
      obtain ⟨B,off,spot⟩:=a
      simp only [lH]
      split
      · rename_i hc
        subst hc
        split
        · rename_i hl
          subst hl
          exact .sl _ _ _ 0 _ ⟨0,0,0,1⟩ (by unfold muC; simp) (Nat.le_refl _) (by simp) (by simp) (by simp) (by simp)
        · exact .u _
      · split
        · rename_i t n hs
          split
          · rename_i hl
            exact .sl _ _ _ cap _ _ (tR hs) hl.1 hl.2 (by simp) (by simp) (by simp)
          · exact .u _
        · exact .u _
  case map r=>cases r <;> first | exact .mpn | exact .u _
theorem rG:∀ vs:List Value,VRels (muC w szOf) (vs.map (lH w szOf)) vs
 | []=>.nil
 | v :: vs=>.cons _ _ _ _ (oO v) (rG vs)
theorem mQ (v:Value):aU (muC w szOf) (iC w szOf v) v:=by
 cases v <;> simp only [iC] <;> first | exact oO _ | exact .ag _ _ (rG _) | exact .ifc _ _ _ (oO _)
theorem rA {B:Nat} (h:B<w.heap.size):(dX w szOf)[B]? = some (nD w szOf B):=by
 unfold dX
 rw [List.getElem?_append_left (by simpa using h)]
 simp [h]
theorem aAN:(dX w szOf).length=w.heap.size+1:=by simp [dX]
theorem aCK (w : World) (szOf : Nat → Nat) : Rel w (fun B => B < w.heap.size) (muC w szOf) (aD8 w) (dX w szOf) w where
 os:=rfl
 tape:=rfl
 output:=rfl
 size0:=Nat.le_refl _
 fz:=fun B hB=>⟨hB,rfl⟩
 ownlt:=fun B id h=>by
  unfold aD8 at h
  split at h
  ·rename_i hs
   obtain ⟨x,hx⟩:=Option.isSome_iff_exists.1 hs
   exact mC hx
  ·cases h
 mulen := fun id ver l h => by
  unfold muC at h
  split at h
  ·rename_i he
   subst he
   exact ⟨cK,by simp [dX],by simp [cK]⟩
  ·split at h
   ·rename_i t n hs
    obtain ⟨c,fr,hh,hc⟩:=lU hs
    refine ⟨nD w szOf id,rA (mC hs),fun _=>?_⟩
    split at h
    ·rename_i hv
     unfold nD
     rw [hh]
     simp [hv,hc]
    ·cases h
   ·cases h
 blk := fun id b hb hl => by
  rcases Nat.lt_or_ge id w.heap.size with hi | hi
  ·rw [rA hi] at hb
   cases hb
   unfold nD at hl ⊢
   split at hl
   ·rename_i c el fr hh
    have hs:w.shape? id=some (el,c.size):=by unfold World.shape?; rw [hh]
    refine ⟨⟨id,0,c.size,szOf id⟩, ?_⟩
    have hlen:(c.toList.map (iC w szOf)).length=c.size:=by simp
    refine { cur:=by simp only [hlen]; exact tR hs,owned:=by simp [aD8,hs],sz:=rfl,len:=by simp,ex:=by simp,ro:=by simp,gl:=by simp,nomap:=rfl,tyok:=fun t ht=>(by cases ht),row:=⟨c,el,fr,hh,by simp⟩,free:=by simp,vers:=fun ver h1 h2 l' hl'=>?_ }
    have hv:ver=c.size:=by simp only [hlen] at h2; simp only at h1; omega
    subst hv
    rw [tR hs] at hl'
    cases hl'
    refine { own:=by simp [aD8,hs],sz:=rfl,le:=Nat.le_refl _,base:=fun _=>rfl,cells:=fun j hj=>?_ }
    refine ⟨c[j],by simp [World.cell?,hh,hj], ?_⟩
    have e:(c.toList.map (iC w szOf)).getD j .u=iC w szOf c[j]:=by simp [List.getD,hj]
    simp only [e]
    exact mQ _
   ·exact absurd hl (by simp [cK])
  ·exfalso
   rcases Nat.lt_or_ge id (w.heap.size+1) with h2 | h2
   ·have : id = w.heap.size := by omega
    subst this
    simp [dX] at hb
    subst hb
    simp [cK] at hl
   ·rw [List.getElem?_eq_none (by rw [aAN]; omega)] at hb; cases hb
 maps:=fun id b es hb he=>by
  exfalso
  have hm:b∈dX w szOf:=List.mem_of_getElem? hb
  unfold dX at hm
  rcases List.mem_append.1 hm with h1 | h1
  ·obtain ⟨B, _, rfl⟩ := List.mem_map.1 h1
   unfold nD at he
   split at he <;> cases he
  ·simp at h1; subst h1; cases he
end
def Yes:AV→aA→Prop:=fun v _=>v = .b true
end Go.GAM
namespace Go.GAM
open Go.RowKit Go.ChangeShapes
section
variable {H:Type} {enc:TypeId × Value→H} {P:Program} {w:World} {szOf:Nat→Nat}
theorem qH {a : Addr} {sz : Nat} : ∀ (rows : List (List Value)) (k : Nat), (∀ i r, rows[i]? = some r → r.length = sz ∧ ∀ j, j < sz → w.cell? (a.add ((k + i) * sz + j)) = some (r.getD j undef)) →
  ∀ i,i<rows.flatten.length→w.cell? (a.add (k * sz+i))=some (rows.flatten.getD i undef)
 | [],k,h,i,hi=>by simp at hi
 | r :: rows, k, h, i, hi => by
  obtain ⟨h1,h2⟩:=h 0 r rfl
  rw [List.flatten_cons]
  by_cases hlt:i<sz
  ·have := h2 i hlt
   rw [Nat.add_zero] at this
   rw [this,List.getD_eq_getElem?_getD,List.getD_eq_getElem?_getD,List.getElem?_append_left (by omega)]
  ·have := qH (a := a) (sz := sz) rows (k + 1) (fun j r hj => by
    have:=h (j+1) r (by simpa using hj)
    rw [show k+1+j=k+(j+1) by omega]; exact this) (i - sz) (by simp at hi ⊢; omega)
   rw [show (k+1) * sz+(i - sz)=k * sz+i by rw [Nat.add_mul]; omega] at this
   rw [this,List.getD_eq_getElem?_getD,List.getD_eq_getElem?_getD,List.getElem?_append_right (by omega),h1]
theorem wI {sz:Nat}:∀ rows:List (List Value),(∀ r∈rows,r.length=sz)→rows.flatten.length=rows.length * sz
 | [],_=>by simp
 | r :: rows, h => by
  rw [List.flatten_cons,List.length_append,wI rows fun r hr=>h r (by simp [hr]),h r (by simp),List.length_cons,Nat.add_mul]; omega
theorem sQ {sz:Nat}:∀ (rows:List (List Value)) (n:Nat),(∀ r∈rows,r.length=sz)→rows.flatten.take (n * sz)=(rows.take n).flatten
 | [],n,_=>by simp
 | r :: rows,0,_=>by simp
 | r :: rows, n + 1, h => by
  have h1:=h r (by simp)
  rw [List.take_succ_cons,List.flatten_cons,List.flatten_cons, ← sQ rows n fun r hr=>h r (by simp [hr]),List.take_append,h1]
  rw [List.take_of_length_le (by rw [h1,Nat.add_mul]; omega),show (n+1) * sz - sz=n * sz by rw [Nat.add_mul]; omega]
end
end Go.GAM
namespace Go.GAM
variable {ty:Option TypeId}
open Go.RowKit
theorem Upd.ext {h h':aA} (U:Upd (fun _=>False) h h'):Ext h h':=⟨U.1,fun i hi=>U.2 i hi fun h=>h⟩
theorem aGL {α:Type} {l r:List α} {i:Nat} {c:α} (h:l.drop i=c :: r):i<l.length:=by
 rcases Nat.lt_or_ge i l.length with h1 | h1
 ·exact h1
 ·rw [List.drop_eq_nil_of_le h1] at h; cases h
theorem aBK {α:Type} {l r:List α} {i:Nat} {c:α} (h:l.drop i=c :: r):l.drop (i+1)=r:=by
 have:(l.drop i).drop 1=r:=by rw [h] <;> rfl
 rwa [List.drop_drop] at this
theorem aDQ {α:Type} {l:List α} {i:Nat} (h:l.drop i=[]):l.length≤i:=by
 have:=congrArg List.length h
 simp at this; omega
def Stk (h:aA) (v:AV) (l:List AV):Prop:=
 (v = .sl none 0 none∧l=[])∨∃ id b,v = .sl (some ⟨id,b.cells.length,0⟩) l.length none∧h[id]? = some b∧b.sz=1∧l.length≤b.cells.length∧b.cells.take l.length=l∧b.floor≤b.cells.length∧b.ro=false∧b.gl=false
theorem Stk.rd {h:aA} {v:AV} {l:List AV} (S:Stk h v l):Rd 1 h v l l.length:=by
 rcases S with ⟨rfl,rfl⟩ | ⟨id,b,rfl,h1,h2,h3,h4,h5,h6,h7⟩
 ·exact .inl ⟨rfl,rfl,rfl⟩
 ·exact .inr ⟨id,_,0,none,b,rfl,h1,.inl h2,h5,Nat.le_refl _,by omega,by rw [List.drop_zero,Nat.mul_one]; exact h4⟩
theorem Stk.upd {M:Nat→Prop} {h h':aA} {v:AV} {l:List AV} (S:Stk h v l) (U:Upd M h h') (hM:∀ i,aQ v i→¬ M i):Stk h' v l:=by
 rcases S with h1 | ⟨id,b,rfl,h1,h2⟩
 ·exact .inl h1
 ·exact .inr ⟨id,b,rfl,(U.2 id (aM h1) (hM id rfl)).trans h1,h2⟩
theorem Stk.push {bytes : Nat} {h : aA} {v x : AV} {l zeros : List AV} (S : Stk h v l) (hf : eQ zeros [(0, 1, x)] = some [x]) (hx : x.cellOK = true) (hlen : (l.length + 1) * bytes ≤ 140737488355328) (hl2 : l.length + 1 ≤ 9223372036854775807) {K : AV → aA → Prop}
  (hk:∀ v' h',Upd (aQ v) h h'→Stk h' v' (l++[x])→(∀ i,aQ v' i→aQ v i∨h.length≤i)→K v' h'):bN 1 1 zeros [(0,1,x)] h fun y h'=>bW ty 1 bytes v y h' K:=by
 refine dZ hf rfl fun y h1 hl1 U1 R1 F1=>⟨Nat.one_pos,R1.news ?_⟩
 have S1:=S.upd U1 fun _ _ h=>h
 rcases S1 with ⟨rfl,rfl⟩ | ⟨id,b,rfl,g1,g2,g3,g4,g5,g6,g7⟩
 ·refine ⟨by simpa using hlen, by omega, ?_⟩
  rw [if_neg (by decide)]
  exact hk _ _ ((U1.mono fun _ _ h=>h.elim).trans (Upd.app _ _) fun _ _ h=>h.elim) (.inr ⟨h1.length,bE [x] 1 false ty,by simp [bE],by simp,rfl,by simp [bE],by simp [bE],by simp [bE],rfl,rfl⟩) fun i hi=>.inr (by have e:h1.length=i:=hi; omega)
 ·have hid := aM g1
  have hidh:id<h.length:=Rd.lt S.rd (id:=id) rfl
  refine ⟨hlen,by omega,b,g1,g2,⟨g5,Nat.le_refl _,by simp only; omega⟩, ?_⟩
  by_cases hfull:l.length=b.cells.length
  ·cases hex : b.ex with
   | true =>
    refine .inr (.inl ⟨Nat.one_pos,.inr ⟨rfl,rfl,rfl,by simp only; omega⟩, ?_⟩)
    refine hk _ _ ((U1.mono fun _ _ h=>h.elim).trans (Upd.app _ _) fun _ _ h=>h.elim) (.inr ⟨h1.length,bE (l++[x]) 1 false ty, ?_, ?_,rfl,by simp [bE],by simp only [bE,List.length_append]; exact List.take_of_length_le (by simp),by simp [bE],rfl,rfl⟩) fun i hi=>.inr (by have e:h1.length=i:=hi; omega)
    ·simp [bE,g4,g3]
    ·simp [g4]
   | false =>
    refine .inr (.inr (.inr (.inl ⟨Nat.one_pos,g6,rfl,rfl,by omega,rfl,rfl,g7,by simp [hx], ?_⟩)))
    have hcl:b.cells=l:=by rw [hfull,List.take_length] at g4; exact g4
    refine hk _ _ ((U1.mono fun _ _ h=>h.elim).trans (Upd.set _ _ _) fun i _ h=>h.symm) (.inr ⟨id,{ b with cells:=b.cells++[x],ty:=fF b.ty ty }, ?_,by simp [hid,hex],g2,by simp; omega, ?_,by simp; omega,g6,g7⟩) fun i hi=>.inl hi
    ·simp
    ·simp only [hcl]
     rw [List.take_of_length_le (by simp)]
  ·refine .inr (.inr (.inl ⟨Nat.one_pos, g6, rfl, by simp only; omega, .inl rfl, by simp [hx], ?_⟩))
   refine hk _ _ ((U1.mono fun _ _ h=>h.elim).trans (Upd.set _ _ _) fun i _ h=>h.symm) (.inr ⟨id,{ b with cells:=wr b.cells (0+l.length * 1) [x],floor:=b.cells.length }, ?_,show (h1.set id _)[id]? = some _ from List.getElem?_set_self hid,g2, ?_, ?_, ?_,g6,g7⟩) fun i hi=>.inl hi
   ·simp [wr]
   ·simp [wr]; omega
   ·simp only [wr, Nat.zero_add, Nat.mul_one, List.length_append, List.length_cons, List.length_nil]
    apply List.ext_getElem?
    intro i
    by_cases h1:i<l.length
    ·rw [List.getElem?_take_of_lt (by omega), List.getElem?_set_ne (by omega), List.getElem?_append_left h1]
     conv=>rhs; rw [← g4]
     rw [List.getElem?_take_of_lt h1]
    ·by_cases h2 : i = l.length
     ·subst h2
      rw [List.getElem?_take_of_lt (by omega),List.getElem?_set_self (by omega),List.getElem?_append_right (by omega)]
      simp
     ·rw [List.getElem?_eq_none (by simp; omega),List.getElem?_eq_none (by simp; omega)]
   ·simp [wr]
theorem Rd.cell {sz:Nat} {h:aA} {v:AV} {cs:List AV} {len:Nat} (R:Rd sz h v cs len) {k:IntKind} {i:Nat} {c:AV} (hz:0<sz) (hi:i<len) (hc:cs[i * sz]? = some c) {K:AV→Prop} (hk:K c) :
  aN sz v (.i k (i:Int)) h fun a=>aD a h K:=by
 rcases R with ⟨rfl,rfl,rfl⟩ | ⟨id,ver,off,cap,b,rfl,h2,h3,h4,h5,h6,h7⟩
 ·omega
 ·have A : aHU sz h id ver off b cs len := ⟨h2, h3, h4, h5, h6, h7⟩
  exact aHB A hi (aGU (o:=0) A hi hz (by simpa using hc) hk)
theorem mM {x:Nat} (h:x<2 ^ 64):(BitVec.ofInt 64 (x:Int)).toNat=x:=by
 simp [BitVec.toNat_ofInt]; omega
theorem zH {x y:Nat} (hx:x<2 ^ 62) (hy:y<2 ^ 62):bO .or .i64 x y=((x ||| y:Nat):Int):=by
 have h:x ||| y<2 ^ 62:=Nat.or_lt_two_pow hx hy
 show IntKind.wrap .i64 (((BitVec.ofInt 64 (x:Int)) ||| (BitVec.ofInt 64 (y:Int))).toNat:Int)=_
 rw [BitVec.toNat_or,mM (by omega),mM (by omega),bA (by omega) (by omega)]
theorem fW {x y:Nat} (hx:x<2 ^ 62) (hy:y<2 ^ 62):bO .and .i64 x y=((x &&& y:Nat):Int):=by
 have h:x &&& y<2 ^ 62:=Nat.and_lt_two_pow _ hy
 show IntKind.wrap .i64 (((BitVec.ofInt 64 (x:Int)) &&& (BitVec.ofInt 64 (y:Int))).toNat:Int)=_
 rw [BitVec.toNat_and,mM (by omega),mM (by omega),bA (by omega) (by omega)]
theorem eM {a b:Nat} {K:Int→Prop} (hb:b≤64) (h:a * 2 ^ b<2 ^ 62) (hk:K ((a * 2 ^ b:Nat):Int)):jX .i64 a b K:=by
 refine ⟨by omega, ?_⟩
 have e:(a:Int) * 2 ^ (min (b:Int).toNat IntKind.i64.bits)=((a * 2 ^ b:Nat):Int):=by
  rw [Int.toNat_natCast,show IntKind.i64.bits=64 from rfl,Nat.min_eq_left hb]; simp
 rw [e,bA (by omega) (by omega)]; exact hk
theorem oB {a b:Nat} {k:IntKind} {K:Int→Prop} (hb:b≤k.bits) (hk:K ((a / 2 ^ b:Nat):Int)):kZ k a b K:=by
 refine ⟨by omega, ?_⟩
 have e:(a:Int).fdiv (2 ^ (min (b:Int).toNat k.bits))=((a / 2 ^ b:Nat):Int):=by
  rw [Int.toNat_natCast,Nat.min_eq_left hb]
  have h2:((2:Int) ^ b)=((2 ^ b:Nat):Int):=by simp
  rw [h2,Int.fdiv_eq_ediv_of_nonneg _ (Int.natCast_nonneg (2 ^ b))] <;> rfl
 rw [e]; exact hk
end Go.GAM
namespace Go.GAM
open Go.RowKit
theorem oT {α β:Type} (f:α→β):∀ l:List α,(l.flatMap fun x=>[f x])=l.map f
 | []=>rfl
 | a :: l=>by rw [List.flatMap_cons,oT f l] <;> rfl
section
variable {H:Type} {enc:TypeId × Value→H} {P:Program} {w:World} {szOf:Nat→Nat}
end
theorem Rd.byte {h:aA} {v:AV} {l:List UInt8} {len:Nat} (R:Rd 1 h v (l.map byteAV) len) {k:IntKind} {i:Nat} {x:UInt8} (hx:l[i]? = some x) {K:Int→Prop} (hk:K (x.toNat:Int)) :
  aN 1 v (.i k (i:Int)) h fun a=>aD a h fun y=>asI .u8 y K:=by
 have hl:=R.length
 rw [List.length_map,Nat.mul_one] at hl
 exact R.cell Nat.one_pos (by have:=aM hx; omega) (c:=byteAV x) (by rw [Nat.mul_one,List.getElem?_map,hx] <;> rfl) (lL hk)
end Go.GAM
namespace Go.GAM
open Go.RowKit Go.ChangeShapes
section
variable {H:Type} {enc:TypeId × Value→H} {P:Program} {w:World} {szOf:Nat→Nat}
theorem yY {n:String} {d:DataW Unit} {l:List (String × DataW Unit)} (hm:(n,d)∈l) (hL:laidMet P l w) :
  ∃ g t cs fuel p,P.globalNamed n=some g∧(P.globals[g]?).map (·.type)=some t∧w.var? P n=some cs∧DataW.trod (fun _=>()) P w 0 (fun _=>true) false fuel t cs.toList=some (d,p):=by
 obtain ⟨ps,h,hx⟩:=hL
 clear hx
 induction l generalizing ps with
 | nil=>cases hm
 | cons x l ih =>
  obtain ⟨n',d'⟩:=x
  obtain ⟨g,t,cs,fuel,p,q,h1,h2,h3,h4,h5,h6⟩:=h
  rcases List.mem_cons.1 hm with h | h
  ·cases h; exact ⟨g,t,cs,fuel,p,h1,h2,h3,h4⟩
  ·exact ih h _ h5
theorem aBS {n:String} {g:Nat} {cs:Array Value} (hg:P.globalNamed n=some g) (hv:w.var? P n=some cs):∃ t fr,w.heap[g]? = some (.cells cs t fr):=by
 unfold World.var? at hv
 rw [hg] at hv
 simp only [Option.bind_some] at hv
 split at hv
 ·rename_i c t fr h
  cases hv
  exact ⟨t,fr,h⟩
 ·cases hv
end
theorem Rd.cutAt {sz:Nat} {h:aA} {v:AV} {cs:List AV} {len:Nat} (R:Rd sz h v cs len) (hz:0<sz) {lo:Option AV} {lo' hi:Nat} (hlo:lo=none∧lo'=0∨lo=some (.i .i64 lo')) (h1:lo'≤hi) (h2:hi≤len) (z1:sz=1:=by rfl) :
  ∃ v',Rd sz h v' ((cs.take (hi * sz)).drop (lo' * sz)) (hi - lo')∧∀ (K:AV→Prop),K v'→bI sz v lo (some (.i .i64 (hi:Int))) none h K:=by
 rcases R with ⟨rfl,h0,rfl⟩ | ⟨id,ver,off,cap,b,rfl,g2,g3,g4,g5,g6,g7⟩
 ·have : hi = 0 := by omega
  subst this
  have:lo'=0:=by omega
  subst this
  refine ⟨.sl none 0 none,.inl ⟨rfl,rfl,by simp⟩,fun K hk=>⟨by simp, ?_⟩⟩
  rcases hlo with ⟨rfl,_⟩ | rfl
  ·exact ⟨rfl,rfl,rfl,fun h=>by simp at h,hk⟩
  ·exact ⟨by simp,rfl,rfl,rfl,fun h=>by simp at h,hk⟩
 ·have e2 : hi * sz ≤ len * sz := Nat.mul_le_mul_right _ h2
  have e1:lo' * sz≤hi * sz:=Nat.mul_le_mul_right _ h1
  have e3:(hi - lo') * sz=hi * sz - lo' * sz:=Nat.sub_mul _ _ _
  refine ⟨.sl (some ⟨id,ver,off+lo' * sz⟩) (hi - lo') (cap.map (· - lo')),.inr ⟨id,ver,off+lo' * sz,_,b,rfl,g2,g3,g4,g5,by omega, ?_⟩,fun K hk=>?_⟩
  ·rw [← g7,List.take_take,Nat.min_eq_left e2,List.drop_take,List.drop_drop,e3]
  ·refine ⟨hz, fun h => by simp at h, by omega, ?_⟩
   rcases hlo with ⟨rfl,rfl⟩ | rfl
   ·exact ⟨by omega,b,g2,by omega,g4,.inl (g3.elim (fun x=>x) fun x=>x.trans z1.symm),.inl (by simpa using h2),by simpa using hk⟩
   ·exact ⟨by omega,by simpa using h1,b,g2,by omega,g4,.inl (g3.elim (fun x=>x) fun x=>x.trans z1.symm),.inl (by simpa using h2),by simpa using hk⟩
end Go.GAM
namespace Go.GAM
variable {ty:Option TypeId}
open Go.RowKit
theorem inc {i:Nat} {K:Int→Prop} (h:i<9223372036854775807) (hk:K ((i+1:Nat):Int)):aJ (IntKind.wrap .i64 ((i:Int)+1)) K:=
 aX (n:=((i+1:Nat):Int)) (by rw [bA (by omega) (by omega)]; omega) hk
theorem bS {e n:Int} {K:Int→Prop} (h:e=n) (h0 : -9223372036854775808≤n) (h1:n<9223372036854775808) (hk:K n):aJ (IntKind.wrap .i64 e) K:=
 aX (by rw [h,bA h0 h1]) hk
theorem dR {α:Type} {l:List α} {i:Nat} {c:α} (hc:l[i]? = some c):l.take (i+1)=l.take i++[c]:=by
 rw [List.take_add_one,hc] <;> rfl
theorem yJ {α:Type} {l r:List α} {i:Nat} {c:α} (h:l.drop i=c :: r):l[i]? = some c:=by
 have:(l.drop i)[0]? = some c:=by rw [h] <;> rfl
 simpa using this
theorem yX {α:Type} {l:List α} {i:Nat} {c:α} (h:l[i]? = some c):l.drop i=c :: l.drop (i+1):=by
 have hi:=aM h
 rw [List.drop_eq_getElem_cons hi]
 rw [List.getElem?_eq_getElem hi] at h
 simp only [Option.some.injEq] at h
 rw [h]
theorem cY {R:aZ} {f:Nat} {first cap vs:List AV} {h:aA} {K:AV→aA→Prop} (hf:Nat.blt f yid0=true) (hk:R f (first++vs++cap) h K):bZ R (.fn (.func f) first cap) vs h K:=by
 unfold bZ
 simp only
 unfold lG
 exact aW hf hk
theorem wS (z:AV):∀ n,(List.replicate n [z]).flatten=List.replicate n z
 | 0=>rfl
 | n+1=>by rw [List.replicate_succ,List.flatten_cons,wS z n,List.replicate_succ] <;> rfl
theorem wrap_u64 {n:Int} (h0:0≤n) (h1:n<18446744073709551616):IntKind.wrap .u64 n=n:=by
 have:IntKind.wrap .u64 n=n % 18446744073709551616:=by
  show n.emod (2 ^ 64)=_
  rfl
 rw [this]; omega
end Go.GAM
namespace Go.GAM
open Go.RowKit
end Go.GAM
namespace Go.GAM
open Go.RowKit
section
variable {P:Program} {α:Type} [DecidableEq α]
def gZ (κ:α→AV) (kv:List (α × AV)):List (AV × AV):=kv.map fun p=>(κ p.1,p.2)
def lkI:List (α × AV)→α→Nat→Option (Nat × AV)
 | [],_,_=>none
 | (k,v) :: r,x,i=>if x=k then some (i,v) else lkI r x (i+1)
def lkM (kv:List (α × AV)) (x:α):Option AV:=(lkI kv x 0).map (·.2)
def upM:List (α × AV)→α→AV→List (α × AV)
 | [],x,v=>[(x,v)]
 | (k,w) :: r,x,v=>if x=k then (k,v) :: r else (k,w) :: upM r x v
theorem aAH (x:α):∀ (kv:List (α × AV)) (i j:Nat),(lkI kv x i).map (·.2)=(lkI kv x j).map (·.2)
 | [],_,_=>rfl
 | (k, v) :: r, i, j => by
  unfold lkI
  split
  ·rfl
  ·exact aAH x r _ _
theorem j4 (k:α) (v:AV) (r:List (α × AV)) (x:α):lkM ((k,v) :: r) x=if x=k then some v else lkM r x:=by
 unfold lkM
 rw [lkI]
 split
 ·rfl
 ·exact aAH x r _ _
theorem aET (x:α) (v:AV) (y:α):∀ kv:List (α × AV),lkM (upM kv x v) y=if y=x then some v else lkM kv y
 | []=>by rw [upM,j4]
 | (k, w) :: r => by
  unfold upM
  by_cases h:x=k
  ·subst h
   rw [if_pos rfl,j4,j4]
   split <;> rfl
  ·rw [if_neg h, j4, j4, aET x v y r]
   by_cases hy:y=k
   ·subst hy; rw [if_pos rfl,if_pos rfl,if_neg (fun e=>h e.symm)]
   ·rw [if_neg hy,if_neg hy]
def vV (P:Program) (kt:TypeId) (κ:α→AV):Prop:=∀ a b,aEq P 64 kt (κ a) (κ b)=some (decide (a=b))
theorem qN {kt:TypeId} {κ:α→AV} (hκ:vV P kt κ) (x:α):∀ (kv:List (α × AV)) (i:Nat),jK P kt (κ x) (gZ κ kv) i=some (lkI kv x i)
 | [],_=>rfl
 | (k, v) :: r, i => by
  have e:=qN hκ x r (i+1)
  show jK P kt (κ x) ((κ k,v) :: gZ κ r) i=_
  rw [jK]
  show (match aEq P 64 kt (κ x) (κ k) with
   | some true=>some (some (i,v))
   | some false=>jK P kt (κ x) (gZ κ r) (i+1)
   | none=>none)=_
  rw [hκ x k,lkI]
  by_cases h:x=k
  ·rw [decide_eq_true h,if_pos h]
  ·rw [decide_eq_false h,if_neg h]; exact e
def jW (κ:α→AV) (h:aA) (id:Nat) (kv:List (α × AV)):Prop:=h[id]? = some (eU (gZ κ kv))
theorem jW.lt {κ:α→AV} {h:aA} {id:Nat} {kv:List (α × AV)} (M:jW κ h id kv):id<h.length:=aM M
theorem jW.upd {κ:α→AV} {M:Nat→Prop} {h h':aA} {id:Nat} {kv:List (α × AV)} (A:jW κ h id kv) (U:Upd M h h') (hM:¬ M id):jW κ h' id kv:=(U.2 id A.lt hM).trans A
theorem xO (κ:α→AV) {h:aA} {K:AV→aA→Prop} (hk:∀ h',h'.length=h.length+1→Upd (fun _=>False) h h'→jW κ h' h.length []→K (.mp (some h.length)) h'):mV h K:=
 hk _ (by simp) (Upd.app _ _) (by unfold jW; simp [gZ])
theorem nK {κ:α→AV} {h:aA} {id:Nat} {kv:List (α × AV)} {kt el:TypeId} {x:α} {z:AV} {K:AV→Prop} (M:jW κ h id kv) (hκ:vV P kt κ) (hv:aBM P kt (κ x)=true) (hz:vS P el=some z) (hk:K ((lkM kv x).getD z)):eZ P kt el false (.mp (some id)) (κ x) h K:=by
 refine ⟨hv, ?_⟩
 have e:zV (.mp (some id)) h=some (gZ κ kv):=by show ((h[id]?).bind (·.mp)).bind aH3=_; rw [M] <;> rfl
 rw [e]
 simp only
 rw [qN hκ]
 unfold lkM at hk
 cases hl:lkI kv x 0 with
 | none=>rw [hl] at hk; simp only; rw [hz]; exact hk
 | some p=>rw [hl] at hk; exact hk
theorem aEB {κ : α → AV} (x : α) (v : AV) : ∀ (kv : List (α × AV)) (i : Nat), match lkI kv x i with
  | none=>upM kv x v=kv++[(x,v)]
  | some (j,_)=>i≤j∧kv[j - i]?.map (·.1)=some x∧upM kv x v=kv.set (j - i) (x,v)
 | [],i=>rfl
 | (k, w) :: r, i => by
  have ih:=aEB (κ:=κ) x v r (i+1)
  rw [lkI]
  by_cases h:x=k
  ·subst h
   rw [if_pos rfl]
   exact ⟨Nat.le_refl _,by simp,by simp [upM]⟩
  ·rw [if_neg h]
   cases hl:lkI r x (i+1) with
   | none=>rw [hl] at ih; simp only at ih ⊢; rw [upM,if_neg h,ih] <;> rfl
   | some p =>
    obtain ⟨j,u1⟩:=p
    rw [hl] at ih
    simp only at ih ⊢
    obtain ⟨h1,h2,h3⟩:=ih
    obtain ⟨m,rfl⟩:∃ m,j=i+1+m:=⟨j - (i+1),by omega⟩
    rw [show i+1+m - (i+1)=m by omega] at h2 h3
    rw [show i+1+m - i=m+1 by omega,upM,if_neg h,h3]
    exact ⟨by omega,by simpa using h2,by simp⟩
theorem aAY {κ:α→AV} {h:aA} {id:Nat} {kv:List (α × AV)} {kt:TypeId} {x:α} {v:AV} {K:aA→Prop} (M:jW κ h id kv) (hκ:vV P kt κ) (hv:aBM P kt (κ x)=true) (hp:tG (κ x)=true)
  (hk:∀ h',h'.length=h.length→Upd (· = id) h h'→jW κ h' id (upM kv x v)→K h'):gN P kt (.mp (some id)) (κ x) v h K:=by
 refine ⟨hv,hp,_,_,M,rfl, ?_⟩
 rw [qN hκ]
 have hu:=aEB (κ:=κ) x v kv 0
 have fin:∀ es,es=gZ κ (upM kv x v)→K (h.set id (eU es)):=by
  rintro es rfl
  exact hk _ (by simp) (Upd.set _ _ _) (List.getElem?_set_self M.lt)
 cases hl:lkI kv x 0 with
 | none =>
  rw [hl] at hu
  exact fin _ (by simp only at hu; rw [hu]; simp [gZ])
 | some p =>
  obtain ⟨j,u1⟩:=p
  rw [hl] at hu
  simp only [Nat.sub_zero] at hu
  obtain ⟨_,h2,h3⟩:=hu
  refine ⟨?_,fin _ (by rw [h3]; simp [gZ,List.map_set])⟩
  obtain ⟨q,hq,hqx⟩:=Option.map_eq_some_iff.1 h2
  exact ⟨q.2,by unfold gZ; rw [List.getElem?_map,hq]; simp [hqx]⟩
theorem aB9 {kt:TypeId} (hu:P.underlying kt=some .string):vV P kt (fun l:List UInt8=>.s l):=fun a b=>by
 rw [zL (d:=63) hu]
 show some (a == b)=_
 congr 1
 rw [Bool.eq_iff_iff]; simp
end
section
variable {P:Program}
end
end Go.GAM
namespace Go.GAM
section
variable {P:Program} {w0:World} {Fz:Nat→Prop} {μ:Mu} {own:Nat→Option Nat} {h:aA} {w:World}
theorem aFA {f:FuncId} {fn:Func} {ex:Array Value→Sem Value} (hf:P.funcs[f]? = some fn) (hn:(fn.name == "runtime.NumGoroutine")=false) (hb:fn.body.isNone=true)
  (h1:Extern.findNext fn=none) (h2:Extern.find fn=some ex) {args:Array Value} {v:Value} {w w':World} (he:(ex args).run P w = .ok v w'):(callFunc f args).run P w = .ok (.value v) w':=by
 have hn':fn.name ≠ "runtime.NumGoroutine":=by simpa using hn
 have hb':fn.body=none:=by simpa using hb
 have hm:∀ (m:Mark) (k:Sem Unit) (w:World),Sem.run P (Sem.mark m k) w=Sem.run P k w:=fun _ _ _=>rfl
 unfold callFunc
 simp [go_sem,hf,hn',hb',h1,h2,mark,hm,he]
def aG8 (P : Program) (ex : Array Value → Sem Value) (X : List AV → aA → (AV → aA → Prop) → Prop) : Prop :=
 ∀ (w0 : World) (Fz : Nat → Prop) (μ : Mu) (own : Nat → Option Nat) (h : aA) (w : World) (args : List AV) (cargs : List Value) (K : AV → aA → Prop), Rel w0 Fz μ own h w → VRels μ args cargs → X args h K →
  ∃ cv w',(ex cargs.toArray).run P w = .ok cv w'∧jE w0 Fz μ K cv w'
structure aES (P:Program) (f:FuncId) (ex:Array Value→Sem Value):Prop where
 is:∃ fn,P.funcs[f]? = some fn∧(fn.name == "runtime.NumGoroutine")=false∧fn.body.isNone=true∧Extern.findNext fn=none∧Extern.find fn=some ex
theorem aES.sim {f:FuncId} {ex:Array Value→Sem Value} {X:List AV→aA→(AV→aA→Prop)→Prop} (A:aES P f ex) (E:aG8 P ex X) (hlt:f<yid0) {μb:Mu} {args:List AV} {h:aA} {K:AV→aA→Prop} (hk:X args h K):zJ P w0 Fz μb f args h K:=by
 intro μ own w cargs hsb R hc
 rw [if_pos hlt]
 obtain ⟨fn,h1,h2,h3,h4,h5⟩:=A.is
 obtain ⟨cv,w',e1,e2⟩:=E w0 Fz μ own h w args cargs K R hc hk
 exact .inr ⟨cv,w',aFA h1 h2 h3 h4 h5 e1,e2⟩
end
end Go.GAM
namespace Go.GAM
def eR (E:TypeId) (h:aA) (v:AV) (l:List UInt8):Prop:=
 (v = .sl none 0 none∧l=[])∨∃ id b,v = .sl (some ⟨id,l.length,0⟩) l.length none∧h[id]? = some b∧b.cells=l.map byteAV∧b.sz=1∧b.floor≤l.length∧b.ro=false∧b.ex=false∧b.gl=false∧b.ty=some E∧l≠[]
theorem eR.upd {E:TypeId} {M:Nat→Prop} {h h':aA} {v:AV} {l:List UInt8} (B:eR E h v l) (U:Upd M h h') (hM:∀ i,aQ v i→¬ M i):eR E h' v l:=by
 rcases B with B | ⟨id,b,rfl,h1,h2⟩
 ·exact .inl B
 ·exact .inr ⟨id,b,rfl,(U.2 id (aM h1) (hM id rfl)).trans h1,h2⟩
theorem eR.lt {E:TypeId} {h:aA} {v:AV} {l:List UInt8} (B:eR E h v l) {i:Nat} (hi:aQ v i):i<h.length:=by
 rcases B with ⟨rfl,_⟩ | ⟨id,b,rfl,h1,h2⟩
 ·exact hi.elim
 ·cases hi; exact aM h1
theorem eR.append {E:TypeId} {h:aA} {v x:AV} {l t:List UInt8} (B:eR E h v l) (hx:∀ K:List AV→Nat→Prop,K (t.map byteAV) t.length→eK 1 x h K) (hlen:l.length+t.length≤140737488355328) {K:AV→aA→Prop}
  (hk:∀ v' h',Upd (aQ v) h h'→eR E h' v' (l++t)→(∀ i,aQ v' i→aQ v i∨h.length≤i)→K v' h'):bW (some E) 1 1 v x h K:=by
 refine ⟨by decide,hx _ ?_⟩
 have hok:(t.map byteAV).all AV.cellOK=true:=by
  rw [List.all_eq_true]; intro x hx
  obtain ⟨c,_,rfl⟩:=List.mem_map.1 hx
  rfl
 rcases B with ⟨rfl,rfl⟩ | ⟨id,b,rfl,h1,h2,h3,h4,h5,h6,h7,h8,h9⟩
 ·refine ⟨by simp only [List.length_nil] at hlen; omega, by simp only [List.length_nil] at hlen; omega, ?_⟩
  by_cases ht:t=[]
  ·subst ht
   show K (.sl none 0 none) h
   exact hk _ _ (Upd.refl _ _) (.inl ⟨rfl,rfl⟩) fun i hi=>.inl hi
  ·have htl : t.length ≠ 0 := by simpa using ht
   rw [if_neg htl]
   refine hk _ _ ((Upd.app _ _).mono fun _ _ h=>h.elim) (.inr ⟨h.length,bE (t.map byteAV) 1 false (some E),by simp,by simp,rfl,rfl,by simp [bE],rfl,rfl,rfl,rfl,by simpa using ht⟩) fun i hi=>.inr ?_
   cases hi; exact Nat.le_refl _
 ·have hidl := aM h1
  have hbl:b.cells.length=l.length:=by rw [h2]; simp
  have hll:0<l.length:=List.length_pos_iff.2 h9
  refine ⟨by omega,by omega,b,h1,h3,⟨h4,by rw [hbl]; exact Nat.le_refl _,by simp⟩, ?_⟩
  by_cases ht:t=[]
  ·subst ht
   left
   exact ⟨rfl,hk _ _ (Upd.refl _ _) (.inr ⟨id,b,by simp,h1,by simpa using h2,h3,by simpa using h4,h5,h6,h7,h8,by simpa using h9⟩) fun i hi=>.inl hi⟩
  ·have htl : 0 < t.length := List.length_pos_iff.2 ht
   right; right; right; left
   refine ⟨htl,h5,hbl.symm,rfl,by rw [hbl]; simp,rfl,h6,h7,hok, ?_⟩
   have hty:fF b.ty (some E)=some E:=by rw [h8]; simp [fF]
   refine hk _ _ ((Upd.set _ _ _).mono fun i _ h=>h.symm) (.inr ⟨id,{ b with cells:=b.cells++t.map byteAV,ty:=fF b.ty (some E) },by simp [hbl],List.getElem?_set_self hidl,by simp [h2],h3,by simp; omega,h5,h6,h7,hty,by simp [h9]⟩) fun i hi=>.inl ?_
   exact hi
section
variable {P:Program} {T E:TypeId} {h:aA} {id off:Nat} {cs:List AV} {buf:AV} {l:List UInt8}
theorem qL {t:TypeId} {K:AV→Prop} (ht:lA P t=true) (hk:K (.b true)):dS P .eql t (.p none) (.p none) K:=by
 simp only [dS,ht,cond_true]; exact hk
theorem dI {t:TypeId} {a:AA} {K:AV→Prop} (ht:lA P t=true) (hk:K (.b false)):dS P .eql t (.p (some a)) (.p none) K:=by
 simp only [dS,ht,cond_true]; exact hk
end
end Go.GAM
namespace Go.GAM
abbrev aAE:=List AV→aA→(AV→aA→Prop)→Prop
def aF0 (T:List (FuncId × aAE)):aZ:=fun f args h K=>∃ X,(f,X)∈T∧X args h K
section
variable {P:Program} {w0:World} {Fz:Nat→Prop} {μ:Mu} {own:Nat→Option Nat} {h:aA} {w:World}
def aIQ (P:Program) (r:FuncId × aAE):Prop:=r.1<yid0∧∃ ex,aES P r.1 ex∧aG8 P ex r.2
theorem xL {T:List (FuncId × aAE)} (hT:∀ r∈T,aIQ P r):kL P (aF0 T):=by
 rintro w0 Fz μb f args h K ⟨X,hm,hk⟩
 obtain ⟨hlt,ex,hA,hE⟩:=hT _ hm
 exact hA.sim hE hlt hk
end
open Go.RowKit in
theorem vA {P:Program} {X:aZ} (hm:P.follows .mixedOrders=true) (hsz:P.funcs.size≤yid0) {w:World} (hX:cA P w (fun B=>B<w.heap.size) (fun _ _=>none) X) {f:FuncId} (hb:oD P f=true) {szOf:Nat→Nat} {avs:List AV} {args:Array Value}
  (hv:VRels (muC w szOf) avs args.toList) (hk:dW P X f avs (dX w szOf) Yes):Calls P f args w fun e w'=>e = .returned (.bool true)∧Below w.heap.size w w':=by
 have hlt:f<yid0:=by
  unfold oD at hb
  split at hb
  ·rename_i fn hf; exact Nat.lt_of_lt_of_le (Array.getElem?_eq_some_iff.1 hf).1 hsz
  ·cases hb
 have hs:=gU hm hsz hX f avs _ _ hk (muC w szOf) (aD8 w) w args.toList (fun _ _ _ h=>by cases h) (aCK w szOf) hv
 rw [if_pos hlt] at hs
 have hrun:=qD hb args w
 rcases hs with ⟨g,as',h1,h2⟩ | ⟨v,w',h1,h2⟩
 ·rw [Array.toArray_toList, hrun] at h1
  cases h1
  refine h2.mono fun e w' ⟨v,he,v',μ',own',h',g1,g2,g3,g4⟩=>?_
  subst he
  have g1:v' = .b true:=g1
  subst g1
  cases g2
  exact ⟨rfl,g3.os,g3.tape,g3.output,g3.size0,fun k hk=>(g3.fz k hk).2⟩
 ·rw [Array.toArray_toList,hrun] at h1; cases h1
end Go.GAM
set_option maxRecDepth 20000
namespace Go.Proofs.YtpaphfeihpgamaaDoor
open Go.GAM
theorem mixedOK:prog.follows .mixedOrders=true:=by kernel_rfl
theorem sizeOK:prog.funcs.size≤yid0:=Nat.le_of_ble_eq_true (by kernel_rfl)
def aFF:List (FuncId × aAE):=[]
theorem aGA:∀ r∈aFF,aIQ prog r:=fun r hr=>by cases hr
theorem rE:kL prog (aF0 aFF):=xL aGA
end Go.Proofs.YtpaphfeihpgamaaDoor
namespace Go.GAM
open Go.RowKit Go.ChangeShapes
section
variable {H:Type} {enc:TypeId × Value→H} {P:Program} {w:World} {szOf:Nat→Nat}
theorem uW {x : Addr} {len cap sz : Nat} {vs : List Value} (hl : len ≤ cap) (hc0 : cap ≠ 0) (hz : 0 < sz) (hs : szOf x.block ≤ sz) (hlen : vs.length = cap * sz) (hv : ∀ i, i < vs.length → w.cell? (x.add i) = some (vs.getD i undef)) :
  ∃ ver b,iC w szOf (.slice (some x) len cap) = .sl (some ⟨x.block,ver,x.off⟩) len (some cap)∧(dX w szOf)[x.block]? = some b∧b.floor≤ver∧ver≤b.cells.length∧x.off+len * sz≤ver∧(b.cells.drop x.off).take (len * sz)=(vs.take (len * sz)).map (iC w szOf):=by
 obtain ⟨B,off,spot⟩:=x
 simp only at hs ⊢
 have hpos:0<vs.length:=by rw [hlen]; exact Nat.mul_pos (by omega) hz
 have cellAdd:∀ i v,spot=none→w.cell? ((⟨B,off,spot⟩:Addr).add i)=some v→∃ c el fr,w.heap[B]? = some (.cells c el fr)∧c[off+i]? = some v:=by
  intro i v hs h
  subst hs
  have e:(⟨B,off,none⟩:Addr).add i=⟨B,off+i,none⟩:=by
   unfold Addr.add
   by_cases hi:i=0
   ·subst hi; simp
   ·simp [hi]
  rw [e] at h
  unfold World.cell? at h
  split at h
  ·rename_i c el fr hh
   exact ⟨c,el,fr,hh,by simpa using h⟩
  ·cases h
 have hsp:spot=none:=by
  have h0:=hv 0 hpos
  unfold World.cell? at h0
  split at h0
  ·cases spot with
   | none=>rfl
   | some s=>simp [Addr.add] at h0
  ·cases h0
 subst hsp
 obtain ⟨c,el,fr,hh,_⟩:=cellAdd 0 _ rfl (hv 0 hpos)
 ·have hcell : ∀ i, i < vs.length → c[off + i]? = some (vs.getD i undef) := fun i hi => by
   obtain ⟨c',el',fr',h1,h2⟩:=cellAdd i _ rfl (hv i hi)
   rw [hh] at h1; cases h1; exact h2
  have hsize:off+cap * sz≤c.size:=by
   have:=hcell (vs.length - 1) (by omega)
   have:=(Array.getElem?_eq_some_iff.1 this).1
   omega
  have hshape:w.shape? B=some (el,c.size):=by unfold World.shape?; rw [hh]
  have hlc:len * sz≤cap * sz:=Nat.mul_le_mul_right _ hl
  have hsz2:cap * szOf B≤cap * sz:=Nat.mul_le_mul_left _ hs
  refine ⟨c.size,nD w szOf B, ?_,rA (mC hshape), ?_, ?_,by omega, ?_⟩
  ·simp only [iC, lH]
   rw [if_neg hc0,hshape]
   simp only
   rw [if_pos ⟨hl,by omega⟩]
  ·unfold nD; rw [hh]; exact Nat.le_refl _
  ·unfold nD; rw [hh]; simp
  ·unfold nD; rw [hh]
   simp only
   apply List.ext_getElem?
   intro i
   by_cases hi:i<len * sz
   ·rw [List.getElem?_take_of_lt hi, List.getElem?_drop, List.getElem?_map, Array.getElem?_toList, hcell i (by omega), List.getElem?_map, List.getElem?_take_of_lt hi]
    rw [List.getD_eq_getElem?_getD,List.getElem?_eq_getElem (by omega:i<vs.length)]
    first | done | rfl
   ·rw [List.getElem?_eq_none (by simp; omega),List.getElem?_eq_none (by simp; omega)]
theorem aBU {held : Bool} {t e : TypeId} {fuel : Nat} {cs : List Value} {x : DataW H × List MemPlace} (ht : P.underlying t = some (.slice e)) (h : DataW.trod enc P w 0 (fun _ => true) held fuel t cs = some x) :
  cs=[.slice none 0 0]∧x.1 = .nil∨∃ (a:Addr) (len cap n:Nat) (rows:List (List Value)) (ds rs:List (DataW H)),fuel=n+1∧cs=[.slice (some a) len cap]∧x.1 = .slice ds rs∧ds.length=len∧len≤cap∧cap≤maxLen∧rows.length=cap ∧
   (∀ r∈rows,r.length=P.cellsOf e∧∃ y,DataW.trod enc P w 0 (fun _=>true) held n e r=some y)∧(∀ (i:Nat) (r:List Value) (d:DataW H),rows[i]? = some r→ds[i]? = some d→∃ p,DataW.trod enc P w 0 (fun _=>true) held n e r=some (d,p))∧∀ i,i<rows.flatten.length→w.cell? (a.add i)=some (rows.flatten.getD i undef):=by
 rcases DataW.trod_slice ht h with ⟨h0,h1⟩ | ⟨a,len,cap,elems,rest,n,hf,rfl,hx,hb,hl,hm,hlen,hel,hsp,hns⟩
 ·exact .inl ⟨h0,by rw [h1]⟩
 right
 have each:∀ i,i<cap→∃ r,w.cells? 0 (a.add (i * P.cellsOf e)) (P.cellsOf e)=some r∧∃ y,DataW.trod enc P w 0 (fun _=>true) held n e r=some y∧(i<len→elems[i]? = some y):=by
  intro i hi
  have hb':∃ y,(w.cells? 0 (a.add (i * P.cellsOf e)) (P.cellsOf e)).bind (DataW.trod enc P w 0 (fun _=>true) held n e)=some y∧(i<len→elems[i]? = some y):=by
   by_cases h1:i<len
   ·rw [hel i h1]
    exact ⟨_,List.getElem?_eq_getElem (by omega),fun _=>List.getElem?_eq_getElem (by omega)⟩
   ·obtain ⟨h2, h3⟩ := hsp rfl
    have:=h3 (i - len) (by omega)
    rw [show len+(i - len)=i by omega] at this
    rw [this]
    exact ⟨_,List.getElem?_eq_getElem (by omega),fun h=>absurd h h1⟩
  obtain ⟨y,hy,hy2⟩:=hb'
  obtain ⟨r,h1,h2⟩:=Option.bind_eq_some_iff.1 hy
  exact ⟨r,h1,y,h2,hy2⟩
 refine ⟨a,len,cap,n,(List.range cap).map fun i=>(w.cells? 0 (a.add (i * P.cellsOf e)) (P.cellsOf e)).getD [],elems.map (·.1),rest.map (·.1),hf,rfl,by rw [hx],by simp [hlen],hl,hm,by simp, ?_, ?_, ?_⟩
 ·intro r hr
  obtain ⟨i,hi,rfl⟩:=List.mem_map.1 hr
  obtain ⟨r,h1,y,h2,_⟩:=each i (by simpa using hi)
  rw [h1]
  exact ⟨(World.cells?_some h1).2.1,y,h2⟩
 ·intro i r d hr hd
  simp only [List.getElem?_map,Option.map_eq_some_iff] at hr hd
  obtain ⟨i',hi',rfl⟩:=hr
  obtain ⟨hlt,rfl⟩:=List.getElem?_eq_some_iff.1 hi'
  rw [List.getElem_range]
  obtain ⟨y,hy,rfl⟩:=hd
  obtain ⟨r,h1,y',h2,h3⟩:=each i (by simpa using hlt)
  have hil:i<elems.length:=(List.getElem?_eq_some_iff.1 hy).1
  have:=h3 (by omega)
  rw [hy] at this
  cases this
  rw [h1]
  exact ⟨y.2,h2⟩
 ·have := qH (w := w) (a := a) (sz := P.cellsOf e) ((List.range cap).map fun i => (w.cells? 0 (a.add (i * P.cellsOf e)) (P.cellsOf e)).getD []) 0 (fun i r hi => by
   simp only [List.getElem?_map,Option.map_eq_some_iff] at hi
   obtain ⟨i',hi',rfl⟩:=hi
   obtain ⟨hlt,rfl⟩:=List.getElem?_eq_some_iff.1 hi'
   rw [List.getElem_range]
   obtain ⟨r,h1,_⟩:=each i (by simpa using hlt)
   rw [h1]
   have hs:=World.cells?_some h1
   refine ⟨hs.2.1,fun j hj=>?_⟩
   have:=hs.2.2 j hj
   rw [Addr.add_add] at this
   rw [Nat.zero_add,this]
   simp [hs.2.1,hj])
  simpa using this
end
end Go.GAM
namespace Go.GAM
open Go.RowKit Go.ChangeShapes
theorem Upd.own {h h1 h2:aA} {id:Nat} (a:Upd (fun _=>False) h h1) (b:Upd (· = id) h1 h2) (hid:h.length≤id):Upd (fun _=>False) h h2:=a.trans b fun i hi e=>by omega
theorem Upd.ownP {M:Nat→Prop} {h h1 h2:aA} (a:Upd (fun _=>False) h h1) (b:Upd M h1 h2) (hM:∀ i,M i→h.length≤i):Upd (fun _=>False) h h2:=a.trans b fun i hi e=>by have:=hM i e; omega
theorem Upd.then {h h1 h2:aA} (a:Upd (fun _=>False) h h1) (b:Upd (fun _=>False) h1 h2):Upd (fun _=>False) h h2:=a.trans b fun _ _ h=>h
theorem aAI {zeros cs:List AV} {parts:List (Nat × Nat × AV)} {K:AV→Prop} (hf:eQ zeros parts=some cs) (hk:K (.ag cs)):fY zeros parts K:=by
 unfold fY; rw [hf]; exact hk
def RdI (sz:Nat) (h:aA) (v:AV) (cs:List AV) (len:Nat):Prop:=
 (v = .sl none 0 none∧len=0∧cs=[])∨(len=0∧cs=[]∧∃ a c,v = .sl (some a) 0 c)∨∃ id ver off cap b,v = .sl (some ⟨id,ver,off⟩) len cap∧h[id]? = some b∧b.floor≤ver∧ver≤b.cells.length∧off+len * sz≤ver∧(b.cells.drop off).take (len * sz)=cs
theorem Rd.i {sz:Nat} {h:aA} {v:AV} {cs:List AV} {len:Nat} (R:Rd sz h v cs len):RdI sz h v cs len:=by
 rcases R with h1 | ⟨id,ver,off,cap,b,h1,h2,h3,h4⟩
 ·exact .inl h1
 ·exact .inr (.inr ⟨id,ver,off,cap,b,h1,h2,h4⟩)
theorem RdI.ext {sz:Nat} {h h':aA} {v:AV} {cs:List AV} {len:Nat} (R:RdI sz h v cs len) (U:Upd (fun _=>False) h h'):RdI sz h' v cs len:=by
 rcases R with h1 | h1 | ⟨id,ver,off,cap,b,rfl,h2,h3⟩
 ·exact .inl h1
 ·exact .inr (.inl h1)
 ·exact .inr (.inr ⟨id,ver,off,cap,b,rfl,(U.2 id (aM h2) fun h=>h).trans h2,h3⟩)
theorem RdI.len {sz:Nat} {h:aA} {v:AV} {cs:List AV} {len:Nat} (R:RdI sz h v cs len) {K:Int→Prop} (hk:K len):bK v K:=by
 rcases R with ⟨rfl,rfl,rfl⟩ | ⟨rfl,_,a,c,rfl⟩ | ⟨id,ver,off,cap,b,rfl,h2⟩ <;> exact hk
def vJ (sz:Nat) (h:aA) (p:AV) (cs:List AV):Prop:=∃ id ver off,p = .p (some ⟨id,ver,off⟩)∧∃ b:ABlk,h[id]? = some b∧b.floor≤ver∧ver≤b.cells.length∧off+sz≤ver∧(b.cells.drop off).take sz=cs
theorem RdI.at {sz:Nat} {h:aA} {v:AV} {cs:List AV} {len:Nat} (R:RdI sz h v cs len) {i:Nat} (h1:i<len):∃ p,vJ sz h p ((cs.drop (i * sz)).take sz)∧∀ (k:IntKind) (h':aA) (K:AV→Prop),Upd (fun _=>False) h h'→K p→aN sz v (.i k (i:Int)) h' K:=by
 rcases R with ⟨rfl,rfl,rfl⟩ | ⟨rfl,_⟩ | ⟨id,ver,off,cap,b,rfl,h2,h4,h5,h6,rfl⟩
 ·omega
 ·omega
 ·have e1 : (i + 1) * sz ≤ len * sz := Nat.mul_le_mul_right _ (by omega)
  rw [Nat.add_mul] at e1
  refine ⟨.p (some ⟨id,ver,off+i * sz⟩),⟨id,ver,off+i * sz,rfl,b,h2,h4,h5,by omega, ?_⟩,fun k h' K U hk=>?_⟩
  ·rw [List.drop_take,List.drop_drop,List.take_take,Nat.min_eq_left (by omega)]
  ·refine ⟨by omega, by omega, ⟨b, (U.2 id (aM h2) fun h => h).trans h2, h4, by omega⟩, ?_⟩
   simpa using hk
theorem vJ.ext {sz:Nat} {h h':aA} {p:AV} {cs:List AV} (A:vJ sz h p cs) (U:Upd (fun _=>False) h h'):vJ sz h' p cs:=by
 obtain ⟨id,ver,off,rfl,b,h1,h2⟩:=A
 exact ⟨id,ver,off,rfl,b,(U.2 id (aM h1) fun h=>h).trans h1,h2⟩
theorem vJ.loadN {sz:Nat} {h:aA} {p:AV} {cs:List AV} (A:vJ sz h p cs) {K:AV→Prop} (hk:K (.ag cs)):dA sz p h K:=by
 obtain ⟨id,ver,off,rfl,b,h1,h2,h3,h4,rfl⟩:=A
 exact ⟨b,h1,⟨h2,h3,h4⟩,hk⟩
theorem vJ.load1 {h:aA} {p:AV} {c:AV} (A:vJ 1 h p [c]) {K:AV→Prop} (hk:K c):aD p h K:=by
 obtain ⟨id,ver,off,rfl,b,h1,h2,h3,h4,h5⟩:=A
 refine ⟨b,h1,⟨h2,h3,h4⟩, ?_⟩
 have:b.cells[off]? = some c:=by
  have:((b.cells.drop off).take 1)[0]? = some c:=by rw [h5] <;> rfl
  rw [List.getElem?_take_of_lt (by omega),List.getElem?_drop] at this
  simpa using this
 show K (b.cells.getD off .u)
 rw [getD_some this]; exact hk
theorem RdI.str {h h':aA} {v:AV} {l:List (List UInt8)} (R:RdI 1 h v (l.map .s) l.length) (U:Upd (fun _=>False) h h') {k:IntKind} {i:Nat} {x:List UInt8} (hx:l[i]? = some x) {K:List UInt8→Prop} (hk:K x):aN 1 v (.i k (i:Int)) h' fun a=>aD a h' fun y=>asS y K:=by
 obtain ⟨p,A,hp⟩:=R.at (aM hx)
 have e:((l.map AV.s).drop (i * 1)).take 1=[.s x]:=by
  rw [Nat.mul_one, ← List.map_drop,yX hx] <;> rfl
 rw [e] at A
 exact hp k h' _ U ((A.ext U).load1 (bR hk))
theorem RdI.news {sz:Nat} {h:aA} {v:AV} {cs:List AV} {len:Nat} (R:RdI sz h v cs len) {K:List AV→Nat→Prop} (hk:K cs len):eK sz v h K:=by
 rcases R with ⟨rfl,rfl,rfl⟩ | ⟨rfl,rfl,a,c,rfl⟩ | ⟨id,ver,off,cap,b,rfl,h2,h3,h4,h5,h6⟩
 ·exact hk
 ·exact .inl ⟨rfl,hk⟩
 ·refine .inr ⟨b, h2, ⟨h3, h4, h5⟩, ?_⟩
  rw [h6]; exact hk
section
variable {H:Type} {enc:TypeId × Value→H} {P:Program} {w:World} {t:TypeId} {cs:List Value}
def InW (enc:TypeId × Value→H) (P:Program) (w:World) (t:TypeId) (cs:List Value):Prop:=
 ∃ fuel d p,DataW.trod enc P w 0 (fun _=>true) true fuel t cs=some (d,p)∧∀ m∈d.weights P t,m≤reachBytes
theorem fD {m:Nat}:∀ (ts:List TypeId) (ds:List (DataW H)) (i:Nat) (t:TypeId) (d:DataW H),ts[i]? = some t→ds[i]? = some d→m∈d.weights P t→m∈DataW.weightsEach P ts ds
 | [],_,_,_,_,h,_,_=>by simp at h
 | _ :: _,[],_,_,_,_,h,_=>by simp at h
 | t' :: ts, d' :: ds, 0, t, d, h1, h2, h => by
  simp at h1 h2; subst h1; subst h2
  unfold DataW.weightsEach
  exact List.mem_append_left _ h
 | t' :: ts, d' :: ds, i + 1, t, d, h1, h2, h => by
  unfold DataW.weightsEach
  exact List.mem_append_right _ (fD ts ds i t d (by simpa using h1) (by simpa using h2) h)
theorem jZ {m:Nat} {e:TypeId}:∀ (ds:List (DataW H)) (d:DataW H),d∈ds→m∈d.weights P e→m∈DataW.weightsAll P e ds
 | [],_,h,_=>by cases h
 | d' :: ds, d, h1, h => by
  unfold DataW.weightsAll
  rcases List.mem_cons.1 h1 with rfl | h1
  ·exact List.mem_append_left _ h
  ·exact List.mem_append_right _ (jZ ds d h1 h)
theorem wY:reachBytes=140737488351232:=by unfold reachBytes; rfl
theorem InW.str (ht:P.underlying t=some .string) (h:InW enc P w t cs):∃ s:ByteArray,cs=[.string s]∧s.data.toList.length≤140737488351232:=by
 obtain ⟨fuel,d,p,h1,h2⟩:=h
 obtain ⟨s,e1,e2,_⟩:=DataW.trod_string ht h1
 refine ⟨s,e1, ?_⟩
 cases e2
 have:=h2 s.data.toList.length (by unfold DataW.weights; exact List.mem_singleton.2 rfl)
 rw [wY] at this; exact this
theorem InW.int {k:IntKind} (ht:P.underlying t=some (.int k)) (h:InW enc P w t cs):∃ n,cs=[.int k n]∧(Lit.int k n).wf=true:=by
 obtain ⟨fuel,d,p,h1,h2⟩:=h
 obtain ⟨n,e1,_,e3⟩:=DataW.trod_int ht h1
 exact ⟨n,e1,e3⟩
theorem InW.struct {fs:Array Field} (ht:P.underlying t=some (.struct fs)) (h:InW enc P w t cs):cs.length=P.cellsOf t∧∀ (i:Nat) (f:Field),fs[i]? = some f→InW enc P w f.type ((cs.drop f.offset).take (P.cellsOf f.type)):=by
 obtain ⟨fuel,d,p,h1,h2⟩:=h
 obtain ⟨xs,n,_,hx,hlen,hl,hf⟩:=DataW.trod_struct ht h1
 refine ⟨hlen,fun i f hi=>?_⟩
 have hi':i<fs.size:=(Array.getElem?_eq_some_iff.1 hi).1
 have hxi:xs[i]? = some (xs[i]'(by omega)):=List.getElem?_eq_getElem _
 generalize xs[i]'(by omega)=y at hxi
 obtain ⟨d',p'⟩:=y
 refine ⟨n,d',p',(hf i f hi).trans hxi,fun m hm=>h2 m ?_⟩
 have hd:d = .agg (xs.map (·.1)):=congrArg Prod.fst hx
 subst hd
 unfold DataW.weights
 rw [ht]
 refine fD _ _ i f.type d' ?_ ?_ hm
 ·rw [List.getElem?_map,Array.getElem?_toList,hi] <;> rfl
 ·rw [List.getElem?_map,hxi] <;> rfl
theorem InW.slice {e:TypeId} {sz:Nat} (ht:P.underlying t=some (.slice e)) (hc:P.cellsOf e=sz) (hz:0<sz) (h:InW enc P w t cs) :
  ∃ (v : Value) (rows : List (List Value)), cs = [v] ∧ RdI sz (dX w fun _ => 1) (iC w (fun _ => 1) v) (rows.flatten.map (iC w fun _ => 1)) rows.length ∧ rows.length ≤ maxLen ∧ rows.length * P.bytesOf e ≤ 140737488351232 ∧ (∀ r ∈ rows, r.length = sz ∧ InW enc P w e r) ∧
   aU (muC w fun _=>1) (iC w (fun _=>1) v) v:=by
 obtain ⟨fuel,d,p,h1,h2⟩:=h
 rcases aBU ht h1 with ⟨rfl,_⟩ | ⟨a,len,cap,n,rows,ds,rs,hf,rfl,hx,hdl,hl,hm,hrl,hr,hrd,hcell⟩
 ·exact ⟨_,[],rfl,.inl ⟨rfl,rfl,rfl⟩,by simp,by simp,(fun r hr=>by cases hr),mQ _⟩
 have hd:d = .slice ds rs:=hx
 subst hd
 unfold DataW.weights at h2
 rw [ht] at h2
 have hb:len * P.bytesOf e≤140737488351232:=by
  have:=h2 _ (List.mem_cons_self)
  rw [wY,hdl] at this
  exact Nat.le_trans (Nat.mul_le_mul_right _ (by omega)) this
 have hlen:=wI rows fun r hr'=>(hr r hr').1.trans hc
 have each:∀ r∈rows.take len,r.length=sz∧InW enc P w e r:=fun r hr'=>by
  obtain ⟨i,hi,he⟩:=List.getElem_of_mem hr'
  rw [List.length_take,hrl] at hi
  have hri:rows[i]? = some r:=by
   rw [← he,List.getElem_take,List.getElem?_eq_getElem]
  have hdi:ds[i]? = some (ds[i]'(by omega)):=List.getElem?_eq_getElem _
  obtain ⟨p',hp⟩:=hrd i r _ hri hdi
  refine ⟨(hr r (List.mem_of_mem_take hr')).1.trans hc,n,_,p',hp,fun m hm'=>h2 m ?_⟩
  exact List.mem_cons_of_mem _ (List.mem_append_left _ (jZ ds _ (List.getElem_mem _) hm'))
 by_cases hc0:cap=0
 ·subst hc0
  have hl0:len=0:=by omega
  subst hl0
  exact ⟨.slice (some a) 0 0,[],rfl,.inr (.inl ⟨rfl,rfl,⟨w.heap.size,0,0⟩,some 0,rfl⟩),by simp,by simp,(fun r hr=>by cases hr),mQ _⟩
 ·obtain ⟨ver, b, g1, g2, g3, g4, g5, g6⟩ := uW (szOf := fun _ => 1) hl hc0 hz hz (by rw [hlen, hrl]) hcell
  rw [sQ rows len fun r hr'=>(hr r hr').1.trans hc] at g6
  have hlt:(rows.take len).length=len:=by rw [List.length_take,hrl]; omega
  refine ⟨_,rows.take len,rfl,.inr (.inr ⟨a.block,ver,a.off,some cap,b, ?_,g2,g3,g4, ?_, ?_⟩),by omega,by rw [hlt]; exact hb,each,mQ _⟩
  ·rw [g1,hlt]
  ·rw [hlt]; exact g5
  ·rw [hlt,g6]
theorem y9 {α:Type} (f:α→List AV) (g:Value→AV) (good:α→Prop):∀ rows:List (List Value),(∀ r∈rows, ∃ x:α,r.map g=f x∧good x)→∃ l:List α,rows.flatten.map g=l.flatMap f∧rows.length=l.length∧∀ x∈l,good x
 | [],_=>⟨[],rfl,rfl,fun _ h=>by cases h⟩
 | r :: rows, h => by
  obtain ⟨l,h1,h2,h3⟩:=y9 f g good rows fun r hr=>h r (by simp [hr])
  obtain ⟨x,g1,g2⟩:=h r (by simp)
  refine ⟨x :: l,by simp [g1,h1],by simp [h2],fun y hy=>?_⟩
  rcases List.mem_cons.1 hy with rfl | hy
  ·exact g2
  ·exact h3 y hy
theorem InW.strs {e:TypeId} (ht:P.underlying t=some (.slice e)) (he:P.underlying e=some .string) (hc:P.cellsOf e=1) (h:InW enc P w t cs) :
  ∃ (v:Value) (l:List (List UInt8)),cs=[v]∧RdI 1 (dX w fun _=>1) (iC w (fun _=>1) v) (l.map .s) l.length∧l.length≤maxLen∧l.length * P.bytesOf e≤140737488351232∧(∀ x∈l,x.length≤140737488351232)∧aU (muC w fun _=>1) (iC w (fun _=>1) v) v:=by
 obtain ⟨v,rows,rfl,R,h1,h2,h3,h4⟩:=h.slice ht hc (by decide)
 obtain ⟨l,g1,g2,g3⟩:=y9 (fun x:List UInt8=>[AV.s x]) (iC w fun _=>1) (fun x=>x.length≤140737488351232) rows fun r hr=>by
  obtain ⟨_,k⟩:=h3 r hr
  obtain ⟨s,rfl,hs⟩:=k.str he
  exact ⟨s.data.toList,rfl,hs⟩
 rw [oT] at g1
 rw [g1,g2] at R
 exact ⟨v,l,rfl,R,g2 ▸ h1,g2 ▸ h2,g3,h4⟩
theorem pB:∀ {ts:List TypeId} {vs:List Value} {ds:List (DataW H)} {ps:List MemPlace},DataW.TrodAll enc P w 0 (fun _=>true) true ts vs ds ps→∀ (i:Nat) (t:TypeId) (v:Value),ts[i]? = some t→vs[i]? = some v→∃ d p,ds[i]? = some d∧DataW.Trod enc P w 0 (fun _=>true) true t v d p
 | [],_,_,_,_,i,t,v,h,_=>by simp at h
 | _ :: _,[],_,_,_,i,t,v,_,h=>by simp at h
 | _ :: _,_ :: _,[],_,h,_,_,_,_,_=>by simp [DataW.TrodAll] at h
 | t' :: ts, v' :: vs, d' :: ds, ps, h, 0, t, v, h1, h2 => by
  simp at h1 h2; subst h1; subst h2
  obtain ⟨p,q,g1,_⟩:=h
  exact ⟨d',p,rfl,g1⟩
 | t' :: ts, v' :: vs, d' :: ds, ps, h, i + 1, t, v, h1, h2 => by
  obtain ⟨p,q,_,g2,_⟩:=h
  exact pB g2 i t v (by simpa using h1) (by simpa using h2)
theorem sized_reads {f:Func} {vars:List String} {ap:Bool} {args:Array Value} {ds gs:List (DataW H)} {before:List MemPlace} {vts:List TypeId} (hW:DataW.Whole enc P f.params.toList vars ap w args.toList ds gs before)
  (hw:(DataW.weightsEach P (f.params.toList++vts) (ds++gs)).all (· ≤ reachBytes)=true) (i:Nat) (t:TypeId) (v:Value) (h1:f.params[i]? = some t) (h2:args[i]? = some v):InW enc P w t v.cells.toList:=by
 obtain ⟨p,q,hA,_⟩:=hW
 have h1':f.params.toList[i]? = some t:=by rw [Array.getElem?_toList]; exact h1
 obtain ⟨d,p',g1,fuel,g2⟩:=pB hA i t v h1' (by rw [Array.getElem?_toList]; exact h2)
 refine ⟨fuel,d,p',g2,fun m hm=>?_⟩
 have:=List.all_eq_true.1 hw m (fD _ _ i t d ?_ ?_ hm)
 ·simpa using this
 ·rw [List.getElem?_append_left (aM h1')]; exact h1'
 ·rw [List.getElem?_append_left (aM g1)]; exact g1
end
end Go.GAM
namespace Go.GAM
theorem bF {a:AA} {K:AV→Prop}:aS (.p (some a)) K=K (.p (some a)):=rfl
theorem bD {id ver off o:Nat} {K:AV→Prop}:aB o (.p (some ⟨id,ver,off⟩)) K=K (.p (some ⟨id,ver,off+o⟩)):=rfl
theorem iH {n:Int} {K:Int→Prop}:asI .i64 (.i .i64 n) K=K n:=rfl
theorem cW {a:AV} {l:List AV} {K:AV→Prop}:aO 0 (.tu (a :: l)) K=K a:=propext ⟨fun h=>h.2,fun h=>⟨by simp,h⟩⟩
theorem cX {a b:AV} {l:List AV} {K:AV→Prop}:aO 1 (.tu (a :: b :: l)) K=K b:=propext ⟨fun h=>h.2,fun h=>⟨by simp,h⟩⟩
theorem yK {a b c:AV} {l:List AV} {K:AV→Prop}:aO 2 (.tu (a :: b :: c :: l)) K=K c:=propext ⟨fun h=>h.2,fun h=>⟨by simp,h⟩⟩
theorem oI {v:AV} {A:Prop}:(v=v∧A)=A:=by simp
theorem aIX {h:aA} {id n o:Nat} {cs:List AV} {v:AV} {K:AV→Prop} (R:bC h id cs) (hn:n=cs.length) (hc:cs[o]? = some v):aD (.p (some ⟨id,n,o⟩)) h K=K v:=by
 refine propext ⟨fun hk=>?_,fun hk=>aE R hn hc hk⟩
 obtain ⟨b,h1,_,h2⟩:=hk
 obtain ⟨b',g1,g2,_⟩:=R
 have h1:h[id]? = some b:=h1
 rw [g1] at h1
 cases h1
 have h2:K (b.cells.getD o .u):=h2
 rw [g2,getD_some hc] at h2
 exact h2
theorem aIB {h:aA} {id n o k:Nat} {cs:List AV} {K:AV→Prop} (R:bC h id cs) (hn:n=cs.length) (hk:o+k≤cs.length):dA k (.p (some ⟨id,n,o⟩)) h K=K (.ag ((cs.drop o).take k)):=by
 obtain ⟨b,g1,g2,g3,g4⟩:=R
 refine propext ⟨fun h'=>?_,fun h'=>⟨b,g1,⟨by rw [hn]; exact g3,by rw [hn,g2]; exact Nat.le_refl _,by rw [hn]; exact hk⟩,by rw [g2]; exact h'⟩⟩
 obtain ⟨b',h1,_,h2⟩:=h'
 have h1:h[id]? = some b':=h1
 rw [g1] at h1
 cases h1
 rw [g2] at h2
 exact h2
def ptr (v:AV) (sz i o:Nat):AV:=match v with
 | .sl (some a) _ _=>.p (some ⟨a.id,a.ver,a.off+i * sz+o⟩)
 | _=>.u
theorem aEE {sz:Nat} {h:aA} {v:AV} {cs:List AV} {len:Nat} (R:RdI sz h v cs len) {k:IntKind} {n:Int} (h0:0≤n) (h1:n<len) {K:AV→Prop}:aN sz v (.i k n) h K=K (ptr v sz n.toNat 0):=by
 rcases R with ⟨rfl,rfl,rfl⟩ | ⟨rfl,_⟩ | ⟨id,ver,off,cap,b,rfl,h2,h4,h5,h6,h7⟩
 ·omega
 ·omega
 ·exact propext ⟨fun hk=>hk.2.2.2,fun hk=>⟨h0,h1,⟨b,h2,h4,by omega⟩,hk⟩⟩
theorem aDT {v:AV} {sz i o:Nat} {h:aA} {cs:List AV} {len:Nat} {c:AV} (R:RdI sz h v cs len) (hi:i<len) (ho:o<sz) (hc:cs[i * sz+o]? = some c) {K:AV→Prop}:aD (ptr v sz i o) h K=K c:=by
 rcases R with ⟨rfl,rfl,rfl⟩ | ⟨rfl,_⟩ | ⟨id,ver,off,cap,b,rfl,h2,h4,h5,h6,h7⟩
 ·omega
 ·omega
 ·have e1 : (i + 1) * sz ≤ len * sz := Nat.mul_le_mul_right _ (by omega)
  rw [Nat.add_mul] at e1
  have hcell:b.cells.getD (off+i * sz+o) .u=c:=by
   rw [← h7,List.getElem?_take_of_lt (by omega),List.getElem?_drop] at hc
   exact getD_some (by rw [← hc]; congr 1; omega)
  refine propext ⟨fun hk=>?_,fun hk=>⟨b,h2,⟨h4,h5,by simp only; omega⟩,by simp only; rw [hcell]; exact hk⟩⟩
  obtain ⟨b',g1,_,g2⟩:=hk
  have g1:h[id]? = some b':=g1
  rw [h2] at g1
  cases g1
  have g2:K (b.cells.getD (off+i * sz+o) .u):=g2
  rw [hcell] at g2
  exact g2
theorem RdI.upd {sz:Nat} {M:Nat→Prop} {h h':aA} {v:AV} {cs:List AV} {len:Nat} (R:RdI sz h v cs len) (U:Upd M h h') (hM:∀ id,aQ v id→¬ M id):RdI sz h' v cs len:=by
 rcases R with h1 | h1 | ⟨id,ver,off,cap,b,rfl,h2,h3⟩
 ·exact .inl h1
 ·exact .inr (.inl h1)
 ·exact .inr (.inr ⟨id,ver,off,cap,b,rfl,(U.2 id (aM h2) (hM id rfl)).trans h2,h3⟩)
theorem Stk.app1 {ty : Option TypeId} {bytes : Nat} {h : aA} {v x y : AV} {l : List AV} (S : Stk h v l) (R1 : Rd 1 h y [x] 1) (hx : x.cellOK = true) (hlen : (l.length + 1) * bytes ≤ 140737488355328) (hl2 : l.length + 1 ≤ 9223372036854775807) {K : AV → aA → Prop}
  (hk:∀ v' h',Upd (aQ v) h h'→Stk h' v' (l++[x])→(∀ i,aQ v' i→aQ v i∨h.length≤i)→K v' h'):bW ty 1 bytes v y h K:=by
 refine ⟨Nat.one_pos,R1.news ?_⟩
 rcases S with ⟨rfl,rfl⟩ | ⟨id,b,rfl,g1,g2,g3,g4,g5,g6,g7⟩
 ·refine ⟨by simpa using hlen, by omega, ?_⟩
  rw [if_neg (by decide)]
  exact hk _ _ ((Upd.app _ _).mono fun _ _ h=>h.elim) (.inr ⟨h.length,bE [x] 1 false ty,by simp [bE],by simp,rfl,by simp [bE],by simp [bE],by simp [bE],rfl,rfl⟩) fun i hi=>.inr (by have e:h.length=i:=hi; omega)
 ·have hid := aM g1
  refine ⟨hlen,by omega,b,g1,g2,⟨g5,Nat.le_refl _,by simp only; omega⟩, ?_⟩
  by_cases hfull:l.length=b.cells.length
  ·cases hex : b.ex with
   | true =>
    refine .inr (.inl ⟨Nat.one_pos,.inr ⟨rfl,rfl,rfl,by simp only; omega⟩, ?_⟩)
    refine hk _ _ ((Upd.app _ _).mono fun _ _ h=>h.elim) (.inr ⟨h.length,bE (l++[x]) 1 false ty, ?_, ?_,rfl,by simp [bE],by simp only [bE,List.length_append]; exact List.take_of_length_le (by simp),by simp [bE],rfl,rfl⟩) fun i hi=>.inr (by have e:h.length=i:=hi; omega)
    ·simp [bE,g4,g3]
    ·simp [g4]
   | false =>
    refine .inr (.inr (.inr (.inl ⟨Nat.one_pos,g6,rfl,rfl,by omega,rfl,rfl,g7,by simp [hx], ?_⟩)))
    have hcl:b.cells=l:=by rw [hfull,List.take_length] at g4; exact g4
    refine hk _ _ ((Upd.set _ _ _).mono fun i _ h=>h.symm) (.inr ⟨id,{ b with cells:=b.cells++[x],ty:=fF b.ty ty }, ?_,by simp [hid,hex],g2,by simp; omega, ?_,by simp; omega,g6,g7⟩) fun i hi=>.inl hi
    ·simp
    ·simp only [hcl]
     rw [List.take_of_length_le (by simp)]
  ·refine .inr (.inr (.inl ⟨Nat.one_pos, g6, rfl, by simp only; omega, .inl rfl, by simp [hx], ?_⟩))
   refine hk _ _ ((Upd.set _ _ _).mono fun i _ h=>h.symm) (.inr ⟨id,{ b with cells:=wr b.cells (0+l.length * 1) [x],floor:=b.cells.length }, ?_,show (h.set id _)[id]? = some _ from List.getElem?_set_self hid,g2, ?_, ?_, ?_,g6,g7⟩) fun i hi=>.inl hi
   ·simp [wr]
   ·simp [wr]; omega
   ·simp only [wr, Nat.zero_add, Nat.mul_one, List.length_append, List.length_cons, List.length_nil]
    apply List.ext_getElem?
    intro i
    by_cases h1:i<l.length
    ·rw [List.getElem?_take_of_lt (by omega), List.getElem?_set_ne (by omega), List.getElem?_append_left h1]
     conv=>rhs; rw [← g4]
     rw [List.getElem?_take_of_lt h1]
    ·by_cases h2 : i = l.length
     ·subst h2
      rw [List.getElem?_take_of_lt (by omega),List.getElem?_set_self (by omega),List.getElem?_append_right (by omega)]
      simp
     ·rw [List.getElem?_eq_none (by simp; omega),List.getElem?_eq_none (by simp; omega)]
   ·simp [wr]
end Go.GAM
namespace Go.Proofs.YtpaphfeihpgamaaDoor
open Go.GAM
open Go.Infl (bL cV bY Out Lim)
structure DR where
 past:AV
 total:Nat
 fresh:AV
 input:Nat
 last:Bool
 done:Bool
 bad:Bool
 skip:Bool
 rest:List UInt8
 acc:Nat
 have':Nat
 need:Nat
 code:AV
 next:AV
abbrev iN (n:Nat):AV:=.i .i64 (n:Int)
def DR.cells (L:Lim) (r:DR):List AV:=[iN L.output,iN L.ratio,r.past,iN r.total,r.fresh,iN r.input,.b r.last,.b r.done,.b r.bad,.b r.skip,.s r.rest,iN r.acc,iN r.have',iN r.need,r.code,r.next]
abbrev dp (d:Nat):AV:=.p (some ⟨d,16,0⟩)
abbrev cp (c:Nat):AV:=.p (some ⟨c,52,0⟩)
abbrev Fn (f:FuncId) (cap:List AV):AV:=.fn (.func f) [] cap
def bB (l:List Nat):List AV:=l.map fun n:Nat=>.i .i64 (n:Int)
def Mut (d:Nat) (r:DR) (i:Nat):Prop:=i=d∨aQ r.past i∨aQ r.fresh i
structure Dec (L:Lim) (h:aA) (F:Nat→Prop) (d:Nat) (r:DR) (out:List UInt8) (told:Nat):Prop where
 recd:bC h d (r.cells L)
 past:Stk h r.past (out.map byteAV)
 fresh:Stk h r.fresh ((out.drop told).map byteAV)
 total:r.total=out.length
 told:told≤out.length
 d1:¬ aQ r.past d
 d2:¬ aQ r.fresh d
 d3:∀ i,aQ r.past i→¬ aQ r.fresh i
 lim:L.output≤65536∧L.ratio≤1100
 inp:r.input≤1099511627776
 len:out.length≤65536
 f:∀ i,Mut d r i→F i
theorem Dec.lt {L:Lim} {h:aA} {F:Nat→Prop} {d:Nat} {r:DR} {out:List UInt8} {told:Nat} (D:Dec L h F d r out told) {i:Nat} (hi:Mut d r i):i<h.length:=by
 rcases hi with rfl | hi | hi
 ·exact D.recd.lt
 ·exact D.past.rd.lt hi
 ·exact D.fresh.rd.lt hi
theorem Dec.upd {L:Lim} {h h':aA} {F:Nat→Prop} {d:Nat} {r:DR} {out:List UInt8} {told:Nat} (D:Dec L h F d r out told) {M:Nat→Prop} (U:Upd M h h') (hM:∀ i,Mut d r i→¬ M i):Dec L h' F d r out told:=
 { D with recd:=D.recd.upd U (hM d (.inl rfl)),past:=D.past.upd U fun i hi=>hM i (.inr (.inl hi)),fresh:=D.fresh.upd U fun i hi=>hM i (.inr (.inr hi)) }
theorem Dec.ext {L:Lim} {h h':aA} {F:Nat→Prop} {d:Nat} {r:DR} {out:List UInt8} {told:Nat} (D:Dec L h F d r out told) (U:Upd (fun _=>False) h h'):Dec L h' F d r out told:=D.upd U fun _ _ h=>h
theorem Dec.with {L:Lim} {h h':aA} {F:Nat→Prop} {d:Nat} {r r':DR} {out:List UInt8} {told:Nat} (D:Dec L h F d r out told) (U:Upd (· = d) h h') (R:bC h' d (r'.cells L)) (h1:r'.past=r.past) (h2:r'.fresh=r.fresh) (h3:r'.total=r.total) (h4:r'.input=r.input):Dec L h' F d r' out told:=
 { recd:=R,past:=by rw [h1]; exact D.past.upd U fun i hi e=>D.d1 (e ▸ hi),fresh:=by rw [h2]; exact D.fresh.upd U fun i hi e=>D.d2 (e ▸ hi),total:=by rw [h3]; exact D.total,told:=D.told,d1:=by rw [h1]; exact D.d1,d2:=by rw [h2]; exact D.d2,d3:=by rw [h1,h2]; exact D.d3,lim:=D.lim,inp:=by rw [h4]; exact D.inp,len:=D.len,f:=fun i hi=>D.f i (by unfold Mut at hi ⊢; rw [h1,h2] at hi; exact hi) }
def Bx (h:aA) (G:Nat→Prop) (b v:AV):Prop:=∃ id,b = .p (some ⟨id,1,0⟩)∧bC h id [v]∧G id
theorem Bx.upd {h h':aA} {G G' N:Nat→Prop} {b v:AV} (B:Bx h G b v) (U:Upd N h h') (hN:∀ i,G i→¬ N i) (hG:∀ i,i<h.length→G i→G' i):Bx h' G' b v:=by
 obtain ⟨id,e,R,g⟩:=B
 exact ⟨id,e,R.upd U (hN id g),hG id R.lt g⟩
theorem Bx.ld {h:aA} {G:Nat→Prop} {b v:AV} {K:AV→Prop} (B:Bx h G b v):aD b h K=K v:=by
 obtain ⟨id,rfl,R,g⟩:=B
 exact aIX R rfl rfl
theorem Bx.new {h h1:aA} {G:Nat→Prop} {v:AV} (R:bC h1 h.length [v]) (hG:G h.length):Bx h1 G (.p (some ⟨h.length,1,0⟩)) v:=⟨_,rfl,R,hG⟩
def dB (l:List Nat) (n:Nat):Nat:=((List.range n).map (Huff.cnt l)).sum
def jQ (n:Nat):List Nat→Nat→List Nat
 | [],_=>[]
 | x :: r,i=>if x=n then i :: jQ n r (i+1) else jQ n r (i+1)
def yF (l:List Nat) (n:Nat):List Nat:=jQ n l 0
def eW (l:List Nat) (n:Nat):List Nat:=(List.range n).flatMap fun k=>yF l (k+1)
def cZ (l:List Nat) (sym:AV) (n x:Nat):List AV:=bB ((List.range 16).map (Huff.cnt l))++bB ((List.range 16).map (Huff.fst l))++[sym]++bB ((List.range 16).map (dB l))++[iN (Huff.longest l),iN x,iN n]
structure b9 (h:aA) (G:Nat→Prop) (id:Nat) (l:List Nat) (sym:AV) (n x:Nat):Prop where
 recd:bC h id (cZ l sym n x)
 syms:RdI 1 h sym (bB (eW l 15)) (eW l 15).length
 g:G id
 gs:∀ i,aQ sym i→G i∧i≠id∧i<h.length
 ok:Huff.checkP l=0
 len:l.length≤320
 le:∀ x∈l,x≤15
theorem b9.upd {h h':aA} {G G' N:Nat→Prop} {id n x:Nat} {l:List Nat} {sym:AV} (A:b9 h G id l sym n x) (U:Upd N h h') (hN:∀ i,G i→¬ N i) (hG:∀ i,i<h.length→G i→G' i):b9 h' G' id l sym n x:=
 { A with recd:=A.recd.upd U (hN id A.g),syms:=A.syms.upd U fun i hi=>hN i (A.gs i hi).1,g:=hG id A.recd.lt A.g,gs:=fun i hi=>⟨hG i (A.gs i hi).2.2 (A.gs i hi).1,(A.gs i hi).2.1,Nat.lt_of_lt_of_le (A.gs i hi).2.2 U.1⟩ }
def cR (h:aA) (G:Nat→Prop) (v:AV) (l:List Nat):Prop:=∃ id b,v = .sl (some ⟨id,l.length,0⟩) l.length none∧h[id]? = some b∧b.cells=bB l∧b.floor≤l.length∧b.ro=false∧b.sz=1∧G id
theorem cR.upd {h h':aA} {G G' N:Nat→Prop} {v:AV} {l:List Nat} (A:cR h G v l) (U:Upd N h h') (hN:∀ i,G i→¬ N i) (hG:∀ i,i<h.length→G i→G' i):cR h' G' v l:=by
 obtain ⟨id,b,e,h1,h2,h3,h4,h5,g⟩:=A
 exact ⟨id,b,e,(U.2 id (aM h1) (hN id g)).trans h1,h2,h3,h4,h5,hG id (aM h1) g⟩
def Exa (h:aA) (v:AV) (l:List Nat):Prop:=
 (v = .sl none 0 none∧l=[])∨∃ id b,v = .sl (some ⟨id,l.length,0⟩) l.length none∧h[id]? = some b∧b.sz=1∧b.cells=bB l∧b.floor≤l.length∧b.ro=false∧b.gl=false
theorem Exa.upd {M:Nat→Prop} {h h':aA} {v:AV} {l:List Nat} (S:Exa h v l) (U:Upd M h h') (hM:∀ i,aQ v i→¬ M i):Exa h' v l:=by
 rcases S with h1 | ⟨id,b,rfl,h1,h2⟩
 ·exact .inl h1
 ·exact .inr ⟨id,b,rfl,(U.2 id (aM h1) (hM id rfl)).trans h1,h2⟩
theorem Exa.lt {h:aA} {v:AV} {l:List Nat} (S:Exa h v l) {i:Nat} (hi:aQ v i):i<h.length:=by
 rcases S with ⟨rfl,_⟩ | ⟨id,b,rfl,h1,h2⟩
 ·exact hi.elim
 ·have e : id = i := hi
  exact e ▸ aM h1
def Lst (h:aA) (G:Nat→Prop) (v:AV) (l:List Nat):Prop:=Exa h v l∧∀ i,aQ v i→G i
theorem Lst.upd {h h':aA} {G G' N:Nat→Prop} {v:AV} {l:List Nat} (A:Lst h G v l) (U:Upd N h h') (hN:∀ i,G i→¬ N i) (hG:∀ i,i<h.length→G i→G' i):Lst h' G' v l:=
 ⟨A.1.upd U fun i hi=>hN i (A.2 i hi),fun i hi=>hG i (A.1.lt hi) (A.2 i hi)⟩
def Two (h:aA) (G:Nat→Prop) (ia:Nat) (syma:AV) (a:List Nat) (ib:Nat) (symb:AV) (b:List Nat):Prop:=
 b9 h (fun i=>G i∧i≠ib) ia a syma 0 0∧b9 h (fun i=>G i∧i≠ia) ib b symb 0 0
theorem Two.upd {h h':aA} {G G' N:Nat→Prop} {ia ib:Nat} {syma symb:AV} {a b:List Nat} (A:Two h G ia syma a ib symb b) (U:Upd N h h') (hN:∀ i,G i→¬ N i) (hG:∀ i,i<h.length→G i→G' i):Two h' G' ia syma a ib symb b:=
 ⟨A.1.upd U (fun i hi=>hN i hi.1) fun i hl hi=>⟨hG i hl hi.1,hi.2⟩,A.2.upd U (fun i hi=>hN i hi.1) fun i hl hi=>⟨hG i hl hi.1,hi.2⟩⟩
def Clo (h:aA) (G:Nat→Prop) (d:Nat) (ic:Nat) (sym:AV):bY→AV→Prop
 | .block,v=>∃ bd,v=Fn Y86.id [bd]∧Bx h G bd (dp d)
 | .stored1,v=>∃ bd,v=Fn Y76.id [bd]∧Bx h G bd (dp d)
 | .stored2 n,v=>∃ bn bd,v=Fn Y81.id [bn,bd]∧Bx h G bn (iN n)∧Bx h G bd (dp d)
 | .raw n,v=>∃ bd bn,v=Fn Y74.id [bd,bn]∧Bx h G bd (dp d)∧Bx h G bn (iN n)
 | .lit a b,v=>∃ bd ba bb ib symb,v=Fn Y75.id [bd,ba,bb]∧Bx h G bd (dp d)∧Bx h G ba (cp ic)∧Bx h G bb (cp ib)∧b9 h G ib b symb 0 0∧¬ aQ sym ib
 | .more a b n,v=>∃ bd bb bn ba ia syma ib symb,v=Fn Y78.id [bd,bb,bn,ba]∧Bx h G bd (dp d)∧Bx h G bb (cp ib)∧Bx h G bn (iN n)∧Bx h G ba (cp ia)∧Two h G ia syma a ib symb b
 | .far a b n,v=>∃ bd bn bm ba bb n0 m ia syma,v=Fn Y89.id [bd,bn,bm,ba,bb]∧n=n0+m∧Bx h G bd (dp d)∧Bx h G bn (iN n0)∧Bx h G bm (iN m)∧Bx h G ba (cp ia)∧Bx h G bb (cp ic)∧b9 h G ia a syma 0 0∧¬ aQ sym ia
 | .farMore a b n f,v=>∃ bd bn bm bf ba bb n0 m ia syma ib symb,v=Fn Y84.id [bd,bn,bm,bf,ba,bb]∧n=n0+m∧Bx h G bd (dp d)∧Bx h G bn (iN n0)∧Bx h G bm (iN m)∧Bx h G bf (iN f)∧Bx h G ba (cp ia)∧Bx h G bb (cp ib)∧Two h G ia syma a ib symb b
 | .dyn1,v=>∃ bd,v=Fn Y85.id [bd]∧Bx h G bd (dp d)
 | .dyn2 lits,v=>∃ bd bl,v=Fn Y83.id [bd,bl]∧Bx h G bd (dp d)∧Bx h G bl (iN lits)
 | .dyn3 lits dists,v=>∃ bd bl bs,v=Fn Y73.id [bd,bl,bs]∧Bx h G bd (dp d)∧Bx h G bl (iN lits)∧Bx h G bs (iN dists)
 | .third l i n lits dists,v=>∃ bl bi bd bn bt bs lv,v=Fn Y82.id [bl,bi,bd,bn,bt,bs]∧cR h G lv l∧Bx h (fun i=>G i∧¬ aQ lv i) bl lv∧Bx h (fun i=>G i∧¬ aQ lv i) bi (iN i)∧Bx h (fun i=>G i∧¬ aQ lv i) bd (dp d)∧Bx h (fun i=>G i∧¬ aQ lv i) bn (iN n)∧Bx h (fun i=>G i∧¬ aQ lv i) bt (iN lits)∧Bx h (fun i=>G i∧¬ aQ lv i) bs (iN dists)
 | .lens c l lits dists,v=>∃ bd bc bl bt bs br lv,v=Fn Y38.id [bd,bc,bl,bt,bs,br]∧Lst h G lv l∧(∀ i,aQ lv i→¬ aQ sym i)∧Bx h (fun i=>G i∧¬ aQ lv i) bd (dp d)∧Bx h (fun i=>G i∧¬ aQ lv i) bc (cp ic)∧Bx h (fun i=>G i∧¬ aQ lv i) bl lv∧Bx h (fun i=>G i∧¬ aQ lv i) bt (iN lits)∧Bx h (fun i=>G i∧¬ aQ lv i) bs (iN dists)∧Bx h (fun i=>G i∧¬ aQ lv i) br (Fn Y58.id [bd,bl,bt,bs,bc])
 | .rep c l lits dists m x,v=>∃ bl bm bt bs bd bc bx ic symc lv,v=Fn Y87.id [bl,bm,bt,bs,bd,bc,bx]∧Lst h (fun i=>G i∧i≠ic∧¬ aQ symc i) lv l∧b9 h G ic c symc 0 0∧Bx h (fun i=>G i∧¬ aQ lv i) bl lv∧Bx h (fun i=>G i∧¬ aQ lv i) bm (iN m)∧Bx h (fun i=>G i∧¬ aQ lv i) bt (iN lits)∧Bx h (fun i=>G i∧¬ aQ lv i) bs (iN dists)∧Bx h (fun i=>G i∧¬ aQ lv i) bd (dp d)∧Bx h (fun i=>G i∧¬ aQ lv i) bc (cp ic)∧Bx h (fun i=>G i∧¬ aQ lv i) bx (iN x)
theorem Clo.upd {h h':aA} {G G' N:Nat→Prop} {d ic:Nat} {sym:AV} {c:bY} {v:AV} (A:Clo h G d ic sym c v) (U:Upd N h h') (hN:∀ i,G i→¬ N i) (hG:∀ i,i<h.length→G i→G' i):Clo h' G' d ic sym c v:=by
 have b:∀ {x y},Bx h G x y→Bx h' G' x y:=fun B=>B.upd U hN hG
 have b2:∀ {x y} {S:Nat→Prop},Bx h (fun i=>G i∧¬ S i) x y→Bx h' (fun i=>G' i∧¬ S i) x y:=fun B=>B.upd U (fun i hi=>hN i hi.1) fun i hl hi=>⟨hG i hl hi.1,hi.2⟩
 have k:∀ {i l s n x},b9 h G i l s n x→b9 h' G' i l s n x:=fun B=>B.upd U hN hG
 have tw:∀ {ia syma a ib symb b},Two h G ia syma a ib symb b→Two h' G' ia syma a ib symb b:=fun B=>B.upd U hN hG
 cases c with
 | block=>obtain ⟨bd,e,h1⟩:=A; exact ⟨bd,e,b h1⟩
 | stored1=>obtain ⟨bd,e,h1⟩:=A; exact ⟨bd,e,b h1⟩
 | stored2 n=>obtain ⟨bn,bd,e,h1,h2⟩:=A; exact ⟨bn,bd,e,b h1,b h2⟩
 | raw n=>obtain ⟨bn,bd,e,h1,h2⟩:=A; exact ⟨bn,bd,e,b h1,b h2⟩
 | lit x y=>obtain ⟨bd,ba,bb,ib,symb,e,h1,h2,h3,h4,h5⟩:=A; exact ⟨bd,ba,bb,ib,symb,e,b h1,b h2,b h3,k h4,h5⟩
 | more x y n=>obtain ⟨bd,bb,bn,ba,ia,syma,ib,symb,e,h1,h2,h3,h4,h5⟩:=A; exact ⟨bd,bb,bn,ba,ia,syma,ib,symb,e,b h1,b h2,b h3,b h4,tw h5⟩
 | far x y n=>obtain ⟨bd,bn,bm,ba,bb,n0,m,ia,syma,e,hn,h1,h2,h3,h4,h5,h6,h7⟩:=A; exact ⟨bd,bn,bm,ba,bb,n0,m,ia,syma,e,hn,b h1,b h2,b h3,b h4,b h5,k h6,h7⟩
 | farMore x y n f=>obtain ⟨bd,bn,bm,bf,ba,bb,n0,m,ia,syma,ib,symb,e,hn,h1,h2,h3,h4,h5,h6,h7⟩:=A; exact ⟨bd,bn,bm,bf,ba,bb,n0,m,ia,syma,ib,symb,e,hn,b h1,b h2,b h3,b h4,b h5,b h6,tw h7⟩
 | dyn1=>obtain ⟨bd,e,h1⟩:=A; exact ⟨bd,e,b h1⟩
 | dyn2 lits=>obtain ⟨bd,bl,e,h1,h2⟩:=A; exact ⟨bd,bl,e,b h1,b h2⟩
 | dyn3 lits dists=>obtain ⟨bd,bl,bs,e,h1,h2,h3⟩:=A; exact ⟨bd,bl,bs,e,b h1,b h2,b h3⟩
 | third l i n lits dists=>obtain ⟨bl,bi,bd,bn,bt,bs,lv,e,h0,h1,h2,h3,h4,h5,h6⟩:=A; exact ⟨bl,bi,bd,bn,bt,bs,lv,e,h0.upd U hN hG,b2 h1,b2 h2,b2 h3,b2 h4,b2 h5,b2 h6⟩
 | lens x l lits dists=>obtain ⟨bd,bc,bl,bt,bs,br,lv,e,h0,h00,h1,h2,h3,h4,h5,h6⟩:=A; exact ⟨bd,bc,bl,bt,bs,br,lv,e,h0.upd U hN hG,h00,b2 h1,b2 h2,b2 h3,b2 h4,b2 h5,b2 h6⟩
 | rep x l lits dists m y=>obtain ⟨bl,bm,bt,bs,bd,bc,bx,ic,symc,lv,e,h0,h00,h1,h2,h3,h4,h5,h6,h7⟩:=A; exact ⟨bl,bm,bt,bs,bd,bc,bx,ic,symc,lv,e,h0.upd U (fun i hi=>hN i hi.1) (fun i hl hi=>⟨hG i hl hi.1,hi.2⟩),k h00,b2 h1,b2 h2,b2 h3,b2 h4,b2 h5,b2 h6,b2 h7⟩
def Gd (F:Nat→Prop) (d:Nat) (r:DR) (i:Nat):Prop:=F i∧¬ Mut d r i
def kG:bY→Option (List Nat)
 | .lit a _=>some a
 | .far _ b _=>some b
 | .lens c _ _ _=>some c
 | _=>none
def o0 (h:aA) (F:Nat→Prop) (d:Nat) (r:DR):cV→bY→Prop
 | .num need have' acc,c=>kG c=none∧r.code = .p none∧r.need=need∧r.have'=have'∧r.acc=acc∧Clo h (Gd F d r) d 0 (.p none) c r.next
 | .sym l n x,c=>kG c=some l∧∃ ic sym,r.code=cp ic∧b9 h (Gd F d r) ic l sym n x∧Clo h (fun i=>Gd F d r i∧i≠ic) d ic sym c r.next
def fit:bY→Nat→Prop
 | .block,v=>v<8
 | .stored1,v=>v<65536
 | .stored2 n,v=>n<65536∧v<65536
 | .raw n,v=>0<n∧n<65536∧v<256
 | .lit a b,v=>v<320
 | .more a b n,v=>n+v≤300
 | .far a b n,v=>n≤300∧v<320
 | .farMore a b n f,v=>n≤300∧0<f∧f+v≤32768
 | .dyn1,v=>v<32
 | .dyn2 lits,v=>lits≤286∧v<32
 | .dyn3 lits dists,v=>lits≤286∧dists≤30∧v<16
 | .third l i n lits dists,v=>lits≤286∧dists≤30∧l.length=19∧i<n∧n≤19∧(∀ x∈l,x<8)∧v<8
 | .lens c l lits dists,v=>c.length≤19∧lits≤286∧dists≤30∧l.length<lits+dists∧(∀ x∈l,x<16)∧v<19
 | .rep c l lits dists m x,v=>c.length≤19∧lits≤286∧dists≤30∧l.length<lits+dists∧(∀ x∈l,x<16)∧x<16∧0<m∧m+v≤138
def short:bY→Prop
 | .more .. | .farMore ..=>True
 | _=>False
def yB:cV→bY→Prop
 | .num need have' acc,c=>need≤16∧acc<2 ^ have'∧(have'<need∨need=0∧have'=0∧short c)∧∀ v,v<2 ^ need→fit c v
 | .sym l n x,c=>n≤15∧x<2 ^ n∧∀ v,v<l.length→fit c v
def eno:Nat→Int
 | 1=>2
 | 2=>16
 | _=>2
def St (h:aA) (F:Nat→Prop) (d:Nat) (r:DR):Out→Int→Prop
 | .wait k w c,e=>e=0∧r.last=k.last∧r.skip=k.skip∧r.done=false∧o0 h F d r w c∧yB w c
 | .done k,e=>e=0∧r.done=true
 | .err x k,e=>e=eno x∧(x=1∨x=2)∧r.done=false
structure cP (M:Nat→Prop) (L:Lim) (h:aA) (F:Nat→Prop) (d:Nat) (r:DR) (told:Nat) (o:Out) (e:Int) (h':aA) (r':DR):Prop where
 upd:Upd M h h'
 keep:∀ i,i<h.length→Mut d r' i→Mut d r i
 dec:Dec L h' F d r' o.core.out told
 inp:r'.input=r.input
 bad:r'.bad=r.bad
 rest:r'.rest=r.rest
 st:St h' F d r' o e
theorem cP.from {M N:Nat→Prop} {L:Lim} {h h1 h':aA} {F:Nat→Prop} {d:Nat} {r r1 r':DR} {told:Nat} {o:Out} {e:Int} (P:cP M L h1 F d r1 told o e h' r') (U:Upd N h h1) (hN:∀ i,i<h.length→N i→M i) (hk:∀ i,i<h.length→Mut d r1 i→Mut d r i) (e1:r1.input=r.input) (e2:r1.bad=r.bad) (e3:r1.rest=r.rest):cP M L h F d r told o e h' r':=
 ⟨(U.mono hN).trans P.upd fun _ _ h=>h,fun i hi hm=>hk i hi (P.keep i (Nat.lt_of_lt_of_le hi U.1) hm),P.dec,P.inp.trans e1,P.bad.trans e2,P.rest.trans e3,P.st⟩
theorem cP.mono {M N:Nat→Prop} {L:Lim} {h h':aA} {F:Nat→Prop} {d:Nat} {r r':DR} {told:Nat} {o:Out} {e:Int} (P:cP M L h F d r told o e h' r') (hN:∀ i,i<h.length→M i→N i):cP N L h F d r told o e h' r':={ P with upd:=P.upd.mono hN }
end Go.Proofs.YtpaphfeihpgamaaDoor
namespace Go.Proofs.YtpaphfeihpgamaaDoor
open Go.GAM
open Go.Infl (bL cV bY Out Lim)
theorem ltr {a b:Nat} (h:Nat.ble (a+1) b=true):a<b:=Nat.le_of_ble_eq_true h
section
variable [XR] {h:aA} {Q:AV→aA→Prop} {L:Lim} {F:Nat→Prop} {d:Nat} {r:DR} {out:List UInt8} {told:Nat}
theorem Dec.gd (D:Dec L h F d r out told) (hF:∀ i,h.length≤i→F i) {i:Nat} (hi:h.length≤i):Gd F d r i:=⟨hF i hi,fun m=>absurd (D.lt m) (by omega)⟩
theorem aE7 (D:Dec L h F d r out told) {n:Nat} {f:FuncId} {cap:List AV} (hq:∀ h',h'.length=h.length→Upd (· = d) h h'→Dec L h' F d { r with acc:=0,have':=0,need:=n,code:=.p none,next:=Fn f cap } out told→Q (iN 0) h'):C Y43.id [dp d,iN n,Fn f cap] h Q:=by
 refine Y43.call ?_
 simp only [Y43.t,bF,bD]
 refine aP D.recd rfl (ltr rfl) (hk:=fun h1 l1 U1 R1=>?_)
 refine aP R1 rfl (ltr rfl) (hk:=fun h2 l2 U2 R2=>?_)
 refine aP R2 rfl (ltr rfl) (hk:=fun h3 l3 U3 R3=>?_)
 refine aP R3 rfl (ltr rfl) (hk:=fun h4 l4 U4 R4=>?_)
 refine aP R4 rfl (ltr rfl) (hk:=fun h5 l5 U5 R5=>?_)
 have U:=(((U1.trans U2 fun _ _ h=>h).trans U3 fun _ _ h=>h).trans U4 fun _ _ h=>h).trans U5 fun _ _ h=>h
 exact .inl (hq h5 (by omega) U (D.with U R5 rfl rfl rfl rfl))
theorem dO (D:Dec L h F d r out told) (hd:r.done=false) {n:Nat} {c:bY} {f:FuncId} {cap:List AV} (hc:Clo h (Gd F d r) d 0 (.p none) c (Fn f cap)) (hf:yB (.num n 0 0) c)
  (hq:∀ h' r',cP (· = d) L h F d r told (.wait ⟨out,r.last,r.skip⟩ (.num n 0 0) c) 0 h' r'→Q (iN 0) h') (hco:kG c=none:=by rfl):C Y43.id [dp d,iN n,Fn f cap] h Q:=
 aE7 D fun h' hl U D'=>hq h' { r with acc:=0,have':=0,need:=n,code:=.p none,next:=Fn f cap } ⟨U,fun _ _ h=>h,D',rfl,rfl,rfl,rfl,rfl,rfl,hd,⟨hco,rfl,rfl,rfl,rfl,hc.upd U (fun i hi e=>hi.2 (.inl e)) fun _ _ h=>h⟩,hf⟩
theorem rK (D:Dec L h F d r out told) (hd:r.done=false) {l:List Nat} {ic:Nat} {sym:AV} {c:bY} {f:FuncId} {cap:List AV} (hk:b9 h (Gd F d r) ic l sym 0 0) (hc:Clo h (fun i=>Gd F d r i∧i≠ic) d ic sym c (Fn f cap)) (hf:yB (.sym l 0 0) c)
  (hq:∀ h' r',cP (· = d) L h F d r told (.wait ⟨out,r.last,r.skip⟩ (.sym l 0 0) c) 0 h' r'→Q (iN 0) h') (hco:kG c=some l:=by rfl):C Y53.id [dp d,cp ic,Fn f cap] h Q:=by
 refine Y53.call ?_
 simp only [Y53.t,bF,bD]
 refine aP D.recd rfl (ltr rfl) (hk:=fun h1 l1 U1 R1=>?_)
 refine aP R1 rfl (ltr rfl) (hk:=fun h2 l2 U2 R2=>?_)
 have U:=U1.trans U2 fun _ _ h=>h
 exact .inl (hq h2 { r with code:=cp ic,next:=Fn f cap } ⟨U,fun _ _ h=>h,D.with U R2 rfl rfl rfl rfl,rfl,rfl,rfl,rfl,rfl,rfl,hd,⟨hco,ic,sym,rfl,hk.upd U (fun i hi e=>hi.2 (.inl e)) fun _ _ h=>h,hc.upd U (fun i hi e=>hi.1.2 (.inl e)) fun _ _ h=>h⟩,hf⟩)
theorem aCB:yB (.num 3 0 0) .block:=⟨by decide,by decide,.inl (by decide),fun v hv=>hv⟩
theorem uR (D:Dec L h F d r out told) (hF:∀ i,h.length≤i→F i) (hd:r.done=false) (hq:∀ e h' r',cP (· = d) L h F d r told (Infl.block ⟨out,r.last,r.skip⟩) e h' r'→Q (.i .i64 e) h'):C Y50.id [dp d] h Q:=by
 refine Y50.call ?_
 simp only [Y50.t]
 refine bQ (hk:=fun h1 l1 U1 R1=>?_)
 have D1:=D.ext U1
 have B:Bx h1 (Gd F d r) (.p (some ⟨h.length,1,0⟩)) (dp d):=Bx.new R1 (D.gd hF (Nat.le_refl _))
 refine aE R1 rfl rfl ?_
 simp only [bF,bD]
 refine aE D1.recd rfl rfl (aV ?_)
 refine aG (fun e=>?_) fun e=>?_
 ·refine aE R1 rfl rfl ?_
  simp only [bF,bD]
  refine aP D1.recd rfl (ltr rfl) (hk:=fun h2 l2 U2 R2=>?_)
  refine .inl (hq 0 h2 { r with done:=true } ⟨(U1.mono fun _ _ h=>h.elim).trans U2 fun _ _ h=>h,fun _ _ h=>h, ?_,rfl,rfl,rfl, ?_⟩)
  ·unfold Infl.block
   rw [if_pos e]
   exact D1.with U2 R2 rfl rfl rfl rfl
  ·unfold Infl.block
   rw [if_pos e]
   exact ⟨rfl,rfl⟩
 ·refine aE R1 rfl rfl ?_
  refine dO D1 hd (c:=.block) ⟨_,rfl,B⟩ aCB fun h2 r2 P=>?_
  refine aC (.inl (hq 0 h2 r2 ?_))
  unfold Infl.block
  rw [if_neg (by simp [e])]
  exact P.from U1 (fun _ _ h=>h.elim) (fun _ _ h=>h) rfl rfl rfl
theorem aGM {n:Nat} (h0:n≠0) (h1:n<65536):yB (.num 8 0 0) (.raw n):=⟨by decide,by decide,.inl (by decide),fun v hv=>⟨by omega,h1,hv⟩⟩
theorem aG7 {n:Nat} (hn:n<65536) (D:Dec L h F d r out told) (hF:∀ i,h.length≤i→F i) (hd:r.done=false) (hq:∀ e h' r',cP (· = d) L h F d r told (Infl.raw ⟨out,r.last,r.skip⟩ n) e h' r'→Q (.i .i64 e) h'):C Y60.id [dp d,iN n] h Q:=by
 refine Y60.call ?_
 simp only [Y60.t]
 refine bQ (hk:=fun h1 l1 U1 R1=>?_)
 refine bQ (hk:=fun h2 l2 U2 R2=>?_)
 have U:=U1.then U2
 have D2:=D.ext U
 have R1:=R1.upd U2 fun h=>h
 have B:Bx h2 (Gd F d r) (.p (some ⟨h.length,1,0⟩)) (dp d):=⟨_,rfl,R1,D.gd hF (Nat.le_refl _)⟩
 have B2:Bx h2 (Gd F d r) (.p (some ⟨h1.length,1,0⟩)) (iN n):=⟨_,rfl,R2,D.gd hF (by omega)⟩
 refine aE R2 rfl rfl (aC ?_)
 refine aG (fun e=>?_) fun e=>?_
 ·have e : n = 0 := by simpa using e
  refine aE R1 rfl rfl ?_
  refine uR D2 (fun i hi=>hF i (by omega)) hd fun e h3 r3 P=>aC (.inl (hq _ h3 r3 ?_))
  unfold Infl.raw
  rw [if_pos ‹n=0›]
  exact P.from U (fun _ _ h=>h.elim) (fun _ _ h=>h) rfl rfl rfl
 ·have e : n ≠ 0 := by simpa using e
  refine aE R1 rfl rfl ?_
  refine dO D2 hd (c:=.raw n) ⟨_,_,rfl,B,B2⟩ (aGM e hn) fun h3 r3 P=>aC (.inl (hq 0 h3 r3 ?_))
  unfold Infl.raw
  rw [if_neg e]
  exact P.from U (fun _ _ h=>h.elim) (fun _ _ h=>h) rfl rfl rfl
theorem aDL (D:Dec L h F d r out told) (hF:∀ i,h.length≤i→F i) (hd:r.done=false) (hq:∀ e h' r',cP (· = d) L h F d r told (.wait ⟨out,r.last,r.skip⟩ (.num 16 0 0) .stored1) e h' r'→Q (.i .i64 e) h'):C Y68.id [dp d] h Q:=by
 refine Y68.call ?_
 simp only [Y68.t]
 refine bQ (hk:=fun h1 l1 U1 R1=>?_)
 refine aE R1 rfl rfl ?_
 refine dO (D.ext U1) hd (c:=.stored1) ⟨_,rfl,Bx.new R1 (D.gd hF (Nat.le_refl _))⟩ ⟨by decide,by decide,.inl (by decide),fun v hv=>hv⟩ fun h2 r2 P=>aC (.inl (hq 0 h2 r2 ?_))
 exact P.from U1 (fun _ _ h=>h.elim) (fun _ _ h=>h) rfl rfl rfl
theorem aB5 (D:Dec L h F d r out told) (hF:∀ i,h.length≤i→F i) (hd:r.done=false) (hq:∀ e h' r',cP (· = d) L h F d r told (.wait ⟨out,r.last,r.skip⟩ (.num 5 0 0) .dyn1) e h' r'→Q (.i .i64 e) h'):C Y88.id [dp d] h Q:=by
 refine Y88.call ?_
 simp only [Y88.t]
 refine bQ (hk:=fun h1 l1 U1 R1=>?_)
 refine aE R1 rfl rfl ?_
 refine dO (D.ext U1) hd (c:=.dyn1) ⟨_,rfl,Bx.new R1 (D.gd hF (Nat.le_refl _))⟩ ⟨by decide,by decide,.inl (by decide),fun v hv=>hv⟩ fun h2 r2 P=>aC (.inl (hq 0 h2 r2 ?_))
 exact P.from U1 (fun _ _ h=>h.elim) (fun _ _ h=>h) rfl rfl rfl
theorem aBZ {x:Nat} {v:AV} (D:Dec L h F d r out told) (hF:∀ i,h.length≤i→F i) (hd:r.done=false) (hc:Clo h (Gd F d r) d 0 (.p none) .stored1 v) (hf:fit .stored1 x)
  (hq:∀ e h' r',cP F L h F d r told (Infl.apply L r.input ⟨out,r.last,r.skip⟩ x .stored1) e h' r'→Q (.i .i64 e) h'):bZ C v [iN x] h Q:=by
 obtain ⟨bd,rfl,B⟩:=hc
 refine cY (by decide) (Y76.call ?_)
 simp only [Y76.t]
 refine bQ (hk:=fun h1 l1 U1 R1=>?_)
 have B1:=B.upd U1 (fun _ _ h=>h) fun _ _ h=>h
 rw [B1.ld]
 refine dO (D.ext U1) hd (c:=.stored2 x) ⟨_,_,rfl,Bx.new R1 (D.gd hF (Nat.le_refl _)),B1⟩ ⟨by decide,by decide,.inl (by decide),fun v hv=>⟨hf,hv⟩⟩ fun h2 r2 P=>aC (.inl (hq 0 h2 r2 ?_))
 exact (P.from U1 (fun _ _ h=>h.elim) (fun _ _ h=>h) rfl rfl rfl).mono fun i _ e=>D.f i (.inl e)
theorem aCS {x n:Nat} {v:AV} (D:Dec L h F d r out told) (hF:∀ i,h.length≤i→F i) (hd:r.done=false) (hc:Clo h (Gd F d r) d 0 (.p none) (.stored2 n) v) (hf:fit (.stored2 n) x)
  (hq:∀ e h' r',cP F L h F d r told (Infl.apply L r.input ⟨out,r.last,r.skip⟩ x (.stored2 n)) e h' r'→Q (.i .i64 e) h'):bZ C v [iN x] h Q:=by
 obtain ⟨bn,bd,rfl,Bn,B⟩:=hc
 obtain ⟨hn,hx⟩:=hf
 refine cY (by decide) (Y81.call ?_)
 simp only [Y81.t,Bn.ld,B.ld,iH]
 refine bS (n:=((65535 - n:Nat):Int)) (by omega) (by omega) (by omega) ?_
 refine aG (fun e=>?_) fun e=>?_
 ·have e : ¬ (x + n = 65535) := by simp at e; omega
  refine .inl (hq 2 h r ?_)
  simp only [Infl.apply]
  rw [if_neg e]
  exact ⟨Upd.refl _ _,fun _ _ h=>h,D,rfl,rfl,rfl,rfl,.inl rfl,hd⟩
 ·have e : x + n = 65535 := by simp at e; omega
  refine aG7 hn D hF hd fun e1 h1 r1 P=>aC (.inl (hq _ h1 r1 ?_))
  simp only [Infl.apply]
  rw [if_pos e]
  exact P.mono fun i _ e=>D.f i (.inl e)
theorem aHE {x:Nat} {v:AV} (D:Dec L h F d r out told) (hF:∀ i,h.length≤i→F i) (hd:r.done=false) (hc:Clo h (Gd F d r) d 0 (.p none) .dyn1 v) (hf:fit .dyn1 x)
  (hq:∀ e h' r',cP F L h F d r told (Infl.apply L r.input ⟨out,r.last,r.skip⟩ x .dyn1) e h' r'→Q (.i .i64 e) h'):bZ C v [iN x] h Q:=by
 obtain ⟨bd,rfl,B⟩:=hc
 have hf:x<32:=hf
 refine cY (by decide) (Y85.call ?_)
 simp only [Y85.t]
 refine bS (n:=((x+257:Nat):Int)) (by omega) (by omega) (by omega) ?_
 refine cF fun h1 l1 U1 R1=>?_
 refine aP R1 rfl (ltr rfl) (hk:=fun h2 l2 U2 R2=>?_)
 have U:Upd (fun _=>False) h h2:=U1.own U2 (Nat.le_refl _)
 have B2:=B.upd U (fun _ _ h=>h) fun _ _ h=>h
 have Bn:Bx h2 (Gd F d r) (.p (some ⟨h.length,1,0⟩)) (iN (x+257)):=⟨_,rfl,R2,D.gd hF (Nat.le_refl _)⟩
 refine aE R2 rfl rfl (aC ?_)
 refine aG (fun e=>?_) fun e=>?_
 ·have e : 286 < x + 257 := by simp at e; omega
  refine .inl (hq 2 h2 r ?_)
  simp only [Infl.apply]
  rw [if_pos e]
  exact ⟨U.mono fun _ _ h=>h.elim,fun _ _ h=>h,D.ext U,rfl,rfl,rfl,rfl,.inl rfl,hd⟩
 ·have e : ¬ 286 < x + 257 := by simp at e; omega
  rw [B2.ld]
  refine dO (D.ext U) hd (c:=.dyn2 (x+257)) ⟨_,_,rfl,B2,Bn⟩ ⟨by decide,by decide,.inl (by decide),fun v hv=>⟨by omega,hv⟩⟩ fun h3 r3 P=>aC (.inl (hq 0 h3 r3 ?_))
  simp only [Infl.apply]
  rw [if_neg e]
  exact (P.from U (fun _ _ h=>h.elim) (fun _ _ h=>h) rfl rfl rfl).mono fun i _ e=>D.f i (.inl e)
theorem aH1 {x lits:Nat} {v:AV} (D:Dec L h F d r out told) (hF:∀ i,h.length≤i→F i) (hd:r.done=false) (hc:Clo h (Gd F d r) d 0 (.p none) (.dyn2 lits) v) (hf:fit (.dyn2 lits) x)
  (hq:∀ e h' r',cP F L h F d r told (Infl.apply L r.input ⟨out,r.last,r.skip⟩ x (.dyn2 lits)) e h' r'→Q (.i .i64 e) h'):bZ C v [iN x] h Q:=by
 obtain ⟨bd,bl,rfl,B,Bl⟩:=hc
 obtain ⟨hl,hf⟩:=hf
 refine cY (by decide) (Y83.call ?_)
 simp only [Y83.t]
 refine bS (n:=((x+1:Nat):Int)) (by omega) (by omega) (by omega) ?_
 refine cF fun h1 l1 U1 R1=>?_
 refine aP R1 rfl (ltr rfl) (hk:=fun h2 l2 U2 R2=>?_)
 have U:Upd (fun _=>False) h h2:=U1.own U2 (Nat.le_refl _)
 have B2:=B.upd U (fun _ _ h=>h) fun _ _ h=>h
 have Bl2:=Bl.upd U (fun _ _ h=>h) fun _ _ h=>h
 have Bn:Bx h2 (Gd F d r) (.p (some ⟨h.length,1,0⟩)) (iN (x+1)):=⟨_,rfl,R2,D.gd hF (Nat.le_refl _)⟩
 refine aE R2 rfl rfl (aC ?_)
 refine aG (fun e=>?_) fun e=>?_
 ·have e : 30 < x + 1 := by simp at e; omega
  refine .inl (hq 2 h2 r ?_)
  simp only [Infl.apply]
  rw [if_pos e]
  exact ⟨U.mono fun _ _ h=>h.elim,fun _ _ h=>h,D.ext U,rfl,rfl,rfl,rfl,.inl rfl,hd⟩
 ·have e : ¬ 30 < x + 1 := by simp at e; omega
  rw [B2.ld]
  refine dO (D.ext U) hd (c:=.dyn3 lits (x+1)) ⟨_,_,_,rfl,B2,Bl2,Bn⟩ ⟨by decide,by decide,.inl (by decide),fun v hv=>⟨hl,by omega,hv⟩⟩ fun h3 r3 P=>aC (.inl (hq 0 h3 r3 ?_))
  simp only [Infl.apply]
  rw [if_neg e]
  exact (P.from U (fun _ _ h=>h.elim) (fun _ _ h=>h) rfl rfl rfl).mono fun i _ e=>D.f i (.inl e)
end
end Go.Proofs.YtpaphfeihpgamaaDoor
namespace Go.Proofs.YtpaphfeihpgamaaDoor
open Go.GAM
open Go.Infl (bL cV bY Out Lim)
section
variable [XR] {h:aA} {Q:AV→aA→Prop} {L:Lim} {F:Nat→Prop} {d:Nat} {r:DR} {out:List UInt8} {told:Nat}
theorem Stk.kind {h:aA} {v:AV} {l:List AV} (S:Stk h v l):v.parts=[v]∧v.sizeOK=true∧v.cellOK=true:=by
 rcases S with ⟨rfl,_⟩ | ⟨id,b,rfl,_⟩ <;> exact ⟨rfl,rfl,rfl⟩
theorem aEQ (D : Dec L h F d r out told) (hF : ∀ i, h.length ≤ i → F i) {c : UInt8} (hq0 : Infl.full L r.input out = true → Q (.i .i64 16) h)
    (hq1:Infl.full L r.input out=false→∀ p f h',Upd (Mut d r) h h'→(∀ i,i<h.length→Mut d { r with past:=p,total:=r.total+1,fresh:=f } i→Mut d r i)→Dec L h' F d { r with past:=p,total:=r.total+1,fresh:=f } (out++[c]) told→Q (.i .i64 0) h') :
    C Y28.id [dp d,.i .u8 (c.toNat:Int)] h Q:=by
  have ht:=D.total
  have hi:=D.inp
  obtain ⟨hl1,hl2⟩:=D.lim
  have hmul:L.ratio * r.input≤1100 * 1099511627776:=Nat.mul_le_mul hl2 hi
  have hld:=D.recd.lt
  have P0 : ∀ b, b = Infl.full L r.input out → Y28.p0 (aH h Q) (dp d) (c.toNat : Int) b h := by
    intro b hb
    refine Y28.i0 ?_
    simp only [Y28.t0,bF,bD, ← Y28.p1.eq_1]
    refine aG (fun e=>?_) fun e=>?_
    · exact .inl (hq0 (hb ▸ e))
    · have hfull : Infl.full L r.input out = false := hb ▸ e
      have hlen:out.length<65536:=by
        unfold Infl.full at hfull
        simp at hfull
        omega
      refine aE D.recd rfl rfl (aC (bS (n:=((r.total+1:Nat):Int)) (by omega) (by omega) (by omega) ?_))
      refine aP D.recd rfl (ltr rfl) (hk:=fun h1 l1 U1 R1=>?_)
      refine aE R1 rfl rfl ?_
      have S1:=D.fresh.upd U1 fun i hi e=>D.d2 (e ▸ hi)
      refine S1.push rfl rfl (by simp; have:=D.told; omega) (by simp; have:=D.told; omega) fun f h2 U2 S2 N2=>?_
      have R2:=R1.upd U2 D.d2
      refine aP R2 rfl (ltr rfl) (hv:=(Stk.kind S2).1) (hs:=(Stk.kind S2).2.1) (hc:=(Stk.kind S2).2.2) (hk:=fun h3 l3 U3 R3=>?_)
      refine aE R3 rfl rfl ?_
      have T1:=D.past.upd U1 fun i hi e=>D.d1 (e ▸ hi)
      have T2:=T1.upd U2 D.d3
      have T3:=T2.upd U3 fun i hi e=>D.d1 (e ▸ hi)
      refine T3.rd.len ?_
      refine aL (by simp; omega) ?_
      refine Y28.i1 ?_
      simp only [Y28.t1,bF,bD]
      refine aE R3 rfl rfl ?_
      refine T3.push rfl rfl (by simp; omega) (by simp; omega) fun p h4 U4 S4 N4=>?_
      have R4:=R3.upd U4 D.d1
      refine aP R4 rfl (ltr rfl) (hv:=(Stk.kind S4).1) (hs:=(Stk.kind S4).2.1) (hc:=(Stk.kind S4).2.2) (hk:=fun h5 l5 U5 R5=>?_)
      have hl12:=U2.1
      have hl34:=U4.1
      have fd:¬ aQ f d:=fun hs=>by rcases N2 d hs with g | g; exact D.d2 g; omega
      have pd:¬ aQ p d:=fun hs=>by rcases N4 d hs with g | g; exact D.d1 g; omega
      have S3:=S2.upd U3 fun i hi e=>fd (e ▸ hi)
      have pf:∀ i,aQ p i→¬ aQ f i:=by
        intro i hp hf
        have hfl:=S2.rd.lt hf
        rcases N4 i hp with g | g
        · rcases N2 i hf with g2 | g2
          · exact D.d3 i g g2
          · have:=D.past.rd.lt g; omega
        · omega
      have S4':=S3.upd U4 fun i hi e=>by
        rcases N2 i hi with g2 | g2
        · exact D.d3 i e g2
        · have:=D.past.rd.lt e; omega
      have S5:=S4'.upd U5 fun i hi e=>fd (e ▸ hi)
      have T5:=S4.upd U5 fun i hi e=>pd (e ▸ hi)
      refine .inl (hq1 hfull p f h5 ?_ ?_ ?_)
      · have a1 := (U1.mono (M' := Mut d r) fun i _ e => .inl e).trans U2 fun i _ e => .inr (.inr e)
        exact ((a1.trans U3 fun i _ e=>.inl e).trans U4 fun i _ e=>.inr (.inl e)).trans U5 fun i _ e=>.inl e
      · rintro i hi (e | e | e)
        · exact .inl e
        · rcases N4 i e with g | g
          · exact .inr (.inl g)
          · omega
        · rcases N2 i e with g | g
          · exact .inr (.inr g)
          · omega
      · have hto := D.told
        exact { recd := R5, past := by rw [List.map_append]; exact T5, fresh := by rw [List.drop_append_of_le_length hto, List.map_append]; exact S5, total := by simp [ht], told := by simp; omega, d1 := pd, d2 := fd, d3 := pf, lim := D.lim, inp := D.inp, len := by simp; omega,
                f := by
                  rintro i (e | e | e)
                  · exact D.f i (.inl e)
                  · rcases N4 i e with g | g
                    · exact D.f i (.inr (.inl g))
                    · exact hF i (by omega)
                  · rcases N2 i e with g | g
                    · exact D.f i (.inr (.inr g))
                    · exact hF i (by omega) }
  refine Y28.call ?_
  simp only [Y28.t,bF,bD, ← Y28.p0.eq_1]
  refine aE D.recd rfl rfl (aC (aE D.recd rfl rfl (aC ?_)))
  refine aG (fun e=>?_) fun e=>?_
  · refine P0 true ?_
    unfold Infl.full
    simp at e
    simp; omega
  · refine aE D.recd rfl rfl (aC (aE D.recd rfl rfl (aC (aE D.recd rfl rfl (aC ?_)))))
    refine bS (n:=((L.ratio * r.input:Nat):Int)) (by rw [Int.natCast_mul]) (by omega) (by omega) ?_
    refine bS (n:=((L.ratio * r.input+1024:Nat):Int)) (by omega) (by omega) (by omega) ?_
    refine P0 _ ?_
    unfold Infl.full
    simp at e
    have:¬ L.output≤out.length:=by omega
    simp only [this,decide_false,Bool.false_or]
    congr 1
    simp; omega
end
end Go.Proofs.YtpaphfeihpgamaaDoor
namespace Go.Proofs.YtpaphfeihpgamaaDoor
open Go.GAM
open Go.Infl (bL cV bY Out Lim)
theorem wN {x:Nat} (h:x<256):IntKind.wrap .u8 (x:Int)=((UInt8.ofNat x).toNat:Int):=by
 rw [zG (by omega) (by omega)]; simp; omega
section
variable [XR] {h:aA} {Q:AV→aA→Prop} {L:Lim} {F:Nat→Prop} {d:Nat} {r:DR} {out:List UInt8} {told:Nat}
theorem eY {r r':DR} (hk:∀ i,i<h.length→Mut d r' i→Mut d r i):∀ i,i<h.length→Gd F d r i→Gd F d r' i:=fun i hl hi=>⟨hi.1,fun m=>hi.2 (hk i hl m)⟩
theorem aF2 {h0' : aA} {far : Nat} (h0 : 0 < far) {n : Nat} (hn : n ≤ 300) : ∀ (m i : Nat) (h : aA) (r : DR) (k : bL), i + m = n → Dec L h F d r k.out told → (∀ i, h.length ≤ i → F i) → far ≤ k.out.length →
  (∀ e h' p f t,Upd (Mut d r) h h'→(∀ i,i<h.length→Mut d { r with past:=p,total:=t,fresh:=f } i→Mut d r i)→Dec L h' F d { r with past:=p,total:=t,fresh:=f } (Infl.copyP L r.input far m k).1.out told→((Infl.copyP L r.input far m k).2=true∧e=0∨(Infl.copyP L r.input far m k).2=false∧e=16)→Q (.i .i64 e) h') →
  Y35.p0 (aH h0' Q) (dp d) far n i h:=by
 intro m
 induction m with
 | zero =>
  intro i h r k hi D hF hf hq
  obtain rfl:i=n:=by omega
  refine Y35.i0 ?_
  simp only [Y35.t0]
  exact aL (by simp) (.inl (hq 0 h r.past r.fresh r.total (Upd.refl _ _) (fun _ _ h=>h) D (.inl ⟨rfl,rfl⟩)))
 | succ m ih =>
  intro i h r k hi D hF hf hq
  refine Y35.i0 ?_
  simp only [Y35.t0,bF,bD, ← Y35.p0.eq_1]
  refine aW (by simp; omega) ?_
  refine aE D.recd rfl rfl (aE D.recd rfl rfl (D.past.rd.len ?_))
  have hlen:=D.len
  simp only [List.length_map]
  refine bS (n:=((k.out.length - far:Nat):Int)) (by omega) (by omega) (by omega) ?_
  obtain ⟨c,hc⟩:∃ c,k.out[k.out.length - far]? = some c:=⟨_,List.getElem?_eq_getElem (by omega)⟩
  refine D.past.rd.byte (i:=k.out.length - far) hc ?_
  have hg:k.out.getD (k.out.length - far) 0=c:=by rw [List.getD_eq_getElem?_getD,hc] <;> rfl
  refine aEQ D hF (fun hfull=>?_) fun hfull p f h1 U1 K1 D1=>?_
  ·refine aC (aW rfl (.inl (hq 16 h r.past r.fresh r.total (Upd.refl _ _) (fun _ _ h => h) ?_ (.inr ?_))))
   ·unfold Infl.copyP Infl.putP
    rw [if_pos hfull]
    exact D
   ·unfold Infl.copyP Infl.putP
    rw [if_pos hfull]
    exact ⟨rfl,rfl⟩
  ·refine aC (aL rfl (inc (by omega) ?_))
   refine ih (i+1) h1 _ { k with out:=k.out++[c] } (by omega) D1 (fun i hi=>hF i (Nat.le_trans U1.1 hi)) (by simp; omega) fun e h2 p2 f2 t2 U2 K2 D2 he=>?_
   have hcp:Infl.copyP L r.input far (m+1) k=Infl.copyP L r.input far m { k with out:=k.out++[c] }:=by
    rw [Infl.copyP]
    unfold Infl.putP
    rw [if_neg (by simp [hfull]),hg]
   refine hq e h2 p2 f2 t2 (U1.trans U2 K1) (fun i hi hm=>K1 i hi (K2 i (Nat.lt_of_lt_of_le hi U1.1) hm)) (by rw [hcp]; exact D2) (by rw [hcp]; exact he)
theorem qW {input far:Nat}:∀ (m:Nat) (k:bL),(Infl.copyP L input far m k).1=⟨(Infl.copyP L input far m k).1.out,k.last,k.skip⟩
 | 0,k=>by rfl
 | m + 1, k => by
  rw [Infl.copyP]
  unfold Infl.putP
  by_cases hf:Infl.full L input k.out
  ·rw [if_pos hf]
  ·rw [if_neg hf]
   exact qW m _
theorem aHH {far n:Nat} (h0:0<far) (hn:n≤300) (hfar:far≤32768) (D:Dec L h F d r out told) (hF:∀ i,h.length≤i→F i) (hq0:out.length<far→Q (.i .i64 2) h)
  (hq:far≤out.length→∀ e h' p f t,Upd (Mut d r) h h'→(∀ i,i<h.length→Mut d { r with past:=p,total:=t,fresh:=f } i→Mut d r i)→Dec L h' F d { r with past:=p,total:=t,fresh:=f } (Infl.copyP L r.input far n ⟨out,r.last,r.skip⟩).1.out told→((Infl.copyP L r.input far n ⟨out,r.last,r.skip⟩).2=true∧e=0∨(Infl.copyP L r.input far n ⟨out,r.last,r.skip⟩).2=false∧e=16)→Q (.i .i64 e) h') :
  C Y35.id [dp d,iN n,iN far] h Q:=by
 have ht:=D.total
 refine Y35.call ?_
 simp only [Y35.t,bF,bD, ← Y35.p0.eq_1]
 refine aE D.recd rfl rfl (aC ?_)
 refine aG (fun e=>?_) fun e=>?_
 ·exact .inl (hq0 (by simp at e; omega))
 ·have e : far ≤ out.length := by simp at e; omega
  exact aF2 h0 hn n 0 h r ⟨out,r.last,r.skip⟩ (by omega) D hF e (hq e)
theorem aIA {x n:Nat} {v:AV} (D:Dec L h F d r out told) (hF:∀ i,h.length≤i→F i) (hd:r.done=false) (hc:Clo h (Gd F d r) d 0 (.p none) (.raw n) v) (hf:fit (.raw n) x)
  (hq:∀ e h' r',cP F L h F d r told (Infl.apply L r.input ⟨out,r.last,r.skip⟩ x (.raw n)) e h' r'→Q (.i .i64 e) h'):bZ C v [iN x] h Q:=by
 obtain ⟨bd,bn,rfl,B,Bn⟩:=hc
 obtain ⟨hn0,hn,hx⟩:=hf
 refine cY (by decide) (Y74.call ?_)
 simp only [Y74.t,B.ld,wN hx]
 refine aEQ D hF (fun hfull=>?_) fun hfull p f h1 U1 K1 D1=>?_
 ·refine aC (aW rfl (.inl (hq 16 h r ?_)))
  simp only [Infl.apply,Infl.putP]
  rw [if_pos hfull]
  exact ⟨Upd.refl _ _,fun _ _ h=>h,D,rfl,rfl,rfl,rfl,.inr rfl,hd⟩
 ·refine aC (aL rfl ?_)
  have B1:=B.upd U1 (fun i hi hm=>hi.2 hm) (eY K1)
  have Bn1:=Bn.upd U1 (fun i hi hm=>hi.2 hm) (eY K1)
  rw [B1.ld,Bn1.ld]
  refine aC (bS (n:=((n - 1:Nat):Int)) (by omega) (by omega) (by omega) ?_)
  refine aG7 (by omega) D1 (fun i hi=>hF i (Nat.le_trans U1.1 hi)) hd fun e h2 r2 P=>aC (.inl (hq e h2 r2 ?_))
  simp only [Infl.apply,Infl.putP]
  rw [if_neg (by simp [hfull])]
  exact (P.mono fun i _ e=>D1.f i (.inl e)).from U1 (fun i _ hm=>D.f i hm) K1 rfl rfl rfl
end
end Go.Proofs.YtpaphfeihpgamaaDoor
