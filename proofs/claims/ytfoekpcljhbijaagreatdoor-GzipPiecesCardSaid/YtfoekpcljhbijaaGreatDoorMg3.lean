/- Lemmas (several texts in one). -/
import Derived.Below
import Derived.ChangeArms
import Derived.ChangeSlices
import Derived.DataElems
import Derived.LaidMore
import Derived.Lib.Bytealg
import Derived.Test.YtfoekpcljhbijaaGreatDoorMg2
set_option linter.unusedVariables false
set_option linter.unusedSectionVars false
set_option maxRecDepth 100000
namespace Go.Proofs.YtfoekpcljhbijaaGreatDoor
open Go.GAM
variable [XR]
noncomputable def Y61.body:Code:=(Tryz.f126.body).getD .skip
def Y61.ann:Ann:=(sl [1,2] (sl [3] lf))
theorem Y61.dist:aJ (places Y61.ann Y61.body)=true:=by kernel_rfl
noncomputable def Y61.J (Q:AV→aA→Prop):JT:=bQ prog C Tryz.f126 Y61.ann Y61.body Q
def Y61.t (Q:AV→aA→Prop) (x0:Int) (x1:AV) (h:aA) (J:JT):Prop:=
d7 none (AV.i .i64 x0) h fun v0 h1=>
aC x1 h1 fun v3=>
C Y26.id [v3,(AV.i .i64 16),(AV.fn (.func Y47.id) [] [v0,x1])] h1 fun v4 h5=>
asI .i64 v4 fun n6=>
Q (AV.i .i64 n6) h5
theorem Y61.call {K x0 x1 h} (H:Y61.t (aH h K) x0 x1 h (Y61.J (aH h K))):C Y61.id [(AV.i .i64 x0),x1] h K:=
 gC Y61.J Tryz.func126 Y61.dist H
noncomputable def Y47.body:Code:=(Tryz.f127.body).getD .skip
def Y47.ann:Ann:=(sl [0,1,2] (sq [1,2] (sl [1,2,8] (.br (sl [4] lf) lf)) (sl [4] lf)))
theorem Y47.dist:aJ (places Y47.ann Y47.body)=true:=by kernel_rfl
noncomputable def Y47.J (Q:AV→aA→Prop):JT:=bQ prog C Tryz.f127 Y47.ann Y47.body Q
def Y47.t (Q:AV→aA→Prop) (x0:Int) (x1 x2:AV) (h:aA) (J:JT):Prop:=
aC x1 h fun v1=>
asI .i64 v1 fun n2=>
aT (IntKind.wrap .i64 (65535 - n2)) fun n3=>
(bif (!decide ((x0:Int)=n3)) then
(Q (AV.i .i64 2) h)
else
(aC x2 h fun v7=>
aC x1 h fun v8=>
asI .i64 v8 fun n9=>
C Y31.id [v7,(AV.i .i64 n9)] h fun v10 h11=>
asI .i64 v10 fun n12=>
Q (AV.i .i64 n12) h11))
theorem Y47.call {K x0 x1 x2 h} (H:Y47.t (aH h K) x0 x1 x2 h (Y47.J (aH h K))):C Y47.id [(AV.i .i64 x0),x1,x2] h K:=
 gC Y47.J Tryz.func127 Y47.dist H
noncomputable def Y31.body:Code:=(Tryz.f128.body).getD .skip
def Y31.ann:Ann:=(sl [2,3] (sq [2,3] (sl [2,3,6] (.br (sl [4] lf) lf)) (sl [4] lf)))
theorem Y31.dist:aJ (places Y31.ann Y31.body)=true:=by kernel_rfl
noncomputable def Y31.J (Q:AV→aA→Prop):JT:=bQ prog C Tryz.f128 Y31.ann Y31.body Q
def Y31.t (Q:AV→aA→Prop) (x0:AV) (x1:Int) (h:aA) (J:JT):Prop:=
d7 none x0 h fun v0 h1=>
d7 none (AV.i .i64 x1) h1 fun v2 h3=>
aC v2 h3 fun v5=>
asI .i64 v5 fun n6=>
(bif (decide ((n6:Int)=0)) then
(aC v0 h3 fun v8=>
C Y29.id [v8] h3 fun v9 h10=>
asI .i64 v9 fun n11=>
Q (AV.i .i64 n11) h10)
else
(aC v0 h3 fun v14=>
C Y26.id [v14,(AV.i .i64 8),(AV.fn (.func Y40.id) [] [v0,v2])] h3 fun v15 h16=>
asI .i64 v15 fun n17=>
Q (AV.i .i64 n17) h16))
theorem Y31.call {K x0 x1 h} (H:Y31.t (aH h K) x0 x1 h (Y31.J (aH h K))):C Y31.id [x0,(AV.i .i64 x1)] h K:=
 gC Y31.J Tryz.func128 Y31.dist H
noncomputable def Y34.body:Code:=(Tryz.f129.body).getD .skip
def Y34.ann:Ann:=(sl [0,1,2] (sl [0,2,7,8] (sq [0,2,7] (sl [0,2,7,16] (.br (sl [6] lf) lf)) (sl [0,7,8,9] (sq [0,7,9] (sl [0,7,9,23] (.br (sl [6] lf) lf)) (sl [6] lf))))))
theorem Y34.dist:aJ (places Y34.ann Y34.body)=true:=by kernel_rfl
noncomputable def Y34.J (Q:AV→aA→Prop):JT:=bQ prog C Tryz.f129 Y34.ann Y34.body Q
def Y34.t (Q:AV→aA→Prop) (x0 x1 x2:AV) (h:aA) (J:JT):Prop:=
C Y6.id [x1] h fun v1 h2=>
bC 0 v1 fun v3=>
bC 1 v1 fun v4=>
asI .i64 v4 fun n5=>
(bif (!decide ((n5:Int)=0)) then
(Q (AV.i .i64 2) h2)
else
(C Y6.id [x2] h2 fun v10 h11=>
bC 0 v10 fun v12=>
bC 1 v10 fun v13=>
asI .i64 v13 fun n14=>
(bif (!decide ((n14:Int)=0)) then
(Q (AV.i .i64 2) h11)
else
(C Y27.id [x0,v3,v12] h11 fun v19 h20=>
asI .i64 v19 fun n21=>
Q (AV.i .i64 n21) h20))))
theorem Y34.call {K x0 x1 x2 h} (H:Y34.t (aH h K) x0 x1 x2 h (Y34.J (aH h K))):C Y34.id [x0,x1,x2] h K:=
 gC Y34.J Tryz.func129 Y34.dist H
noncomputable def Y48.body:Code:=(Tryz.f130.body).getD .skip
def Y48.ann:Ann:=(sl [0,1] (sl [1,4] (sq [1,4] (sl [1,4,8] (.br (sl [3] lf) lf)) (sl [3] lf))))
theorem Y48.dist:aJ (places Y48.ann Y48.body)=true:=by kernel_rfl
noncomputable def Y48.J (Q:AV→aA→Prop):JT:=bQ prog C Tryz.f130 Y48.ann Y48.body Q
def Y48.t (Q:AV→aA→Prop) (x0:Int) (x1:AV) (h:aA) (J:JT):Prop:=
aT (IntKind.wrap .i64 (x0+257)) fun n1=>
dV none [(AV.i .i64 0)] h fun v2 h3=>
aR 1 v2 (AV.i .i64 n1) h3 fun h4=>
aC v2 h4 fun v6=>
asI .i64 v6 fun n7=>
(bif (decide ((286:Int)<n7)) then
(Q (AV.i .i64 2) h4)
else
(aC x1 h4 fun v11=>
C Y26.id [v11,(AV.i .i64 5),(AV.fn (.func Y62.id) [] [x1,v2])] h4 fun v12 h13=>
asI .i64 v12 fun n14=>
Q (AV.i .i64 n14) h13))
theorem Y48.call {K x0 x1 h} (H:Y48.t (aH h K) x0 x1 h (Y48.J (aH h K))):C Y48.id [(AV.i .i64 x0),x1] h K:=
 gC Y48.J Tryz.func130 Y48.dist H
noncomputable def Y62.body:Code:=(Tryz.f131.body).getD .skip
def Y62.ann:Ann:=(sl [0,1,2] (sl [1,2,5] (sq [1,2,5] (sl [1,2,5,9] (.br (sl [4] lf) lf)) (sl [4] lf))))
theorem Y62.dist:aJ (places Y62.ann Y62.body)=true:=by kernel_rfl
noncomputable def Y62.J (Q:AV→aA→Prop):JT:=bQ prog C Tryz.f131 Y62.ann Y62.body Q
def Y62.t (Q:AV→aA→Prop) (x0:Int) (x1 x2:AV) (h:aA) (J:JT):Prop:=
aT (IntKind.wrap .i64 (x0+1)) fun n1=>
dV none [(AV.i .i64 0)] h fun v2 h3=>
aR 1 v2 (AV.i .i64 n1) h3 fun h4=>
aC v2 h4 fun v6=>
asI .i64 v6 fun n7=>
(bif (decide ((30:Int)<n7)) then
(Q (AV.i .i64 2) h4)
else
(aC x1 h4 fun v11=>
C Y26.id [v11,(AV.i .i64 4),(AV.fn (.func Y63.id) [] [x1,x2,v2])] h4 fun v12 h13=>
asI .i64 v12 fun n14=>
Q (AV.i .i64 n14) h13))
theorem Y62.call {K x0 x1 x2 h} (H:Y62.t (aH h K) x0 x1 x2 h (Y62.J (aH h K))):C Y62.id [(AV.i .i64 x0),x1,x2] h K:=
 gC Y62.J Tryz.func131 Y62.dist H
noncomputable def Y63.body:Code:=(Tryz.f132.body).getD .skip
def Y63.ann:Ann:=(sl [0,1,2,3] (sq [5] (.ord (.neu 0 (nn 2 4 (.eff 1 (.eff 6 (.neu 7 .done) .stop) .stop)))) lf))
theorem Y63.dist:aJ (places Y63.ann Y63.body)=true:=by kernel_rfl
noncomputable def Y63.J (Q:AV→aA→Prop):JT:=bQ prog C Tryz.f132 Y63.ann Y63.body Q
def Y63.t (Q:AV→aA→Prop) (x0:Int) (x1 x2 x3:AV) (h:aA) (J:JT):Prop:=
aC x1 h fun v1=>
aT (IntKind.wrap .i64 (x0+4)) fun n2=>
aC x2 h fun v3=>
asI .i64 v3 fun n4=>
aC x3 h fun v5=>
asI .i64 v5 fun n6=>
wN 1 8 [(AV.i .i64 0)] (AV.i .i64 19) (AV.i .i64 19) h fun v7 h8=>
aC x3 h8 fun v9=>
asI .i64 v9 fun n10=>
((AV.i .i64 n6)=(AV.i .i64 n10) ∧
(aC x2 h8 fun v11=>
asI .i64 v11 fun n12=>
((AV.i .i64 n4)=(AV.i .i64 n12) ∧
(aC x1 h8 fun v13=>
(v1=v13 ∧
(C Y37.id [v1,v7,(AV.i .i64 0),(AV.i .i64 n2),(AV.i .i64 n4),(AV.i .i64 n6)] h8 fun v14 h15=>
asI .i64 v14 fun n16=>
Q (AV.i .i64 n16) h15))))))
theorem Y63.call {K x0 x1 x2 x3 h} (H:Y63.t (aH h K) x0 x1 x2 x3 h (Y63.J (aH h K))):C Y63.id [(AV.i .i64 x0),x1,x2,x3] h K:=
 gC Y63.J Tryz.func132 Y63.dist H
noncomputable def Y37.body:Code:=(Tryz.f133.body).getD .skip
def Y37.ann:Ann:=(sl [6,7,8,9,10,11] (sq [6,7,8,9,10,11] (sl [6,7,8,9,10,11,17] (.br (sl [6,10,11,13,14] (sq [6,10,11,13] (sl [6,10,11,13,24] (.br (sl [12] lf) lf)) (sl [12] lf))) lf)) (sl [12] lf)))
theorem Y37.dist:aJ (places Y37.ann Y37.body)=true:=by kernel_rfl
noncomputable def Y37.J (Q:AV→aA→Prop):JT:=bQ prog C Tryz.f133 Y37.ann Y37.body Q
def Y37.t (Q:AV→aA→Prop) (x0 x1:AV) (x2 x3 x4 x5:Int) (h:aA) (J:JT):Prop:=
d7 none x0 h fun v0 h1=>
d7 none x1 h1 fun v2 h3=>
d7 none (AV.i .i64 x2) h3 fun v4 h5=>
d7 none (AV.i .i64 x3) h5 fun v6 h7=>
d7 none (AV.i .i64 x4) h7 fun v8 h9=>
d7 none (AV.i .i64 x5) h9 fun v10 h11=>
aC v4 h11 fun v13=>
asI .i64 v13 fun n14=>
aC v6 h11 fun v15=>
asI .i64 v15 fun n16=>
(bif (decide ((n14:Int)=n16)) then
(aC v2 h11 fun v18=>
C Y6.id [v18] h11 fun v19 h20=>
bC 0 v19 fun v21=>
bC 1 v19 fun v22=>
asI .i64 v22 fun n23=>
(bif (!decide ((n23:Int)=0)) then
(Q (AV.i .i64 2) h20)
else
(aC v0 h20 fun v28=>
aC v8 h20 fun v29=>
asI .i64 v29 fun n30=>
aC v10 h20 fun v31=>
asI .i64 v31 fun n32=>
C Y30.id [v28,v21,(AV.sl none 0 none),(AV.i .i64 n30),(AV.i .i64 n32)] h20 fun v33 h34=>
asI .i64 v33 fun n35=>
Q (AV.i .i64 n35) h34)))
else
(aC v0 h11 fun v38=>
C Y26.id [v38,(AV.i .i64 3),(AV.fn (.func Y46.id) [] [v2,v4,v0,v6,v8,v10])] h11 fun v39 h40=>
asI .i64 v39 fun n41=>
Q (AV.i .i64 n41) h40))
theorem Y37.call {K x0 x1 x2 x3 x4 x5 h} (H:Y37.t (aH h K) x0 x1 x2 x3 x4 x5 h (Y37.J (aH h K))):C Y37.id [x0,x1,(AV.i .i64 x2),(AV.i .i64 x3),(AV.i .i64 x4),(AV.i .i64 x5)] h K:=
 gC Y37.J Tryz.func133 Y37.dist H
noncomputable def Y64.body:Code:=(Tryz.f144.body).getD .skip
def Y64.ann:Ann:=(sl [0,1] (sl [0,1,6] (sl [0,1,6,7] (sl [0,1,6,7,8] (sl [0,1,6,7,8,9] (sl [0,1,6,7,8,9,10] (sl [0,1,6,7,9,11] (sl [0,1,6,7,9,11,12] (sl [0,1,6,7,9,12,13] (sl [0,1,7,9,12,13] (sl [0,1,4] (sl [4,5] lf))))))))))))
theorem Y64.dist:aJ (places Y64.ann Y64.body)=true:=by kernel_rfl
noncomputable def Y64.J (Q:AV→aA→Prop):JT:=bQ prog C Tryz.f144 Y64.ann Y64.body Q
def Y64.t (Q:AV→aA→Prop) (x0 x1:Int) (h:aA) (J:JT):Prop:=
aT (aX .and .u64 x0 4294967295) fun n1=>
xW .u64 x0 32 fun n3=>
aT (aX .and .u64 x1 4294967295) fun n5=>
xW .u64 x1 32 fun n7=>
aT (IntKind.wrap .u64 (n1 * n5)) fun n9=>
aT (IntKind.wrap .u64 (n3 * n5)) fun n11=>
xW .u64 n9 32 fun n12=>
aT (IntKind.wrap .u64 (n11+n12)) fun n13=>
aT (aX .and .u64 n13 4294967295) fun n15=>
xW .u64 n13 32 fun n17=>
aT (IntKind.wrap .u64 (n1 * n7)) fun n19=>
aT (IntKind.wrap .u64 (n15+n19)) fun n20=>
aT (IntKind.wrap .u64 (n3 * n7)) fun n22=>
aT (IntKind.wrap .u64 (n22+n17)) fun n23=>
xW .u64 n20 32 fun n24=>
aT (IntKind.wrap .u64 (n23+n24)) fun n25=>
aT (IntKind.wrap .u64 (x0 * x1)) fun n27=>
Q (AV.tu [(AV.i .u64 n25),(AV.i .u64 n27)]) h
theorem Y64.call {K x0 x1 h} (H:Y64.t (aH h K) x0 x1 h (Y64.J (aH h K))):C Y64.id [(AV.i .u64 x0),(AV.i .u64 x1)] h K:=
 gC Y64.J Tryz.func144 Y64.dist H
noncomputable def Y40.body:Code:=(Tryz.f146.body).getD .skip
def Y40.ann:Ann:=(sl [0,1,2] (sq [1,2] (sl [1,2,5] (sl [1,2,5,11] (.br (sl [4] lf) lf))) (sl [4] lf)))
theorem Y40.dist:aJ (places Y40.ann Y40.body)=true:=by kernel_rfl
noncomputable def Y40.J (Q:AV→aA→Prop):JT:=bQ prog C Tryz.f146 Y40.ann Y40.body Q
def Y40.t (Q:AV→aA→Prop) (x0:Int) (x1 x2:AV) (h:aA) (J:JT):Prop:=
aC x1 h fun v1=>
C Y12.id [v1,(AV.i .u8 (IntKind.wrap .u8 x0))] h fun v2 h3=>
asI .i64 v2 fun n4=>
(bif (!decide ((n4:Int)=0)) then
(Q (AV.i .i64 n4) h3)
else
(aC x1 h3 fun v9=>
aC x2 h3 fun v10=>
asI .i64 v10 fun n11=>
aT (IntKind.wrap .i64 (n11 - 1)) fun n12=>
C Y31.id [v9,(AV.i .i64 n12)] h3 fun v13 h14=>
asI .i64 v13 fun n15=>
Q (AV.i .i64 n15) h14))
theorem Y40.call {K x0 x1 x2 h} (H:Y40.t (aH h K) x0 x1 x2 h (Y40.J (aH h K))):C Y40.id [(AV.i .i64 x0),x1,x2] h K:=
 gC Y40.J Tryz.func146 Y40.dist H
noncomputable def Y12.body:Code:=(Tryz.f147.body).getD .skip
def Y12.ann:Ann:=(sl [0,1] (sq [0,1] (.seq 1 [0,1,32] (.ord (nn 0 28 .done)) (.br (sl [4] lf) lf)) (sl [0,1] (sl [0,1] (.seq 2 [0,1] (sl [0,1,55] bl) (sl [] (sl [4] lf)))))))
theorem Y12.dist:aJ (places Y12.ann Y12.body)=true:=by kernel_rfl
noncomputable def Y12.J (Q:AV→aA→Prop):JT:=bQ prog C Tryz.f147 Y12.ann Y12.body Q
def Y12.p0 (Q:AV→aA→Prop) (x0:AV) (x1:Int) (x32:Bool) (h:aA):Prop:=Y12.J Q 1 [(0,x0),(1,(AV.i .u8 x1)),(32,(AV.b x32))] h
def Y12.p1 (Q:AV→aA→Prop) (x0:AV) (x1:Int) (h:aA):Prop:=Y12.J Q 2 [(0,x0),(1,(AV.i .u8 x1))] h
def Y12.t0 (Q:AV→aA→Prop) (x0:AV) (x1:Int) (x32:Bool) (h:aA) (J:JT):Prop:=
(bif x32 then
(Q (AV.i .i64 16) h)
else
(aP x0 fun v29=>
aB 3 v29 fun v30=>
aC v30 h fun v31=>
asI .i64 v31 fun n32=>
aT (IntKind.wrap .i64 (n32+1)) fun n33=>
aP x0 fun v34=>
aB 3 v34 fun v35=>
aR 1 v35 (AV.i .i64 n33) h fun h36=>
aP x0 fun v38=>
aB 4 v38 fun v39=>
aC v39 h36 fun v40=>
bR 1 1 [(AV.i .u8 0)] [(0,1,(AV.i .u8 x1))] h36 fun v41 h42=>
b5 (some 5) 1 1 v40 v41 h42 fun v43 h44=>
aP x0 fun v45=>
aB 4 v45 fun v46=>
aR 1 v46 v43 h44 fun h47=>
aP x0 fun v49=>
aB 2 v49 fun v50=>
aC v50 h47 fun v51=>
b6 v51 fun n52=>
(bif (decide ((65536:Int)≤n52)) then
(aP x0 fun v54=>
aB 2 v54 fun v55=>
aC v55 h47 fun v56=>
bZ 1 v56 (some (AV.i .i64 32768)) none none h47 fun v57=>
C Y68.id [v57] h47 fun v58 h59=>
aP x0 fun v60=>
aB 2 v60 fun v61=>
aR 1 v61 v58 h59 fun h62=>
J 2 [(0,x0),(1,(AV.i .u8 x1))] h62)
else
(J 2 [(0,x0),(1,(AV.i .u8 x1))] h47))))
theorem Y12.i0 {Q x0 x1 x32 h} (H:Y12.t0 Q x0 x1 x32 h (Y12.J Q)):Y12.p0 Q x0 x1 x32 h:=gR Y12.J Tryz.f147 Y12.dist [1,0,1] H
def Y12.t1 (Q:AV→aA→Prop) (x0:AV) (x1:Int) (h:aA) (J:JT):Prop:=
aP x0 fun v65=>
aB 2 v65 fun v66=>
aC v66 h fun v67=>
bR 1 1 [(AV.i .u8 0)] [(0,1,(AV.i .u8 x1))] h fun v68 h69=>
b5 (some 5) 1 1 v67 v68 h69 fun v70 h71=>
aP x0 fun v72=>
aB 2 v72 fun v73=>
aR 1 v73 v70 h71 fun h74=>
Q (AV.i .i64 0) h74
theorem Y12.i1 {Q x0 x1 h} (H:Y12.t1 Q x0 x1 h (Y12.J Q)):Y12.p1 Q x0 x1 h:=gR Y12.J Tryz.f147 Y12.dist [1,1,1,1,1] H
def Y12.t (Q:AV→aA→Prop) (x0:AV) (x1:Int) (h:aA) (J:JT):Prop:=
aP x0 fun v1=>
aB 3 v1 fun v2=>
aC v2 h fun v3=>
asI .i64 v3 fun n4=>
aP x0 fun v5=>
aB 0 v5 fun v6=>
aB 0 v6 fun v7=>
aC v7 h fun v8=>
asI .i64 v8 fun n9=>
(bif (decide ((n9:Int)≤n4)) then
(J 1 [(0,x0),(1,(AV.i .u8 x1)),(32,(AV.b true))] h)
else
(aP x0 fun v11=>
aB 3 v11 fun v12=>
aC v12 h fun v13=>
asI .i64 v13 fun n14=>
aP x0 fun v15=>
aB 0 v15 fun v16=>
aB 1 v16 fun v17=>
aC v17 h fun v18=>
asI .i64 v18 fun n19=>
aP x0 fun v20=>
aB 5 v20 fun v21=>
aC v21 h fun v22=>
asI .i64 v22 fun n23=>
aT (IntKind.wrap .i64 (n19 * n23)) fun n24=>
aT (IntKind.wrap .i64 (n24+1024)) fun n25=>
J 1 [(0,x0),(1,(AV.i .u8 x1)),(32,(AV.b (decide ((n25:Int)≤n14))))] h))
theorem Y12.call {K x0 x1 h} (H:Y12.t (aH h K) x0 x1 h (Y12.J (aH h K))):C Y12.id [x0,(AV.i .u8 x1)] h K:=
 gC Y12.J Tryz.func147 Y12.dist H
noncomputable def Y6.body:Code:=(Tryz.f148.body).getD .skip
def Y6.ann:Ann:=(sl [0] (sq [0] (sl [0,4] (sl [0,4,12] (.br (sl [2,3] lf) lf))) (sl [0,5] (sq [5] (sl [0,5,6] (.one (.loop 1 [0,5,6] (sq [0,5,6] (sl [0,5,6,19] bl) (sq [0,5,6] (.one (sq [0,5,6] (.ord (nn 0 10 (.eff 10 .done .stop))) (sl [0,5,6,32,33,34] (.one (.loop 2 [0,5,6,32,33,34] (sl [0,5,6,32,33,34,35] (sq [0,5,6,32,33,34] bl (.seq 3 [0,5,6,32,33,34] (.one (sl [0,5,6,7,8,32,33,34] (sl [0,5,6,7,32,33,34,41] (.br (sl [0,5,6,32,33,34] lf) lf)))) lf)))))))) lf))))) (sl [2,3] lf)))))
theorem Y6.dist:aJ (places Y6.ann Y6.body)=true:=by kernel_rfl
noncomputable def Y6.J (Q:AV→aA→Prop):JT:=bQ prog C Tryz.f148 Y6.ann Y6.body Q
def Y6.p2 (Q:AV→aA→Prop) (x0 x5:AV) (x6:Int) (x32:AV) (x33 x34:Int) (h:aA):Prop:=Y6.J Q 3 [(0,x0),(5,x5),(6,(AV.i .i64 x6)),(32,x32),(33,(AV.i .i64 x33)),(34,(AV.i .i64 x34))] h
def Y6.p1 (Q:AV→aA→Prop) (x0 x5:AV) (x6:Int) (x32:AV) (x33 x34:Int) (h:aA):Prop:=Y6.J Q 2 [(0,x0),(5,x5),(6,(AV.i .i64 x6)),(32,x32),(33,(AV.i .i64 x33)),(34,(AV.i .i64 x34))] h
def Y6.p0 (Q:AV→aA→Prop) (x0 x5:AV) (x6:Int) (h:aA):Prop:=Y6.J Q 1 [(0,x0),(5,x5),(6,(AV.i .i64 x6))] h
def Y6.t2 (Q:AV→aA→Prop) (x0 x5:AV) (x6:Int) (x32:AV) (x33 x34:Int) (h:aA) (J:JT):Prop:=
aT (IntKind.wrap .i64 (x34+1)) fun n53=>
J 2 [(0,x0),(5,x5),(6,(AV.i .i64 x6)),(32,x32),(33,(AV.i .i64 x33)),(34,(AV.i .i64 n53))] h
theorem Y6.i2 {Q x0 x5 x6 x32 x33 x34 h} (H:Y6.t2 Q x0 x5 x6 x32 x33 x34 h (Y6.J Q)):Y6.p2 Q x0 x5 x6 x32 x33 x34 h:=gR Y6.J Tryz.f148 Y6.dist [1,1,1,0,1,0,0,1,0,0,1,1,0,0,1,1,1] H
def Y6.t1 (Q:AV→aA→Prop) (x0 x5:AV) (x6:Int) (x32:AV) (x33 x34:Int) (h:aA) (J:JT):Prop:=
(bif (decide ((x34:Int)<x33)) then
(aZ 1 x32 (AV.i .i64 x34) h fun v32=>
aC v32 h fun v33=>
asI .i64 v33 fun n34=>
(bif (decide ((n34:Int)=x6)) then
(aP x5 fun v37=>
aB 32 v37 fun v38=>
aC v38 h fun v39=>
bR 1 1 [(AV.i .i64 0)] [(0,1,(AV.i .i64 x34))] h fun v40 h41=>
b5 none 1 8 v39 v40 h41 fun v42 h43=>
aP x5 fun v44=>
aB 32 v44 fun v45=>
aR 1 v45 v42 h43 fun h46=>
aP x5 fun v48=>
aB 49 v48 fun v49=>
aR 1 v49 (AV.i .i64 x6) h46 fun h50=>
J 3 [(0,x0),(5,x5),(6,(AV.i .i64 x6)),(32,x32),(33,(AV.i .i64 x33)),(34,(AV.i .i64 x34))] h50)
else
(J 3 [(0,x0),(5,x5),(6,(AV.i .i64 x6)),(32,x32),(33,(AV.i .i64 x33)),(34,(AV.i .i64 x34))] h)))
else
(aT (IntKind.wrap .i64 (x6+1)) fun n55=>
J 1 [(0,x0),(5,x5),(6,(AV.i .i64 n55))] h))
theorem Y6.i1 {Q x0 x5 x6 x32 x33 x34 h} (H:Y6.t1 Q x0 x5 x6 x32 x33 x34 h (Y6.J Q)):Y6.p1 Q x0 x5 x6 x32 x33 x34 h:=gH Y6.J Tryz.f148 Y6.dist [1,1,1,0,1,0,0,1,0,0,1,1,0] H
def Y6.t0 (Q:AV→aA→Prop) (x0 x5:AV) (x6:Int) (h:aA) (J:JT):Prop:=
(bif (decide ((x6:Int)≤15)) then
(aP x5 fun v18=>
aB 32 v18 fun v19=>
aC v19 h fun v20=>
b6 v20 fun n21=>
aP x5 fun v22=>
aB 33 v22 fun v23=>
bJ 16 1 v23 (AV.i .i64 x6) fun v24=>
aR 1 v24 (AV.i .i64 n21) h fun h25=>
b6 x0 fun n27=>
J 2 [(0,x0),(5,x5),(6,(AV.i .i64 x6)),(32,x0),(33,(AV.i .i64 n27)),(34,(AV.i .i64 0))] h25)
else
(Q (AV.tu [x5,(AV.i .i64 0)]) h))
theorem Y6.i0 {Q x0 x5 x6 h} (H:Y6.t0 Q x0 x5 x6 h (Y6.J Q)):Y6.p0 Q x0 x5 x6 h:=gH Y6.J Tryz.f148 Y6.dist [1,1,1,0,1,0] H
def Y6.t (Q:AV→aA→Prop) (x0:AV) (h:aA) (J:JT):Prop:=
C Y5.id [x0] h fun v1 h2=>
asI .i64 v1 fun n3=>
(bif (!decide ((n3:Int)=0)) then
(Q (AV.tu [(AV.p none),(AV.i .i64 n3)]) h2)
else
(C Y8.id [x0] h2 fun v8 h9=>
gS [(AV.i .i64 0),(AV.i .i64 0),(AV.i .i64 0),(AV.i .i64 0),(AV.i .i64 0),(AV.i .i64 0),(AV.i .i64 0),(AV.i .i64 0),(AV.i .i64 0),(AV.i .i64 0),(AV.i .i64 0),(AV.i .i64 0),(AV.i .i64 0),(AV.i .i64 0),(AV.i .i64 0),(AV.i .i64 0),(AV.i .i64 0),(AV.i .i64 0),(AV.i .i64 0),(AV.i .i64 0),(AV.i .i64 0),(AV.i .i64 0),(AV.i .i64 0),(AV.i .i64 0),(AV.i .i64 0),(AV.i .i64 0),(AV.i .i64 0),(AV.i .i64 0),(AV.i .i64 0),(AV.i .i64 0),(AV.i .i64 0),(AV.i .i64 0),(AV.sl none 0 none),(AV.i .i64 0),(AV.i .i64 0),(AV.i .i64 0),(AV.i .i64 0),(AV.i .i64 0),(AV.i .i64 0),(AV.i .i64 0),(AV.i .i64 0),(AV.i .i64 0),(AV.i .i64 0),(AV.i .i64 0),(AV.i .i64 0),(AV.i .i64 0),(AV.i .i64 0),(AV.i .i64 0),(AV.i .i64 0),(AV.i .i64 0),(AV.i .i64 0),(AV.i .i64 0)] [(0,32,v8)] fun v10=>
d7 (some 182) v10 h9 fun v11 h12=>
J 1 [(0,x0),(5,v11),(6,(AV.i .i64 1))] h12))
theorem Y6.call {K x0 h} (H:Y6.t (aH h K) x0 h (Y6.J (aH h K))):C Y6.id [x0] h K:=
 gC Y6.J Tryz.func148 Y6.dist H
noncomputable def Y27.body:Code:=(Tryz.f149.body).getD .skip
def Y27.ann:Ann:=(sl [3,4,5] (sl [6] lf))
theorem Y27.dist:aJ (places Y27.ann Y27.body)=true:=by kernel_rfl
noncomputable def Y27.J (Q:AV→aA→Prop):JT:=bQ prog C Tryz.f149 Y27.ann Y27.body Q
def Y27.t (Q:AV→aA→Prop) (x0 x1 x2:AV) (h:aA) (J:JT):Prop:=
d7 none x0 h fun v0 h1=>
d7 none x1 h1 fun v2 h3=>
d7 none x2 h3 fun v4 h5=>
aC v0 h5 fun v7=>
aC v2 h5 fun v8=>
C Y28.id [v7,v8,(AV.fn (.func Y54.id) [] [v0,v2,v4])] h5 fun v9 h10=>
asI .i64 v9 fun n11=>
Q (AV.i .i64 n11) h10
theorem Y27.call {K x0 x1 x2 h} (H:Y27.t (aH h K) x0 x1 x2 h (Y27.J (aH h K))):C Y27.id [x0,x1,x2] h K:=
 gC Y27.J Tryz.func149 Y27.dist H
noncomputable def Y30.body:Code:=(Tryz.f150.body).getD .skip
def Y30.ann:Ann:=(sl [5,6,7,8,9] (sq [5,6,7,8,9] (sl [5,6,7,8,9,17] (.br (sq [10] (.ord (nn 0 7 (.eff 7 (.neu 8 .done) .stop))) lf) lf)) (sl [5,6,7,8,9,11] (sl [10] lf))))
theorem Y30.dist:aJ (places Y30.ann Y30.body)=true:=by kernel_rfl
noncomputable def Y30.J (Q:AV→aA→Prop):JT:=bQ prog C Tryz.f150 Y30.ann Y30.body Q
def Y30.t (Q:AV→aA→Prop) (x0 x1 x2:AV) (x3 x4:Int) (h:aA) (J:JT):Prop:=
d7 none x0 h fun v0 h1=>
d7 none x1 h1 fun v2 h3=>
d7 none x2 h3 fun v4 h5=>
d7 none (AV.i .i64 x3) h5 fun v6 h7=>
d7 none (AV.i .i64 x4) h7 fun v8 h9=>
aC v4 h9 fun v11=>
b6 v11 fun n12=>
aC v6 h9 fun v13=>
asI .i64 v13 fun n14=>
aC v8 h9 fun v15=>
asI .i64 v15 fun n16=>
aT (IntKind.wrap .i64 (n14+n16)) fun n17=>
(bif (decide ((n12:Int)=n17)) then
(aC v0 h9 fun v19=>
aC v4 h9 fun v20=>
aC v6 h9 fun v21=>
asI .i64 v21 fun n22=>
bZ 1 v20 none (some (AV.i .i64 n22)) none h9 fun v23=>
aC v4 h9 fun v24=>
aC v6 h9 fun v25=>
asI .i64 v25 fun n26=>
bZ 1 v24 (some (AV.i .i64 n26)) none none h9 fun v27=>
C Y34.id [v19,v23,v27] h9 fun v28 h29=>
asI .i64 v28 fun n30=>
Q (AV.i .i64 n30) h29)
else
(dV none [AV.nf] h9 fun v33 h34=>
aR 1 v33 (AV.fn (.func Y32.id) [] [v0,v4,v6,v8,v2]) h34 fun h35=>
aC v0 h35 fun v37=>
aC v2 h35 fun v38=>
C Y28.id [v37,v38,(AV.fn (.func Y23.id) [] [v0,v2,v4,v6,v8,v33])] h35 fun v39 h40=>
asI .i64 v39 fun n41=>
Q (AV.i .i64 n41) h40))
theorem Y30.call {K x0 x1 x2 x3 x4 h} (H:Y30.t (aH h K) x0 x1 x2 x3 x4 h (Y30.J (aH h K))):C Y30.id [x0,x1,x2,(AV.i .i64 x3),(AV.i .i64 x4)] h K:=
 gC Y30.J Tryz.func150 Y30.dist H
noncomputable def Y46.body:Code:=(Tryz.f151.body).getD .skip
def Y46.ann:Ann:=(sl [0,1,2,3,4,5,6] (sq [1,2,3,4,5,6] (.ord (nn 0 6 (.eff 6 .done .stop))) (sl [8] lf)))
theorem Y46.dist:aJ (places Y46.ann Y46.body)=true:=by kernel_rfl
noncomputable def Y46.J (Q:AV→aA→Prop):JT:=bQ prog C Tryz.f151 Y46.ann Y46.body Q
def Y46.t (Q:AV→aA→Prop) (x0:Int) (x1 x2 x3 x4 x5 x6:AV) (h:aA) (J:JT):Prop:=
aC x1 h fun v1=>
aC x2 h fun v2=>
asI .i64 v2 fun n3=>
bJ 19 1 (aDO h 0) (AV.i .i64 n3) fun v4=>
aC v4 h fun v5=>
asI .i64 v5 fun n6=>
aZ 1 v1 (AV.i .i64 n6) h fun v7=>
aR 1 v7 (AV.i .i64 x0) h fun h8=>
aC x3 h8 fun v10=>
aC x1 h8 fun v11=>
aC x2 h8 fun v12=>
asI .i64 v12 fun n13=>
aT (IntKind.wrap .i64 (n13+1)) fun n14=>
aC x4 h8 fun v15=>
asI .i64 v15 fun n16=>
aC x5 h8 fun v17=>
asI .i64 v17 fun n18=>
aC x6 h8 fun v19=>
asI .i64 v19 fun n20=>
C Y37.id [v10,v11,(AV.i .i64 n14),(AV.i .i64 n16),(AV.i .i64 n18),(AV.i .i64 n20)] h8 fun v21 h22=>
asI .i64 v21 fun n23=>
Q (AV.i .i64 n23) h22
theorem Y46.call {K x0 x1 x2 x3 x4 x5 x6 h} (H:Y46.t (aH h K) x0 x1 x2 x3 x4 x5 x6 h (Y46.J (aH h K))):C Y46.id [(AV.i .i64 x0),x1,x2,x3,x4,x5,x6] h K:=
 gC Y46.J Tryz.func151 Y46.dist H
noncomputable def Y28.body:Code:=(Tryz.f156.body).getD .skip
def Y28.ann:Ann:=(sl [0,1,2] (sl [] (sl [6] lf)))
theorem Y28.dist:aJ (places Y28.ann Y28.body)=true:=by kernel_rfl
noncomputable def Y28.J (Q:AV→aA→Prop):JT:=bQ prog C Tryz.f156 Y28.ann Y28.body Q
def Y28.t (Q:AV→aA→Prop) (x0 x1 x2:AV) (h:aA) (J:JT):Prop:=
aP x0 fun v1=>
aB 14 v1 fun v2=>
aR 1 v2 x1 h fun h3=>
aP x0 fun v4=>
aB 15 v4 fun v5=>
aR 1 v5 x2 h3 fun h6=>
Q (AV.i .i64 0) h6
theorem Y28.call {K x0 x1 x2 h} (H:Y28.t (aH h K) x0 x1 x2 h (Y28.J (aH h K))):C Y28.id [x0,x1,x2] h K:=
 gC Y28.J Tryz.func156 Y28.dist H
noncomputable def Y54.body:Code:=(Tryz.f157.body).getD .skip
def Y54.ann:Ann:=(sl [0,1,2,3] (sq [0,1,2,3] (.one (sl [0,1,2,3,9] (.br (sq [1,2,3] (sl [1,2,3,6] (sl [1,2,3,6,17] (.br (sl [5] lf) lf))) (sl [5] lf)) (sl [0,1,2,3,23] (.br (sl [5] lf) (sl [0,1,2,3,28] (.br (sl [5] lf) lf))))))) (sl [1,2,3,7,8] (sl [5] lf))))
theorem Y54.dist:aJ (places Y54.ann Y54.body)=true:=by kernel_rfl
noncomputable def Y54.J (Q:AV→aA→Prop):JT:=bQ prog C Tryz.f157 Y54.ann Y54.body Q
def Y54.t (Q:AV→aA→Prop) (x0:Int) (x1 x2 x3:AV) (h:aA) (J:JT):Prop:=
(bif (decide ((x0:Int)<256)) then
(aC x1 h fun v2=>
C Y12.id [v2,(AV.i .u8 (IntKind.wrap .u8 x0))] h fun v3 h4=>
asI .i64 v3 fun n5=>
(bif (!decide ((n5:Int)=0)) then
(Q (AV.i .i64 n5) h4)
else
(aC x1 h4 fun v10=>
aC x2 h4 fun v11=>
aC x3 h4 fun v12=>
C Y27.id [v10,v11,v12] h4 fun v13 h14=>
asI .i64 v13 fun n15=>
Q (AV.i .i64 n15) h14)))
else
((bif (decide ((x0:Int)=256)) then
(aC x1 h fun v18=>
C Y29.id [v18] h fun v19 h20=>
asI .i64 v19 fun n21=>
Q (AV.i .i64 n21) h20)
else
((bif (decide ((285:Int)<x0)) then
(Q (AV.i .i64 2) h)
else
(C Y44.id [(AV.i .i64 x0)] h fun v26 h27=>
bC 0 v26 fun v28=>
asI .i64 v28 fun n29=>
bC 1 v26 fun v30=>
asI .i64 v30 fun n31=>
dV none [(AV.i .i64 0)] h27 fun v32 h33=>
aR 1 v32 (AV.i .i64 n29) h33 fun h34=>
aC x1 h34 fun v36=>
C Y26.id [v36,(AV.i .i64 n31),(AV.fn (.func Y57.id) [] [x1,x3,v32,x2])] h34 fun v37 h38=>
asI .i64 v37 fun n39=>
Q (AV.i .i64 n39) h38))))))
theorem Y54.call {K x0 x1 x2 x3 h} (H:Y54.t (aH h K) x0 x1 x2 x3 h (Y54.J (aH h K))):C Y54.id [(AV.i .i64 x0),x1,x2,x3] h K:=
 gC Y54.J Tryz.func157 Y54.dist H
noncomputable def Y57.body:Code:=(Tryz.f158.body).getD .skip
def Y57.ann:Ann:=(sl [1,2,3,4,5] (sl [6] lf))
theorem Y57.dist:aJ (places Y57.ann Y57.body)=true:=by kernel_rfl
noncomputable def Y57.J (Q:AV→aA→Prop):JT:=bQ prog C Tryz.f158 Y57.ann Y57.body Q
def Y57.t (Q:AV→aA→Prop) (x0:Int) (x1 x2 x3 x4:AV) (h:aA) (J:JT):Prop:=
d7 none (AV.i .i64 x0) h fun v0 h1=>
aC x1 h1 fun v3=>
aC x2 h1 fun v4=>
C Y28.id [v3,v4,(AV.fn (.func Y51.id) [] [x1,x3,v0,x4,x2])] h1 fun v5 h6=>
asI .i64 v5 fun n7=>
Q (AV.i .i64 n7) h6
theorem Y57.call {K x0 x1 x2 x3 x4 h} (H:Y57.t (aH h K) x0 x1 x2 x3 x4 h (Y57.J (aH h K))):C Y57.id [(AV.i .i64 x0),x1,x2,x3,x4] h K:=
 gC Y57.J Tryz.func158 Y57.dist H
noncomputable def Y51.body:Code:=(Tryz.f159.body).getD .skip
def Y51.ann:Ann:=(sl [0,1,2,3,4,5] (sq [0,1,2,3,4,5] (sl [0,1,2,3,4,5,11] (.br (sl [7] lf) lf)) (sl [1,2,3,4,5,8,9] (sl [7] lf))))
theorem Y51.dist:aJ (places Y51.ann Y51.body)=true:=by kernel_rfl
noncomputable def Y51.J (Q:AV→aA→Prop):JT:=bQ prog C Tryz.f159 Y51.ann Y51.body Q
def Y51.t (Q:AV→aA→Prop) (x0:Int) (x1 x2 x3 x4 x5:AV) (h:aA) (J:JT):Prop:=
(bif (decide ((29:Int)<x0)) then
(Q (AV.i .i64 2) h)
else
(C Y58.id [(AV.i .i64 x0)] h fun v4 h5=>
bC 0 v4 fun v6=>
asI .i64 v6 fun n7=>
bC 1 v4 fun v8=>
asI .i64 v8 fun n9=>
dV none [(AV.i .i64 0)] h5 fun v10 h11=>
aR 1 v10 (AV.i .i64 n7) h11 fun h12=>
aC x1 h12 fun v14=>
C Y26.id [v14,(AV.i .i64 n9),(AV.fn (.func Y45.id) [] [x1,x2,x3,v10,x4,x5])] h12 fun v15 h16=>
asI .i64 v15 fun n17=>
Q (AV.i .i64 n17) h16))
theorem Y51.call {K x0 x1 x2 x3 x4 x5 h} (H:Y51.t (aH h K) x0 x1 x2 x3 x4 x5 h (Y51.J (aH h K))):C Y51.id [(AV.i .i64 x0),x1,x2,x3,x4,x5] h K:=
 gC Y51.J Tryz.func159 Y51.dist H
noncomputable def Y45.body:Code:=(Tryz.f160.body).getD .skip
def Y45.ann:Ann:=(sl [0,1,2,3,4,5,6] (sq [1,5,6] (sl [1,5,6,9] (sl [1,5,6,9,19] (.br (sl [8] lf) lf))) (sl [8] lf)))
theorem Y45.dist:aJ (places Y45.ann Y45.body)=true:=by kernel_rfl
noncomputable def Y45.J (Q:AV→aA→Prop):JT:=bQ prog C Tryz.f160 Y45.ann Y45.body Q
def Y45.t (Q:AV→aA→Prop) (x0:Int) (x1 x2 x3 x4 x5 x6:AV) (h:aA) (J:JT):Prop:=
aC x1 h fun v1=>
aC x2 h fun v2=>
asI .i64 v2 fun n3=>
aC x3 h fun v4=>
asI .i64 v4 fun n5=>
aT (IntKind.wrap .i64 (n3+n5)) fun n6=>
aC x4 h fun v7=>
asI .i64 v7 fun n8=>
aT (IntKind.wrap .i64 (n8+x0)) fun n9=>
C Y22.id [v1,(AV.i .i64 n6),(AV.i .i64 n9)] h fun v10 h11=>
asI .i64 v10 fun n12=>
(bif (!decide ((n12:Int)=0)) then
(Q (AV.i .i64 n12) h11)
else
(aC x1 h11 fun v17=>
aC x5 h11 fun v18=>
aC x6 h11 fun v19=>
C Y27.id [v17,v18,v19] h11 fun v20 h21=>
asI .i64 v20 fun n22=>
Q (AV.i .i64 n22) h21))
theorem Y45.call {K x0 x1 x2 x3 x4 x5 x6 h} (H:Y45.t (aH h K) x0 x1 x2 x3 x4 x5 x6 h (Y45.J (aH h K))):C Y45.id [(AV.i .i64 x0),x1,x2,x3,x4,x5,x6] h K:=
 gC Y45.J Tryz.func160 Y45.dist H
noncomputable def Y22.body:Code:=(Tryz.f161.body).getD .skip
def Y22.ann:Ann:=(sl [0,1,2] (sq [0,1,2] (sl [0,1,2,13] (.br (sl [6] lf) lf)) (sq [] (sl [0,2,14,15] (.one (.loop 1 [0,2,14,15] (sl [0,2,14,15,16] (sq [0,2,14,15] bl (sq [0,2,14,15] (.one (sq [0,2,7,14,15] (.ord (nn 0 14 (.eff 14 (.neu 15 .done) .stop))) (sl [0,2,7,14,15,33] (.br (sl [6] lf) lf)))) lf)))))) (sl [6] lf))))
theorem Y22.dist:aJ (places Y22.ann Y22.body)=true:=by kernel_rfl
noncomputable def Y22.J (Q:AV→aA→Prop):JT:=bQ prog C Tryz.f161 Y22.ann Y22.body Q
def Y22.p0 (Q:AV→aA→Prop) (x0:AV) (x2 x14 x15:Int) (h:aA):Prop:=Y22.J Q 1 [(0,x0),(2,(AV.i .i64 x2)),(14,(AV.i .i64 x14)),(15,(AV.i .i64 x15))] h
def Y22.t0 (Q:AV→aA→Prop) (x0:AV) (x2 x14 x15:Int) (h:aA) (J:JT):Prop:=
(bif (decide ((x15:Int)<x14)) then
(aP x0 fun v12=>
aB 2 v12 fun v13=>
aC v13 h fun v14=>
aP x0 fun v15=>
aB 2 v15 fun v16=>
aC v16 h fun v17=>
b6 v17 fun n18=>
aT (IntKind.wrap .i64 (n18 - x2)) fun n19=>
aZ 1 v14 (AV.i .i64 n19) h fun v20=>
aC v20 h fun v21=>
asI .u8 v21 fun n22=>
C Y12.id [x0,(AV.i .u8 n22)] h fun v23 h24=>
asI .i64 v23 fun n25=>
(bif (!decide ((n25:Int)=0)) then
(Q (AV.i .i64 n25) h24)
else
(aT (IntKind.wrap .i64 (x15+1)) fun n30=>
J 1 [(0,x0),(2,(AV.i .i64 x2)),(14,(AV.i .i64 x14)),(15,(AV.i .i64 n30))] h24)))
else
(Q (AV.i .i64 0) h))
theorem Y22.i0 {Q x0 x2 x14 x15 h} (H:Y22.t0 Q x0 x2 x14 x15 h (Y22.J Q)):Y22.p0 Q x0 x2 x14 x15 h:=gH Y22.J Tryz.f161 Y22.dist [1,1,0,1,0] H
def Y22.t (Q:AV→aA→Prop) (x0:AV) (x1 x2:Int) (h:aA) (J:JT):Prop:=
aP x0 fun v1=>
aB 3 v1 fun v2=>
aC v2 h fun v3=>
asI .i64 v3 fun n4=>
(bif (decide ((n4:Int)<x2)) then
(Q (AV.i .i64 2) h)
else
(J 1 [(0,x0),(2,(AV.i .i64 x2)),(14,(AV.i .i64 x1)),(15,(AV.i .i64 0))] h))
theorem Y22.call {K x0 x1 x2 h} (H:Y22.t (aH h K) x0 x1 x2 h (Y22.J (aH h K))):C Y22.id [x0,(AV.i .i64 x1),(AV.i .i64 x2)] h K:=
 gC Y22.J Tryz.func161 Y22.dist H
noncomputable def Y32.body:Code:=(Tryz.f162.body).getD .skip
def Y32.ann:Ann:=(sl [0,3,4,5,6,7,9,10] (sl [11] lf))
theorem Y32.dist:aJ (places Y32.ann Y32.body)=true:=by kernel_rfl
noncomputable def Y32.J (Q:AV→aA→Prop):JT:=bQ prog C Tryz.f162 Y32.ann Y32.body Q
def Y32.t (Q:AV→aA→Prop) (x0 x1 x2:Int) (x3 x4 x5 x6 x7:AV) (h:aA) (J:JT):Prop:=
d7 none (AV.i .i64 x1) h fun v0 h1=>
d7 none (AV.i .i64 x2) h1 fun v2 h3=>
aC x3 h3 fun v5=>
C Y26.id [v5,(AV.i .i64 x0),(AV.fn (.func Y49.id) [] [x4,v0,x5,x6,x3,x7,v2])] h3 fun v6 h7=>
asI .i64 v6 fun n8=>
Q (AV.i .i64 n8) h7
theorem Y32.call {K x0 x1 x2 x3 x4 x5 x6 x7 h} (H:Y32.t (aH h K) x0 x1 x2 x3 x4 x5 x6 x7 h (Y32.J (aH h K))):C Y32.id [(AV.i .i64 x0),(AV.i .i64 x1),(AV.i .i64 x2),x3,x4,x5,x6,x7] h K:=
 gC Y32.J Tryz.func162 Y32.dist H
noncomputable def Y49.body:Code:=(Tryz.f163.body).getD .skip
def Y49.ann:Ann:=(sl [0,1,2,3,4,5,6,7] (sq [0,1,2,3,4,5,6,7] (sl [0,1,2,3,4,5,6,7,19] (.br (sl [9] lf) lf)) (sq [9] (.ord (nn 0 4 (nn 5 3 (nn 10 2 (.eff 4 (.eff 8 (.eff 9 (.eff 12 (.neu 13 .done) .stop) .stop) .stop) .stop))))) lf)))
theorem Y49.dist:aJ (places Y49.ann Y49.body)=true:=by kernel_rfl
noncomputable def Y49.J (Q:AV→aA→Prop):JT:=bQ prog C Tryz.f163 Y49.ann Y49.body Q
def Y49.t (Q:AV→aA→Prop) (x0:Int) (x1 x2 x3 x4 x5 x6 x7:AV) (h:aA) (J:JT):Prop:=
aC x1 h fun v1=>
b6 v1 fun n2=>
aC x2 h fun v3=>
asI .i64 v3 fun n4=>
aT (IntKind.wrap .i64 (n2+n4)) fun n5=>
aT (IntKind.wrap .i64 (n5+x0)) fun n6=>
aC x3 h fun v7=>
asI .i64 v7 fun n8=>
aC x4 h fun v9=>
asI .i64 v9 fun n10=>
aT (IntKind.wrap .i64 (n8+n10)) fun n11=>
(bif (decide ((n11:Int)<n6)) then
(Q (AV.i .i64 2) h)
else
(aC x5 h fun v15=>
aC x6 h fun v16=>
aC x1 h fun v17=>
aC x7 h fun v18=>
asI .i64 v18 fun n19=>
aC x2 h fun v20=>
asI .i64 v20 fun n21=>
aT (IntKind.wrap .i64 (n21+x0)) fun n22=>
aC x3 h fun v23=>
asI .i64 v23 fun n24=>
aC x4 h fun v25=>
asI .i64 v25 fun n26=>
bR 1 1 [(AV.i .i64 0)] [(0,1,(AV.i .i64 n19))] h fun v27 h28=>
aC x4 h28 fun v29=>
asI .i64 v29 fun n30=>
((AV.i .i64 n26)=(AV.i .i64 n30) ∧
(aC x3 h28 fun v31=>
asI .i64 v31 fun n32=>
((AV.i .i64 n24)=(AV.i .i64 n32) ∧
(aC x2 h28 fun v33=>
asI .i64 v33 fun n34=>
((AV.i .i64 n21)=(AV.i .i64 n34) ∧
(aC x1 h28 fun v35=>
(v17=v35 ∧
(aC x6 h28 fun v36=>
(v16=v36 ∧
(aC x5 h28 fun v37=>
(v15=v37 ∧
(C Y13.id [v27,(AV.i .i64 n22)] h28 fun v38 h39=>
aC x4 h39 fun v40=>
asI .i64 v40 fun n41=>
((AV.i .i64 n26)=(AV.i .i64 n41) ∧
(aC x3 h39 fun v42=>
asI .i64 v42 fun n43=>
((AV.i .i64 n24)=(AV.i .i64 n43) ∧
(aC x1 h39 fun v44=>
(v17=v44 ∧
(aC x6 h39 fun v45=>
(v16=v45 ∧
(aC x5 h39 fun v46=>
(v15=v46 ∧
(b5 none 1 8 v17 v38 h39 fun v47 h48=>
aC x4 h48 fun v49=>
asI .i64 v49 fun n50=>
((AV.i .i64 n26)=(AV.i .i64 n50) ∧
(aC x3 h48 fun v51=>
asI .i64 v51 fun n52=>
((AV.i .i64 n24)=(AV.i .i64 n52) ∧
(aC x6 h48 fun v53=>
(v16=v53 ∧
(aC x5 h48 fun v54=>
(v15=v54 ∧
(C Y30.id [v15,v16,v47,(AV.i .i64 n24),(AV.i .i64 n26)] h48 fun v55 h56=>
asI .i64 v55 fun n57=>
Q (AV.i .i64 n57) h56))))))))))))))))))))))))))))))))
theorem Y49.call {K x0 x1 x2 x3 x4 x5 x6 x7 h} (H:Y49.t (aH h K) x0 x1 x2 x3 x4 x5 x6 x7 h (Y49.J (aH h K))):C Y49.id [(AV.i .i64 x0),x1,x2,x3,x4,x5,x6,x7] h K:=
 gC Y49.J Tryz.func163 Y49.dist H
noncomputable def Y23.body:Code:=(Tryz.f164.body).getD .skip
def Y23.ann:Ann:=(sl [0,1,2,3,4,5,6] (sq [6] (.one (sl [0,1,2,3,4,5,6,9] (.br (sq [8] (.ord (nn 0 4 (nn 6 2 (.eff 4 (.eff 5 (.eff 8 (.neu 9 .done) .stop) .stop) .stop)))) lf) (.seq 1 [0,3,6,21] lf (.br (sl [8] lf) (sl [0,3,6,29] (.br (sq [8] (.ord (nn 0 7 (.eff 7 (.neu 8 .done) .stop))) lf) (sl [6,40] (.br (sl [8] lf) lf))))))))) (sl [8] lf)))
theorem Y23.dist:aJ (places Y23.ann Y23.body)=true:=by kernel_rfl
noncomputable def Y23.J (Q:AV→aA→Prop):JT:=bQ prog C Tryz.f164 Y23.ann Y23.body Q
def Y23.p0 (Q:AV→aA→Prop) (x0:Int) (x3 x6:AV) (x21:Bool) (h:aA):Prop:=Y23.J Q 1 [(0,(AV.i .i64 x0)),(3,x3),(6,x6),(21,(AV.b x21))] h
def Y23.t0 (Q:AV→aA→Prop) (x0:Int) (x3 x6:AV) (x21:Bool) (h:aA) (J:JT):Prop:=
(bif x21 then
(Q (AV.i .i64 2) h)
else
((bif (decide ((x0:Int)=16)) then
(aC x6 h fun v36=>
aC x3 h fun v37=>
aC x3 h fun v38=>
b6 v38 fun n39=>
aT (IntKind.wrap .i64 (n39 - 1)) fun n40=>
aZ 1 v37 (AV.i .i64 n40) h fun v41=>
aC v41 h fun v42=>
asI .i64 v42 fun n43=>
b9 C v36 [(AV.i .i64 2),(AV.i .i64 3),(AV.i .i64 n43)] h fun v44 h45=>
asI .i64 v44 fun n46=>
Q (AV.i .i64 n46) h45)
else
((bif (decide ((x0:Int)=17)) then
(aC x6 h fun v49=>
b9 C v49 [(AV.i .i64 3),(AV.i .i64 3),(AV.i .i64 0)] h fun v50 h51=>
asI .i64 v50 fun n52=>
Q (AV.i .i64 n52) h51)
else
(aC x6 h fun v55=>
b9 C v55 [(AV.i .i64 7),(AV.i .i64 11),(AV.i .i64 0)] h fun v56 h57=>
asI .i64 v56 fun n58=>
Q (AV.i .i64 n58) h57))))))
theorem Y23.i0 {Q x0 x3 x6 x21 h} (H:Y23.t0 Q x0 x3 x6 x21 h (Y23.J Q)):Y23.p0 Q x0 x3 x6 x21 h:=gR Y23.J Tryz.f164 Y23.dist [1,0,0,1,1,1] H
def Y23.t (Q:AV→aA→Prop) (x0:Int) (x1 x2 x3 x4 x5 x6:AV) (h:aA) (J:JT):Prop:=
(bif (decide ((x0:Int)<16)) then
(aC x1 h fun v2=>
aC x2 h fun v3=>
aC x3 h fun v4=>
aC x4 h fun v5=>
asI .i64 v5 fun n6=>
aC x5 h fun v7=>
asI .i64 v7 fun n8=>
bR 1 1 [(AV.i .i64 0)] [(0,1,(AV.i .i64 x0))] h fun v9 h10=>
aC x5 h10 fun v11=>
asI .i64 v11 fun n12=>
((AV.i .i64 n8)=(AV.i .i64 n12) ∧
(aC x4 h10 fun v13=>
asI .i64 v13 fun n14=>
((AV.i .i64 n6)=(AV.i .i64 n14) ∧
(aC x3 h10 fun v15=>
(v4=v15 ∧
(aC x2 h10 fun v16=>
(v3=v16 ∧
(aC x1 h10 fun v17=>
(v2=v17 ∧
(b5 none 1 8 v4 v9 h10 fun v18 h19=>
aC x5 h19 fun v20=>
asI .i64 v20 fun n21=>
((AV.i .i64 n8)=(AV.i .i64 n21) ∧
(aC x4 h19 fun v22=>
asI .i64 v22 fun n23=>
((AV.i .i64 n6)=(AV.i .i64 n23) ∧
(aC x2 h19 fun v24=>
(v3=v24 ∧
(aC x1 h19 fun v25=>
(v2=v25 ∧
(C Y30.id [v2,v3,v18,(AV.i .i64 n6),(AV.i .i64 n8)] h19 fun v26 h27=>
asI .i64 v26 fun n28=>
Q (AV.i .i64 n28) h27)))))))))))))))))))
else
((bif (decide ((x0:Int)=16)) then
(aC x3 h fun v30=>
b6 v30 fun n31=>
J 1 [(0,(AV.i .i64 x0)),(3,x3),(6,x6),(21,(AV.b (decide ((n31:Int)=0))))] h)
else
(J 1 [(0,(AV.i .i64 x0)),(3,x3),(6,x6),(21,(AV.b false))] h))))
theorem Y23.call {K x0 x1 x2 x3 x4 x5 x6 h} (H:Y23.t (aH h K) x0 x1 x2 x3 x4 x5 x6 h (Y23.J (aH h K))):C Y23.id [(AV.i .i64 x0),x1,x2,x3,x4,x5,x6] h K:=
 gC Y23.J Tryz.func164 Y23.dist H
end Go.Proofs.YtfoekpcljhbijaaGreatDoor
namespace Go.Proofs.YtfoekpcljhbijaaGreatDoor
open Go.GAM
variable [XR]
noncomputable def Y1.body:Code:=(Tryz.f6.body).getD .skip
def Y1.ann:Ann:=(sl [0,2,4] (sq [0,2,4] (.seq 1 [0,2,4,25] lf (.br (sl [6] lf) lf)) (sq [0,2,4,7,8] (.ord (.neu 0 (.neu 2 (.eff 1 (.eff 3 (nn 4 2 .done) .stop) .stop)))) (sq [0,2,4,7,8] (.seq 2 [0,2,4,7,8,36] lf (.br (sl [6] lf) lf)) (sl [0,2,4,7,8,9,10] (sl [0,2,4,7,8,9,10,11,12] (sl [2,4,7,8,9,10,11,12,13] (sq [4,7,8,9,10,11,12] (sl [2,4,7,8,9,10,11,12,13,14] (.one (.loop 3 [2,4,7,8,9,10,11,12,13,14] (sq [2,4,7,8,9,10,11,13,14] (.seq 4 [2,4,7,8,9,10,11,12,13,14,51] lf bl) (sq [2,4,7,8,9,10,11,12,13,14] (.one (sl [2,4,7,8,9,10,11,13,14,15] (.seq 5 [2,4,7,8,9,10,11,13,14,15] (sl [2,4,7,8,9,10,11,13,14,15,59] bl) (sl [2,4,7,8,9,10,11,13,14,15,16,17] (sl [2,4,7,8,9,10,11,13,14,15,17] (sl [2,4,7,8,9,10,11,12,13,14,15] lf)))))) lf))))) (.seq 6 [6] lf lf)))))))))
theorem Y1.dist:aJ (places Y1.ann Y1.body)=true:=by kernel_rfl
noncomputable def Y1.J (Q:AV→aA→Prop):JT:=bQ prog C Tryz.f6 Y1.ann Y1.body Q
def Y1.p0 (Q:AV→aA→Prop) (x0:List UInt8) (x2 x4:AV) (x25:Bool) (h:aA):Prop:=Y1.J Q 1 [(0,(AV.s x0)),(2,x2),(4,x4),(25,(AV.b x25))] h
def Y1.p1 (Q:AV→aA→Prop) (x0:List UInt8) (x2 x4 x7 x8:AV) (x36:Bool) (h:aA):Prop:=Y1.J Q 2 [(0,(AV.s x0)),(2,x2),(4,x4),(7,x7),(8,x8),(36,(AV.b x36))] h
def Y1.p3 (Q:AV→aA→Prop) (x2 x4 x7 x8:AV) (x9:List UInt8) (x10:Int) (x11:List UInt8) (x12:Int) (x13:List UInt8) (x14:Int) (x51:Bool) (h:aA):Prop:=Y1.J Q 4 [(2,x2),(4,x4),(7,x7),(8,x8),(9,(AV.s x9)),(10,(AV.i .i64 x10)),(11,(AV.s x11)),(12,(AV.i .i64 x12)),(13,(AV.s x13)),(14,(AV.i .i64 x14)),(51,(AV.b x51))] h
def Y1.p4 (Q:AV→aA→Prop) (x2 x4 x7 x8:AV) (x9:List UInt8) (x10:Int) (x11 x13:List UInt8) (x14 x15:Int) (h:aA):Prop:=Y1.J Q 5 [(2,x2),(4,x4),(7,x7),(8,x8),(9,(AV.s x9)),(10,(AV.i .i64 x10)),(11,(AV.s x11)),(13,(AV.s x13)),(14,(AV.i .i64 x14)),(15,(AV.i .i64 x15))] h
def Y1.p2 (Q:AV→aA→Prop) (x2 x4 x7 x8:AV) (x9:List UInt8) (x10:Int) (x11:List UInt8) (x12:Int) (x13:List UInt8) (x14:Int) (h:aA):Prop:=Y1.J Q 3 [(2,x2),(4,x4),(7,x7),(8,x8),(9,(AV.s x9)),(10,(AV.i .i64 x10)),(11,(AV.s x11)),(12,(AV.i .i64 x12)),(13,(AV.s x13)),(14,(AV.i .i64 x14))] h
def Y1.p5 (Q:AV→aA→Prop) (x6:Bool) (h:aA):Prop:=Y1.J Q 6 [(6,(AV.b x6))] h
def Y1.t0 (Q:AV→aA→Prop) (x0:List UInt8) (x2 x4:AV) (x25:Bool) (h:aA) (J:JT):Prop:=
(bif x25 then
(C Y66.id [] h fun v6 h7=>
asB v6 fun c8=>
Q (AV.b c8) h7)
else
(dF 2 x4 h fun v11=>
dF 2 x4 h fun v12=>
C Y38.id [v11] h fun v13 h14=>
dF 2 x4 h14 fun v15=>
(v12=v15 ∧
(C Y38.id [v12] h14 fun v16 h17=>
cD prog .eql 26 v13 (AV.p none) fun v19=>
asB v19 fun c20=>
(bif c20 then
(J 2 [(0,(AV.s x0)),(2,x2),(4,x4),(7,v13),(8,v16),(36,(AV.b true))] h17)
else
(cD prog .eql 26 v16 (AV.p none) fun v22=>
asB v22 fun c23=>
J 2 [(0,(AV.s x0)),(2,x2),(4,x4),(7,v13),(8,v16),(36,(AV.b c23))] h17))))))
theorem Y1.i0 {Q x0 x2 x4 x25 h} (H:Y1.t0 Q x0 x2 x4 x25 h (Y1.J Q)):Y1.p0 Q x0 x2 x4 x25 h:=gR Y1.J Tryz.f6 Y1.dist [1,0,1] H
def Y1.t1 (Q:AV→aA→Prop) (x0:List UInt8) (x2 x4 x7 x8:AV) (x36:Bool) (h:aA) (J:JT):Prop:=
(bif x36 then
(Q (AV.b false) h)
else
(C Y4.id [x7,(AV.s x0)] h fun v27 h28=>
bC 0 v27 fun v29=>
asS v29 fun l30=>
bC 1 v27 fun v31=>
asI .i64 v31 fun n32=>
J 3 [(2,x2),(4,x4),(7,x7),(8,x8),(9,(AV.s l30)),(10,(AV.i .i64 n32)),(11,(AV.s [])),(12,(AV.i .i64 0)),(13,(AV.s x0)),(14,(AV.i .i64 0))] h28))
theorem Y1.i1 {Q x0 x2 x4 x7 x8 x36 h} (H:Y1.t1 Q x0 x2 x4 x7 x8 x36 h (Y1.J Q)):Y1.p1 Q x0 x2 x4 x7 x8 x36 h:=gR Y1.J Tryz.f6 Y1.dist [1,1,1,0,1] H
def Y1.t3 (Q:AV→aA→Prop) (x2 x4 x7 x8:AV) (x9:List UInt8) (x10:Int) (x11:List UInt8) (x12:Int) (x13:List UInt8) (x14:Int) (x51:Bool) (h:aA) (J:JT):Prop:=
(bif x51 then
(b6 x2 fun n43=>
(bif (decide ((x14:Int)<n43)) then
(aZ 1 x2 (AV.i .i64 x14) h fun v45=>
aC v45 h fun v46=>
asI .u8 v46 fun n47=>
aT (mmI false (x13.length:Int) (IntKind.wrap .i64 n47)) fun n48=>
J 5 [(2,x2),(4,x4),(7,x7),(8,x8),(9,(AV.s x9)),(10,(AV.i .i64 x10)),(11,(AV.s x11)),(13,(AV.s x13)),(14,(AV.i .i64 x14)),(15,(AV.i .i64 n48))] h)
else
(J 5 [(2,x2),(4,x4),(7,x7),(8,x8),(9,(AV.s x9)),(10,(AV.i .i64 x10)),(11,(AV.s x11)),(13,(AV.s x13)),(14,(AV.i .i64 x14)),(15,(AV.i .i64 (x13.length:Int)))] h)))
else
((bif (decide ((x11:List UInt8)=x9)) then
((bif (decide ((x10:Int)=x12)) then
(C Y18.id [x7] h fun v66 h67=>
asI .i64 v66 fun n68=>
C Y18.id [x8] h67 fun v69 h70=>
asI .i64 v69 fun n71=>
(bif (decide ((n68:Int)=n71)) then
(aB 0 x4 fun v72=>
aC v72 h70 fun v73=>
asI .i64 v73 fun n74=>
aT (mmI false (mmI true n74 0) 65536) fun n75=>
(bif (decide (((x11.length:Int):Int)≤n75)) then
(C Y66.id [] h70 fun v76 h77=>
asB v76 fun c78=>
J 6 [(6,(AV.b c78))] h77)
else
(J 6 [(6,(AV.b false))] h70)))
else
(J 6 [(6,(AV.b false))] h70)))
else
(J 6 [(6,(AV.b false))] h)))
else
(J 6 [(6,(AV.b false))] h))))
theorem Y1.i3 {Q x2 x4 x7 x8 x9 x10 x11 x12 x13 x14 x51 h} (H:Y1.t3 Q x2 x4 x7 x8 x9 x10 x11 x12 x13 x14 x51 h (Y1.J Q)):Y1.p3 Q x2 x4 x7 x8 x9 x10 x11 x12 x13 x14 x51 h:=gR Y1.J Tryz.f6 Y1.dist [1,1,1,1,1,1,1,0,1,0,0,0,1] H
def Y1.t4 (Q:AV→aA→Prop) (x2 x4 x7 x8:AV) (x9:List UInt8) (x10:Int) (x11 x13:List UInt8) (x14 x15:Int) (h:aA) (J:JT):Prop:=
cA (AV.s x13) none (some (AV.i .i64 x15)) fun l51=>
C Y4.id [x8,(AV.s l51)] h fun v52 h53=>
bC 0 v52 fun v54=>
asS v54 fun l55=>
bC 1 v52 fun v56=>
asI .i64 v56 fun n57=>
aN9 x11 l55 fun l59=>
cA (AV.s x13) (some (AV.i .i64 x15)) none fun l62=>
aT (IntKind.wrap .i64 (x14+1)) fun n64=>
J 3 [(2,x2),(4,x4),(7,x7),(8,x8),(9,(AV.s x9)),(10,(AV.i .i64 x10)),(11,(AV.s l59)),(12,(AV.i .i64 n57)),(13,(AV.s l62)),(14,(AV.i .i64 n64))] h53
theorem Y1.i4 {Q x2 x4 x7 x8 x9 x10 x11 x13 x14 x15 h} (H:Y1.t4 Q x2 x4 x7 x8 x9 x10 x11 x13 x14 x15 h (Y1.J Q)):Y1.p4 Q x2 x4 x7 x8 x9 x10 x11 x13 x14 x15 h:=gR Y1.J Tryz.f6 Y1.dist [1,1,1,1,1,1,1,0,1,0,0,1,0,0,1,1] H
def Y1.t2 (Q:AV→aA→Prop) (x2 x4 x7 x8:AV) (x9:List UInt8) (x10:Int) (x11:List UInt8) (x12:Int) (x13:List UInt8) (x14:Int) (h:aA) (J:JT):Prop:=
b6 x2 fun n37=>
(bif (decide ((x14:Int)≤n37)) then
(J 4 [(2,x2),(4,x4),(7,x7),(8,x8),(9,(AV.s x9)),(10,(AV.i .i64 x10)),(11,(AV.s x11)),(12,(AV.i .i64 x12)),(13,(AV.s x13)),(14,(AV.i .i64 x14)),(51,(AV.b (decide ((x12:Int)=0))))] h)
else
(J 4 [(2,x2),(4,x4),(7,x7),(8,x8),(9,(AV.s x9)),(10,(AV.i .i64 x10)),(11,(AV.s x11)),(12,(AV.i .i64 x12)),(13,(AV.s x13)),(14,(AV.i .i64 x14)),(51,(AV.b false))] h))
theorem Y1.i2 {Q x2 x4 x7 x8 x9 x10 x11 x12 x13 x14 h} (H:Y1.t2 Q x2 x4 x7 x8 x9 x10 x11 x12 x13 x14 h (Y1.J Q)):Y1.p2 Q x2 x4 x7 x8 x9 x10 x11 x12 x13 x14 h:=gH Y1.J Tryz.f6 Y1.dist [1,1,1,1,1,1,1,0,1,0] H
def Y1.t5 (Q:AV→aA→Prop) (x6:Bool) (h:aA) (J:JT):Prop:=
Q (AV.b x6) h
theorem Y1.i5 {Q x6 h} (H:Y1.t5 Q x6 h (Y1.J Q)):Y1.p5 Q x6 h:=gR Y1.J Tryz.f6 Y1.dist [1,1,1,1,1,1,1,1,1] H
def Y1.t (Q:AV→aA→Prop) (x0:List UInt8) (x1 x2:AV) (h:aA) (J:JT):Prop:=
d7 (some 23) x1 h fun v0 h1=>
(bif (decide ((2000:Int)<(x0.length:Int))) then
(J 1 [(0,(AV.s x0)),(2,x2),(4,v0),(25,(AV.b true))] h1)
else
(b6 x2 fun n4=>
J 1 [(0,(AV.s x0)),(2,x2),(4,v0),(25,(AV.b (decide ((60:Int)<n4))))] h1))
theorem Y1.call {K x0 x1 x2 h} (H:Y1.t (aH h K) x0 x1 x2 h (Y1.J (aH h K))):C Y1.id [(AV.s x0),x1,x2] h K:=
 gC Y1.J Tryz.func6 Y1.dist H
end Go.Proofs.YtfoekpcljhbijaaGreatDoor
set_option linter.unusedSimpArgs false
namespace Go.GAM
variable {ty:Option TypeId}
def Ext (h0 h:aA):Prop:=h0.length≤h.length∧∀ id,id<h0.length→h[id]? = h0[id]?
theorem Ext.take {h0 h:aA} (a:Ext h0 h):h.take h0.length=h0:=by
 apply List.ext_getElem?
 intro i
 rw [List.getElem?_take]
 by_cases hi:i<h0.length
 ·rw [if_pos hi,a.2 i hi]
 ·rw [if_neg hi,List.getElem?_eq_none (Nat.le_of_not_lt hi)]
def lP:AV→Bool
 | .b _ | .i _ _ | .s _ | .p none | .sl none _ _ | .nf | .ni=>true
 | _=>false
def aF7:AV→Bool
 | .ag cs | .tu cs=>cs.all lP
 | v=>lP v
theorem wJ {n:Nat} {v:AV} (h:lP v=true):xX n [] v=v∧ok1 n [] v=true:=by
 unfold lP at h
 split at h <;> first | exact ⟨rfl,rfl⟩ | cases h
theorem aGV {n:Nat} {v:AV} (h:aF7 v=true):ren n [] v=v∧okR n [] v=true:=by
 have hl:∀ cs:List AV,cs.all lP=true→cs.map (xX n [])=cs∧cs.all (ok1 n [])=true:=by
  intro cs
  induction cs with
  | nil=>exact fun _=>⟨rfl,rfl⟩
  | cons c cs ih =>
   intro hc
   simp only [List.all_cons,Bool.and_eq_true] at hc
   obtain ⟨h1,h2⟩:=ih hc.2
   obtain ⟨h3,h4⟩:=wJ (n:=n) hc.1
   simp [h1,h2,h3,h4]
 unfold aF7 at h
 split at h
 ·rename_i cs; obtain ⟨h1,h2⟩:=hl cs h; exact ⟨by simp [ren,h1],by simpa [okR] using h2⟩
 ·rename_i cs; obtain ⟨h1,h2⟩:=hl cs h; exact ⟨by simp [ren,h1],by simpa [okR] using h2⟩
 ·rename_i h1 h2
  obtain ⟨h3,h4⟩:=wJ (n:=n) h
  constructor
  ·unfold ren; split
   ·exact absurd rfl (h1 _)
   ·exact absurd rfl (h2 _)
   ·exact h3
  ·unfold okR; split
   ·exact absurd rfl (h1 _)
   ·exact absurd rfl (h2 _)
   ·exact h4
theorem tG {h0 h:aA} {K:AV→aA→Prop} {r:AV} (hp:aF7 r=true) (hE:Ext h0 h) (hk:K r h0):aH h0 K r h:=by
 obtain ⟨h1,h2⟩:=aGV (n:=h0.length) hp
 refine .inr ⟨[],List.nodup_nil,h2,by simp,fun id hi=>.inl (hE.2 id hi),hE.1, ?_⟩
 rw [h1,hE.take]
 simpa using hk
theorem yT (l:List UInt8):(l.map byteAV).all lK=true:=by
 rw [List.all_eq_true]; intro x hx; simp only [List.mem_map] at hx; obtain ⟨c,_,rfl⟩:=hx; rfl
theorem yW (c:UInt8):toByte (byteAV c)=c:=by simp [toByte,byteAV]
theorem aC4 (l:List UInt8):(l.map byteAV).map toByte=l:=by
 rw [List.map_map]
 have:toByte ∘ byteAV=id:=by funext c; exact yW c
 rw [this,List.map_id]
theorem bE {n:Int} (h0 : -9223372036854775808≤n) (h1:n<9223372036854775808):IntKind.wrap .i64 n=n:=by
 have e1:(2:Int) ^ 64=18446744073709551616:=by decide
 have e2:(2:Int) ^ (64 - 1)=9223372036854775808:=by decide
 simp only [IntKind.wrap,IntKind.bits,IntKind.signed,Bool.true_and,decide_eq_true_eq,e1,e2]
 split <;> omega
theorem aMA {n:Int} (h0:0≤n) (h1:n<256):IntKind.wrap .u8 n=n:=by
 simp only [IntKind.wrap,IntKind.bits,IntKind.signed,Bool.false_and,Bool.false_eq_true,if_false]
 omega
theorem getD_some {α:Type} {l:List α} {i:Nat} {c d:α} (hc:l[i]? = some c):l.getD i d=c:=by
 rw [List.getD_eq_getElem?_getD,hc] <;> rfl
theorem qG {l:List UInt8} {k:IntKind} {i:Nat} {c:UInt8} {K:Int→Prop} (hc:l[i]? = some c) (hk:K (c.toNat:Int)):dO (.s l) (.i k (i:Int)) K:=by
 obtain ⟨hlt,_⟩:=List.getElem?_eq_some_iff.1 hc
 refine ⟨by omega,by simpa using hlt, ?_⟩
 rw [Int.toNat_natCast,getD_some hc]
 exact hk
theorem bB {c:Bool} {A B:Prop} (hc:c=true) (h:A):(bif c then A else B):=by rw [hc]; exact h
theorem aN {c:Bool} {A B:Prop} (hc:c=false) (h:B):(bif c then A else B):=by rw [hc]; exact h
theorem aQ {c:Bool} {A B:Prop} (h1:c=true→A) (h2:c=false→B):(bif c then A else B):=by
 cases c
 ·exact h2 rfl
 ·exact h1 rfl
theorem aU {e n:Int} {K:Int→Prop} (h:e=n) (hk:K n):aT e K:=by subst h; exact hk
end Go.GAM
namespace Go.GAM
section
variable {P:Program}
theorem ext_run {f:FuncId} {fn:Func} {ex:Array Value→Sem Value} (hf:P.funcs[f]? = some fn) (hn:(fn.name == "runtime.NumGoroutine")=false) (hb:fn.body.isNone=true)
  (h1:Extern.findNext fn=none) (h2:Extern.find fn=some ex) {args:Array Value} {v:Value} {w:World} (he:(ex args).run P w = .ok v w):(callFunc f args).run P w = .ok (.value v) w:=by
 have hn':fn.name ≠ "runtime.NumGoroutine":=by simpa using hn
 have hb':fn.body=none:=by simpa using hb
 have hm:∀ (m:Mark) (k:Sem Unit) (w:World),Sem.run P (Sem.mark m k) w=Sem.run P k w:=fun _ _ _=>rfl
 unfold callFunc
 simp [go_sem,hf,hn',hb',h1,h2,mark,hm,he]
end
end Go.GAM
namespace Go.GAM
variable {ty:Option TypeId}
def Upd (M:Nat→Prop) (h h':aA):Prop:=h.length≤h'.length∧∀ i,i<h.length→¬ M i→h'[i]? = h[i]?
theorem Upd.refl (M:Nat→Prop) (h:aA):Upd M h h:=⟨Nat.le_refl _,fun _ _ _=>rfl⟩
theorem Upd.trans {M M':Nat→Prop} {h h1 h2:aA} (a:Upd M h h1) (b:Upd M' h1 h2) (hM:∀ i,i<h.length→M' i→M i):Upd M h h2:=
 ⟨Nat.le_trans a.1 b.1,fun i hi hn=>(b.2 i (Nat.lt_of_lt_of_le hi a.1) fun hm=>hn (hM i hi hm)).trans (a.2 i hi hn)⟩
theorem Upd.mono {M M':Nat→Prop} {h h1:aA} (a:Upd M h h1) (hM:∀ i,i<h.length→M i→M' i):Upd M' h h1:=
 ⟨a.1,fun i hi hn=>a.2 i hi fun hm=>hn (hM i hi hm)⟩
theorem Upd.app (h s:aA):Upd (fun _=>False) h (h++s):=⟨by simp,fun i hi _=>by rw [List.getElem?_append_left hi]⟩
theorem Upd.set (h:aA) (id:Nat) (b:ABlk):Upd (· = id) h (h.set id b):=⟨by simp,fun i hi hn=>by rw [List.getElem?_set_ne (fun e=>hn e.symm)]⟩
theorem aL {α:Type} {l:List α} {i:Nat} {a:α} (h:l[i]? = some a):i<l.length:=(List.getElem?_eq_some_iff.1 h).1
def bA (h:aA) (id:Nat) (cs:List AV):Prop:=∃ b:ABlk,h[id]? = some b∧b.cells=cs∧b.floor≤cs.length∧b.ro=false
theorem bA.lt {h:aA} {id:Nat} {cs:List AV} (R:bA h id cs):id<h.length:=by obtain ⟨b,h1,_⟩:=R; exact aL h1
theorem bA.upd {M:Nat→Prop} {h h':aA} {id:Nat} {cs:List AV} (R:bA h id cs) (U:Upd M h h') (hM:¬ M id):bA h' id cs:=by
 have hl:=R.lt
 obtain ⟨b,h1,h2⟩:=R
 exact ⟨b,(U.2 id hl hM).trans h1,h2⟩
theorem nU {a:AA} {K:AV→Prop} (hk:K (.p (some a))):aP (.p (some a)) K:=hk
theorem nX {id ver off o:Nat} {K:AV→Prop} (hk:K (.p (some ⟨id,ver,off+o⟩))):aB o (.p (some ⟨id,ver,off⟩)) K:=hk
theorem aJR {k:IntKind} {a b n:Int} {K:Int→Prop} (hb:b≠0) (hn:k.wrap (a.tdiv b)=n) (hk:K n):aLQ k a b K:=by subst hn; exact ⟨hb,hk⟩
theorem aI1 {a b n:Int} {K:Int→Prop} (hb:b≠0) (hn:a.tmod b=n) (hk:K n):aMD a b K:=by subst hn; exact ⟨hb,hk⟩
theorem aE {h:aA} {id n o:Nat} {cs:List AV} {v:AV} {K:AV→Prop} (R:bA h id cs) (hn:n=cs.length) (hc:cs[o]? = some v) (hk:K v):aC (.p (some ⟨id,n,o⟩)) h K:=by
 obtain ⟨b,h1,rfl,h3,h4⟩:=R
 subst hn
 have:=aL hc
 refine ⟨b,h1,⟨h3,Nat.le_refl _,this⟩, ?_⟩
 show K (b.cells.getD o .u)
 rw [getD_some hc]; exact hk
theorem aI {h:aA} {id n o:Nat} {cs:List AV} {v:AV} {K:aA→Prop} (R:bA h id cs) (hn:n=cs.length) (ho:o<cs.length) (hv:v.parts=[v]:=by rfl) (hs:v.sizeOK=true:=by rfl) (hc:v.cellOK=true:=by rfl)
  (hk:∀ h',h'.length=h.length→Upd (· = id) h h'→bA h' id (cs.set o v)→K h'):aR 1 (.p (some ⟨id,n,o⟩)) v h K:=by
 have hl:=R.lt
 obtain ⟨b,h1,rfl,h3,h4⟩:=R
 subst hn
 refine ⟨b,h1,h4,h3,rfl,(by show o+1≤b.cells.length; omega),hs,by rw [hv] <;> rfl,by rw [hv]; simp [hc], ?_⟩
 refine hk _ (by simp) (Upd.set _ _ _) ⟨_,List.getElem?_set_self hl, ?_, ?_,h4⟩
 ·rw [hv] <;> rfl
 ·simp
theorem eB {cells:List AV} {h:aA} {K:AV→aA→Prop} (hk:∀ h',h'.length=h.length+1→Upd (fun _=>False) h h'→bA h' h.length cells→K (.p (some ⟨h.length,cells.length,0⟩)) h'):dV ty cells h K:=
 hk _ (by simp) (Upd.app _ _) ⟨aW cells 1 true ty,by simp,rfl,Nat.le_refl _,rfl⟩
theorem b8 {x:AV} {h:aA} {K:AV→aA→Prop} (hs:x.sizeOK=true:=by rfl) (hk:∀ h',h'.length=h.length+1→Upd (fun _=>False) h h'→bA h' h.length x.parts→K (.p (some ⟨h.length,x.parts.length,0⟩)) h'):d7 ty x h K:=
 ⟨hs,hk _ (by simp) (Upd.app _ _) ⟨aW x.parts 1 true ty,by simp,rfl,Nat.le_refl _,rfl⟩⟩
theorem aD {n:Int} {K:Int→Prop} (hk:K n):asI .i64 (.i .i64 n) K:=hk
theorem dE {k:IntKind} {n:Int} {K:Int→Prop} (hk:K n):asI k (.i k n) K:=by cases k <;> exact hk
theorem bG {n:Bool} {K:Bool→Prop} (hk:K n):asB (.b n) K:=hk
theorem dQ {n:List UInt8} {K:List UInt8→Prop} (hk:K n):asS (.s n) K:=hk
theorem aLD {a:Option AA} {n:Nat} {c:Option Nat} {K:Int→Prop} (hk:K n):b6 (.sl a n c) K:=hk
theorem aIO:∀ (ws pre cs:List AV),ws.length=cs.length→wr (pre++cs) pre.length ws=pre++ws
 | [], pre, cs, h => by
  have:cs=[]:=List.eq_nil_of_length_eq_zero (by simpa using h.symm)
  subst this; simp [wr]
 | w :: ws,pre,[],h=>by simp at h
 | w :: ws, pre, c :: cs, h => by
  simp only [wr]
  have e:(pre++c :: cs).set pre.length w=(pre++[w])++cs:=by simp
  rw [e]
  have:=aIO ws (pre++[w]) cs (by simpa using h)
  simpa using this
theorem iY {h:aA} {id n:Nat} {cs:List AV} {K:AV→Prop} (R:bA h id cs) (hn:n=cs.length) (hk:K (.ag cs)):dF n (.p (some ⟨id,n,0⟩)) h K:=by
 obtain ⟨b,h1,rfl,h3,h4⟩:=R
 subst hn
 refine ⟨b,h1,⟨h3,Nat.le_refl _,by simp⟩, ?_⟩
 simpa using hk
theorem tB {h:aA} {id n:Nat} {cs ws:List AV} {K:aA→Prop} (R:bA h id cs) (hn:n=cs.length) (hw:ws.length=n) (hc:ws.all AV.cellOK=true)
  (hk:∀ h',h'.length=h.length→Upd (· = id) h h'→bA h' id ws→K h'):aR n (.p (some ⟨id,n,0⟩)) (.ag ws) h K:=by
 have hl:=R.lt
 obtain ⟨b,h1,rfl,h3,h4⟩:=R
 subst hn
 refine ⟨b,h1,h4,h3,rfl,(by show 0+b.cells.length≤b.cells.length; omega),rfl,hw,hc, ?_⟩
 refine hk _ (by simp) (Upd.set _ _ _) ⟨_,List.getElem?_set_self hl, ?_, ?_,h4⟩
 ·exact aIO ws [] b.cells hw
 ·rw [hw]; exact Nat.le_refl _
def aS (v:AV) (id:Nat):Prop:=match v with
 | .sl (some a) _ _=>a.id=id
 | _=>False
def Rd (sz:Nat) (h:aA) (v:AV) (cs:List AV) (len:Nat):Prop:=
 (v = .sl none 0 none∧len=0∧cs=[])∨∃ id ver off cap b,v = .sl (some ⟨id,ver,off⟩) len cap∧h[id]? = some b∧(b.sz=sz∨b.sz=1)∧b.floor≤ver∧ver≤b.cells.length∧off+len * sz≤ver∧(b.cells.drop off).take (len * sz)=cs
theorem Rd.lt {sz:Nat} {h:aA} {v:AV} {cs:List AV} {len:Nat} (R:Rd sz h v cs len) {id:Nat} (hs:aS v id):id<h.length:=by
 rcases R with ⟨rfl,_⟩ | ⟨id',ver,off,cap,b,rfl,h2,h3⟩
 ·exact hs.elim
 ·cases hs; exact aL h2
theorem Rd.length {sz:Nat} {h:aA} {v:AV} {cs:List AV} {len:Nat} (R:Rd sz h v cs len):cs.length=len * sz:=by
 rcases R with ⟨_,rfl,rfl⟩ | ⟨id,ver,off,cap,b,rfl,h2,h3,h4,h5,h6,rfl⟩
 ·simp
 ·simp; omega
theorem Rd.sl {sz:Nat} {h:aA} {v:AV} {cs:List AV} {len:Nat} (R:Rd sz h v cs len) {K:List AV→Prop} (hk:K cs):eG sz v h K:=by
 rcases R with ⟨rfl,rfl,rfl⟩ | ⟨id,ver,off,cap,b,rfl,h2,h3,h4,h5,h6,rfl⟩
 ·exact hk
 ·exact .inr ⟨b,h2,⟨h4,h5,h6⟩,hk⟩
theorem Rd.len {sz:Nat} {h:aA} {v:AV} {cs:List AV} {len:Nat} (R:Rd sz h v cs len) {K:Int→Prop} (hk:K len):b6 v K:=by
 rcases R with ⟨rfl,rfl,rfl⟩ | ⟨id,ver,off,cap,b,rfl,h2⟩ <;> exact hk
theorem Rd.news {sz:Nat} {h:aA} {v:AV} {cs:List AV} {len:Nat} (R:Rd sz h v cs len) {K:List AV→Nat→Prop} (hk:K cs len):fQ sz v h K:=by
 rcases R with ⟨rfl,rfl,rfl⟩ | ⟨id,ver,off,cap,b,rfl,h2,h3,h4,h5,h6,rfl⟩
 ·exact hk
 ·exact .inr ⟨b,h2,⟨h4,h5,h6⟩,hk⟩
structure aNT (sz:Nat) (h:aA) (id ver off:Nat) (b:ABlk) (cs:List AV) (len:Nat):Prop where
 blk:h[id]? = some b
 siz:b.sz=sz∨b.sz=1
 flo:b.floor≤ver
 vle:ver≤b.cells.length
 end_:off+len * sz≤ver
 cel:(b.cells.drop off).take (len * sz)=cs
theorem aNS {sz:Nat} {h:aA} {id ver off:Nat} {b:ABlk} {cs:List AV} {len:Nat} {cap:Option Nat} {k:IntKind} {i:Nat} {K:AV→Prop} (R:aNT sz h id ver off b cs len) (hi:i<len) (hk:K (.p (some ⟨id,ver,off+i * sz⟩))) :
  aZ sz (.sl (some ⟨id,ver,off⟩) len cap) (.i k (i:Int)) h K:=
 ⟨by omega,by omega,⟨b,R.1,R.3,Nat.le_trans R.3 R.4⟩,by simpa using hk⟩
theorem aMC {sz:Nat} {h:aA} {id ver off:Nat} {b:ABlk} {cs:List AV} {len i o:Nat} {c:AV} {K:AV→Prop} (R:aNT sz h id ver off b cs len) (hi:i<len) (ho:o<sz) (hc:cs[i * sz+o]? = some c) (hk:K c):aC (.p (some ⟨id,ver,off+i * sz+o⟩)) h K:=by
 have h1:(i+1) * sz≤len * sz:=Nat.mul_le_mul_right _ hi
 rw [Nat.add_mul] at h1
 have h2:=R.end_
 refine ⟨b,R.1,⟨R.3,R.4,by simp only; omega⟩, ?_⟩
 have h3:=R.cel
 rw [← h3,List.getElem?_take_of_lt (by omega),List.getElem?_drop] at hc
 show K (b.cells.getD (off+i * sz+o) .u)
 rw [getD_some (show b.cells[off+i * sz+o]? = some c by rw [← hc]; congr 1; omega)]
 exact hk
theorem eY {sz len:Nat} {zeros cs:List AV} {parts:List (Nat × Nat × AV)} {h:aA} {K:AV→aA→Prop} (hf:gD zeros parts=some cs) (hl:cs.length=len * sz)
  (hk:∀ v h',h'.length=h.length+1→Upd (fun _=>False) h h'→Rd sz h' v cs len→(∀ id,aS v id→h.length≤id)→K v h'):bR sz len zeros parts h K:=by
 unfold bR
 rw [hf]
 refine ⟨hl,hk _ _ (by simp) (Upd.app _ _) (.inr ⟨h.length,cs.length,0,none,aW cs sz true,rfl,by simp,.inl rfl,Nat.le_refl _,Nat.le_refl _,by omega, ?_⟩) fun id hi=>by cases hi; exact Nat.le_refl _⟩
 simp [aW, ← hl]
def Byt (h:aA) (v:AV) (l:List UInt8):Prop:=Rd 1 h v (l.map byteAV) l.length
theorem Byt.str {h:aA} {v:AV} {l:List UInt8} (B:Byt h v l) {K:List UInt8→Prop} (hk:K l):cR v h K:=by
 refine Rd.sl B ⟨yT l, ?_⟩
 rw [aC4]; exact hk
theorem oP {l:List UInt8} {lo:Nat} {K:List UInt8→Prop} (h:lo≤l.length) (hk:K (l.drop lo)):cA (.s l) (some (.i .i64 lo)) none K:=by
 refine ⟨by omega,by simpa using h,Nat.le_refl _, ?_⟩
 simpa using hk
theorem aK8 {l:List UInt8} {lo hi:Nat} {K:List UInt8→Prop} (h:lo≤hi) (h2:hi≤l.length) (hk:K ((l.take hi).drop lo)):cA (.s l) (some (.i .i64 lo)) (some (.i .i64 hi)) K:=by
 refine ⟨by omega,by omega,by simpa using h,by simpa using h2, ?_⟩
 simpa using hk
theorem aK2 {l:List UInt8} {hi:Nat} {K:List UInt8→Prop} (h2:hi≤l.length) (hk:K (l.take hi)):cA (.s l) none (some (.i .i64 hi)) K:=by
 refine ⟨by omega,by simp,by simpa using h2, ?_⟩
 simpa using hk
end Go.GAM
namespace Go.GAM
open Go.RowKit
def qR (w : World) (szOf : Nat → Nat) : Value → AV
 | .bool x=>.b x
 | .int k n=>.i k n
 | .string s=>.s s.data.toList
 | .pointer none=>.p none
 | .pointer (some a) => match w.shape? a.block, a.spot with
  | some (_,n),none=>.p (some ⟨a.block,n,a.off⟩)
  | _,_=>.u
 | .slice none 0 0=>.sl none 0 none
 | .slice (some a) len cap => if cap = 0 then (if len = 0 then .sl (some ⟨w.heap.size, 0, 0⟩) 0 (some 0) else .u) else
  match w.shape? a.block,a.spot with
  | some (_,n),none=>if len≤cap∧a.off+cap * szOf a.block≤n then .sl (some ⟨a.block,n,a.off⟩) len (some cap) else .u
  | _,_=>.u
 | .nilFunc=>.nf
 | .nilIface=>.ni
 | .map none=>.mp none
 | _=>.u
def kC (w:World) (szOf:Nat→Nat):Value→AV
 | .agg cs=>.ag (cs.toList.map (qR w szOf))
 | .iface t v=>.ifc t (qR w szOf v)
 | v=>qR w szOf v
def kJ (w:World) (szOf:Nat→Nat) (B:Nat):ABlk:=match w.heap[B]? with
 | some (.cells c _ _)=>⟨c.toList.map (kC w szOf),szOf B,c.size,false,true,true,none,none⟩
 | _=>dead
def gZ (w:World) (szOf:Nat→Nat):aA:=(List.range w.heap.size).map (kJ w szOf)++[dead]
def muC (w:World) (szOf:Nat→Nat):Mu:=fun id ver=>
 if id=w.heap.size then (if ver=0 then some ⟨0,0,0,1⟩ else none) else
 match w.shape? id with
 | some (_,n)=>if ver=n then some ⟨id,0,n,szOf id⟩ else none
 | none=>none
def aKB (w:World):Nat→Option Nat:=fun B=>if (w.shape? B).isSome then some B else none
section
variable {w:World} {szOf:Nat→Nat}
theorem pU {B:Nat} {t:TypeId} {n:Nat} (h:w.shape? B=some (t,n)):∃ c fr,w.heap[B]? = some (.cells c t fr)∧c.size=n:=by
 unfold World.shape? at h
 split at h
 ·rename_i c el fr hh
  simp only [Option.some.injEq,Prod.mk.injEq] at h
  obtain ⟨rfl,rfl⟩:=h
  exact ⟨c,fr,hh,rfl⟩
 ·cases h
theorem nL {B:Nat} {x:TypeId × Nat} (h:w.shape? B=some x):B<w.heap.size:=by
 obtain ⟨c,fr,hh,_⟩:=pU (t:=x.1) (n:=x.2) h
 exact (Array.getElem?_eq_some_iff.1 hh).1
theorem aAQ {B:Nat} {t:TypeId} {n:Nat} (h:w.shape? B=some (t,n)):muC w szOf B n=some ⟨B,0,n,szOf B⟩:=by
 have:=nL h
 unfold muC
 rw [if_neg (by omega),h]
 simp
theorem tN (v : Value) : aM (muC w szOf) (qR w szOf v) v := by
  cases v <;> first | exact .u _ | exact .b _ | exact .i _ _ | exact .s _ _ rfl | exact .nf | exact .ni | skip
  case pointer a=>
    cases a with
    | none=>exact .pn
    | some a =>
      obtain ⟨B,off,spot⟩:=a
      simp only [qR]
      split
      · rename_i t n hs
        exact .p _ _ _ (aAQ hs) (by simp)
      · exact .u _
  case slice a len cap=>
    cases a with
    | none =>
      cases len with
      | succ l=>exact .u _
      | zero => cases cap with
        | succ c=>exact .u _
        | zero=>exact .sn
    | some a =>
      obtain ⟨B,off,spot⟩:=a
      simp only [qR]
      split
      · rename_i hc
        subst hc
        split
        · rename_i hl
          subst hl
          exact .sl _ _ _ 0 _ ⟨0,0,0,1⟩ (by unfold muC; simp) (Nat.le_refl _) (by simp) (by simp) (by simp) (by simp)
        · exact .u _
      · split
        · rename_i t n hs
          split
          · rename_i hl
            exact .sl _ _ _ cap _ _ (aAQ hs) hl.1 hl.2 (by simp) (by simp) (by simp)
          · exact .u _
        · exact .u _
  case map r=>cases r <;> first | exact .mpn | exact .u _
theorem xS:∀ vs:List Value,VRels (muC w szOf) (vs.map (qR w szOf)) vs
 | []=>.nil
 | v :: vs=>.cons _ _ _ _ (tN v) (xS vs)
theorem m8 (v:Value):aM (muC w szOf) (kC w szOf v) v:=by
 cases v <;> simp only [kC] <;> first | exact tN _ | exact .ag _ _ (xS _) | exact .ifc _ _ _ (tN _)
theorem wR {B:Nat} (h:B<w.heap.size):(gZ w szOf)[B]? = some (kJ w szOf B):=by
 unfold gZ
 rw [List.getElem?_append_left (by simpa using h)]
 simp [h]
theorem aH2:(gZ w szOf).length=w.heap.size+1:=by simp [gZ]
theorem aGX (w : World) (szOf : Nat → Nat) : Rel w (fun B => B < w.heap.size) (muC w szOf) (aKB w) (gZ w szOf) w where
 os:=rfl
 tape:=rfl
 output:=rfl
 size0:=Nat.le_refl _
 fz:=fun B hB=>⟨hB,rfl⟩
 ownlt:=fun B id h=>by
  unfold aKB at h
  split at h
  ·rename_i hs
   obtain ⟨x,hx⟩:=Option.isSome_iff_exists.1 hs
   exact nL hx
  ·cases h
 mulen := fun id ver l h => by
  unfold muC at h
  split at h
  ·rename_i he
   subst he
   exact ⟨dead,by simp [gZ],by simp [dead]⟩
  ·split at h
   ·rename_i t n hs
    obtain ⟨c,fr,hh,hc⟩:=pU hs
    refine ⟨kJ w szOf id,wR (nL hs),fun _=>?_⟩
    split at h
    ·rename_i hv
     unfold kJ
     rw [hh]
     simp [hv,hc]
    ·cases h
   ·cases h
 blk := fun id b hb hl => by
  rcases Nat.lt_or_ge id w.heap.size with hi | hi
  ·rw [wR hi] at hb
   cases hb
   unfold kJ at hl ⊢
   split at hl
   ·rename_i c el fr hh
    have hs:w.shape? id=some (el,c.size):=by unfold World.shape?; rw [hh]
    refine ⟨⟨id,0,c.size,szOf id⟩, ?_⟩
    have hlen:(c.toList.map (kC w szOf)).length=c.size:=by simp
    refine { cur:=by simp only [hlen]; exact aAQ hs,owned:=by simp [aKB,hs],sz:=rfl,len:=by simp,ex:=by simp,ro:=by simp,gl:=by simp,nomap:=rfl,tyok:=fun t ht=>(by cases ht),row:=⟨c,el,fr,hh,by simp⟩,free:=by simp,vers:=fun ver h1 h2 l' hl'=>?_ }
    have hv:ver=c.size:=by simp only [hlen] at h2; simp only at h1; omega
    subst hv
    rw [aAQ hs] at hl'
    cases hl'
    refine { own:=by simp [aKB,hs],sz:=rfl,le:=Nat.le_refl _,base:=fun _=>rfl,cells:=fun j hj=>?_ }
    refine ⟨c[j],by simp [World.cell?,hh,hj], ?_⟩
    have e:(c.toList.map (kC w szOf)).getD j .u=kC w szOf c[j]:=by simp [List.getD,hj]
    simp only [e]
    exact m8 _
   ·exact absurd hl (by simp [dead])
  ·exfalso
   rcases Nat.lt_or_ge id (w.heap.size+1) with h2 | h2
   ·have : id = w.heap.size := by omega
    subst this
    simp [gZ] at hb
    subst hb
    simp [dead] at hl
   ·rw [List.getElem?_eq_none (by rw [aH2]; omega)] at hb; cases hb
 maps:=fun id b es hb he=>by
  exfalso
  have hm:b∈gZ w szOf:=List.mem_of_getElem? hb
  unfold gZ at hm
  rcases List.mem_append.1 hm with h1 | h1
  ·obtain ⟨B, _, rfl⟩ := List.mem_map.1 h1
   unfold kJ at he
   split at he <;> cases he
  ·simp at h1; subst h1; cases he
end
def Yes:AV→aA→Prop:=fun v _=>v = .b true
end Go.GAM
namespace Go.GAM
open Go.RowKit Go.ChangeShapes
section
variable {H:Type} {enc:TypeId × Value→H} {P:Program} {w:World} {szOf:Nat→Nat}
theorem vS {a : Addr} {sz : Nat} : ∀ (rows : List (List Value)) (k : Nat), (∀ i r, rows[i]? = some r → r.length = sz ∧ ∀ j, j < sz → w.cell? (a.add ((k + i) * sz + j)) = some (r.getD j undef)) →
  ∀ i,i<rows.flatten.length→w.cell? (a.add (k * sz+i))=some (rows.flatten.getD i undef)
 | [],k,h,i,hi=>by simp at hi
 | r :: rows, k, h, i, hi => by
  obtain ⟨h1,h2⟩:=h 0 r rfl
  rw [List.flatten_cons]
  by_cases hlt:i<sz
  ·have := h2 i hlt
   rw [Nat.add_zero] at this
   rw [this,List.getD_eq_getElem?_getD,List.getD_eq_getElem?_getD,List.getElem?_append_left (by omega)]
  ·have := vS (a := a) (sz := sz) rows (k + 1) (fun j r hj => by
    have:=h (j+1) r (by simpa using hj)
    rw [show k+1+j=k+(j+1) by omega]; exact this) (i - sz) (by simp at hi ⊢; omega)
   rw [show (k+1) * sz+(i - sz)=k * sz+i by rw [Nat.add_mul]; omega] at this
   rw [this,List.getD_eq_getElem?_getD,List.getD_eq_getElem?_getD,List.getElem?_append_right (by omega),h1]
theorem aCZ {sz:Nat}:∀ rows:List (List Value),(∀ r∈rows,r.length=sz)→rows.flatten.length=rows.length * sz
 | [],_=>by simp
 | r :: rows, h => by
  rw [List.flatten_cons,List.length_append,aCZ rows fun r hr=>h r (by simp [hr]),h r (by simp),List.length_cons,Nat.add_mul]; omega
theorem z7 {sz:Nat}:∀ (rows:List (List Value)) (n:Nat),(∀ r∈rows,r.length=sz)→rows.flatten.take (n * sz)=(rows.take n).flatten
 | [],n,_=>by simp
 | r :: rows,0,_=>by simp
 | r :: rows, n + 1, h => by
  have h1:=h r (by simp)
  rw [List.take_succ_cons,List.flatten_cons,List.flatten_cons, ← z7 rows n fun r hr=>h r (by simp [hr]),List.take_append,h1]
  rw [List.take_of_length_le (by rw [h1,Nat.add_mul]; omega),show (n+1) * sz - sz=n * sz by rw [Nat.add_mul]; omega]
end
end Go.GAM
namespace Go.GAM
variable {ty:Option TypeId}
open Go.RowKit
theorem Upd.ext {h h':aA} (U:Upd (fun _=>False) h h'):Ext h h':=⟨U.1,fun i hi=>U.2 i hi fun h=>h⟩
theorem aO3 {l r:List UInt8} {i:Nat} {c:UInt8} {K:Int→Prop} (h:l.drop i=c :: r) (hk:K (c.toNat:Int)):dO (.s l) (.i .i64 (i:Int)) K:=by
 refine qG ?_ hk
 have:(l.drop i)[0]? = some c:=by rw [h] <;> rfl
 simpa using this
theorem aLR {α:Type} {l r:List α} {i:Nat} {c:α} (h:l.drop i=c :: r):i<l.length:=by
 rcases Nat.lt_or_ge i l.length with h1 | h1
 ·exact h1
 ·rw [List.drop_eq_nil_of_le h1] at h; cases h
theorem aGF {α:Type} {l r:List α} {i:Nat} {c:α} (h:l.drop i=c :: r):l.drop (i+1)=r:=by
 have:(l.drop i).drop 1=r:=by rw [h] <;> rfl
 rwa [List.drop_drop] at this
theorem aI8 {α:Type} {l:List α} {i:Nat} (h:l.drop i=[]):l.length≤i:=by
 have:=congrArg List.length h
 simp at this; omega
def Stk (h:aA) (v:AV) (l:List AV):Prop:=
 (v = .sl none 0 none∧l=[])∨∃ id b,v = .sl (some ⟨id,b.cells.length,0⟩) l.length none∧h[id]? = some b∧b.sz=1∧l.length≤b.cells.length∧b.cells.take l.length=l∧b.floor≤b.cells.length∧b.ro=false∧b.gl=false
theorem Stk.rd {h:aA} {v:AV} {l:List AV} (S:Stk h v l):Rd 1 h v l l.length:=by
 rcases S with ⟨rfl,rfl⟩ | ⟨id,b,rfl,h1,h2,h3,h4,h5,h6,h7⟩
 ·exact .inl ⟨rfl,rfl,rfl⟩
 ·exact .inr ⟨id,_,0,none,b,rfl,h1,.inl h2,h5,Nat.le_refl _,by omega,by rw [List.drop_zero,Nat.mul_one]; exact h4⟩
theorem Stk.upd {M:Nat→Prop} {h h':aA} {v:AV} {l:List AV} (S:Stk h v l) (U:Upd M h h') (hM:∀ i,aS v i→¬ M i):Stk h' v l:=by
 rcases S with h1 | ⟨id,b,rfl,h1,h2⟩
 ·exact .inl h1
 ·exact .inr ⟨id,b,rfl,(U.2 id (aL h1) (hM id rfl)).trans h1,h2⟩
theorem Stk.push {bytes : Nat} {h : aA} {v x : AV} {l zeros : List AV} (S : Stk h v l) (hf : gD zeros [(0, 1, x)] = some [x]) (hx : x.cellOK = true) (hlen : (l.length + 1) * bytes ≤ 140737488355328) (hl2 : l.length + 1 ≤ 9223372036854775807) {K : AV → aA → Prop}
  (hk:∀ v' h',Upd (aS v) h h'→Stk h' v' (l++[x])→(∀ i,aS v' i→aS v i∨h.length≤i)→K v' h'):bR 1 1 zeros [(0,1,x)] h fun y h'=>b5 ty 1 bytes v y h' K:=by
 refine eY hf rfl fun y h1 hl1 U1 R1 F1=>⟨Nat.one_pos,R1.news ?_⟩
 have S1:=S.upd U1 fun _ _ h=>h
 rcases S1 with ⟨rfl,rfl⟩ | ⟨id,b,rfl,g1,g2,g3,g4,g5,g6,g7⟩
 ·refine ⟨by simpa using hlen, by omega, ?_⟩
  rw [if_neg (by decide)]
  exact hk _ _ ((U1.mono fun _ _ h=>h.elim).trans (Upd.app _ _) fun _ _ h=>h.elim) (.inr ⟨h1.length,aW [x] 1 false ty,by simp [aW],by simp,rfl,by simp [aW],by simp [aW],by simp [aW],rfl,rfl⟩) fun i hi=>.inr (by have e:h1.length=i:=hi; omega)
 ·have hid := aL g1
  have hidh:id<h.length:=Rd.lt S.rd (id:=id) rfl
  refine ⟨hlen,by omega,b,g1,g2,⟨g5,Nat.le_refl _,by simp only; omega⟩, ?_⟩
  by_cases hfull:l.length=b.cells.length
  ·cases hex : b.ex with
   | true =>
    refine .inr (.inl ⟨Nat.one_pos,.inr ⟨rfl,rfl,rfl,by simp only; omega⟩, ?_⟩)
    refine hk _ _ ((U1.mono fun _ _ h=>h.elim).trans (Upd.app _ _) fun _ _ h=>h.elim) (.inr ⟨h1.length,aW (l++[x]) 1 false ty, ?_, ?_,rfl,by simp [aW],by simp only [aW,List.length_append]; exact List.take_of_length_le (by simp),by simp [aW],rfl,rfl⟩) fun i hi=>.inr (by have e:h1.length=i:=hi; omega)
    ·simp [aW,g4,g3]
    ·simp [g4]
   | false =>
    refine .inr (.inr (.inr (.inl ⟨Nat.one_pos,g6,rfl,rfl,by omega,rfl,rfl,g7,by simp [hx], ?_⟩)))
    have hcl:b.cells=l:=by rw [hfull,List.take_length] at g4; exact g4
    refine hk _ _ ((U1.mono fun _ _ h=>h.elim).trans (Upd.set _ _ _) fun i _ h=>h.symm) (.inr ⟨id,{ b with cells:=b.cells++[x],ty:=gQ b.ty ty }, ?_,by simp [hid,hex],g2,by simp; omega, ?_,by simp; omega,g6,g7⟩) fun i hi=>.inl hi
    ·simp
    ·simp only [hcl]
     rw [List.take_of_length_le (by simp)]
  ·refine .inr (.inr (.inl ⟨Nat.one_pos, g6, rfl, by simp only; omega, .inl rfl, by simp [hx], ?_⟩))
   refine hk _ _ ((U1.mono fun _ _ h=>h.elim).trans (Upd.set _ _ _) fun i _ h=>h.symm) (.inr ⟨id,{ b with cells:=wr b.cells (0+l.length * 1) [x],floor:=b.cells.length }, ?_,show (h1.set id _)[id]? = some _ from List.getElem?_set_self hid,g2, ?_, ?_, ?_,g6,g7⟩) fun i hi=>.inl hi
   ·simp [wr]
   ·simp [wr]; omega
   ·simp only [wr, Nat.zero_add, Nat.mul_one, List.length_append, List.length_cons, List.length_nil]
    apply List.ext_getElem?
    intro i
    by_cases h1:i<l.length
    ·rw [List.getElem?_take_of_lt (by omega), List.getElem?_set_ne (by omega), List.getElem?_append_left h1]
     conv=>rhs; rw [← g4]
     rw [List.getElem?_take_of_lt h1]
    ·by_cases h2 : i = l.length
     ·subst h2
      rw [List.getElem?_take_of_lt (by omega),List.getElem?_set_self (by omega),List.getElem?_append_right (by omega)]
      simp
     ·rw [List.getElem?_eq_none (by simp; omega),List.getElem?_eq_none (by simp; omega)]
   ·simp [wr]
theorem Rd.cell {sz:Nat} {h:aA} {v:AV} {cs:List AV} {len:Nat} (R:Rd sz h v cs len) {k:IntKind} {i:Nat} {c:AV} (hz:0<sz) (hi:i<len) (hc:cs[i * sz]? = some c) {K:AV→Prop} (hk:K c) :
  aZ sz v (.i k (i:Int)) h fun a=>aC a h K:=by
 rcases R with ⟨rfl,rfl,rfl⟩ | ⟨id,ver,off,cap,b,rfl,h2,h3,h4,h5,h6,h7⟩
 ·omega
 ·have A : aNT sz h id ver off b cs len := ⟨h2, h3, h4, h5, h6, h7⟩
  exact aNS A hi (aMC (o:=0) A hi hz (by simpa using hc) hk)
theorem bits_nat {x:Nat} (h:x<2 ^ 64):(BitVec.ofInt 64 (x:Int)).toNat=x:=by
 simp [BitVec.toNat_ofInt]; omega
theorem aBR {x y:Nat} (hx:x<2 ^ 62) (hy:y<2 ^ 62):aX .or .i64 x y=((x ||| y:Nat):Int):=by
 have h:x ||| y<2 ^ 62:=Nat.or_lt_two_pow hx hy
 show IntKind.wrap .i64 (((BitVec.ofInt 64 (x:Int)) ||| (BitVec.ofInt 64 (y:Int))).toNat:Int)=_
 rw [BitVec.toNat_or,bits_nat (by omega),bits_nat (by omega),bE (by omega) (by omega)]
theorem rX {x y:Nat} (hx:x<2 ^ 62) (hy:y<2 ^ 62):aX .and .i64 x y=((x &&& y:Nat):Int):=by
 have h:x &&& y<2 ^ 62:=Nat.and_lt_two_pow _ hy
 show IntKind.wrap .i64 (((BitVec.ofInt 64 (x:Int)) &&& (BitVec.ofInt 64 (y:Int))).toNat:Int)=_
 rw [BitVec.toNat_and,bits_nat (by omega),bits_nat (by omega),bE (by omega) (by omega)]
theorem tE {a b:Nat} {K:Int→Prop} (hb:b≤64) (h:a * 2 ^ b<2 ^ 62) (hk:K ((a * 2 ^ b:Nat):Int)):pQ .i64 a b K:=by
 refine ⟨by omega, ?_⟩
 have e:(a:Int) * 2 ^ (min (b:Int).toNat IntKind.i64.bits)=((a * 2 ^ b:Nat):Int):=by
  rw [Int.toNat_natCast,show IntKind.i64.bits=64 from rfl,Nat.min_eq_left hb]; simp
 rw [e,bE (by omega) (by omega)]; exact hk
theorem aJ5 {a b:Nat} {k:IntKind} {K:Int→Prop} (hb:b≤k.bits) (hk:K ((a / 2 ^ b:Nat):Int)):xW k a b K:=by
 refine ⟨by omega, ?_⟩
 have e:(a:Int).fdiv (2 ^ (min (b:Int).toNat k.bits))=((a / 2 ^ b:Nat):Int):=by
  rw [Int.toNat_natCast,Nat.min_eq_left hb]
  have h2:((2:Int) ^ b)=((2 ^ b:Nat):Int):=by simp
  rw [h2,Int.fdiv_eq_ediv_of_nonneg _ (Int.natCast_nonneg (2 ^ b))] <;> rfl
 rw [e]; exact hk
theorem aLU {P:Program} {f:FuncId} {cargs:List Value} {w w0:World} {Fz:Nat→Prop} {μ:Mu} {own:Nat→Option Nat} {h:aA} {K:AV→aA→Prop} {av:AV} {v:Value} (hb:fT P f=true) (R:Rel w0 Fz μ own h w)
  (hc:Calls P f cargs.toArray w fun e w'=>e = .returned v∧Below w.heap.size w w') (hv:aM μ av v) (hk:K av h):aEB P f cargs w (gN w0 Fz μ K):=by
 refine .inl ⟨f,cargs.toArray,iR hb _ _,hc.mono fun e w' ⟨he,hb⟩=>⟨v,he,av,μ,own,h,hk,hv, ?_,Sub.refl _⟩⟩
 exact R.same (fun B hB=>hb.block B hB) hb.size hb.os hb.tape hb.output
end Go.GAM
namespace Go.GAM
open Go.RowKit
theorem uG {α β:Type} (f:α→β):∀ l:List α,(l.flatMap fun x=>[f x])=l.map f
 | []=>rfl
 | a :: l=>by rw [List.flatMap_cons,uG f l] <;> rfl
section
variable {H:Type} {enc:TypeId × Value→H} {P:Program} {w:World} {szOf:Nat→Nat}
end
theorem Rd.byte {h:aA} {v:AV} {l:List UInt8} {len:Nat} (R:Rd 1 h v (l.map byteAV) len) {k:IntKind} {i:Nat} {x:UInt8} (hx:l[i]? = some x) {K:Int→Prop} (hk:K (x.toNat:Int)) :
  aZ 1 v (.i k (i:Int)) h fun a=>aC a h fun y=>asI .u8 y K:=by
 have hl:=R.length
 rw [List.length_map,Nat.mul_one] at hl
 exact R.cell Nat.one_pos (by have:=aL hx; omega) (c:=byteAV x) (by rw [Nat.mul_one,List.getElem?_map,hx] <;> rfl) (dE hk)
end Go.GAM
namespace Go.GAM
open Go.RowKit Go.ChangeShapes
section
variable {H:Type} {enc:TypeId × Value→H} {P:Program} {w:World} {szOf:Nat→Nat}
theorem aDZ {n:String} {d:DataW Unit} {l:List (String × DataW Unit)} (hm:(n,d)∈l) (hL:laidMet P l w) :
  ∃ g t cs fuel p,P.globalNamed n=some g∧(P.globals[g]?).map (·.type)=some t∧w.var? P n=some cs∧DataW.trod (fun _=>()) P w 0 (fun _=>true) false fuel t cs.toList=some (d,p):=by
 obtain ⟨ps,h,hx⟩:=hL
 clear hx
 induction l generalizing ps with
 | nil=>cases hm
 | cons x l ih =>
  obtain ⟨n',d'⟩:=x
  obtain ⟨g,t,cs,fuel,p,q,h1,h2,h3,h4,h5,h6⟩:=h
  rcases List.mem_cons.1 hm with h | h
  ·cases h; exact ⟨g,t,cs,fuel,p,h1,h2,h3,h4⟩
  ·exact ih h _ h5
theorem aIK {n:String} {g:Nat} {cs:Array Value} (hg:P.globalNamed n=some g) (hv:w.var? P n=some cs):∃ t fr,w.heap[g]? = some (.cells cs t fr):=by
 unfold World.var? at hv
 rw [hg] at hv
 simp only [Option.bind_some] at hv
 split at hv
 ·rename_i c t fr h
  cases hv
  exact ⟨t,fr,h⟩
 ·cases hv
end
theorem Rd.cutAt {sz:Nat} {h:aA} {v:AV} {cs:List AV} {len:Nat} (R:Rd sz h v cs len) (hz:0<sz) {lo:Option AV} {lo' hi:Nat} (hlo:lo=none∧lo'=0∨lo=some (.i .i64 lo')) (h1:lo'≤hi) (h2:hi≤len) (z1:sz=1:=by rfl) :
  ∃ v',Rd sz h v' ((cs.take (hi * sz)).drop (lo' * sz)) (hi - lo')∧∀ (K:AV→Prop),K v'→bZ sz v lo (some (.i .i64 (hi:Int))) none h K:=by
 rcases R with ⟨rfl,h0,rfl⟩ | ⟨id,ver,off,cap,b,rfl,g2,g3,g4,g5,g6,g7⟩
 ·have : hi = 0 := by omega
  subst this
  have:lo'=0:=by omega
  subst this
  refine ⟨.sl none 0 none,.inl ⟨rfl,rfl,by simp⟩,fun K hk=>⟨by simp, ?_⟩⟩
  rcases hlo with ⟨rfl,_⟩ | rfl
  ·exact ⟨rfl,rfl,rfl,fun h=>by simp at h,hk⟩
  ·exact ⟨by simp,rfl,rfl,rfl,fun h=>by simp at h,hk⟩
 ·have e2 : hi * sz ≤ len * sz := Nat.mul_le_mul_right _ h2
  have e1:lo' * sz≤hi * sz:=Nat.mul_le_mul_right _ h1
  have e3:(hi - lo') * sz=hi * sz - lo' * sz:=Nat.sub_mul _ _ _
  refine ⟨.sl (some ⟨id,ver,off+lo' * sz⟩) (hi - lo') (cap.map (· - lo')),.inr ⟨id,ver,off+lo' * sz,_,b,rfl,g2,g3,g4,g5,by omega, ?_⟩,fun K hk=>?_⟩
  ·rw [← g7,List.take_take,Nat.min_eq_left e2,List.drop_take,List.drop_drop,e3]
  ·refine ⟨hz, fun h => by simp at h, by omega, ?_⟩
   rcases hlo with ⟨rfl,rfl⟩ | rfl
   ·exact ⟨by omega,b,g2,by omega,g4,.inl (g3.elim (fun x=>x) fun x=>x.trans z1.symm),.inl (by simpa using h2),by simpa using hk⟩
   ·exact ⟨by omega,by simpa using h1,b,g2,by omega,g4,.inl (g3.elim (fun x=>x) fun x=>x.trans z1.symm),.inl (by simpa using h2),by simpa using hk⟩
end Go.GAM
namespace Go.GAM
variable {ty:Option TypeId}
open Go.RowKit
theorem inc {i:Nat} {K:Int→Prop} (h:i<9223372036854775807) (hk:K ((i+1:Nat):Int)):aT (IntKind.wrap .i64 ((i:Int)+1)) K:=
 aU (n:=((i+1:Nat):Int)) (by rw [bE (by omega) (by omega)]; omega) hk
theorem d5 {e n:Int} {K:Int→Prop} (h:e=n) (h0 : -9223372036854775808≤n) (h1:n<9223372036854775808) (hk:K n):aT (IntKind.wrap .i64 e) K:=
 aU (by rw [h,bE h0 h1]) hk
theorem oQ {α:Type} {l:List α} {i:Nat} {c:α} (hc:l[i]? = some c):l.take (i+1)=l.take i++[c]:=by
 rw [List.take_add_one,hc] <;> rfl
theorem aDX {α:Type} {l r:List α} {i:Nat} {c:α} (h:l.drop i=c :: r):l[i]? = some c:=by
 have:(l.drop i)[0]? = some c:=by rw [h] <;> rfl
 simpa using this
theorem aD0 {α:Type} {l:List α} {i:Nat} {c:α} (h:l[i]? = some c):l.drop i=c :: l.drop (i+1):=by
 have hi:=aL h
 rw [List.drop_eq_getElem_cons hi]
 rw [List.getElem?_eq_getElem hi] at h
 simp only [Option.some.injEq] at h
 rw [h]
theorem dD {R:aO} {f:Nat} {first cap vs:List AV} {h:aA} {K:AV→aA→Prop} (hf:Nat.blt f yid0=true) (hk:R f (first++vs++cap) h K):b9 R (.fn (.func f) first cap) vs h K:=by
 unfold b9
 simp only
 unfold mN
 exact bB hf hk
theorem aDE (z:AV):∀ n,(List.replicate n [z]).flatten=List.replicate n z
 | 0=>rfl
 | n+1=>by rw [List.replicate_succ,List.flatten_cons,aDE z n,List.replicate_succ] <;> rfl
end Go.GAM
namespace Go.GAM
open Go.RowKit
theorem aEX (z:Int):IntKind.wrap .i64 ((BitVec.ofInt 64 z).toNat:Int)=IntKind.wrap .i64 z:=by
 have e1:(2:Int) ^ 64=18446744073709551616:=by decide
 have e2:(2:Int) ^ (64 - 1)=9223372036854775808:=by decide
 have e3:((2 ^ 64:Nat):Int)=18446744073709551616:=by decide
 rw [BitVec.toNat_ofInt,e3]
 simp only [IntKind.wrap,IntKind.bits,IntKind.signed,Bool.true_and,decide_eq_true_eq,e1,e2]
 rw [Int.toNat_of_nonneg (by omega),Int.emod_emod_of_dvd _ (Int.dvd_refl _)]
theorem aOO {a : Int} {c : Nat} (hc : c < 256) (h0 : -36028797018963968 ≤ a) (h1 : a < 36028797018963968) : aX .or .i64 (a * 256) (c : Int) = a * 256 + c := by
 show IntKind.wrap .i64 (((BitVec.ofInt 64 (a * 256)) ||| (BitVec.ofInt 64 (c:Int))).toNat:Int)=_
 have hX:BitVec.ofInt 64 (a * 256)=BitVec.ofInt 64 a <<< 8:=by
  rw [BitVec.ofInt_mul,BitVec.shiftLeft_eq_mul_twoPow] <;> rfl
 have hand:BitVec.ofInt 64 (a * 256) &&& BitVec.ofInt 64 (c:Int)=0#64:=by
  rw [hX]
  apply BitVec.eq_of_getLsbD_eq
  intro i hi
  rw [BitVec.getLsbD_and,BitVec.getLsbD_shiftLeft]
  by_cases h8:i<8
  ·simp [h8]
  ·have : (BitVec.ofInt 64 (c : Int)).getLsbD i = false := by
    rw [BitVec.getLsbD,bits_nat (by omega)]
    apply Nat.testBit_lt_two_pow
    have:2 ^ 8≤2 ^ i:=Nat.pow_le_pow_right (by omega) (by omega)
    omega
   rw [this]; simp
 rw [← BitVec.add_eq_or_of_and_eq_zero _ _ hand, ← BitVec.ofInt_add,aEX,bE (by omega) (by omega)]
end Go.GAM
namespace Go.GAM
open Go.RowKit
section
variable {P:Program} {α:Type} [DecidableEq α]
end
section
variable {P:Program}
end
end Go.GAM
namespace Go.GAM
def aPG (k:IntKind) (x:AV) (h:aA) (K:Int→Prop):Prop:=aC x h fun v=>asI k v K
def aPW (k:IntKind) (args:List AV) (h:aA) (K:AV→aA→Prop):Prop:=
 match args with
 | [x]=>aPG k x h fun n=>K (.i k n) h
 | _=>False
def z6 (args:List AV) (h:aA) (K:AV→aA→Prop):Prop:=
 match args with
 | [x]=>K x h
 | _=>False
section
variable {P:Program} {w0:World} {Fz:Nat→Prop} {μ:Mu} {own:Nat→Option Nat} {h:aA} {w:World}
theorem aJ2 {f:FuncId} {fn:Func} {ex:Array Value→Sem Value} (hf:P.funcs[f]? = some fn) (hn:(fn.name == "runtime.NumGoroutine")=false) (hb:fn.body.isNone=true)
  (h1:Extern.findNext fn=none) (h2:Extern.find fn=some ex) {args:Array Value} {v:Value} {w w':World} (he:(ex args).run P w = .ok v w'):(callFunc f args).run P w = .ok (.value v) w':=by
 have hn':fn.name ≠ "runtime.NumGoroutine":=by simpa using hn
 have hb':fn.body=none:=by simpa using hb
 have hm:∀ (m:Mark) (k:Sem Unit) (w:World),Sem.run P (Sem.mark m k) w=Sem.run P k w:=fun _ _ _=>rfl
 unfold callFunc
 simp [go_sem,hf,hn',hb',h1,h2,mark,hm,he]
def aFH (P : Program) (ex : Array Value → Sem Value) (X : List AV → aA → (AV → aA → Prop) → Prop) : Prop :=
 ∀ (w0 : World) (Fz : Nat → Prop) (μ : Mu) (own : Nat → Option Nat) (h : aA) (w : World) (args : List AV) (cargs : List Value) (K : AV → aA → Prop), Rel w0 Fz μ own h w → VRels μ args cargs → X args h K →
  ∃ cv w',(ex cargs.toArray).run P w = .ok cv w'∧gN w0 Fz μ K cv w'
structure aKH (P:Program) (f:FuncId) (ex:Array Value→Sem Value):Prop where
 is:∃ fn,P.funcs[f]? = some fn∧(fn.name == "runtime.NumGoroutine")=false∧fn.body.isNone=true∧Extern.findNext fn=none∧Extern.find fn=some ex
theorem aKH.sim {f:FuncId} {ex:Array Value→Sem Value} {X:List AV→aA→(AV→aA→Prop)→Prop} (A:aKH P f ex) (E:aFH P ex X) (hlt:f<yid0) {μb:Mu} {args:List AV} {h:aA} {K:AV→aA→Prop} (hk:X args h K):aF1 P w0 Fz μb f args h K:=by
 intro μ own w cargs hsb R hc
 rw [if_pos hlt]
 obtain ⟨fn,h1,h2,h3,h4,h5⟩:=A.is
 obtain ⟨cv,w',e1,e2⟩:=E w0 Fz μ own h w args cargs K R hc hk
 exact .inr ⟨cv,w',aJ2 h1 h2 h3 h4 h5 e1,e2⟩
theorem aIT:aFH P Extern.AbiNoEscape.same z6:=by
 intro w0 Fz μ own h w args cargs K R hc hk
 unfold z6 at hk
 split at hk
 ·rename_i x
  cases hc with | cons _ v _ _ hx t=>
  cases t
  exact ⟨v,w,rfl,_,μ,own,h,hk,hx,R,Sub.refl _⟩
 ·exact hk.elim
end
end Go.GAM
namespace Go.GAM
def gT (E:TypeId) (h:aA) (v:AV) (l:List UInt8):Prop:=
 (v = .sl none 0 none∧l=[])∨∃ id b,v = .sl (some ⟨id,l.length,0⟩) l.length none∧h[id]? = some b∧b.cells=l.map byteAV∧b.sz=1∧b.floor≤l.length∧b.ro=false∧b.ex=false∧b.gl=false∧b.ty=some E∧l≠[]
theorem gT.upd {E:TypeId} {M:Nat→Prop} {h h':aA} {v:AV} {l:List UInt8} (B:gT E h v l) (U:Upd M h h') (hM:∀ i,aS v i→¬ M i):gT E h' v l:=by
 rcases B with B | ⟨id,b,rfl,h1,h2⟩
 ·exact .inl B
 ·exact .inr ⟨id,b,rfl,(U.2 id (aL h1) (hM id rfl)).trans h1,h2⟩
theorem gT.lt {E:TypeId} {h:aA} {v:AV} {l:List UInt8} (B:gT E h v l) {i:Nat} (hi:aS v i):i<h.length:=by
 rcases B with ⟨rfl,_⟩ | ⟨id,b,rfl,h1,h2⟩
 ·exact hi.elim
 ·cases hi; exact aL h1
theorem gT.append {E:TypeId} {h:aA} {v x:AV} {l t:List UInt8} (B:gT E h v l) (hx:∀ K:List AV→Nat→Prop,K (t.map byteAV) t.length→fQ 1 x h K) (hlen:l.length+t.length≤140737488355328) {K:AV→aA→Prop}
  (hk:∀ v' h',Upd (aS v) h h'→gT E h' v' (l++t)→(∀ i,aS v' i→aS v i∨h.length≤i)→K v' h'):b5 (some E) 1 1 v x h K:=by
 refine ⟨by decide,hx _ ?_⟩
 have hok:(t.map byteAV).all AV.cellOK=true:=by
  rw [List.all_eq_true]; intro x hx
  obtain ⟨c,_,rfl⟩:=List.mem_map.1 hx
  rfl
 rcases B with ⟨rfl,rfl⟩ | ⟨id,b,rfl,h1,h2,h3,h4,h5,h6,h7,h8,h9⟩
 ·refine ⟨by simp only [List.length_nil] at hlen; omega, by simp only [List.length_nil] at hlen; omega, ?_⟩
  by_cases ht:t=[]
  ·subst ht
   show K (.sl none 0 none) h
   exact hk _ _ (Upd.refl _ _) (.inl ⟨rfl,rfl⟩) fun i hi=>.inl hi
  ·have htl : t.length ≠ 0 := by simpa using ht
   rw [if_neg htl]
   refine hk _ _ ((Upd.app _ _).mono fun _ _ h=>h.elim) (.inr ⟨h.length,aW (t.map byteAV) 1 false (some E),by simp,by simp,rfl,rfl,by simp [aW],rfl,rfl,rfl,rfl,by simpa using ht⟩) fun i hi=>.inr ?_
   cases hi; exact Nat.le_refl _
 ·have hidl := aL h1
  have hbl:b.cells.length=l.length:=by rw [h2]; simp
  have hll:0<l.length:=List.length_pos_iff.2 h9
  refine ⟨by omega,by omega,b,h1,h3,⟨h4,by rw [hbl]; exact Nat.le_refl _,by simp⟩, ?_⟩
  by_cases ht:t=[]
  ·subst ht
   left
   exact ⟨rfl,hk _ _ (Upd.refl _ _) (.inr ⟨id,b,by simp,h1,by simpa using h2,h3,by simpa using h4,h5,h6,h7,h8,by simpa using h9⟩) fun i hi=>.inl hi⟩
  ·have htl : 0 < t.length := List.length_pos_iff.2 ht
   right; right; right; left
   refine ⟨htl,h5,hbl.symm,rfl,by rw [hbl]; simp,rfl,h6,h7,hok, ?_⟩
   have hty:gQ b.ty (some E)=some E:=by rw [h8]; simp [gQ]
   refine hk _ _ ((Upd.set _ _ _).mono fun i _ h=>h.symm) (.inr ⟨id,{ b with cells:=b.cells++t.map byteAV,ty:=gQ b.ty (some E) },by simp [hbl],List.getElem?_set_self hidl,by simp [h2],h3,by simp; omega,h5,h6,h7,hty,by simp [h9]⟩) fun i hi=>.inl ?_
   exact hi
structure g9 (P:Program) (T E:TypeId) (h:aA) (id off:Nat) (cs:List AV) (buf:AV) (l:List UInt8):Prop where
 blk:∃ b t,h[id]? = some b∧b.cells=cs∧b.floor≤cs.length∧b.ro=false∧b.ty=some t∧liesAt P P.depth t (cs.length / P.cellsOf t) off T 1=true
 room:off+1<cs.length
 addr:cs[off]? = some (.p none)∨cs[off]? = some (.p (some ⟨id,cs.length,off⟩))
 cell:cs[off+1]? = some buf
 is:gT E h buf l
 own:¬ aS buf id
section
variable {P:Program} {T E:TypeId} {h:aA} {id off:Nat} {cs:List AV} {buf:AV} {l:List UInt8}
theorem g9.rec' (B:g9 P T E h id off cs buf l):bA h id cs:=by
 obtain ⟨b,t,h1,h2,h3,h4,_⟩:=B.blk
 exact ⟨b,h1,h2,h3,h4⟩
theorem g9.lt (B:g9 P T E h id off cs buf l):id<h.length:=B.rec'.lt
theorem g9.upd {M:Nat→Prop} {h':aA} (B:g9 P T E h id off cs buf l) (U:Upd M h h') (h1:¬ M id) (h2:∀ i,aS buf i→¬ M i):g9 P T E h' id off cs buf l:=by
 have hl:=B.lt
 obtain ⟨b,t,g1,g2⟩:=B.blk
 exact ⟨⟨b,t,(U.2 id hl h1).trans g1,g2⟩,B.room,B.addr,B.cell,B.is.upd U h2,B.own⟩
theorem g9.store {v:AV} {o:Nat} {K:aA→Prop} (B:g9 P T E h id off cs buf l) (ho:o<cs.length) (hv:v.parts=[v]) (hs:v.sizeOK=true) (hc:v.cellOK=true)
  {buf':AV} {l':List UInt8} (ha:(cs.set o v)[off]? = some (.p none)∨(cs.set o v)[off]? = some (.p (some ⟨id,cs.length,off⟩))) (hb:(cs.set o v)[off+1]? = some buf') (hi:gT E h buf' l') (hn:¬ aS buf' id)
  (hk:∀ h',h'.length=h.length→Upd (· = id) h h'→g9 P T E h' id off (cs.set o v) buf' l'→K h'):aR 1 (.p (some ⟨id,cs.length,o⟩)) v h K:=by
 have hl:=B.lt
 obtain ⟨b,t,h1,rfl,h3,h4,h5,h6⟩:=B.blk
 refine ⟨b,h1,h4,h3,rfl,(by show o+1≤b.cells.length; omega),hs,by rw [hv] <;> rfl,by rw [hv]; simp [hc], ?_⟩
 have hU:Upd (· = id) h (h.set id { b with cells:=wr b.cells o v.parts,floor:=b.cells.length }):=Upd.set _ _ _
 refine hk _ (by simp) hU ⟨⟨_,t,List.getElem?_set_self hl, ?_, ?_,h4,h5,by simpa using h6⟩,by simpa using B.room,by simpa using ha,hb,hi.upd hU fun i hi hid=>hn (hid ▸ hi),hn⟩
 ·rw [hv] <;> rfl
 ·simp
theorem g9.put {h3:aA} {v:AV} {l':List UInt8} {K:aA→Prop} (B:g9 P T E h id off cs buf l) (U:Upd (aS buf) h h3) (hi:gT E h3 v l') (hn:¬ aS v id)
  (hk:∀ h',h'.length=h3.length→Upd (· = id) h3 h'→g9 P T E h' id off (cs.set (off+1) v) v l'→K h'):aR 1 (.p (some ⟨id,cs.length,off+1⟩)) v h3 K:=by
 have hl:=B.lt
 have hr:=B.room
 have hv:v.parts=[v]∧v.sizeOK=true∧v.cellOK=true:=by
  rcases hi with ⟨rfl,_⟩ | ⟨_,_,rfl,_⟩ <;> exact ⟨rfl,rfl,rfl⟩
 obtain ⟨b,t,h1,rfl,h3',h4,h5,h6⟩:=B.blk
 have g1:h3[id]? = some b:=(U.2 id hl B.own).trans h1
 refine ⟨b,g1,h4,h3',rfl,(by show off+1+1≤b.cells.length; omega),hv.2.1,by rw [hv.1] <;> rfl,by rw [hv.1]; simp [hv.2.2], ?_⟩
 have hU:Upd (· = id) h3 (h3.set id { b with cells:=wr b.cells (off+1) v.parts,floor:=b.cells.length }):=Upd.set _ _ _
 have e:wr b.cells (off+1) v.parts=b.cells.set (off+1) v:=by rw [hv.1] <;> rfl
 refine hk _ (by simp) hU ⟨⟨_,t,List.getElem?_set_self (aL g1),e, ?_,h4,h5,by simpa using h6⟩,by simpa using hr, ?_,List.getElem?_set_self hr,hi.upd hU fun i hi hid=>hn (hid ▸ hi),hn⟩
 ·simp
 ·rw [List.getElem?_set_ne (by omega),List.length_set]; exact B.addr
theorem aIJ {n o:Nat} {K:AV→Prop} (R:bA h id cs) (hn:n=cs.length) (ho:o<cs.length) (hk:K (.p (some ⟨id,n,o⟩))):mK (.p (some ⟨id,n,o⟩)) h K:=by
 obtain ⟨b,h1,rfl,h3,h4⟩:=R
 subst hn
 exact ⟨b,h1,⟨h3,Nat.le_refl _,ho⟩,hk⟩
theorem g9.fromUnsafe {K:AV→Prop} (B:g9 P T E h id off cs buf l) (hk:K (.p (some ⟨id,cs.length,off⟩))):dR P T (.p (some ⟨id,cs.length,off⟩)) h K:=by
 obtain ⟨b,t,h1,rfl,h3,h4,h5,h6⟩:=B.blk
 exact ⟨b,t,h1,h5,h3,rfl,h6,hk⟩
theorem vW {t:TypeId} {K:AV→Prop} (ht:jY P t=true) (hk:K (.b true)):cD P .eql t (.p none) (.p none) K:=by
 simp only [cD,ht,cond_true]; exact hk
theorem dI {t:TypeId} {a:AA} {K:AV→Prop} (ht:jY P t=true) (hk:K (.b false)):cD P .eql t (.p (some a)) (.p none) K:=by
 simp only [cD,ht,cond_true]; exact hk
theorem aH7 {t:TypeId} {a:AA} {K:AV→Prop} (ht:aAE P t=true) (hk:K (.b false)):cD P .neq t (.p (some a)) (.p (some a)) K:=by
 simp only [cD,ht,Nat.beq_refl,Bool.and_self,cond_true]; exact hk
def aKX (v:AV):AV:=match v with | .sl (some a) _ _=>.p (some a) | _=>.p none
theorem gT.data {v:AV} {l:List UInt8} {K:AV→aA→Prop} (B:gT E h v l) (hk:K (aKX v) h):fS v h K:=by
 rcases B with ⟨rfl,rfl⟩ | ⟨id,b,rfl,h1,h2,h3,h4,h5,h6,h7,h8,h9⟩
 ·exact hk
 ·exact ⟨List.length_pos_iff.2 h9,hk⟩
theorem gT.text {v : AV} {l : List UInt8} {K : AV → aA → Prop} (B : gT E h v l) (hE : P.underlying E = some (.int .u8)) (hc : P.cellsOf E = 1) (hl : l.length ≤ 9223372036854775807) (hk : ∀ h', h'.length = h.length → Upd (aS v) h h' → K (.s l) h') :
  kV P (aKX v) (.i .i64 (l.length:Int)) h K:=by
 rcases B with ⟨rfl,rfl⟩ | ⟨id,b,rfl,h1,h2,h3,h4,h5,h6,h7,h8,h9⟩
 ·exact ⟨rfl,hk _ rfl (Upd.refl _ _)⟩
 ·have hpos := List.length_pos_iff.2 h9
  have hbl:b.cells.length=l.length:=by rw [h2]; simp
  have e:(b.cells.drop 0).take l.length=l.map byteAV:=by rw [List.drop_zero,List.take_of_length_le (by omega),h2]
  refine ⟨b,E,h1,h8,hE,hc,by omega,by omega,h5,by omega,hbl.symm,by simp [hbl], ?_, ?_⟩
  ·simp only [Int.toNat_natCast, e]
   rw [List.all_eq_true]; intro x hx
   obtain ⟨c,_,rfl⟩:=List.mem_map.1 hx
   rfl
  ·simp only [Int.toNat_natCast, e]
   have:(l.map byteAV).map toByte=l:=by
    rw [List.map_map]
    conv=>rhs; rw [← List.map_id l]
    refine List.map_congr_left fun c _=>?_
    simp [byteAV,toByte]
   rw [this]
   exact hk _ (by simp) ((Upd.set _ _ _).mono fun i _ h=>h.symm)
end
end Go.GAM
namespace Go.GAM
abbrev xF:=List AV→aA→(AV→aA→Prop)→Prop
def lQ:xF:=fun args h K=>∃ (l:List UInt8) (c:UInt8),args=[.s l,.i .u8 (c.toNat:Int)]∧K (.i .i64 (Lib.indexByte l c)) h
def aHE (T:List (FuncId × xF)):aO:=fun f args h K=>∃ X,(f,X)∈T∧X args h K
section
variable {P:Program} {w0:World} {Fz:Nat→Prop} {μ:Mu} {own:Nat→Option Nat} {h:aA} {w:World}
theorem aHY {μ:Mu} {l:List UInt8} {n:Int} {cargs:List Value} (h:VRels μ [.s l,.i .u8 n] cargs):∃ x:ByteArray,x.data.toList=l∧cargs=[.string x,.int .u8 n]:=by
 cases h with
 | cons _ _ _ _ a t =>
  cases t with
  | cons _ _ _ _ b t2 =>
   cases t2; cases b
   cases a with
   | s _ x hx=>exact ⟨x,hx,rfl⟩
theorem y1:aFH P Extern.BytealgIndexByte.indexByte lQ:=by
 rintro w0 Fz μ own h w args cargs K R hc ⟨l,c,rfl,hk⟩
 obtain ⟨x,rfl,rfl⟩:=aHY hc
 refine ⟨_,w,Lib.run_indexByteString x c.toNat w,_,μ,own,h, ?_,.i _ _,R,Sub.refl _⟩
 have:((c.toNat:Int).toNat).toUInt8=c:=by simp
 rw [this]; exact hk
def aPM (P:Program) (r:FuncId × xF):Prop:=r.1<yid0∧∃ ex,aKH P r.1 ex∧aFH P ex r.2
theorem aEZ {T:List (FuncId × xF)} (hT:∀ r∈T,aPM P r):jS P (aHE T):=by
 rintro w0 Fz μb f args h K ⟨X,hm,hk⟩
 obtain ⟨hlt,ex,hA,hE⟩:=hT _ hm
 exact hA.sim hE hlt hk
end
open Go.RowKit in
theorem aCC {P:Program} {X:aO} (hm:P.follows .mixedOrders=true) (hsz:P.funcs.size≤yid0) {w:World} (hX:bU P w (fun B=>B<w.heap.size) (fun _ _=>none) X) {f:FuncId} (hb:fT P f=true) {szOf:Nat→Nat} {avs:List AV} {args:Array Value}
  (hv:VRels (muC w szOf) avs args.toList) (hk:eC P X f avs (gZ w szOf) Yes):Calls P f args w fun e w'=>e = .returned (.bool true)∧Below w.heap.size w w':=by
 have hlt:f<yid0:=by
  unfold fT at hb
  split at hb
  ·rename_i fn hf; exact Nat.lt_of_lt_of_le (Array.getElem?_eq_some_iff.1 hf).1 hsz
  ·cases hb
 have hs:=fY hm hsz hX f avs _ _ hk (muC w szOf) (aKB w) w args.toList (fun _ _ _ h=>by cases h) (aGX w szOf) hv
 rw [if_pos hlt] at hs
 have hrun:=iR hb args w
 rcases hs with ⟨g,as',h1,h2⟩ | ⟨v,w',h1,h2⟩
 ·rw [Array.toArray_toList, hrun] at h1
  cases h1
  refine h2.mono fun e w' ⟨v,he,v',μ',own',h',g1,g2,g3,g4⟩=>?_
  subst he
  have g1:v' = .b true:=g1
  subst g1
  cases g2
  exact ⟨rfl,g3.os,g3.tape,g3.output,g3.size0,fun k hk=>(g3.fz k hk).2⟩
 ·rw [Array.toArray_toList,hrun] at h1; cases h1
end Go.GAM
set_option maxRecDepth 20000
namespace Go.Proofs.YtfoekpcljhbijaaGreatDoor
open Go.GAM
theorem mixedOK:prog.follows .mixedOrders=true:=by kernel_rfl
theorem sizeOK:prog.funcs.size≤yid0:=Nat.le_of_ble_eq_true (by kernel_rfl)
noncomputable def aPA (f:FuncId):Func:=(prog.funcs[f]?).getD default
def vB:List (FuncId × xF):=[(Y67.id,lQ),(Y65.id,z6)]
theorem aLY:∀ r∈vB,aPM prog r:=by
 intro r hr
 simp only [vB,List.mem_cons,List.not_mem_nil,or_false] at hr
 rcases hr with rfl | rfl
 ·exact ⟨by decide,_,⟨⟨aPA Y67.id,by kernel_rfl,by kernel_rfl,by kernel_rfl,by kernel_rfl,by kernel_rfl⟩⟩,y1⟩
 ·exact ⟨by decide,_,⟨⟨aPA Y65.id,by kernel_rfl,by kernel_rfl,by kernel_rfl,by kernel_rfl,by kernel_rfl⟩⟩,aIT⟩
theorem iV:jS prog (aHE vB):=aEZ aLY
theorem Y67.row:(Y67.id,lQ)∈vB:=by simp only [vB,List.mem_cons,true_or,or_true]
theorem Y65.row:(Y65.id,z6)∈vB:=by simp only [vB,List.mem_cons,true_or,or_true]
end Go.Proofs.YtfoekpcljhbijaaGreatDoor
namespace Go.GAM
open Go.RowKit Go.ChangeShapes
section
variable {H:Type} {enc:TypeId × Value→H} {P:Program} {w:World} {szOf:Nat→Nat}
theorem aBJ {x : Addr} {len cap sz : Nat} {vs : List Value} (hl : len ≤ cap) (hc0 : cap ≠ 0) (hz : 0 < sz) (hs : szOf x.block ≤ sz) (hlen : vs.length = cap * sz) (hv : ∀ i, i < vs.length → w.cell? (x.add i) = some (vs.getD i undef)) :
  ∃ ver b,kC w szOf (.slice (some x) len cap) = .sl (some ⟨x.block,ver,x.off⟩) len (some cap)∧(gZ w szOf)[x.block]? = some b∧b.floor≤ver∧ver≤b.cells.length∧x.off+len * sz≤ver∧(b.cells.drop x.off).take (len * sz)=(vs.take (len * sz)).map (kC w szOf):=by
 obtain ⟨B,off,spot⟩:=x
 simp only at hs ⊢
 have hpos:0<vs.length:=by rw [hlen]; exact Nat.mul_pos (by omega) hz
 have cellAdd:∀ i v,spot=none→w.cell? ((⟨B,off,spot⟩:Addr).add i)=some v→∃ c el fr,w.heap[B]? = some (.cells c el fr)∧c[off+i]? = some v:=by
  intro i v hs h
  subst hs
  have e:(⟨B,off,none⟩:Addr).add i=⟨B,off+i,none⟩:=by
   unfold Addr.add
   by_cases hi:i=0
   ·subst hi; simp
   ·simp [hi]
  rw [e] at h
  unfold World.cell? at h
  split at h
  ·rename_i c el fr hh
   exact ⟨c,el,fr,hh,by simpa using h⟩
  ·cases h
 have hsp:spot=none:=by
  have h0:=hv 0 hpos
  unfold World.cell? at h0
  split at h0
  ·cases spot with
   | none=>rfl
   | some s=>simp [Addr.add] at h0
  ·cases h0
 subst hsp
 obtain ⟨c,el,fr,hh,_⟩:=cellAdd 0 _ rfl (hv 0 hpos)
 ·have hcell : ∀ i, i < vs.length → c[off + i]? = some (vs.getD i undef) := fun i hi => by
   obtain ⟨c',el',fr',h1,h2⟩:=cellAdd i _ rfl (hv i hi)
   rw [hh] at h1; cases h1; exact h2
  have hsize:off+cap * sz≤c.size:=by
   have:=hcell (vs.length - 1) (by omega)
   have:=(Array.getElem?_eq_some_iff.1 this).1
   omega
  have hshape:w.shape? B=some (el,c.size):=by unfold World.shape?; rw [hh]
  have hlc:len * sz≤cap * sz:=Nat.mul_le_mul_right _ hl
  have hsz2:cap * szOf B≤cap * sz:=Nat.mul_le_mul_left _ hs
  refine ⟨c.size,kJ w szOf B, ?_,wR (nL hshape), ?_, ?_,by omega, ?_⟩
  ·simp only [kC, qR]
   rw [if_neg hc0,hshape]
   simp only
   rw [if_pos ⟨hl,by omega⟩]
  ·unfold kJ; rw [hh]; exact Nat.le_refl _
  ·unfold kJ; rw [hh]; simp
  ·unfold kJ; rw [hh]
   simp only
   apply List.ext_getElem?
   intro i
   by_cases hi:i<len * sz
   ·rw [List.getElem?_take_of_lt hi, List.getElem?_drop, List.getElem?_map, Array.getElem?_toList, hcell i (by omega), List.getElem?_map, List.getElem?_take_of_lt hi]
    rw [List.getD_eq_getElem?_getD,List.getElem?_eq_getElem (by omega:i<vs.length)]
    first | done | rfl
   ·rw [List.getElem?_eq_none (by simp; omega),List.getElem?_eq_none (by simp; omega)]
theorem aH3 {held : Bool} {t e : TypeId} {fuel : Nat} {cs : List Value} {x : DataW H × List MemPlace} (ht : P.underlying t = some (.slice e)) (h : DataW.trod enc P w 0 (fun _ => true) held fuel t cs = some x) :
  cs=[.slice none 0 0]∧x.1 = .nil∨∃ (a:Addr) (len cap n:Nat) (rows:List (List Value)) (ds rs:List (DataW H)),fuel=n+1∧cs=[.slice (some a) len cap]∧x.1 = .slice ds rs∧ds.length=len∧len≤cap∧cap≤maxLen∧rows.length=cap ∧
   (∀ r∈rows,r.length=P.cellsOf e∧∃ y,DataW.trod enc P w 0 (fun _=>true) held n e r=some y)∧(∀ (i:Nat) (r:List Value) (d:DataW H),rows[i]? = some r→ds[i]? = some d→∃ p,DataW.trod enc P w 0 (fun _=>true) held n e r=some (d,p))∧∀ i,i<rows.flatten.length→w.cell? (a.add i)=some (rows.flatten.getD i undef):=by
 rcases DataW.trod_slice ht h with ⟨h0,h1⟩ | ⟨a,len,cap,elems,rest,n,hf,rfl,hx,hb,hl,hm,hlen,hel,hsp,hns⟩
 ·exact .inl ⟨h0,by rw [h1]⟩
 right
 have each:∀ i,i<cap→∃ r,w.cells? 0 (a.add (i * P.cellsOf e)) (P.cellsOf e)=some r∧∃ y,DataW.trod enc P w 0 (fun _=>true) held n e r=some y∧(i<len→elems[i]? = some y):=by
  intro i hi
  have hb':∃ y,(w.cells? 0 (a.add (i * P.cellsOf e)) (P.cellsOf e)).bind (DataW.trod enc P w 0 (fun _=>true) held n e)=some y∧(i<len→elems[i]? = some y):=by
   by_cases h1:i<len
   ·rw [hel i h1]
    exact ⟨_,List.getElem?_eq_getElem (by omega),fun _=>List.getElem?_eq_getElem (by omega)⟩
   ·obtain ⟨h2, h3⟩ := hsp rfl
    have:=h3 (i - len) (by omega)
    rw [show len+(i - len)=i by omega] at this
    rw [this]
    exact ⟨_,List.getElem?_eq_getElem (by omega),fun h=>absurd h h1⟩
  obtain ⟨y,hy,hy2⟩:=hb'
  obtain ⟨r,h1,h2⟩:=Option.bind_eq_some_iff.1 hy
  exact ⟨r,h1,y,h2,hy2⟩
 refine ⟨a,len,cap,n,(List.range cap).map fun i=>(w.cells? 0 (a.add (i * P.cellsOf e)) (P.cellsOf e)).getD [],elems.map (·.1),rest.map (·.1),hf,rfl,by rw [hx],by simp [hlen],hl,hm,by simp, ?_, ?_, ?_⟩
 ·intro r hr
  obtain ⟨i,hi,rfl⟩:=List.mem_map.1 hr
  obtain ⟨r,h1,y,h2,_⟩:=each i (by simpa using hi)
  rw [h1]
  exact ⟨(World.cells?_some h1).2.1,y,h2⟩
 ·intro i r d hr hd
  simp only [List.getElem?_map,Option.map_eq_some_iff] at hr hd
  obtain ⟨i',hi',rfl⟩:=hr
  obtain ⟨hlt,rfl⟩:=List.getElem?_eq_some_iff.1 hi'
  rw [List.getElem_range]
  obtain ⟨y,hy,rfl⟩:=hd
  obtain ⟨r,h1,y',h2,h3⟩:=each i (by simpa using hlt)
  have hil:i<elems.length:=(List.getElem?_eq_some_iff.1 hy).1
  have:=h3 (by omega)
  rw [hy] at this
  cases this
  rw [h1]
  exact ⟨y.2,h2⟩
 ·have := vS (w := w) (a := a) (sz := P.cellsOf e) ((List.range cap).map fun i => (w.cells? 0 (a.add (i * P.cellsOf e)) (P.cellsOf e)).getD []) 0 (fun i r hi => by
   simp only [List.getElem?_map,Option.map_eq_some_iff] at hi
   obtain ⟨i',hi',rfl⟩:=hi
   obtain ⟨hlt,rfl⟩:=List.getElem?_eq_some_iff.1 hi'
   rw [List.getElem_range]
   obtain ⟨r,h1,_⟩:=each i (by simpa using hlt)
   rw [h1]
   have hs:=World.cells?_some h1
   refine ⟨hs.2.1,fun j hj=>?_⟩
   have:=hs.2.2 j hj
   rw [Addr.add_add] at this
   rw [Nat.zero_add,this]
   simp [hs.2.1,hj])
  simpa using this
end
end Go.GAM
namespace Go.GAM
open Go.RowKit Go.ChangeShapes
theorem Upd.own {h h1 h2:aA} {id:Nat} (a:Upd (fun _=>False) h h1) (b:Upd (· = id) h1 h2) (hid:h.length≤id):Upd (fun _=>False) h h2:=a.trans b fun i hi e=>by omega
theorem Upd.ownP {M:Nat→Prop} {h h1 h2:aA} (a:Upd (fun _=>False) h h1) (b:Upd M h1 h2) (hM:∀ i,M i→h.length≤i):Upd (fun _=>False) h h2:=a.trans b fun i hi e=>by have:=hM i e; omega
theorem Upd.then {h h1 h2:aA} (a:Upd (fun _=>False) h h1) (b:Upd (fun _=>False) h1 h2):Upd (fun _=>False) h h2:=a.trans b fun _ _ h=>h
theorem aKJ {zeros cs:List AV} {parts:List (Nat × Nat × AV)} {K:AV→Prop} (hf:gD zeros parts=some cs) (hk:K (.ag cs)):gS zeros parts K:=by
 unfold gS; rw [hf]; exact hk
def RdI (sz:Nat) (h:aA) (v:AV) (cs:List AV) (len:Nat):Prop:=
 (v = .sl none 0 none∧len=0∧cs=[])∨(len=0∧cs=[]∧∃ a c,v = .sl (some a) 0 c)∨∃ id ver off cap b,v = .sl (some ⟨id,ver,off⟩) len cap∧h[id]? = some b∧b.floor≤ver∧ver≤b.cells.length∧off+len * sz≤ver∧(b.cells.drop off).take (len * sz)=cs
theorem Rd.i {sz:Nat} {h:aA} {v:AV} {cs:List AV} {len:Nat} (R:Rd sz h v cs len):RdI sz h v cs len:=by
 rcases R with h1 | ⟨id,ver,off,cap,b,h1,h2,h3,h4⟩
 ·exact .inl h1
 ·exact .inr (.inr ⟨id,ver,off,cap,b,h1,h2,h4⟩)
theorem RdI.ext {sz:Nat} {h h':aA} {v:AV} {cs:List AV} {len:Nat} (R:RdI sz h v cs len) (U:Upd (fun _=>False) h h'):RdI sz h' v cs len:=by
 rcases R with h1 | h1 | ⟨id,ver,off,cap,b,rfl,h2,h3⟩
 ·exact .inl h1
 ·exact .inr (.inl h1)
 ·exact .inr (.inr ⟨id,ver,off,cap,b,rfl,(U.2 id (aL h2) fun h=>h).trans h2,h3⟩)
theorem RdI.len {sz:Nat} {h:aA} {v:AV} {cs:List AV} {len:Nat} (R:RdI sz h v cs len) {K:Int→Prop} (hk:K len):b6 v K:=by
 rcases R with ⟨rfl,rfl,rfl⟩ | ⟨rfl,_,a,c,rfl⟩ | ⟨id,ver,off,cap,b,rfl,h2⟩ <;> exact hk
def aGG (sz:Nat) (h:aA) (p:AV) (cs:List AV):Prop:=∃ id ver off,p = .p (some ⟨id,ver,off⟩)∧∃ b:ABlk,h[id]? = some b∧b.floor≤ver∧ver≤b.cells.length∧off+sz≤ver∧(b.cells.drop off).take sz=cs
theorem RdI.at {sz:Nat} {h:aA} {v:AV} {cs:List AV} {len:Nat} (R:RdI sz h v cs len) {i:Nat} (h1:i<len):∃ p,aGG sz h p ((cs.drop (i * sz)).take sz)∧∀ (k:IntKind) (h':aA) (K:AV→Prop),Upd (fun _=>False) h h'→K p→aZ sz v (.i k (i:Int)) h' K:=by
 rcases R with ⟨rfl,rfl,rfl⟩ | ⟨rfl,_⟩ | ⟨id,ver,off,cap,b,rfl,h2,h4,h5,h6,rfl⟩
 ·omega
 ·omega
 ·have e1 : (i + 1) * sz ≤ len * sz := Nat.mul_le_mul_right _ (by omega)
  rw [Nat.add_mul] at e1
  refine ⟨.p (some ⟨id,ver,off+i * sz⟩),⟨id,ver,off+i * sz,rfl,b,h2,h4,h5,by omega, ?_⟩,fun k h' K U hk=>?_⟩
  ·rw [List.drop_take,List.drop_drop,List.take_take,Nat.min_eq_left (by omega)]
  ·refine ⟨by omega, by omega, ⟨b, (U.2 id (aL h2) fun h => h).trans h2, h4, by omega⟩, ?_⟩
   simpa using hk
theorem aGG.ext {sz:Nat} {h h':aA} {p:AV} {cs:List AV} (A:aGG sz h p cs) (U:Upd (fun _=>False) h h'):aGG sz h' p cs:=by
 obtain ⟨id,ver,off,rfl,b,h1,h2⟩:=A
 exact ⟨id,ver,off,rfl,b,(U.2 id (aL h1) fun h=>h).trans h1,h2⟩
theorem aGG.load1 {h:aA} {p:AV} {c:AV} (A:aGG 1 h p [c]) {K:AV→Prop} (hk:K c):aC p h K:=by
 obtain ⟨id,ver,off,rfl,b,h1,h2,h3,h4,h5⟩:=A
 refine ⟨b,h1,⟨h2,h3,h4⟩, ?_⟩
 have:b.cells[off]? = some c:=by
  have:((b.cells.drop off).take 1)[0]? = some c:=by rw [h5] <;> rfl
  rw [List.getElem?_take_of_lt (by omega),List.getElem?_drop] at this
  simpa using this
 show K (b.cells.getD off .u)
 rw [getD_some this]; exact hk
theorem RdI.news {sz:Nat} {h:aA} {v:AV} {cs:List AV} {len:Nat} (R:RdI sz h v cs len) {K:List AV→Nat→Prop} (hk:K cs len):fQ sz v h K:=by
 rcases R with ⟨rfl,rfl,rfl⟩ | ⟨rfl,rfl,a,c,rfl⟩ | ⟨id,ver,off,cap,b,rfl,h2,h3,h4,h5,h6⟩
 ·exact hk
 ·exact .inl ⟨rfl,hk⟩
 ·refine .inr ⟨b, h2, ⟨h3, h4, h5⟩, ?_⟩
  rw [h6]; exact hk
section
variable {H:Type} {enc:TypeId × Value→H} {P:Program} {w:World} {t:TypeId} {cs:List Value}
def InW (enc:TypeId × Value→H) (P:Program) (w:World) (t:TypeId) (cs:List Value):Prop:=
 ∃ fuel d p,DataW.trod enc P w 0 (fun _=>true) true fuel t cs=some (d,p)∧∀ m∈d.weights P t,m≤reachBytes
theorem gM {m:Nat}:∀ (ts:List TypeId) (ds:List (DataW H)) (i:Nat) (t:TypeId) (d:DataW H),ts[i]? = some t→ds[i]? = some d→m∈d.weights P t→m∈DataW.weightsEach P ts ds
 | [],_,_,_,_,h,_,_=>by simp at h
 | _ :: _,[],_,_,_,_,h,_=>by simp at h
 | t' :: ts, d' :: ds, 0, t, d, h1, h2, h => by
  simp at h1 h2; subst h1; subst h2
  unfold DataW.weightsEach
  exact List.mem_append_left _ h
 | t' :: ts, d' :: ds, i + 1, t, d, h1, h2, h => by
  unfold DataW.weightsEach
  exact List.mem_append_right _ (gM ts ds i t d (by simpa using h1) (by simpa using h2) h)
theorem nP {m:Nat} {e:TypeId}:∀ (ds:List (DataW H)) (d:DataW H),d∈ds→m∈d.weights P e→m∈DataW.weightsAll P e ds
 | [],_,h,_=>by cases h
 | d' :: ds, d, h1, h => by
  unfold DataW.weightsAll
  rcases List.mem_cons.1 h1 with rfl | h1
  ·exact List.mem_append_left _ h
  ·exact List.mem_append_right _ (nP ds d h1 h)
theorem aLG:reachBytes=140737488351232:=by unfold reachBytes; rfl
theorem InW.int {k:IntKind} (ht:P.underlying t=some (.int k)) (h:InW enc P w t cs):∃ n,cs=[.int k n]∧(Lit.int k n).wf=true:=by
 obtain ⟨fuel,d,p,h1,h2⟩:=h
 obtain ⟨n,e1,_,e3⟩:=DataW.trod_int ht h1
 exact ⟨n,e1,e3⟩
theorem InW.struct {fs:Array Field} (ht:P.underlying t=some (.struct fs)) (h:InW enc P w t cs):cs.length=P.cellsOf t∧∀ (i:Nat) (f:Field),fs[i]? = some f→InW enc P w f.type ((cs.drop f.offset).take (P.cellsOf f.type)):=by
 obtain ⟨fuel,d,p,h1,h2⟩:=h
 obtain ⟨xs,n,_,hx,hlen,hl,hf⟩:=DataW.trod_struct ht h1
 refine ⟨hlen,fun i f hi=>?_⟩
 have hi':i<fs.size:=(Array.getElem?_eq_some_iff.1 hi).1
 have hxi:xs[i]? = some (xs[i]'(by omega)):=List.getElem?_eq_getElem _
 generalize xs[i]'(by omega)=y at hxi
 obtain ⟨d',p'⟩:=y
 refine ⟨n,d',p',(hf i f hi).trans hxi,fun m hm=>h2 m ?_⟩
 have hd:d = .agg (xs.map (·.1)):=congrArg Prod.fst hx
 subst hd
 unfold DataW.weights
 rw [ht]
 refine gM _ _ i f.type d' ?_ ?_ hm
 ·rw [List.getElem?_map,Array.getElem?_toList,hi] <;> rfl
 ·rw [List.getElem?_map,hxi] <;> rfl
theorem InW.slice {e:TypeId} {sz:Nat} (ht:P.underlying t=some (.slice e)) (hc:P.cellsOf e=sz) (hz:0<sz) (h:InW enc P w t cs) :
  ∃ (v : Value) (rows : List (List Value)), cs = [v] ∧ RdI sz (gZ w fun _ => 1) (kC w (fun _ => 1) v) (rows.flatten.map (kC w fun _ => 1)) rows.length ∧ rows.length ≤ maxLen ∧ rows.length * P.bytesOf e ≤ 140737488351232 ∧ (∀ r ∈ rows, r.length = sz ∧ InW enc P w e r) ∧
   aM (muC w fun _=>1) (kC w (fun _=>1) v) v:=by
 obtain ⟨fuel,d,p,h1,h2⟩:=h
 rcases aH3 ht h1 with ⟨rfl,_⟩ | ⟨a,len,cap,n,rows,ds,rs,hf,rfl,hx,hdl,hl,hm,hrl,hr,hrd,hcell⟩
 ·exact ⟨_,[],rfl,.inl ⟨rfl,rfl,rfl⟩,by simp,by simp,(fun r hr=>by cases hr),m8 _⟩
 have hd:d = .slice ds rs:=hx
 subst hd
 unfold DataW.weights at h2
 rw [ht] at h2
 have hb:len * P.bytesOf e≤140737488351232:=by
  have:=h2 _ (List.mem_cons_self)
  rw [aLG,hdl] at this
  exact Nat.le_trans (Nat.mul_le_mul_right _ (by omega)) this
 have hlen:=aCZ rows fun r hr'=>(hr r hr').1.trans hc
 have each:∀ r∈rows.take len,r.length=sz∧InW enc P w e r:=fun r hr'=>by
  obtain ⟨i,hi,he⟩:=List.getElem_of_mem hr'
  rw [List.length_take,hrl] at hi
  have hri:rows[i]? = some r:=by
   rw [← he,List.getElem_take,List.getElem?_eq_getElem]
  have hdi:ds[i]? = some (ds[i]'(by omega)):=List.getElem?_eq_getElem _
  obtain ⟨p',hp⟩:=hrd i r _ hri hdi
  refine ⟨(hr r (List.mem_of_mem_take hr')).1.trans hc,n,_,p',hp,fun m hm'=>h2 m ?_⟩
  exact List.mem_cons_of_mem _ (List.mem_append_left _ (nP ds _ (List.getElem_mem _) hm'))
 by_cases hc0:cap=0
 ·subst hc0
  have hl0:len=0:=by omega
  subst hl0
  exact ⟨.slice (some a) 0 0,[],rfl,.inr (.inl ⟨rfl,rfl,⟨w.heap.size,0,0⟩,some 0,rfl⟩),by simp,by simp,(fun r hr=>by cases hr),m8 _⟩
 ·obtain ⟨ver, b, g1, g2, g3, g4, g5, g6⟩ := aBJ (szOf := fun _ => 1) hl hc0 hz hz (by rw [hlen, hrl]) hcell
  rw [z7 rows len fun r hr'=>(hr r hr').1.trans hc] at g6
  have hlt:(rows.take len).length=len:=by rw [List.length_take,hrl]; omega
  refine ⟨_,rows.take len,rfl,.inr (.inr ⟨a.block,ver,a.off,some cap,b, ?_,g2,g3,g4, ?_, ?_⟩),by omega,by rw [hlt]; exact hb,each,m8 _⟩
  ·rw [g1,hlt]
  ·rw [hlt]; exact g5
  ·rw [hlt,g6]
theorem aF6 {α:Type} (f:α→List AV) (g:Value→AV) (good:α→Prop):∀ rows:List (List Value),(∀ r∈rows, ∃ x:α,r.map g=f x∧good x)→∃ l:List α,rows.flatten.map g=l.flatMap f∧rows.length=l.length∧∀ x∈l,good x
 | [],_=>⟨[],rfl,rfl,fun _ h=>by cases h⟩
 | r :: rows, h => by
  obtain ⟨l,h1,h2,h3⟩:=aF6 f g good rows fun r hr=>h r (by simp [hr])
  obtain ⟨x,g1,g2⟩:=h r (by simp)
  refine ⟨x :: l,by simp [g1,h1],by simp [h2],fun y hy=>?_⟩
  rcases List.mem_cons.1 hy with rfl | hy
  ·exact g2
  ·exact h3 y hy
theorem uH:∀ {ts:List TypeId} {vs:List Value} {ds:List (DataW H)} {ps:List MemPlace},DataW.TrodAll enc P w 0 (fun _=>true) true ts vs ds ps→∀ (i:Nat) (t:TypeId) (v:Value),ts[i]? = some t→vs[i]? = some v→∃ d p,ds[i]? = some d∧DataW.Trod enc P w 0 (fun _=>true) true t v d p
 | [],_,_,_,_,i,t,v,h,_=>by simp at h
 | _ :: _,[],_,_,_,i,t,v,_,h=>by simp at h
 | _ :: _,_ :: _,[],_,h,_,_,_,_,_=>by simp [DataW.TrodAll] at h
 | t' :: ts, v' :: vs, d' :: ds, ps, h, 0, t, v, h1, h2 => by
  simp at h1 h2; subst h1; subst h2
  obtain ⟨p,q,g1,_⟩:=h
  exact ⟨d',p,rfl,g1⟩
 | t' :: ts, v' :: vs, d' :: ds, ps, h, i + 1, t, v, h1, h2 => by
  obtain ⟨p,q,_,g2,_⟩:=h
  exact uH g2 i t v (by simpa using h1) (by simpa using h2)
theorem sized_reads {f:Func} {vars:List String} {ap:Bool} {args:Array Value} {ds gs:List (DataW H)} {before:List MemPlace} {vts:List TypeId} (hW:DataW.Whole enc P f.params.toList vars ap w args.toList ds gs before)
  (hw:(DataW.weightsEach P (f.params.toList++vts) (ds++gs)).all (· ≤ reachBytes)=true) (i:Nat) (t:TypeId) (v:Value) (h1:f.params[i]? = some t) (h2:args[i]? = some v):InW enc P w t v.cells.toList:=by
 obtain ⟨p,q,hA,_⟩:=hW
 have h1':f.params.toList[i]? = some t:=by rw [Array.getElem?_toList]; exact h1
 obtain ⟨d,p',g1,fuel,g2⟩:=uH hA i t v h1' (by rw [Array.getElem?_toList]; exact h2)
 refine ⟨fuel,d,p',g2,fun m hm=>?_⟩
 have:=List.all_eq_true.1 hw m (gM _ _ i t d ?_ ?_ hm)
 ·simpa using this
 ·rw [List.getElem?_append_left (aL h1')]; exact h1'
 ·rw [List.getElem?_append_left (aL g1)]; exact g1
end
end Go.GAM
namespace Go.GAM
inductive Ev (α:Type) where
 | ok (a:α)
 | no (c:Nat)
deriving Inhabited
def Ev.bind {α β:Type} (x:Ev α) (f:α→Ev β):Ev β:=match x with
 | .ok a=>f a
 | .no c=>.no c
theorem Ev.bind_ok {α β:Type} {x:Ev α} {f:α→Ev β} {b:β} (h:x.bind f = .ok b):∃ a,x = .ok a∧f a = .ok b:=by
 cases x with
 | ok a=>exact ⟨a,rfl,h⟩
 | no c=>cases h
def want {α:Type} (c:Bool) (n:Nat) (x:Ev α):Ev α:=bif c then x else .no n
theorem aY {α:Type} {c:Bool} {n:Nat} {x:Ev α} {a:α} (h:want c n x = .ok a):c=true∧x = .ok a:=by
 cases c with
 | true=>exact ⟨rfl,h⟩
 | false=>cases h
structure CB where
 b:ABlk
 n:Nat
inductive Tr where
 | e
 | n (v:Option CB) (l r:Tr)
def Tr.get:Tr→Nat→Option CB
 | .e,_=>none
 | .n v l r,i=>bif Nat.beq i 0 then v else bif Nat.beq (i % 2) 1 then l.get ((i - 1) / 2) else r.get ((i - 1) / 2)
def Tr.set:Nat→Tr→Nat→CB→Tr
 | 0,t,_,_=>t
 | d+1,.e,i,x=>bif Nat.beq i 0 then .n (some x) .e .e else bif Nat.beq (i % 2) 1 then .n none (Tr.set d .e ((i - 1) / 2) x) .e else .n none .e (Tr.set d .e ((i - 1) / 2) x)
 | d+1,.n v l r,i,x=>bif Nat.beq i 0 then .n (some x) l r else bif Nat.beq (i % 2) 1 then .n v (Tr.set d l ((i - 1) / 2) x) r else .n v l (Tr.set d r ((i - 1) / 2) x)
theorem Tr.get_set : ∀ (d : Nat) (t : Tr) (i j : Nat) (x : CB), i < 2 ^ d → (Tr.set (d + 1) t i x).get j = if j = i then some x else t.get j := by
 have par:∀ i j:Nat,i≠0→j≠0→i % 2=j % 2→(i - 1) / 2=(j - 1) / 2→i=j:=by intro i j; omega
 intro d
 induction d with
 | zero =>
  intro t i j x hi
  have:i=0:=by simpa using hi
  subst this
  cases t with
  | e =>
   unfold Tr.set
   simp only [show Nat.beq 0 0=true from rfl,cond_true]
   unfold Tr.get
   by_cases hj:j=0
   ·subst hj; simp
   ·rw [kG hj, if_neg hj]
    simp only [cond_false]
    cases Nat.beq (j % 2) 1 <;> rfl
  | n v l r =>
   unfold Tr.set
   simp only [show Nat.beq 0 0=true from rfl,cond_true]
   unfold Tr.get
   by_cases hj:j=0
   ·subst hj; simp
   ·rw [kG hj,if_neg hj] <;> rfl
 | succ d ih =>
  intro t i j x hi
  by_cases h0:i=0
  ·subst h0
   cases t with
   | e =>
    unfold Tr.set
    simp only [show Nat.beq 0 0=true from rfl,cond_true]
    unfold Tr.get
    by_cases hj:j=0
    ·subst hj; simp
    ·rw [kG hj, if_neg hj]
     simp only [cond_false]
     cases Nat.beq (j % 2) 1 <;> rfl
   | n v l r =>
    unfold Tr.set
    simp only [show Nat.beq 0 0=true from rfl,cond_true]
    unfold Tr.get
    by_cases hj:j=0
    ·subst hj; simp
    ·rw [kG hj,if_neg hj] <;> rfl
  ·have hi2 : (i - 1) / 2 < 2 ^ d := by
    rw [Nat.pow_succ] at hi; omega
   have key:∀ (v:Option CB) (l r:Tr),((bif Nat.beq (i % 2) 1 then Tr.n v (Tr.set (d+1) l ((i - 1) / 2) x) r else Tr.n v l (Tr.set (d+1) r ((i - 1) / 2) x)):Tr).get j=if j=i then some x else (Tr.n v l r).get j:=by
    intro v l r
    by_cases hj:j=0
    ·subst hj
     rw [if_neg (by omega)]
     cases Nat.beq (i % 2) 1 <;> rfl
    ·by_cases hp : i % 2 = 1
     ·rw [show Nat.beq (i % 2) 1 = true by rw [hp] <;> rfl]
      simp only [cond_true]
      conv=>lhs; unfold Tr.get
      conv=>rhs; unfold Tr.get
      rw [kG hj]
      simp only [cond_false]
      by_cases hq:j % 2=1
      ·rw [show Nat.beq (j % 2) 1 = true by rw [hq] <;> rfl]
       simp only [cond_true]
       rw [ih l _ _ x hi2]
       by_cases he:(j - 1) / 2=(i - 1) / 2
       ·rw [if_pos he,if_pos (par j i hj h0 (by omega) he)]
       ·rw [if_neg he,if_neg (by intro h; subst h; exact he rfl)]
      ·rw [kG hq]
       simp only [cond_false]
       rw [if_neg (by intro h; subst h; exact hq hp)]
     ·rw [kG hp]
      simp only [cond_false]
      conv=>lhs; unfold Tr.get
      conv=>rhs; unfold Tr.get
      rw [kG hj]
      simp only [cond_false]
      by_cases hq:j % 2=1
      ·rw [show Nat.beq (j % 2) 1 = true by rw [hq] <;> rfl]
       simp only [cond_true]
       rw [if_neg (by intro h; subst h; exact hp hq)]
      ·rw [kG hq]
       simp only [cond_false]
       rw [ih r _ _ x hi2]
       by_cases he:(j - 1) / 2=(i - 1) / 2
       ·rw [if_pos he,if_pos (par j i hj h0 (by omega) he)]
       ·rw [if_neg he,if_neg (by intro h; subst h; exact he rfl)]
   cases t with
   | e =>
    unfold Tr.set
    rw [kG h0]
    simp only [cond_false]
    have:=key none .e .e
    have e0:(Tr.n none .e .e).get j=Tr.e.get j:=by
     unfold Tr.get
     cases Nat.beq j 0 <;> simp only [cond_true,cond_false]
     cases Nat.beq (j % 2) 1 <;> rfl
    rw [e0] at this
    exact this
   | n v l r =>
    unfold Tr.set
    rw [kG h0]
    simp only [cond_false]
    exact key v l r
structure HS where
 t:Tr
 n:Nat
structure HR (s:HS) (H:aA):Prop where
 len:H.length=s.n
 is:∀ i x,s.t.get i=some x→H[i]? = some x.b∧x.n=x.b.cells.length
def HS.small (s:HS):Bool:=Nat.blt s.n 1048576
def HS.push (s:HS) (x:CB):Ev HS:=want s.small 1 (.ok ⟨s.t.set 21 s.n x,s.n+1⟩)
def HS.put (s:HS) (i:Nat) (x:CB):Ev HS:=want (Nat.blt i s.n&&s.small) 2 (.ok ⟨s.t.set 21 i x,s.n⟩)
theorem HR.push {s s':HS} {H:aA} {b:ABlk} {n:Nat} (R:HR s H) (h:s.push ⟨b,n⟩ = .ok s') (hn:n=b.cells.length):HR s' (H++[b])∧H.length=s.n:=by
 obtain ⟨h1,h2⟩:=aY h
 cases h2
 have hs:s.n<2 ^ 20:=by
  have:=Nat.le_of_ble_eq_true h1
  omega
 refine ⟨⟨by simp [R.len],fun i x hx=>?_⟩,R.len⟩
 have hx:(Tr.set 21 s.t s.n ⟨b,n⟩).get i=some x:=hx
 rw [Tr.get_set 20 _ _ _ _ hs] at hx
 split at hx
 ·rename_i e
  cases hx
  subst e
  rw [← R.len]
  exact ⟨by simp,hn⟩
 ·rename_i e
  obtain ⟨g1,g2⟩:=R.is i x hx
  have hlt:i<H.length:=aL g1
  exact ⟨by rw [List.getElem?_append_left hlt]; exact g1,g2⟩
theorem HR.put {s s':HS} {H:aA} {b:ABlk} {n i:Nat} (R:HR s H) (h:s.put i ⟨b,n⟩ = .ok s') (hn:n=b.cells.length):HR s' (H.set i b):=by
 obtain ⟨h1,h2⟩:=aY h
 cases h2
 rw [Bool.and_eq_true] at h1
 have hi:i<s.n:=Nat.le_of_ble_eq_true h1.1
 have hs:i<2 ^ 20:=by
  have:=Nat.le_of_ble_eq_true h1.2
  omega
 refine ⟨by simp [R.len],fun j x hx=>?_⟩
 have hx:(Tr.set 21 s.t i ⟨b,n⟩).get j=some x:=hx
 rw [Tr.get_set 20 _ _ _ _ hs] at hx
 split at hx
 ·rename_i e
  cases hx
  subst e
  exact ⟨List.getElem?_set_self (by rw [R.len]; exact hi),hn⟩
 ·rename_i e
  obtain ⟨g1,g2⟩:=R.is j x hx
  exact ⟨by rw [List.getElem?_set_ne (fun h=>e h.symm)]; exact g1,g2⟩
def aNN (s:HS) (g:Nat):Ev AV:=match s.t.get g with
 | some x=>bif x.b.gl&&Nat.ble x.b.floor x.n then .ok (.p (some ⟨g,x.n,0⟩)) else .ok .u
 | none=>.no 3
def cOp (e:Env) (s:HS):Operand→Ev AV
 | .tmp t=>.ok (lk e t)
 | .const v=>.ok (ofV v)
 | .global g=>aNN s g
 | .func f=>.ok (.fn (.func f) [] [])
theorem bM {e:Env} {s:HS} {H:aA} (R:HR s H) {x:Operand} {v:AV} (h:cOp e s x = .ok v):ev e H x=v:=by
 cases x with
 | tmp t=>cases h; rfl
 | const c=>cases h; rfl
 | func f=>cases h; rfl
 | global g =>
  have h:aNN s g = .ok v:=h
  unfold aNN at h
  split at h
  ·rename_i x hx
   obtain ⟨g1,g2⟩:=R.is g x hx
   show aDO H g=v
   unfold aDO
   rw [g1]
   simp only
   rw [← g2]
   cases hc:(x.b.gl&&Nat.ble x.b.floor x.n) with
   | true=>rw [hc] at h; cases h; rfl
   | false=>rw [hc] at h; cases h; rfl
  ·cases h
def p8 (e:Env) (s:HS):List Operand→Ev (List AV)
 | []=>.ok []
 | x :: r=>(cOp e s x).bind fun v=>(p8 e s r).bind fun vs=>.ok (v :: vs)
theorem dM {e:Env} {s:HS} {H:aA} (R:HR s H):∀ {xs:List Operand} {vs:List AV},p8 e s xs = .ok vs→xs.map (ev e H)=vs
 | [],vs,h=>by cases h; rfl
 | x :: r, vs, h => by
  obtain ⟨v,h1,h2⟩:=Ev.bind_ok h
  obtain ⟨ws,h3,h4⟩:=Ev.bind_ok h2
  cases h4
  rw [List.map_cons,bM R h1,dM R h3]
def aM1 (e:Env) (s:HS):Option Operand→Ev (Option AV)
 | none=>.ok none
 | some x=>(cOp e s x).bind fun v=>.ok (some v)
theorem aAV {e:Env} {s:HS} {H:aA} (R:HR s H) {x:Option Operand} {v:Option AV} (h:aM1 e s x = .ok v):x.map (ev e H)=v:=by
 cases x with
 | none=>cases h; rfl
 | some x =>
  obtain ⟨w,h1,h2⟩:=Ev.bind_ok h
  cases h2
  show some (ev e H x)=_
  rw [bM R h1]
def aDV (P : Program) (t : TypeId) (v : AV) : Ev AV := match P.underlying t with
 | some .bool => match v with
  | .b _=>.ok v
  | _=>.no 4
 | some (.int k) => match v with
  | .i k' n=>bif kEq k k' then .ok (.i k n) else .no 5
  | _=>.no 5
 | some .string => match v with
  | .s _=>.ok v
  | _=>.no 6
 | _=>.ok v
theorem aHA {P:Program} {t:TypeId} {v w:AV} {K:AV→Prop} (h:aDV P t v = .ok w) (hk:K w):shape P t v K:=by
 unfold aDV at h
 unfold shape
 split at h
 ·rename_i e
  simp only [e]
  split at h
  ·cases h; exact hk
  ·cases h
 ·rename_i k e
  simp only [e]
  split at h
  ·rename_i k' n
   show (bif kEq k k' then K (.i k n) else False)
   cases hc:kEq k k' with
   | true=>rw [hc] at h; cases h; exact hk
   | false=>rw [hc] at h; cases h
  ·cases h
 ·rename_i e
  simp only [e]
  split at h
  ·cases h; exact hk
  ·cases h
 ·rename_i e1 e2 e3
  cases h
  split
  ·rename_i e; exact (e1 e).elim
  ·rename_i k e; exact (e2 k e).elim
  ·rename_i e; exact (e3 e).elim
  ·exact hk
def cRd (s:HS) (a:AA) (n:Nat):Ev CB:=match s.t.get a.id with
 | some x=>want (Nat.ble x.b.floor a.ver&&(Nat.ble a.ver x.n&&Nat.ble (a.off+n) a.ver)) 7 (.ok x)
 | none=>.no 8
theorem pP {s:HS} {H:aA} (R:HR s H) {a:AA} {n:Nat} {x:CB} (h:cRd s a n = .ok x):H[a.id]? = some x.b∧aA1 x.b a n∧x.n=x.b.cells.length:=by
 unfold cRd at h
 split at h
 ·rename_i y hy
  obtain ⟨h1,h2⟩:=aY h
  cases h2
  obtain ⟨g1,g2⟩:=R.is _ _ hy
  rw [Bool.and_eq_true,Bool.and_eq_true] at h1
  exact ⟨g1,⟨Nat.le_of_ble_eq_true h1.1,by rw [← g2]; exact Nat.le_of_ble_eq_true h1.2.1,Nat.le_of_ble_eq_true h1.2.2⟩,g2⟩
 ·cases h
def aAF (x:AV) (s:HS):Ev AV:=match x with
 | .p (some a)=>(cRd s a 1).bind fun b=>.ok (b.b.cells.getD a.off .u)
 | _=>.no 9
theorem zJ {x v:AV} {s:HS} {H:aA} {K:AV→Prop} (R:HR s H) (h:aAF x s = .ok v) (hk:K v):aC x H K:=by
 unfold aAF at h
 split at h
 ·obtain ⟨b, h1, h2⟩ := Ev.bind_ok h
  cases h2
  obtain ⟨g1,g2,_⟩:=pP R h1
  exact ⟨b.b,g1,g2,hk⟩
 ·cases h
def aBT (n:Nat) (x:AV) (s:HS):Ev AV:=match x with
 | .p (some a)=>(cRd s a n).bind fun b=>.ok (.ag ((b.b.cells.drop a.off).take n))
 | _=>.no 10
theorem zL {n:Nat} {x v:AV} {s:HS} {H:aA} {K:AV→Prop} (R:HR s H) (h:aBT n x s = .ok v) (hk:K v):dF n x H K:=by
 unfold aBT at h
 split at h
 ·obtain ⟨b, h1, h2⟩ := Ev.bind_ok h
  cases h2
  obtain ⟨g1,g2,_⟩:=pP R h1
  exact ⟨b.b,g1,g2,hk⟩
 ·cases h
def aN5 (x:AV):Ev AV:=match x with
 | .p none | .ni | .nf | .u=>.no 11
 | .fn (.func _) _ _=>.ok x
 | .fn _ _ _=>.no 11
 | _=>.ok x
theorem aMR {x v:AV} {K:AV→Prop} (h:aN5 x = .ok v) (hk:K v):aP x K:=by
 unfold aN5 at h
 unfold aP
 split at h <;> first | (cases h; done) | skip
 ·cases h; exact hk
 ·cases h
  split <;> first | exact hk | simp_all
def aDQ (op:BinOp) (k:IntKind) (a b:Int):Ev AV:=match op with
 | .add=>.ok (.i k (k.wrap (a+b)))
 | .sub=>.ok (.i k (k.wrap (a - b)))
 | .mul=>.ok (.i k (k.wrap (a * b)))
 | .quo=>want (!decide (b=0)) 12 (.ok (.i k (k.wrap (a.tdiv b))))
 | .rem=>want (!decide (b=0)) 12 (.ok (.i k (a.tmod b)))
 | .and=>.ok (.i k (aX .and k a b))
 | .or=>.ok (.i k (aX .or k a b))
 | .xor=>.ok (.i k (aX .xor k a b))
 | .andNot=>.ok (.i k (aX .andNot k a b))
 | .eql=>.ok (.b (decide (a=b)))
 | .neq=>.ok (.b (!decide (a=b)))
 | .lss=>.ok (.b (decide (a<b)))
 | .leq=>.ok (.b (decide (a≤b)))
 | .gtr=>.ok (.b (decide (b<a)))
 | .geq=>.ok (.b (decide (b≤a)))
 | _=>.no 13
def aNU (op:BinOp) (a b:List UInt8):Ev AV:=match op with
 | .add=>want (Nat.ble (a.length+b.length) 9223372036854775807) 14 (.ok (.s (a++b)))
 | .eql=>.ok (.b (decide (a=b)))
 | .neq=>.ok (.b (!decide (a=b)))
 | .lss=>.ok (.b (Op.bytesLess a b))
 | .leq=>.ok (.b (Op.bytesLess a b||decide (a=b)))
 | .gtr=>.ok (.b (!(Op.bytesLess a b||decide (a=b))))
 | .geq=>.ok (.b (!Op.bytesLess a b))
 | _=>.no 15
def eI (op:BinOp) (r:Bool):Ev AV:=match op with
 | .eql=>.ok (.b r)
 | .neq=>.ok (.b (!r))
 | _=>.no 16
theorem cJ {op:BinOp} {r:Bool} {v:AV} {K:AV→Prop} (h:eI op r = .ok v) (hk:K v):dY op r K:=by
 cases op <;> first | (cases h; exact hk) | (cases h; done)
def aNQ (P : Program) (op : BinOp) (t : TypeId) (x y : AV) : Ev AV :=
 match x,y with
 | .i k a, .i k' b => match op with
  | .shl=>want (decide (0≤b)) 17 (.ok (.i k (k.wrap (a * 2 ^ (min b.toNat k.bits)))))
  | .shr=>want (decide (0≤b)) 17 (.ok (.i k (a.fdiv (2 ^ (min b.toNat k.bits)))))
  | _=>bif kEq k k' then aDQ op k a b else .no 18
 | .s a,.s b=>aNU op a b
 | .b a, .b b => match P.underlying t with
  | some .bool=>eI op (a == b)
  | _=>.no 19
 | .p none,.p b=>bif jY P t then eI op b.isNone else .no 19
 | .p (some _),.p none=>bif jY P t then eI op false else .no 19
 | .p (some a),.p (some b)=>bif aAE P t&&Nat.beq a.id b.id&&Nat.beq a.ver b.ver&&Nat.beq a.off b.off then eI op true else .no 19
 | .sl none _ _,.sl b _ _=>bif aHW P t then eI op b.isNone else .no 19
 | .sl (some _) _ _,.sl none _ _=>bif aHW P t then eI op false else .no 19
 | .nf,.nf=>bif aC0 P t then eI op true else .no 19
 | .nf,.fn ..=>bif aC0 P t then eI op false else .no 19
 | .fn ..,.nf=>bif aC0 P t then eI op false else .no 19
 | .ni,.ifc ..=>bif aC7 P t then eI op false else .no 19
 | .ifc ..,.ni=>bif aC7 P t then eI op false else .no 19
 | .mp none,.mp b=>bif zH P t then eI op b.isNone else .no 19
 | .mp (some _),.mp none=>bif zH P t then eI op false else .no 19
 | .ag xs, .ag ys => bif P.eqGuardType P.depth t then .no 19 else match aEq P 64 t (.ag xs) (.ag ys) with
  | some r=>eI op r
  | none=>.no 19
 | _,_=>.no 20
theorem cE {α:Type} {c:Bool} {n:Nat} {x:Ev α} {a:α} (h:(bif c then x else .no n) = .ok a):c=true∧x = .ok a:=aY h
theorem aGY {P:Program} {op:BinOp} {t:TypeId} {k k':IntKind} {a b:Int} {v:AV} {K:AV→Prop} (hkk:kEq k k'=true) (h:aDQ op k a b = .ok v) (hk:K v):cD P op t (.i k a) (.i k' b) K:=by
 unfold aDQ at h
 unfold cD
 cases op <;> simp only [hkk,cond_true] at h ⊢ <;> first | (cases h; exact hk) | (cases h; done) | skip
 ·obtain ⟨h1,h2⟩:=aY h; cases h2; exact ⟨by simpa using h1,hk⟩
 ·obtain ⟨h1,h2⟩:=aY h; cases h2; exact ⟨by simpa using h1,hk⟩
theorem aL2 {P:Program} {op:BinOp} {t:TypeId} {a b:List UInt8} {v:AV} {K:AV→Prop} (h:aNU op a b = .ok v) (hk:K v):cD P op t (.s a) (.s b) K:=by
 unfold aNU at h
 unfold cD
 cases op <;> simp only at h ⊢ <;> first | (cases h; exact hk) | (cases h; done) | skip
 ·obtain ⟨h1, h2⟩ := aY h; cases h2
  exact ⟨by have:=Nat.le_of_ble_eq_true h1; omega,hk⟩
theorem aL8 {P:Program} {op:BinOp} {t:TypeId} {x y v:AV} {K:AV→Prop} (h:aNQ P op t x y = .ok v) (hk:K v):cD P op t x y K:=by
 unfold aNQ at h
 split at h
 ·rename_i k a k' b
  split at h
  ·obtain ⟨h1,h2⟩:=aY h; cases h2; exact ⟨of_decide_eq_true h1,hk⟩
  ·obtain ⟨h1,h2⟩:=aY h; cases h2; exact ⟨of_decide_eq_true h1,hk⟩
  ·obtain ⟨h1, h2⟩ := cE h
   exact aGY h1 h2 hk
 ·exact aL2 h hk
 ·unfold cD
  split at h
  ·rename_i hu; simp only [hu]; exact cJ h hk
  ·cases h
 ·obtain ⟨h1,h2⟩:=cE h; unfold cD; simp only [h1,cond_true]; exact cJ h2 hk
 ·obtain ⟨h1,h2⟩:=cE h; unfold cD; simp only [h1,cond_true]; exact cJ h2 hk
 ·obtain ⟨h1,h2⟩:=cE h; unfold cD; simp only [h1,cond_true]; exact cJ h2 hk
 ·obtain ⟨h1,h2⟩:=cE h; unfold cD; simp only [h1,cond_true]; exact cJ h2 hk
 ·obtain ⟨h1,h2⟩:=cE h; unfold cD; simp only [h1,cond_true]; exact cJ h2 hk
 ·obtain ⟨h1,h2⟩:=cE h; unfold cD; simp only [h1,cond_true]; exact cJ h2 hk
 ·obtain ⟨h1,h2⟩:=cE h; unfold cD; simp only [h1,cond_true]; exact cJ h2 hk
 ·obtain ⟨h1,h2⟩:=cE h; unfold cD; simp only [h1,cond_true]; exact cJ h2 hk
 ·obtain ⟨h1,h2⟩:=cE h; unfold cD; simp only [h1,cond_true]; exact cJ h2 hk
 ·obtain ⟨h1,h2⟩:=cE h; unfold cD; simp only [h1,cond_true]; exact cJ h2 hk
 ·obtain ⟨h1,h2⟩:=cE h; unfold cD; simp only [h1,cond_true]; exact cJ h2 hk
 ·obtain ⟨h1,h2⟩:=cE h; unfold cD; simp only [h1,cond_true]; exact cJ h2 hk
 ·unfold cD
  simp only
  cases hg:P.eqGuardType P.depth t with
  | true=>rw [hg] at h; cases h
  | false =>
   rw [hg] at h
   simp only [cond_false] at h ⊢
   split at h
   ·rename_i e; simp only [e]; exact cJ h hk
   ·cases h
 ·cases h
def cUn (op:UnOp) (x:AV):Ev AV:=match op,x with
 | .neg,.i k n=>.ok (.i k (k.wrap (0 - n)))
 | .xor,.i k n=>.ok (.i k (aX .xor k (if k.signed then -1 else k.max) n))
 | .not,.b c=>.ok (.b (!c))
 | _,_=>.no 21
theorem aNM {op:UnOp} {x v:AV} {K:AV→Prop} (h:cUn op x = .ok v) (hk:K v):pUn op x K:=by
 unfold cUn at h
 split at h
 ·cases h; exact hk
 ·cases h; exact hk
 ·cases h; exact hk
 ·cases h
def z9 (sz:Nat) (x:AV) (s:HS):Ev (List AV):=match x with
 | .sl none _ _=>.ok []
 | .sl (some a) len _=>bif Nat.beq len 0 then .ok [] else (cRd s a (len * sz)).bind fun b=>.ok ((b.b.cells.drop a.off).take (len * sz))
 | _=>.no 22
theorem z5 {sz:Nat} {x:AV} {s:HS} {H:aA} {cs:List AV} {K:List AV→Prop} (R:HR s H) (h:z9 sz x s = .ok cs) (hk:K cs):eG sz x H K:=by
 unfold z9 at h
 split at h
 ·cases h; exact hk
 ·rename_i a len c
  cases hb:Nat.beq len 0 with
  | true=>rw [hb] at h; cases h; exact .inl ⟨Nat.eq_of_beq_eq_true hb,hk⟩
  | false =>
   rw [hb] at h
   obtain ⟨b,h1,h2⟩:=Ev.bind_ok h
   cases h2
   obtain ⟨g1,g2,_⟩:=pP R h1
   exact .inr ⟨b.b,g1,g2,hk⟩
 ·cases h
def zQ (x:AV) (s:HS):Ev AV:=(z9 1 x s).bind fun cs=>want (cs.all lK) 23 (.ok (.s (cs.map toByte)))
theorem aA9 {x v:AV} {s:HS} {H:aA} {K:AV→Prop} (R:HR s H) (h:zQ x s = .ok v) (hk:K v):cR x H fun l=>K (.s l):=by
 obtain ⟨cs,h1,h2⟩:=Ev.bind_ok h
 obtain ⟨h3,h4⟩:=aY h2
 cases h4
 exact z5 R h1 ⟨h3,hk⟩
def gX (x:Option AV) (d:Nat):Ev Nat:=match x with
 | none=>.ok d
 | some (.i _ n)=>want (decide (0≤n)) 24 (.ok n.toNat)
 | _=>.no 25
theorem cS {x:Option AV} {d n:Nat} {K:Nat→Prop} (h:gX x d = .ok n) (hk:K n):fH x d K:=by
 unfold gX at h
 split at h
 ·cases h; exact hk
 ·obtain ⟨h1,h2⟩:=aY h; cases h2; exact ⟨of_decide_eq_true h1,hk⟩
 ·cases h
def tJ (x:AV) (lo hi:Option AV):Ev AV:=match x with
 | .s l=>(gX hi l.length).bind fun m=>(gX lo 0).bind fun n=>want (Nat.ble n m&&Nat.ble m l.length) 26 (.ok (.s ((l.take m).drop n)))
 | _=>.no 27
theorem aBK {x v:AV} {lo hi:Option AV} {K:AV→Prop} (h:tJ x lo hi = .ok v) (hk:K v):cA x lo hi fun l=>K (.s l):=by
 unfold tJ at h
 split at h
 ·obtain ⟨m, h1, h2⟩ := Ev.bind_ok h
  obtain ⟨n,h3,h4⟩:=Ev.bind_ok h2
  obtain ⟨h5,h6⟩:=aY h4
  cases h6
  rw [Bool.and_eq_true] at h5
  unfold cA
  refine cS h1 ?_
  exact cS h3 ⟨Nat.le_of_ble_eq_true h5.1,Nat.le_of_ble_eq_true h5.2,hk⟩
 ·cases h
def aAI (cap:Option Nat) (len j sz off ver:Nat):Bool:=Nat.ble j len||match cap with
 | none=>Nat.ble (off+j * sz) ver
 | some c=>Nat.ble j c
theorem zG {cap:Option Nat} {len j sz off ver:Nat} (h:aAI cap len j sz off ver=true):j≤len∨(cap=none∧off+j * sz≤ver)∨(∃ c,cap=some c∧j≤c):=by
 unfold aAI at h
 rw [Bool.or_eq_true] at h
 rcases h with h | h
 ·exact .inl (Nat.le_of_ble_eq_true h)
 ·cases cap with
  | none=>exact .inr (.inl ⟨rfl,Nat.le_of_ble_eq_true h⟩)
  | some c=>exact .inr (.inr ⟨c,rfl,Nat.le_of_ble_eq_true h⟩)
def xY (sz : Nat) (x : AV) (lo hi mx : Option AV) (s : HS) : Ev AV := match x with
 | .sl none _ _=>(gX mx 0).bind fun m=>(gX hi 0).bind fun j=>(gX lo 0).bind fun i=>want (Nat.beq m 0&&Nat.beq j 0&&Nat.beq i 0&&mx.isNone) 28 (.ok (.sl none 0 none))
 | .sl (some a) len cap => (gX hi len).bind fun j => (gX lo 0).bind fun i => match s.t.get a.id with
  | none=>.no 29
  | some x => want (Nat.blt 0 sz && Nat.ble i j && Nat.ble x.b.floor x.n && Nat.ble x.b.floor a.ver && Nat.beq x.b.sz sz) 30 (match mx with
   | none=>want (aAI cap len j sz a.off a.ver) 31 (.ok (.sl (some ⟨a.id,a.ver,a.off+i * sz⟩) (j - i) (cap.map (· - i))))
   | some m=>want hi.isSome 32 ((gX (some m) 0).bind fun m=>want (Nat.ble j m&&aAI cap len m sz a.off a.ver) 33 (.ok (.sl (some ⟨a.id,a.ver,a.off+i * sz⟩) (j - i) (some (m - i))))))
 | _=>.no 34
theorem aCO {sz : Nat} {x v : AV} {lo hi mx : Option AV} {s : HS} {H : aA} {K : AV → Prop} (R : HR s H) (h : xY sz x lo hi mx s = .ok v) (hk : K v) : bZ sz x lo hi mx H K := by
 unfold xY at h
 split at h
 ·obtain ⟨m, h1, h⟩ := Ev.bind_ok h
  obtain ⟨j,h2,h⟩:=Ev.bind_ok h
  obtain ⟨i,h3,h⟩:=Ev.bind_ok h
  obtain ⟨h4,h5⟩:=aY h
  cases h5
  simp only [Bool.and_eq_true] at h4
  unfold bZ
  refine cS h1 ?_
  refine cS h2 ?_
  refine (cS h3 ⟨Nat.eq_of_beq_eq_true h4.1.1.1,Nat.eq_of_beq_eq_true h4.1.1.2,Nat.eq_of_beq_eq_true h4.1.2,fun hm=>?_,hk⟩)
  have:=h4.2
  cases mx with
  | none=>cases hm
  | some m=>cases this
 ·rename_i a len cap
  obtain ⟨j,h1,h⟩:=Ev.bind_ok h
  obtain ⟨i,h2,h⟩:=Ev.bind_ok h
  split at h
  ·cases h
  ·rename_i y hy
   obtain ⟨g1,g2⟩:=R.is _ _ hy
   obtain ⟨h3,h4⟩:=aY h
   simp only [Bool.and_eq_true] at h3
   obtain ⟨⟨⟨⟨h5,h6⟩,h7⟩,h8⟩,h9⟩:=h3
   have hsz:=Nat.le_of_ble_eq_true h5
   have hij:=Nat.le_of_ble_eq_true h6
   have hfl:=Nat.le_of_ble_eq_true h7
   rw [g2] at hfl
   have hfv:=Nat.le_of_ble_eq_true h8
   have hss:=Nat.eq_of_beq_eq_true h9
   cases mx with
   | none =>
    obtain ⟨h10,h11⟩:=aY h4
    cases h11
    refine ⟨hsz,fun hm=>(by cases hm), ?_⟩
    refine cS h1 ?_
    exact cS h2 ⟨hij,y.b,g1,hfl,hfv,.inl hss,zG h10,hk⟩
   | some m =>
    obtain ⟨h10,h11⟩:=aY h4
    obtain ⟨m',h12,h13⟩:=Ev.bind_ok h11
    obtain ⟨h14,h15⟩:=aY h13
    cases h15
    rw [Bool.and_eq_true] at h14
    refine ⟨hsz,fun _=>h10, ?_⟩
    refine cS h1 ?_
    refine cS h2 ⟨hij,y.b,g1,hfl,hfv,.inl hss, ?_⟩
    exact cS h12 ⟨Nat.le_of_ble_eq_true h14.1,zG h14.2,hk⟩
 ·cases h
def sF (n sz:Nat) (x:AV) (lo hi:Option AV) (s:HS):Ev AV:=match x with
 | .p (some a)=>(gX hi n).bind fun j=>(gX lo 0).bind fun i=>(cRd s a (n * sz)).bind fun b=>want (Nat.blt 0 sz&&Nat.ble i j&&Nat.ble j n&&Nat.beq b.b.sz sz) 35 (.ok (.sl (some ⟨a.id,a.ver,a.off+i * sz⟩) (j - i) (some (n - i))))
 | _=>.no 36
theorem aBF {n sz:Nat} {x v:AV} {lo hi:Option AV} {s:HS} {H:aA} {K:AV→Prop} (R:HR s H) (h:sF n sz x lo hi s = .ok v) (hk:K v):kY n sz x lo hi H K:=by
 unfold sF at h
 split at h
 ·obtain ⟨j, h1, h⟩ := Ev.bind_ok h
  obtain ⟨i,h2,h⟩:=Ev.bind_ok h
  obtain ⟨b,h3,h⟩:=Ev.bind_ok h
  obtain ⟨h4,h5⟩:=aY h
  cases h5
  obtain ⟨g1,g2,_⟩:=pP R h3
  simp only [Bool.and_eq_true] at h4
  refine ⟨Nat.le_of_ble_eq_true h4.1.1.1, ?_⟩
  refine cS h1 ?_
  exact cS h2 ⟨Nat.le_of_ble_eq_true h4.1.1.2,Nat.le_of_ble_eq_true h4.1.2,b.b,g1,Nat.eq_of_beq_eq_true h4.2,g2,hk⟩
 ·cases h
def pS (off:Nat) (x:AV):Ev AV:=match x with
 | .p (some a)=>.ok (.p (some ⟨a.id,a.ver,a.off+off⟩))
 | _=>.no 37
theorem yJ {off:Nat} {x v:AV} {K:AV→Prop} (h:pS off x = .ok v) (hk:K v):aB off x K:=by
 unfold pS at h
 split at h
 ·cases h; exact hk
 ·cases h
def aBP (off : Nat) (x : AV) : Ev AV := match x with
 | .ag cs => match cs[off]? with
  | some c=>.ok c
  | none=>.no 38
 | _=>.no 39
theorem aDU {off:Nat} {x v:AV} {K:AV→Prop} (h:aBP off x = .ok v) (hk:K v):rI off x K:=by
 unfold aBP at h
 split at h
 ·split at h
  ·rename_i c hc
   cases h
   exact ⟨aL hc,by rw [getD_some hc]; exact hk⟩
  ·cases h
 ·cases h
def aAH (off n:Nat) (x:AV):Ev AV:=match x with
 | .ag cs=>.ok (.ag ((cs.drop off).take n))
 | _=>.no 40
theorem aET {off n:Nat} {x v:AV} {K:AV→Prop} (h:aAH off n x = .ok v) (hk:K v):qK off n x K:=by
 unfold aAH at h
 split at h
 ·cases h; exact hk
 ·cases h
def aEA (sz : Nat) (x i : AV) (s : HS) : Ev AV := match x, i with
 | .sl (some a) len _, .i _ n => match s.t.get a.id with
  | some b=>want (decide (0≤n)&&decide (n<len)&&Nat.ble b.b.floor a.ver&&Nat.ble b.b.floor b.n) 41 (.ok (.p (some ⟨a.id,a.ver,a.off+n.toNat * sz⟩)))
  | none=>.no 42
 | _,_=>.no 43
theorem aGP {sz:Nat} {x i v:AV} {s:HS} {H:aA} {K:AV→Prop} (R:HR s H) (h:aEA sz x i s = .ok v) (hk:K v):aZ sz x i H K:=by
 unfold aEA at h
 split at h
 ·split at h
  ·rename_i b hb
   obtain ⟨g1,g2⟩:=R.is _ _ hb
   obtain ⟨h1,h2⟩:=aY h
   cases h2
   simp only [Bool.and_eq_true] at h1
   have hf:=Nat.le_of_ble_eq_true h1.2
   rw [g2] at hf
   exact ⟨of_decide_eq_true h1.1.1.1,of_decide_eq_true h1.1.1.2,⟨b.b,g1,Nat.le_of_ble_eq_true h1.1.2,hf⟩,hk⟩
  ·cases h
 ·cases h
def aA2 (len sz:Nat) (x i:AV):Ev AV:=match x,i with
 | .p (some a),.i _ n=>want (decide (0≤n)&&decide (n<len)) 44 (.ok (.p (some ⟨a.id,a.ver,a.off+n.toNat * sz⟩)))
 | _,_=>.no 45
theorem aE0 {len sz:Nat} {x i v:AV} {K:AV→Prop} (h:aA2 len sz x i = .ok v) (hk:K v):bJ len sz x i K:=by
 unfold aA2 at h
 split at h
 ·obtain ⟨h1, h2⟩ := aY h
  cases h2
  rw [Bool.and_eq_true] at h1
  exact ⟨of_decide_eq_true h1.1,of_decide_eq_true h1.2,hk⟩
 ·cases h
def aBI (x i : AV) : Ev AV := match x, i with
 | .s l, .i _ n => want (decide (0 ≤ n)) 46 (match l[n.toNat]? with
  | some c=>.ok (.i .u8 (c.toNat:Int))
  | none=>.no 47)
 | _,_=>.no 48
theorem aD3 {x i v:AV} {K:AV→Prop} (h:aBI x i = .ok v) (hk:K v):dO x i fun n=>K (.i .u8 n):=by
 unfold aBI at h
 split at h
 ·rename_i l k n
  obtain ⟨h1,h2⟩:=aY h
  have h0:=of_decide_eq_true h1
  split at h2
  ·rename_i c hc
   cases h2
   have:=aL hc
   exact ⟨h0,by omega,by rw [getD_some hc]; exact hk⟩
  ·cases h2
 ·cases h
def yA (len : Nat) (x i : AV) : Ev AV := match x, i with
 | .ag cs, .i _ n => want (decide (0 ≤ n) && decide (n < len)) 49 (match cs[n.toNat]? with
  | some c=>.ok c
  | none=>.no 50)
 | _,_=>.no 51
theorem aDJ {len:Nat} {x i v:AV} {K:AV→Prop} (h:yA len x i = .ok v) (hk:K v):nN len x i K:=by
 unfold yA at h
 split at h
 ·obtain ⟨h1, h2⟩ := aY h
  rw [Bool.and_eq_true] at h1
  have h0:=of_decide_eq_true h1.1
  split at h2
  ·rename_i c hc
   cases h2
   have:=aL hc
   exact ⟨h0,of_decide_eq_true h1.2,by omega,by rw [getD_some hc]; exact hk⟩
  ·cases h2
 ·cases h
def wL (i : Nat) (x : AV) : Ev AV := match x with
 | .tu vs => match vs[i]? with
  | some v=>.ok v
  | none=>.no 52
 | _=>.no 53
theorem aCA {i:Nat} {x v:AV} {K:AV→Prop} (h:wL i x = .ok v) (hk:K v):bC i x K:=by
 unfold wL at h
 split at h
 ·split at h
  ·rename_i w hw
   cases h
   exact ⟨aL hw,by rw [getD_some hw]; exact hk⟩
  ·cases h
 ·cases h
def cMM (mx:Bool) (xs:List AV):Ev AV:=match xs with
 | [.i k a,.i _ b]=>.ok (.i k (mmI mx a b))
 | [.i k a,.i _ b,.i _ c]=>.ok (.i k (mmI mx (mmI mx a b) c))
 | _=>.no 54
theorem aLA {mx:Bool} {xs:List AV} {v:AV} {K:AV→Prop} (h:cMM mx xs = .ok v) (hk:K v):pMM mx xs K:=by
 unfold cMM at h
 split at h
 ·cases h; exact hk
 ·cases h; exact hk
 ·cases h
def aE3 (zeros:List AV) (parts:List (Nat × Nat × AV)):Ev AV:=match gD zeros parts with
 | some cs=>.ok (.ag cs)
 | none=>.no 55
theorem aGU {zeros:List AV} {parts:List (Nat × Nat × AV)} {v:AV} {K:AV→Prop} (h:aE3 zeros parts = .ok v) (hk:K v):gS zeros parts K:=by
 unfold aE3 at h
 unfold gS
 split at h
 ·rename_i e; simp only [e]; cases h; exact hk
 ·cases h
def aAG (x:AV) (s:HS):Ev AV:=match x with
 | .p none=>.ok x
 | .p (some a)=>(cRd s a 1).bind fun _=>.ok x
 | _=>.no 56
theorem aEJ {x v:AV} {s:HS} {H:aA} {K:AV→Prop} (R:HR s H) (h:aAG x s = .ok v) (hk:K v):mK x H K:=by
 unfold aAG at h
 split at h
 ·cases h; exact hk
 ·obtain ⟨b, h1, h2⟩ := Ev.bind_ok h
  cases h2
  obtain ⟨g1,g2,_⟩:=pP R h1
  exact ⟨b.b,g1,g2,hk⟩
 ·cases h
def oJ (P : Program) (u : TypeId) (x : AV) (s : HS) : Ev AV := match x with
 | .p none=>.ok x
 | .p (some a) => match s.t.get a.id with
  | some b => match b.b.ty with
   | some t=>want (Nat.ble b.b.floor b.n&&Nat.beq a.ver b.n&&liesAt P P.depth t (b.n / P.cellsOf t) a.off u 1) 57 (.ok x)
   | none=>.no 57
  | none=>.no 57
 | _=>.no 57
theorem wH {P : Program} {u : TypeId} {x v : AV} {s : HS} {H : aA} {K : AV → Prop} (R : HR s H) (h : oJ P u x s = .ok v) (hk : K v) : dR P u x H K := by
 unfold oJ at h
 split at h
 ·cases h; exact hk
 ·split at h
  ·rename_i b hb
   obtain ⟨g1,g2⟩:=R.is _ _ hb
   split at h
   ·rename_i t ht
    obtain ⟨h1,h2⟩:=aY h
    cases h2
    simp only [Bool.and_eq_true] at h1
    rw [g2] at h1
    exact ⟨b.b,t,g1,ht,Nat.le_of_ble_eq_true h1.1.1,Nat.eq_of_beq_eq_true h1.1.2,h1.2,hk⟩
   ·cases h
  ·cases h
 ·cases h
def aEL (x : AV) (s : HS) : Ev (List (AV × AV)) := match x with
 | .mp none=>.ok []
 | .mp (some id) => match s.t.get id with
  | some b => match b.b.mp with
   | some (.inl es)=>.ok es
   | _=>.no 58
  | none=>.no 58
 | _=>.no 58
theorem aHR {x : AV} {s : HS} {H : aA} {es : List (AV × AV)} (R : HR s H) (h : aEL x s = .ok es) : aCK x H = some es := by
 unfold aEL at h
 split at h
 ·cases h; rfl
 ·split at h
  ·rename_i id b hb
   obtain ⟨g1,g2⟩:=R.is _ _ hb
   split at h
   ·rename_i es' he
    cases h
    unfold aCK
    simp only [g1,Option.bind_some,he]; rfl
   ·cases h
  ·cases h
 ·cases h
def aF0 (P : Program) (kt el : TypeId) (ok : Bool) (x k : AV) (s : HS) : Ev AV := want (aHM P kt k) 59 ((aEL x s).bind fun es => match pL P kt k es 0 with
 | some (some (_,v))=>.ok (bif ok then .tu [v,.b true] else v)
 | some none => match aDC P el with
  | some z=>.ok (bif ok then .tu [z,.b false] else z)
  | none=>.no 60
 | none=>.no 61)
theorem aEV {P:Program} {kt el:TypeId} {ok:Bool} {x k v:AV} {s:HS} {H:aA} {K:AV→Prop} (R:HR s H) (h:aF0 P kt el ok x k s = .ok v) (hk:K v):mC P kt el ok x k H K:=by
 obtain ⟨h1,h2⟩:=aY h
 obtain ⟨es,h3,h4⟩:=Ev.bind_ok h2
 refine ⟨h1, ?_⟩
 rw [aHR R h3]
 simp only
 split at h4
 ·rename_i e; simp only [e]; cases h4; exact hk
 ·rename_i e
  simp only [e]
  split at h4
  ·rename_i e2; simp only [e2]; cases h4; exact hk
  ·cases h4
 ·cases h4
end Go.GAM
namespace Go.GAM
abbrev EvS:=Ev (AV × HS)
def aKC (ty:Option TypeId) (cells:List AV) (s:HS):EvS:=(s.push ⟨aW cells 1 true ty,cells.length⟩).bind fun s'=>.ok (.p (some ⟨s.n,cells.length,0⟩),s')
theorem aG0 {ty:Option TypeId} {cells:List AV} {s:HS} {H:aA} {r:AV × HS} {K:AV→aA→Prop} (R:HR s H) (h:aKC ty cells s = .ok r) (hk:∀ H',HR r.2 H'→K r.1 H'):dV ty cells H K:=by
 obtain ⟨s',h1,h2⟩:=Ev.bind_ok h
 cases h2
 obtain ⟨g1,g2⟩:=R.push h1 rfl
 unfold dV
 rw [g2]
 exact hk _ g1
def aPD (ty:Option TypeId) (x:AV) (s:HS):EvS:=want x.sizeOK 70 ((s.push ⟨aW x.parts 1 true ty,x.parts.length⟩).bind fun s'=>.ok (.p (some ⟨s.n,x.parts.length,0⟩),s'))
theorem aM3 {ty:Option TypeId} {x:AV} {s:HS} {H:aA} {r:AV × HS} {K:AV→aA→Prop} (R:HR s H) (h:aPD ty x s = .ok r) (hk:∀ H',HR r.2 H'→K r.1 H'):d7 ty x H K:=by
 obtain ⟨h0,h⟩:=aY h
 obtain ⟨s',h1,h2⟩:=Ev.bind_ok h
 cases h2
 obtain ⟨g1,g2⟩:=R.push h1 rfl
 refine ⟨h0, ?_⟩
 rw [g2]
 exact hk _ g1
def wZ (sz len:Nat) (zeros:List AV) (parts:List (Nat × Nat × AV)) (s:HS):EvS:=match gD zeros parts with
 | some cs=>want (Nat.beq cs.length (len * sz)) 71 ((s.push ⟨aW cs sz true,cs.length⟩).bind fun s'=>.ok (.sl (some ⟨s.n,cs.length,0⟩) len none,s'))
 | none=>.no 72
theorem aC9 {sz len:Nat} {zeros:List AV} {parts:List (Nat × Nat × AV)} {s:HS} {H:aA} {r:AV × HS} {K:AV→aA→Prop} (R:HR s H) (h:wZ sz len zeros parts s = .ok r) (hk:∀ H',HR r.2 H'→K r.1 H'):bR sz len zeros parts H K:=by
 unfold wZ at h
 unfold bR
 split at h
 ·rename_i e
  simp only [e]
  obtain ⟨h0,h⟩:=aY h
  obtain ⟨s',h1,h2⟩:=Ev.bind_ok h
  cases h2
  obtain ⟨g1,g2⟩:=R.push h1 rfl
  refine ⟨Nat.eq_of_beq_eq_true h0, ?_⟩
  rw [g2]
  exact hk _ g1
 ·cases h
def aDT (n : Nat) (x v : AV) (s : HS) : Ev HS := match x with
  | .p (some a) => match s.t.get a.id with
    | some b=>want (!b.b.ro&&Nat.ble b.b.floor a.ver&&Nat.beq a.ver b.n&&Nat.ble (a.off+n) a.ver&&v.sizeOK&&Nat.beq v.parts.length n&&v.parts.all AV.cellOK) 73
        (s.put a.id ⟨{ b.b with cells:=wr b.b.cells a.off v.parts,floor:=b.n },b.n⟩)
    | none=>.no 74
  | _=>.no 75
theorem aH6 {n:Nat} {x v:AV} {s s':HS} {H:aA} {K:aA→Prop} (R:HR s H) (h:aDT n x v s = .ok s') (hk:∀ H',HR s' H'→K H'):aR n x v H K:=by
 unfold aDT at h
 split at h
 ·rename_i a
  split at h
  ·rename_i b hb
   obtain ⟨g1,g2⟩:=R.is _ _ hb
   obtain ⟨h1,h2⟩:=aY h
   simp only [Bool.and_eq_true,Bool.not_eq_true'] at h1
   obtain ⟨⟨⟨⟨⟨⟨e1,e2⟩,e3⟩,e4⟩,e5⟩,e6⟩,e7⟩:=h1
   have e3:=Nat.eq_of_beq_eq_true e3
   rw [g2] at e3
   refine ⟨b.b,g1,e1,Nat.le_of_ble_eq_true e2,e3,Nat.le_of_ble_eq_true e4,e5,Nat.eq_of_beq_eq_true e6,e7, ?_⟩
   have:=R.put h2 (by simp only; rw [dW,g2])
   rw [g2] at this
   exact hk _ this
  ·cases h
 ·cases h
def sY (x:AV) (s:HS):EvS:=match x with
 | .s l=>(s.push ⟨aW (l.map byteAV) 1 false,l.length⟩).bind fun s'=>.ok (.sl (some ⟨s.n,l.length,0⟩) l.length none,s')
 | _=>.no 76
theorem aA5 {x:AV} {s:HS} {H:aA} {r:AV × HS} {K:AV→aA→Prop} (R:HR s H) (h:sY x s = .ok r) (hk:∀ H',HR r.2 H'→K r.1 H'):fW x H K:=by
 unfold sY at h
 split at h
 ·obtain ⟨s', h1, h2⟩ := Ev.bind_ok h
  cases h2
  obtain ⟨g1,g2⟩:=R.push h1 (by simp [aW])
  unfold fW
  simp only
  rw [g2]
  exact hk _ g1
 ·cases h
def aK1 (sz bytes:Nat) (zeros:List AV) (len cap:AV) (s:HS):EvS:=match len,cap with
 | .i _ l,.i _ c=>want (decide (0≤l)&&decide (l≤c)&&decide ((bytes:Int) * c≤281474976710656)&&decide (c≤9223372036854775807)&&Nat.beq zeros.length sz&&Nat.blt 0 sz) 77
   ((s.push ⟨aW (List.replicate c.toNat zeros).flatten sz true,c.toNat * sz⟩).bind fun s'=>.ok (.sl (some ⟨s.n,c.toNat * sz,0⟩) l.toNat none,s'))
 | _,_=>.no 78
theorem aIS {sz bytes:Nat} {zeros:List AV} {len cap:AV} {s:HS} {H:aA} {r:AV × HS} {K:AV→aA→Prop} (R:HR s H) (h:aK1 sz bytes zeros len cap s = .ok r) (hk:∀ H',HR r.2 H'→K r.1 H'):wN sz bytes zeros len cap H K:=by
 unfold aK1 at h
 split at h
 ·rename_i k l k' c
  obtain ⟨h0,h⟩:=aY h
  obtain ⟨s',h1,h2⟩:=Ev.bind_ok h
  cases h2
  simp only [Bool.and_eq_true,decide_eq_true_eq] at h0
  obtain ⟨⟨⟨⟨⟨e1,e2⟩,e3⟩,e4⟩,e5⟩,e6⟩:=h0
  have e5:=Nat.eq_of_beq_eq_true e5
  have hlen:∀ n,(List.replicate n zeros).flatten.length=n * sz:=by
   intro n
   induction n with
   | zero=>simp
   | succ n ih=>rw [List.replicate_succ,List.flatten_cons,List.length_append,ih,e5,Nat.add_mul]; omega
  obtain ⟨g1,g2⟩:=R.push h1 (by simp only [aW]; rw [hlen])
  refine ⟨e1,e2,e3,e4,e5,Nat.le_of_ble_eq_true e6, ?_⟩
  rw [g2]
  exact hk _ g1
 ·cases h
def aFN (sz:Nat) (x:AV) (s:HS):Ev (List AV × Nat):=match x with
 | .sl none _ _=>.ok ([],0)
 | .sl (some a) len c=>(z9 sz (.sl (some a) len c) s).bind fun cs=>.ok (cs,len)
 | .s l=>want (Nat.beq sz 1) 79 (.ok (l.map byteAV,l.length))
 | _=>.no 80
theorem aBZ {sz:Nat} {x:AV} {s:HS} {H:aA} {r:List AV × Nat} {K:List AV→Nat→Prop} (R:HR s H) (h:aFN sz x s = .ok r) (hk:K r.1 r.2):fQ sz x H K:=by
 unfold aFN at h
 split at h
 ·cases h; exact hk
 ·obtain ⟨cs, h1, h2⟩ := Ev.bind_ok h
  cases h2
  exact z5 (K:=fun cs=>K cs _) R h1 hk
 ·obtain ⟨h1, h2⟩ := aY h
  cases h2
  exact ⟨Nat.eq_of_beq_eq_true h1,hk⟩
 ·cases h
def aEO (cap:Option Nat) (n:Nat):Bool:=match cap with | none=>false | some c=>Nat.blt c n
def aEC (cap:Option Nat) (n:Nat):Bool:=match cap with | none=>true | some c=>Nat.ble n c
def aAK (ty:Option TypeId) (sz bytes:Nat) (x y:AV) (s:HS):EvS:=want (Nat.blt 0 sz) 81 ((aFN sz y s).bind fun nk=>match x with
 | .sl none _ _=>want (Nat.ble (nk.2 * bytes) 140737488355328&&Nat.ble nk.2 9223372036854775807) 82 (bif Nat.beq nk.2 0 then .ok (.sl none 0 none,s) else
   ((s.push ⟨aW nk.1 sz false ty,nk.1.length⟩).bind fun s'=>.ok (.sl (some ⟨s.n,nk.1.length,0⟩) nk.2 none,s')))
 | .sl (some a) len cap => want (Nat.ble ((len + nk.2) * bytes) 140737488355328 && Nat.ble (len + nk.2) 9223372036854775807) 83 ((cRd s a (len * sz)).bind fun b => want (Nat.beq b.b.sz sz) 84 (
   bif Nat.beq nk.2 0 then .ok (x,s) else
   bif aEO cap (len+nk.2)||(b.b.ex&&Nat.beq a.ver b.n&&cap.isNone&&Nat.blt b.n (a.off+(len+nk.2) * sz)) then
    ((s.push ⟨aW ((b.b.cells.drop a.off).take (len * sz)++nk.1) sz false ty,((b.b.cells.drop a.off).take (len * sz)++nk.1).length⟩).bind fun s'=>.ok (.sl (some ⟨s.n,((b.b.cells.drop a.off).take (len * sz)++nk.1).length,0⟩) (len+nk.2) none,s')) else
   want (!b.b.ro&&Nat.beq a.ver b.n&&nk.1.all AV.cellOK) 85 (
   bif Nat.ble (a.off+(len+nk.2) * sz) b.n&&aEC cap (len+nk.2) then
    ((s.put a.id ⟨{ b.b with cells:=wr b.b.cells (a.off+len * sz) nk.1,floor:=b.n },b.n⟩).bind fun s'=>.ok (.sl (some a) (len+nk.2) cap,s')) else
   bif Nat.beq a.off 0&&Nat.beq (len * sz) b.n&&cap.isNone && !b.b.ex && !b.b.gl then
    ((s.put a.id ⟨{ b.b with cells:=b.b.cells++nk.1,ty:=gQ b.b.ty ty },b.n+nk.1.length⟩).bind fun s'=>.ok (.sl (some ⟨a.id,b.n+nk.1.length,0⟩) (len+nk.2) none,s')) else .no 86)))
 | _=>.no 87)
theorem yB {ty : Option TypeId} {sz bytes : Nat} {x y : AV} {s : HS} {H : aA} {r : AV × HS} {K : AV → aA → Prop} (R : HR s H) (h : aAK ty sz bytes x y s = .ok r) (hk : ∀ H', HR r.2 H' → K r.1 H') : b5 ty sz bytes x y H K := by
  obtain ⟨h0,h⟩:=aY h
  obtain ⟨⟨news,k⟩,h1,h⟩:=Ev.bind_ok h
  refine ⟨Nat.le_of_ble_eq_true h0,aBZ R h1 ?_⟩
  simp only at h ⊢
  split at h
  · obtain ⟨h2, h⟩ := aY h
    rw [Bool.and_eq_true] at h2
    refine ⟨Nat.le_of_ble_eq_true h2.1,by have:=Nat.le_of_ble_eq_true h2.2; omega, ?_⟩
    cases hb:Nat.beq k 0 with
    | true =>
      rw [hb] at h
      cases h
      rw [if_pos (Nat.eq_of_beq_eq_true hb)]
      exact hk _ R
    | false =>
      rw [hb] at h
      obtain ⟨s',h3,h4⟩:=Ev.bind_ok h
      cases h4
      obtain ⟨g1,g2⟩:=R.push h3 rfl
      rw [if_neg (by intro e; subst e; cases hb),g2]
      exact hk _ g1
  · rename_i a len cap _ _
    obtain ⟨h2,h⟩:=aY h
    rw [Bool.and_eq_true] at h2
    obtain ⟨b,h3,h⟩:=Ev.bind_ok h
    obtain ⟨h4,h⟩:=aY h
    obtain ⟨g1,g2,g3⟩:=pP R h3
    refine ⟨Nat.le_of_ble_eq_true h2.1,by have:=Nat.le_of_ble_eq_true h2.2; omega,b.b,g1,Nat.eq_of_beq_eq_true h4,g2, ?_⟩
    cases hb:Nat.beq k 0 with
    | true =>
      rw [hb] at h
      cases h
      exact .inl ⟨Nat.eq_of_beq_eq_true hb,hk _ R⟩
    | false =>
      rw [hb] at h
      simp only [cond_false] at h
      have hk0:0<k:=Nat.pos_of_ne_zero (by intro e; subst e; cases hb)
      cases hf:(aEO cap (len+k)||(b.b.ex&&Nat.beq a.ver b.n&&cap.isNone&&Nat.blt b.n (a.off+(len+k) * sz))) with
      | true =>
        rw [hf] at h
        simp only [cond_true] at h
        obtain ⟨s',h5,h6⟩:=Ev.bind_ok h
        cases h6
        obtain ⟨e1,e2⟩:=R.push h5 rfl
        refine .inr (.inl ⟨hk0, ?_, ?_⟩)
        · rw [Bool.or_eq_true] at hf
          rcases hf with hf | hf
          · unfold aEO at hf
            cases cap with
            | none=>cases hf
            | some c=>exact .inl ⟨c,rfl,Nat.le_of_ble_eq_true hf⟩
          · simp only [Bool.and_eq_true] at hf
            refine .inr ⟨hf.1.1.1,by rw [← g3]; exact Nat.eq_of_beq_eq_true hf.1.1.2,by simpa using hf.1.2, ?_⟩
            rw [← g3]; exact Nat.le_of_ble_eq_true hf.2
        · rw [e2]; exact hk _ e1
      | false =>
        rw [hf] at h
        simp only [cond_false] at h
        obtain ⟨h5,h⟩:=aY h
        simp only [Bool.and_eq_true,Bool.not_eq_true'] at h5
        obtain ⟨⟨e1,e2⟩,e3⟩:=h5
        have e2:=Nat.eq_of_beq_eq_true e2
        rw [g3] at e2
        cases hi:(Nat.ble (a.off+(len+k) * sz) b.n&&aEC cap (len+k)) with
        | true =>
          rw [hi] at h
          simp only [cond_true] at h
          obtain ⟨s',h6,h7⟩:=Ev.bind_ok h
          cases h7
          have R':=R.put h6 (by simp only; rw [dW,g3])
          rw [g3] at R'
          rw [Bool.and_eq_true,g3] at hi
          refine .inr (.inr (.inl ⟨hk0,e1,e2,Nat.le_of_ble_eq_true hi.1, ?_,e3,hk _ R'⟩))
          have:=hi.2
          unfold aEC at this
          cases cap with
          | none=>exact .inl rfl
          | some c=>exact .inr ⟨c,rfl,Nat.le_of_ble_eq_true this⟩
        | false =>
          rw [hi] at h
          simp only [cond_false] at h
          cases hj:(Nat.beq a.off 0&&Nat.beq (len * sz) b.n&&cap.isNone && !b.b.ex && !b.b.gl) with
          | true =>
            rw [hj] at h
            simp only [cond_true] at h
            obtain ⟨s',h6,h7⟩:=Ev.bind_ok h
            cases h7
            have R':=R.put h6 (by simp only; rw [List.length_append,g3])
            simp only [Bool.and_eq_true,Bool.not_eq_true'] at hj
            obtain ⟨⟨⟨⟨j1,j2⟩,j3⟩,j4⟩,j5⟩:=hj
            refine .inr (.inr (.inr (.inl ⟨hk0,e1,e2,Nat.eq_of_beq_eq_true j1,by rw [← g3]; exact Nat.eq_of_beq_eq_true j2,by simpa using j3,j4,j5,e3, ?_⟩)))
            have:=hk _ R'
            simp only at this
            rw [List.length_append, ← g3]
            exact this
          | false =>
            rw [hj] at h
            cases h
  · cases h
def aOE (s:HS) (i:Nat):Ev CB:=match s.t.get i with
 | some x=>.ok x
 | none=>.no 87
theorem aML {s:HS} {H:aA} (R:HR s H) {i:Nat} {x:CB} (h:aOE s i = .ok x):H[i]? = some x.b∧x.n=x.b.cells.length:=by
 unfold aOE at h
 split at h
 ·rename_i y hy
  cases h
  exact R.is _ _ hy
 ·cases h
def aNP (sz : Nat) (x : AV) (s : HS) : EvS := match x with
 | .sl none _ _=>.ok (.i .i64 0,s)
 | .sl (some _) _ (some c)=>.ok (.i .i64 (c:Nat),s)
 | .sl (some a) _ none => (aOE s a.id).bind fun b =>
  want (Nat.ble b.b.floor b.n&&b.b.ex&&Nat.beq a.ver b.n&&Nat.beq b.b.sz sz&&Nat.blt 0 sz&&Nat.beq (a.off+(b.n - a.off) / sz * sz) b.n) 85 (.ok (.i .i64 ((b.n - a.off) / sz:Nat),s))
 | _=>.no 86
theorem aLK {sz:Nat} {x:AV} {s:HS} {H:aA} {r:AV × HS} {K:AV→aA→Prop} (R:HR s H) (h:aNP sz x s = .ok r) (hk:∀ H',HR r.2 H'→K r.1 H'):aL0 sz x H K:=by
 unfold aNP at h
 split at h
 ·cases h; exact hk _ R
 ·cases h; exact hk _ R
 ·obtain ⟨b, h1, h⟩ := Ev.bind_ok h
  obtain ⟨g1,g2⟩:=aML R h1
  obtain ⟨h2,h3⟩:=aY h
  cases h3
  simp only [Bool.and_eq_true] at h2
  obtain ⟨⟨⟨⟨⟨q1,q2⟩,q3⟩,q4⟩,q5⟩,q6⟩:=h2
  rw [g2] at q1 q3 q6 hk
  exact .inl ⟨b.b,_,g1,Nat.le_of_ble_eq_true q1,q2,Nat.eq_of_beq_eq_true q3,Nat.eq_of_beq_eq_true q4,Nat.le_of_ble_eq_true q5,Nat.eq_of_beq_eq_true q6,hk _ R⟩
 ·cases h
def p9 (x:AV) (s:HS):EvS:=match x with
 | .sl none _ _=>.ok (.p none,s)
 | .sl (some a) len _=>want (Nat.blt 0 len) 88 (.ok (.p (some a),s))
 | _=>.no 89
theorem yS {x:AV} {s:HS} {H:aA} {r:AV × HS} {K:AV→aA→Prop} (R:HR s H) (h:p9 x s = .ok r) (hk:∀ H',HR r.2 H'→K r.1 H'):fS x H K:=by
 unfold p9 at h
 split at h
 ·cases h; exact hk _ R
 ·obtain ⟨h1, h2⟩ := aY h
  cases h2
  exact ⟨Nat.le_of_ble_eq_true h1,hk _ R⟩
 ·cases h
def aFK (P:Program) (t:TypeId):Bool:=match P.underlying t with
 | some (.int .u8)=>true
 | _=>false
def vR (P : Program) (x n : AV) (s : HS) : EvS := match x, n with
 | .p none,.i _ n=>want (decide (n=0)) 90 (.ok (.s [],s))
 | .p (some a), .i _ n => match s.t.get a.id with
  | some b => match b.b.ty with
   | some t=>want (aFK P t&&Nat.beq (P.cellsOf t) 1&&decide (0<n)&&decide (n≤9223372036854775807) && !b.b.ro&&Nat.ble b.b.floor b.n&&Nat.beq a.ver b.n&&Nat.ble (a.off+n.toNat) b.n&&((b.b.cells.drop a.off).take n.toNat).all lK) 91
     ((s.put a.id ⟨{ b.b with ro:=true },b.n⟩).bind fun s'=>.ok (.s (((b.b.cells.drop a.off).take n.toNat).map toByte),s'))
   | none=>.no 92
  | none=>.no 93
 | _,_=>.no 94
theorem aCP {P : Program} {x n : AV} {s : HS} {H : aA} {r : AV × HS} {K : AV → aA → Prop} (R : HR s H) (h : vR P x n s = .ok r) (hk : ∀ H', HR r.2 H' → K r.1 H') : kV P x n H K := by
 unfold vR at h
 split at h
 ·obtain ⟨h1, h2⟩ := aY h
  cases h2
  exact ⟨of_decide_eq_true h1,hk _ R⟩
 ·split at h
  ·rename_i b hb
   obtain ⟨g1,g2⟩:=R.is _ _ hb
   split at h
   ·rename_i t ht
    obtain ⟨h1,h⟩:=aY h
    obtain ⟨s',h2,h3⟩:=Ev.bind_ok h
    cases h3
    simp only [Bool.and_eq_true,Bool.not_eq_true',decide_eq_true_eq] at h1
    obtain ⟨⟨⟨⟨⟨⟨⟨⟨e1,e2⟩,e3⟩,e4⟩,e5⟩,e6⟩,e7⟩,e8⟩,e9⟩:=h1
    rw [g2] at e6 e7 e8
    refine ⟨b.b,t,g1,ht, ?_,Nat.eq_of_beq_eq_true e2,e3,e4,e5,Nat.le_of_ble_eq_true e6,Nat.eq_of_beq_eq_true e7,Nat.le_of_ble_eq_true e8,e9,hk _ (R.put h2 g2)⟩
    unfold aFK at e1
    split at e1
    ·assumption
    ·cases e1
   ·cases h
  ·cases h
 ·cases h
def aNB (sz:Nat) (d x:AV) (s:HS):EvS:=want (Nat.blt 0 sz) 95 ((aFN sz x s).bind fun nk=>match d with
 | .sl none _ _=>.ok (.i .i64 0,s)
 | .sl (some a) len _=>(cRd s a (len * sz)).bind fun b=>want (Nat.beq b.b.sz sz && !b.b.ro&&Nat.beq a.ver b.n&&(nk.1.take (min nk.2 len * sz)).all AV.cellOK) 96
   ((s.put a.id ⟨{ b.b with cells:=wr b.b.cells a.off (nk.1.take (min nk.2 len * sz)),floor:=b.n },b.n⟩).bind fun s'=>.ok (.i .i64 (min nk.2 len:Nat),s'))
 | _=>.no 97)
theorem aJS {sz:Nat} {d x:AV} {s:HS} {H:aA} {r:AV × HS} {K:AV→aA→Prop} (R:HR s H) (h:aNB sz d x s = .ok r) (hk:∀ H',HR r.2 H'→K r.1 H'):xQ sz d x H K:=by
 obtain ⟨h0,h⟩:=aY h
 obtain ⟨⟨news,k⟩,h1,h⟩:=Ev.bind_ok h
 refine ⟨Nat.le_of_ble_eq_true h0,aBZ R h1 ?_⟩
 simp only at h ⊢
 split at h
 ·cases h; exact hk _ R
 ·obtain ⟨b, h3, h⟩ := Ev.bind_ok h
  obtain ⟨h4,h⟩:=aY h
  obtain ⟨s',h5,h6⟩:=Ev.bind_ok h
  cases h6
  obtain ⟨g1,g2,g3⟩:=pP R h3
  simp only [Bool.and_eq_true,Bool.not_eq_true'] at h4
  obtain ⟨⟨⟨e1,e2⟩,e3⟩,e4⟩:=h4
  have R':=R.put h5 (by simp only; rw [dW,g3])
  rw [g3] at R'
  exact ⟨b.b,g1,Nat.eq_of_beq_eq_true e1,g2,e2,by rw [← g3]; exact Nat.eq_of_beq_eq_true e3,e4,hk _ R'⟩
 ·cases h
def aDH (s:HS):EvS:=(s.push ⟨eT [],0⟩).bind fun s'=>.ok (.mp (some s.n),s')
theorem aB1 {s:HS} {H:aA} {r:AV × HS} {K:AV→aA→Prop} (R:HR s H) (h:aDH s = .ok r) (hk:∀ H',HR r.2 H'→K r.1 H'):qM H K:=by
 obtain ⟨s',h1,h2⟩:=Ev.bind_ok h
 cases h2
 obtain ⟨g1,g2⟩:=R.push h1 rfl
 unfold qM
 rw [g2]; exact hk _ g1
def aA4:AV→AV→Bool
 | .b x,.b y=>x == y
 | .i k n,.i k' n'=>kEq k k'&&decide (n=n')
 | .s a,.s b=>decide (a=b)
 | _,_=>false
def aBD:List AV→List AV→Bool
 | [],[]=>true
 | a :: aq,b :: bs=>aA4 a b&&aBD aq bs
 | _,_=>false
def aK6:AV→AV→Bool
 | .ag aq,.ag bs=>aBD aq bs
 | a,b=>aA4 a b
theorem aJW {k k':IntKind} (h:kEq k k'=true):k=k':=by
 cases k <;> cases k' <;> first | rfl | (exact absurd h (by decide))
theorem zX {a b:AV} (h:aA4 a b=true):a=b:=by
 unfold aA4 at h
 split at h
 ·simp at h; rw [h]
 ·rw [Bool.and_eq_true] at h
  rw [aJW h.1,of_decide_eq_true h.2]
 ·rw [of_decide_eq_true h]
 ·cases h
theorem zE:∀ {a b:List AV},aBD a b=true→a=b
 | [],[],_=>rfl
 | a :: aq, b :: bs, h => by
  unfold aBD at h
  rw [Bool.and_eq_true] at h
  rw [zX h.1,zE h.2]
 | [],_ :: _,h=>by cases h
 | _ :: _,[],h=>by cases h
theorem aJB {a b:AV} (h:aK6 a b=true):a=b:=by
 unfold aK6 at h
 split at h
 ·rw [zE h]
 ·exact zX h
def aBG (P : Program) (kt : TypeId) (x k v : AV) (s : HS) : Ev HS := match x with
 | .mp (some id) => want (aHM P kt k && zW k) 98 (match s.t.get id with
  | some b => match b.b.mp with
   | some (.inl es) => match pL P kt k es 0 with
    | some (some (i, _)) => match es[i]? with
     | some e=>want (aK6 e.1 k) 99 (s.put id ⟨eT (es.set i (k,v)),0⟩)
     | none=>.no 99
    | some none=>s.put id ⟨eT (es++[(k,v)]),0⟩
    | none=>.no 100
   | _=>.no 100
  | none=>.no 100)
 | _=>.no 100
theorem xV {P : Program} {kt : TypeId} {x k v : AV} {s s' : HS} {H : aA} {K : aA → Prop} (R : HR s H) (h : aBG P kt x k v s = .ok s') (hk : ∀ H', HR s' H' → K H') : lL P kt x k v H K := by
  unfold aBG at h
  split at h
  · obtain ⟨h1, h⟩ := aY h
    rw [Bool.and_eq_true] at h1
    split at h
    · rename_i b hb
      obtain ⟨g1,g2⟩:=R.is _ _ hb
      split at h
      · rename_i es he
        refine ⟨h1.1,h1.2,b.b,es,g1,he, ?_⟩
        split at h
        · rename_i i w hf
          rw [hf]
          simp only
          split at h
          · rename_i e hi
            obtain ⟨h2,h3⟩:=aY h
            have:=aJB h2
            exact ⟨⟨e.2,by rw [hi, ← this]⟩,hk _ (R.put h3 rfl)⟩
          · cases h
        · rename_i hf
          rw [hf]
          exact hk _ (R.put h rfl)
        · cases h
      · cases h
    · cases h
  · cases h
end Go.GAM
namespace Go.GAM
section
variable {P:Program}
def aA6 (e:Env) (s:HS):List (Nat × Operand)→Ev (List (Nat × AV))
 | []=>.ok []
 | (i,x) :: r=>(cOp e s x).bind fun v=>(aA6 e s r).bind fun vs=>.ok ((i,v) :: vs)
theorem sT {e:Env} {s:HS} {H:aA} (R:HR s H):∀ {xs:List (Nat × Operand)} {vs:List (Nat × AV)},aA6 e s xs = .ok vs→(xs.map fun (i,x)=>(i,ev e H x))=vs
 | [],vs,h=>by cases h; rfl
 | (i, x) :: r, vs, h => by
  obtain ⟨v,h1,h2⟩:=Ev.bind_ok h
  obtain ⟨ws,h3,h4⟩:=Ev.bind_ok h2
  cases h4
  rw [List.map_cons,sT R h3]
  simp only
  rw [bM R h1]
theorem vE {e:Env} {H:aA} {xs:List Operand} {a b:AV} (h:xs.map (ev e H)=[a,b]):∃ x y,xs=[x,y]∧ev e H x=a∧ev e H y=b:=by
 match xs,h with
 | [x, y], h =>
  simp only [List.map_cons,List.map_nil,List.cons.injEq,and_true] at h
  exact ⟨x,y,rfl,h.1,h.2⟩
theorem rU {e:Env} {H:aA} {xs:List Operand} {a:AV} (h:xs.map (ev e H)=[a]):∃ x,xs=[x]∧ev e H x=a:=by
 match xs,h with
 | [x], h =>
  simp only [List.map_cons,List.map_nil,List.cons.injEq,and_true] at h
  exact ⟨x,rfl,h⟩
def aEI (P : Program) (o : Oper) (e : Env) (s : HS) : Ev AV :=
 match o.op with
 | .move x | .assign x=>cOp e s x
 | .pick c x y => (cOp e s c).bind fun c => match c with
  | .b true=>cOp e s x
  | .b false=>cOp e s y
  | _=>.no 110
 | .load t x => (cOp e s x).bind fun v => match cX P t with
  | some true=>aBT (P.cellsOf t) v s
  | some false=>aAF v s
  | none=>.no 111
 | .nilCheck x=>(cOp e s x).bind aN5
 | .binOp op t x y _=>(cOp e s x).bind fun a=>(cOp e s y).bind fun b=>aNQ P op t a b
 | .unOp op _ x=>(cOp e s x).bind fun a=>cUn op a
 | .convert src dst x => (cOp e s x).bind fun v =>
  match P.underlying src,P.underlying dst with
  | some _, some (.int k) => match v with
   | .i _ n=>.ok (.i k (k.wrap n))
   | _=>.no 112
  | some .string, some .string => match v with
   | .s _=>.ok v
   | _=>.no 113
  | some (.slice el), some .string => match P.underlying el with
   | some (.int .u8)=>zQ v s
   | _=>.no 114
  | some (.pointer t),some .unsafePointer=>bif Nat.beq (P.cellsOf t) 0 then .no 115 else aAG v s
  | some .unsafePointer,some (.pointer u)=>bif (P.info? u).isSome then oJ P u v s else .no 116
  | _,_=>.no 117
 | .makeInterface t x => (cOp e s x).bind fun v => match P.underlying t with
  | none=>.no 118
  | some d => match d with
   | .interface _=>.no 118
   | _=>.ok (.ifc t v)
 | .makeFunc fn first cap=>(p8 e s first.toList).bind fun a=>(p8 e s cap.toList).bind fun b=>.ok (.fn fn a b)
 | .slice t x lo hi mx => (cOp e s x).bind fun v => (aM1 e s lo).bind fun lo => (aM1 e s hi).bind fun hi =>
  match P.underlying t with
  | some .string => match mx with
   | none=>tJ v lo hi
   | some _=>.no 119
  | some (.slice el)=>(aM1 e s mx).bind fun mx=>bif (P.info? el).isSome then xY (P.cellsOf el) v lo hi mx s else .no 120
  | some (.array n el) => match mx with
   | none=>bif (P.info? el).isSome then sF n (P.cellsOf el) v lo hi s else .no 121
   | some _=>.no 122
  | _=>.no 123
 | .fieldAddr t x f => (cOp e s x).bind fun v =>
  match P.underlying t with
  | some (.struct fs) => match fs[f]? with
   | some fl=>bif Nat.beq (P.cellsOf fl.type) 0 then .no 124 else pS fl.offset v
   | none=>.no 125
  | _=>.no 126
 | .field t x f => (cOp e s x).bind fun v =>
  match P.underlying t with
  | some (.struct fs) => match fs[f]? with
   | some fl => match cX P fl.type with
    | some true=>aAH fl.offset (P.cellsOf fl.type) v
    | some false=>aBP fl.offset v
    | none=>.no 127
   | none=>.no 128
  | _=>.no 129
 | .indexAddr t x ix => (cOp e s x).bind fun v => (cOp e s ix).bind fun i =>
  match P.underlying t with
  | some (.slice el)=>bif (P.info? el).isSome then aEA (P.cellsOf el) v i s else .no 130
  | some (.array n el)=>bif (P.info? el).isSome then aA2 n (P.cellsOf el) v i else .no 131
  | _=>.no 132
 | .index t x ix => (cOp e s x).bind fun v => (cOp e s ix).bind fun i =>
  match P.underlying t with
  | some .string=>aBI v i
  | some (.array n el) => match cX P el with
   | some false=>bif Nat.beq (P.cellsOf el) 1 then yA n v i else .no 133
   | _=>.no 134
  | _=>.no 135
 | .build t parts => (aA6 e s parts.toList).bind fun vs =>
  match eA P t,qX P t vs with
  | some zs,some ps=>aE3 zs ps
  | _,_=>.no 136
 | .extract x i=>(cOp e s x).bind fun v=>wL i v
 | .lookup t x ix ok => (cOp e s x).bind fun v => (cOp e s ix).bind fun i =>
  match P.underlying t with
  | some (.map kt el)=>bif yO P kt then aF0 P kt el ok v i s else .no 137
  | _=>.no 138
 | .call { callee := .builtin .len, args, argTypes } => (p8 e s args.toList).bind fun vs =>
  match (argTypes[0]?).bind P.underlying with
  | some .string => match vs with
   | [.s l]=>.ok (.i .i64 (l.length:Nat))
   | _=>.no 139
  | some (.slice _) => match vs with
   | [.sl _ n _]=>.ok (.i .i64 n)
   | _=>.no 140
  | some (.array n _) => match vs with
   | [_]=>.ok (.i .i64 n)
   | _=>.no 141
  | _=>.no 142
 | .call { callee:=.builtin .min,args,.. }=>(p8 e s args.toList).bind fun vs=>cMM false vs
 | .call { callee:=.builtin .max,args,.. }=>(p8 e s args.toList).bind fun vs=>cMM true vs
 | _=>.no 143
theorem aBQ {o : Oper} {e : Env} {s : HS} {H : aA} {v : AV} {K : AV → Prop} (R : HR s H) (h : aEI P o e s = .ok v) (hk : K v) : bL P o e H K := by
 unfold aEI at h
 unfold bL
 generalize o.op=op at h ⊢
 split at h
 ·simp only; rw [bM R h]; exact hk
 ·simp only; rw [bM R h]; exact hk
 ·obtain ⟨c, h1, h⟩ := Ev.bind_ok h
  show aM8 _ _ _ K
  rw [bM R h1]
  split at h
  ·show K _; rw [bM R h]; exact hk
  ·show K _; rw [bM R h]; exact hk
  ·cases h
 ·obtain ⟨a, h1, h⟩ := Ev.bind_ok h
  simp only
  rw [bM R h1]
  split at h
  ·rename_i e2; rw [e2]; exact zL R h hk
  ·rename_i e2; rw [e2]; exact zJ R h hk
  ·cases h
 ·obtain ⟨a, h1, h⟩ := Ev.bind_ok h
  simp only; rw [bM R h1]; exact aMR h hk
 ·obtain ⟨a, h1, h⟩ := Ev.bind_ok h
  obtain ⟨b,h2,h⟩:=Ev.bind_ok h
  simp only; rw [bM R h1,bM R h2]; exact aL8 h hk
 ·obtain ⟨a, h1, h⟩ := Ev.bind_ok h
  simp only; rw [bM R h1]; exact aNM h hk
 ·obtain ⟨a, h1, h⟩ := Ev.bind_ok h
  simp only
  rw [bM R h1]
  split at h
  ·rename_i e1 e2
   simp only [e1,e2]
   split at h
   ·cases h; exact hk
   ·cases h
  ·rename_i e1 e2
   simp only [e1,e2]
   split at h
   ·cases h; exact hk
   ·cases h
  ·rename_i e1 e2
   simp only [e1,e2]
   split at h
   ·rename_i e3
    simp only [e3]
    exact aA9 R h hk
   ·cases h
  ·rename_i e1 e2
   simp only [e1,e2]
   cases hc:Nat.beq (P.cellsOf _) 0 with
   | true=>rw [hc] at h; cases h
   | false=>rw [hc] at h; exact aEJ R h hk
  ·rename_i e1 e2
   simp only [e1,e2]
   obtain ⟨h3,h4⟩:=cE h
   rw [h3]; exact wH R h4 hk
  ·cases h
 ·obtain ⟨a, h1, h⟩ := Ev.bind_ok h
  simp only
  rw [bM R h1]
  split at h
  ·cases h
  ·rename_i d e1
   rw [e1]
   cases d <;> first | (cases h; done) | (cases h; exact hk)
 ·obtain ⟨a, h1, h⟩ := Ev.bind_ok h
  obtain ⟨b,h2,h⟩:=Ev.bind_ok h
  cases h
  simp only
  rw [dM R h1,dM R h2]; exact hk
 ·obtain ⟨a, h1, h⟩ := Ev.bind_ok h
  obtain ⟨lo,h2,h⟩:=Ev.bind_ok h
  obtain ⟨hi,h3,h⟩:=Ev.bind_ok h
  simp only
  rw [bM R h1,aAV R h2,aAV R h3]
  split at h
  ·rename_i e1
   simp only [e1]
   split at h
   ·exact aBK h hk
   ·cases h
  ·rename_i e1
   simp only [e1]
   obtain ⟨mx,h4,h⟩:=Ev.bind_ok h
   obtain ⟨h5,h6⟩:=cE h
   rw [aAV R h4,h5]; exact aCO R h6 hk
  ·rename_i e1
   simp only [e1]
   split at h
   ·obtain ⟨h5, h6⟩ := cE h
    simp only [h5,cond_true]; exact aBF R h6 hk
   ·cases h
  ·cases h
 ·obtain ⟨a, h1, h⟩ := Ev.bind_ok h
  simp only
  rw [bM R h1]
  split at h
  ·rename_i e1
   simp only [e1]
   split at h
   ·rename_i fl e2
    simp only [e2]
    cases hc:Nat.beq (P.cellsOf fl.type) 0 with
    | true=>rw [hc] at h; cases h
    | false=>rw [hc] at h; exact yJ h hk
   ·cases h
  ·cases h
 ·obtain ⟨a, h1, h⟩ := Ev.bind_ok h
  simp only
  rw [bM R h1]
  split at h
  ·rename_i e1
   simp only [e1]
   split at h
   ·rename_i fl e2
    simp only [e2]
    split at h
    ·rename_i e3; simp only [e3]; exact aET h hk
    ·rename_i e3; simp only [e3]; exact aDU h hk
    ·cases h
   ·cases h
  ·cases h
 ·obtain ⟨a, h1, h⟩ := Ev.bind_ok h
  obtain ⟨b,h2,h⟩:=Ev.bind_ok h
  simp only
  rw [bM R h1,bM R h2]
  split at h
  ·rename_i e1
   simp only [e1]
   obtain ⟨h5,h6⟩:=cE h
   rw [h5]; exact aGP R h6 hk
  ·rename_i e1
   simp only [e1]
   obtain ⟨h5,h6⟩:=cE h
   rw [h5]; exact aE0 h6 hk
  ·cases h
 ·obtain ⟨a, h1, h⟩ := Ev.bind_ok h
  obtain ⟨b,h2,h⟩:=Ev.bind_ok h
  simp only
  rw [bM R h1,bM R h2]
  split at h
  ·rename_i e1
   simp only [e1]
   exact aD3 h hk
  ·rename_i e1
   simp only [e1]
   split at h
   ·rename_i e3
    simp only [e3]
    obtain ⟨h5,h6⟩:=cE h
    rw [h5]; exact aDJ h6 hk
   ·cases h
  ·cases h
 ·obtain ⟨vs, h1, h⟩ := Ev.bind_ok h
  simp only
  rw [sT R h1]
  split at h
  ·rename_i e1 e2
   simp only [e1,e2]
   exact aGU h hk
  ·cases h
 ·obtain ⟨a, h1, h⟩ := Ev.bind_ok h
  simp only
  rw [bM R h1]; exact aCA h hk
 ·obtain ⟨a, h1, h⟩ := Ev.bind_ok h
  obtain ⟨b,h2,h⟩:=Ev.bind_ok h
  simp only
  rw [bM R h1,bM R h2]
  split at h
  ·rename_i e1
   simp only [e1]
   obtain ⟨h5,h6⟩:=cE h
   rw [h5]; exact aEV R h6 hk
  ·cases h
 ·obtain ⟨vs, h1, h⟩ := Ev.bind_ok h
  have h1:=dM R h1
  simp only
  split at h
  ·rename_i e1
   simp only [e1]
   split at h
   ·cases h
    obtain ⟨x,e3,e4⟩:=rU h1
    simp only [e3]
    rw [e4]; exact hk
   ·cases h
  ·rename_i e1
   simp only [e1]
   split at h
   ·cases h
    obtain ⟨x,e3,e4⟩:=rU h1
    simp only [e3]
    rw [e4]; exact hk
   ·cases h
  ·rename_i e1
   simp only [e1]
   split at h
   ·cases h
    obtain ⟨x,e3,e4⟩:=rU h1
    simp only [e3]
    exact hk
   ·cases h
  ·cases h
 ·obtain ⟨vs, h1, h⟩ := Ev.bind_ok h
  simp only
  rw [dM R h1]; exact aLA h hk
 ·obtain ⟨vs, h1, h⟩ := Ev.bind_ok h
  simp only
  rw [dM R h1]; exact aLA h hk
 ·cases h
abbrev jN:=FuncId→List AV→HS→EvS
def aBE (R:jN) (f:FuncId) (args:List AV) (s:HS):EvS:=bif Nat.blt f yid0 then R f args s else .no 150
def aFE (R:jN) (f:AV) (args:List AV) (s:HS):EvS:=match f with
 | .fn (.func f) first cap=>aBE R f (first++args++cap) s
 | _=>.no 151
def aKS (x:Ev HS):EvS:=x.bind fun s=>.ok (.tu [],s)
def aOG (P : Program) (R : jN) (o : Oper) (e : Env) (s : HS) : EvS :=
 match o.op with
 | .alloc t => match eA P t with
  | some zs=>aKC (tyS P t) zs s
  | none=>.no 152
 | .box t x=>(cOp e s x).bind fun v=>aPD (tyS P t) v s
 | .buildSlice t len parts => (aA6 e s parts.toList).bind fun vs =>
  match P.underlying t with
  | some (.slice el) => match eA P el with
   | some zs=>bif Nat.blt 0 (P.cellsOf el)&&Nat.ble (len * P.cellsOf el) 16777216&&Nat.beq zs.length (P.cellsOf el) then
     wZ (P.cellsOf el) len (List.replicate len zs).flatten (vs.map fun (i,v)=>(i * P.cellsOf el,P.cellsOf el,v)) s else .no 153
   | none=>.no 154
  | _=>.no 155
 | .store t a x => (cOp e s a).bind fun a => (cOp e s x).bind fun x => match cX P t with
  | some _=>aKS (aDT (P.cellsOf t) a x s)
  | none=>.no 156
 | .makeSlice t l c => (cOp e s l).bind fun l => (cOp e s c).bind fun c =>
  match P.underlying t with
  | some (.slice el) => match eA P el with
   | some zs=>aK1 (P.cellsOf el) (P.bytesOf el) zs l c s
   | none=>.no 157
  | _=>.no 158
 | .convert src dst x => (cOp e s x).bind fun v =>
  match P.underlying src,P.underlying dst with
  | some .string, some (.slice el) => match P.underlying el with
   | some (.int .u8)=>sY v s
   | _=>.no 159
  | _,_=>.no 160
 | .call { callee := .builtin .append, args, argTypes } => (p8 e s args.toList).bind fun vs =>
  match (argTypes[0]?).bind P.underlying,(argTypes[1]?).bind P.underlying,vs with
  | some (.slice el),some (.slice _),[x,y]=>bif qC P el then aAK (tyB P el) (P.cellsOf el) (P.bytesOf el) x y s else .no 161
  | some (.slice el),some .string,[x,y]=>bif qC P el then aAK (tyB P el) (P.cellsOf el) (P.bytesOf el) x y s else .no 162
  | _,_,_=>.no 163
 | .call { callee := .builtin .copy, args, argTypes } => (p8 e s args.toList).bind fun vs =>
  match (argTypes[0]?).bind P.underlying,vs with
  | some (.slice el),[x,y]=>bif (P.info? el).isSome then aNB (P.cellsOf el) x y s else .no 164
  | _,_=>.no 165
 | .makeMap t none => match P.underlying t with
  | some (.map _ _)=>aDH s
  | _=>.no 166
 | .mapUpdate t m k x | .insert t m k x => (cOp e s m).bind fun m => (cOp e s k).bind fun k => (cOp e s x).bind fun x => match P.underlying t with
  | some (.map kt _)=>bif yO P kt then aKS (aBG P kt m k x s) else .no 167
  | _=>.no 168
 | .call { callee := .builtin .unsafeSliceData, args, .. } => (p8 e s args.toList).bind fun vs => match vs with
  | [x]=>p9 x s
  | _=>.no 169
 | .call { callee := .builtin .cap, args, argTypes } => (p8 e s args.toList).bind fun vs => match (argTypes[0]?).bind P.underlying, vs with
  | some (.slice el),[x]=>aNP (P.cellsOf el) x s
  | _,_=>.no 186
 | .call { callee := .builtin .unsafeString, args, argTypes } => (p8 e s args.toList).bind fun vs => match argTypes.toList, vs with
  | [pt,_],[x,n]=>bif aON P pt then vR P x n s else .no 170
  | _,_=>.no 171
 | .call { callee:=.builtin _,.. }=>.no 172
 | .call { callee := .invoke r name, args, .. } => (cOp e s r).bind fun x => (p8 e s args.toList).bind fun vs => match x with
  | .ifc t v => match aKN P t name with
   | some f=>aBE R f (v :: vs) s
   | none=>.no 173
  | _=>.no 174
 | .call { callee:=.value (.func f),args,.. }=>(p8 e s args.toList).bind fun vs=>aBE R f vs s
 | .call { callee:=.value f,args,.. }=>(cOp e s f).bind fun f=>(p8 e s args.toList).bind fun vs=>aFE R f vs s
 | _=>.no 175
def jP (RC:jN) (RA:aO):Prop:=∀ (f:FuncId) (args:List AV) (s:HS) (H:aA) (r:AV × HS) (K:AV→aA→Prop),HR s H→RC f args s = .ok r→(∀ H',HR r.2 H'→K r.1 H')→RA f args H K
theorem sR {RC:jN} {RA:aO} (hR:jP RC RA) {f:FuncId} {args:List AV} {s:HS} {H:aA} {r:AV × HS} {K:AV→aA→Prop} (R:HR s H) (h:aBE RC f args s = .ok r) (hk:∀ H',HR r.2 H'→K r.1 H'):mN RA f args H K:=by
 obtain ⟨h1,h2⟩:=cE h
 unfold mN
 rw [h1]; exact hR _ _ _ _ _ _ R h2 hk
theorem vZ {x:Ev HS} {r:AV × HS} (h:aKS x = .ok r):∃ s,x = .ok s∧r=(.tu [],s):=by
 obtain ⟨s,h1,h2⟩:=Ev.bind_ok h
 cases h2
 exact ⟨s,h1,rfl⟩
theorem aL7 {RC : jN} {RA : aO} (hR : jP RC RA) {o : Oper} {e : Env} {s : HS} {H : aA} {r : AV × HS} {K : AV → aA → Prop} (R : HR s H) (h : aOG P RC o e s = .ok r) (hk : ∀ H', HR r.2 H' → K r.1 H') : dL P RA o e H K := by
 unfold aOG at h
 unfold dL
 generalize o.op=op at h ⊢
 split at h
 ·simp only
  split at h
  ·rename_i e1; simp only [e1]; exact aG0 R h hk
  ·cases h
 ·obtain ⟨a, h1, h⟩ := Ev.bind_ok h
  simp only; rw [bM R h1]; exact aM3 R h hk
 ·obtain ⟨vs, h1, h⟩ := Ev.bind_ok h
  simp only
  split at h
  ·rename_i e1
   simp only [e1]
   split at h
   ·rename_i e2
    simp only [e2]
    obtain ⟨h3,h4⟩:=cE h
    rw [h3]
    have:=sT R h1
    rename_i t len parts _ _ el _ zs
    have e3:(parts.toList.map fun (i,x)=>(i * P.cellsOf el,P.cellsOf el,ev e H x))=vs.map fun (i,v)=>(i * P.cellsOf el,P.cellsOf el,v):=by
     rw [← this,List.map_map] <;> rfl
    simp only [cond_true]
    rw [e3]
    exact aC9 R h4 hk
   ·cases h
  ·cases h
 ·obtain ⟨a, h1, h⟩ := Ev.bind_ok h
  obtain ⟨b,h2,h⟩:=Ev.bind_ok h
  simp only
  rw [bM R h1,bM R h2]
  split at h
  ·rename_i e1
   simp only [e1]
   obtain ⟨s',h3,rfl⟩:=vZ h
   exact aH6 R h3 hk
  ·cases h
 ·obtain ⟨a, h1, h⟩ := Ev.bind_ok h
  obtain ⟨b,h2,h⟩:=Ev.bind_ok h
  simp only
  rw [bM R h1,bM R h2]
  split at h
  ·rename_i e1
   simp only [e1]
   split at h
   ·rename_i e2; simp only [e2]; exact aIS R h hk
   ·cases h
  ·cases h
 ·obtain ⟨a, h1, h⟩ := Ev.bind_ok h
  simp only
  rw [bM R h1]
  split at h
  ·rename_i e1 e2
   simp only [e1,e2]
   split at h
   ·rename_i e3; simp only [e3]; exact aA5 R h hk
   ·cases h
  ·cases h
 ·obtain ⟨vs, h1, h⟩ := Ev.bind_ok h
  have h1:=dM R h1
  simp only
  split at h
  ·rename_i e1 e2 _
   obtain ⟨x,y,e3,e4,e5⟩:=vE h1
   simp only [e1,e2,e3]
   obtain ⟨h3,h4⟩:=cE h
   rw [h3,e4,e5]; exact yB R h4 hk
  ·rename_i e1 e2 _
   obtain ⟨x,y,e3,e4,e5⟩:=vE h1
   simp only [e1,e2,e3]
   obtain ⟨h3,h4⟩:=cE h
   rw [h3,e4,e5]; exact yB R h4 hk
  ·cases h
 ·obtain ⟨vs, h1, h⟩ := Ev.bind_ok h
  have h1:=dM R h1
  simp only
  split at h
  ·rename_i e1 _
   obtain ⟨x,y,e3,e4,e5⟩:=vE h1
   simp only [e1,e3]
   obtain ⟨h3,h4⟩:=cE h
   rw [h3,e4,e5]; exact aJS R h4 hk
  ·cases h
 ·simp only
  split at h
  ·rename_i e1; simp only [e1]; exact aB1 R h hk
  ·cases h
 ·obtain ⟨m, h1, h⟩ := Ev.bind_ok h
  obtain ⟨k,h2,h⟩:=Ev.bind_ok h
  obtain ⟨x,h3,h⟩:=Ev.bind_ok h
  simp only
  rw [bM R h1,bM R h2,bM R h3]
  split at h
  ·rename_i e1
   simp only [e1]
   obtain ⟨h4,h5⟩:=cE h
   obtain ⟨s',h6,rfl⟩:=vZ h5
   rw [h4]; exact xV R h6 hk
  ·cases h
 ·obtain ⟨m, h1, h⟩ := Ev.bind_ok h
  obtain ⟨k,h2,h⟩:=Ev.bind_ok h
  obtain ⟨x,h3,h⟩:=Ev.bind_ok h
  simp only
  rw [bM R h1,bM R h2,bM R h3]
  split at h
  ·rename_i e1
   simp only [e1]
   obtain ⟨h4,h5⟩:=cE h
   obtain ⟨s',h6,rfl⟩:=vZ h5
   rw [h4]; exact xV R h6 hk
  ·cases h
 ·obtain ⟨vs, h1, h⟩ := Ev.bind_ok h
  have h1:=dM R h1
  simp only
  split at h
  ·obtain ⟨x, e3, e4⟩ := rU h1
   simp only [e3]
   rw [e4]; exact yS R h hk
  ·cases h
 ·obtain ⟨vs, h1, h⟩ := Ev.bind_ok h
  have h1:=dM R h1
  simp only
  split at h
  ·rename_i e2 _
   obtain ⟨x,e3,e4⟩:=rU h1
   simp only [e2,e3]
   rw [e4]; exact aLK R h hk
  ·cases h
 ·obtain ⟨vs, h1, h⟩ := Ev.bind_ok h
  have h1:=dM R h1
  simp only
  split at h
  ·rename_i e1 _
   obtain ⟨x,y,e3,e4,e5⟩:=vE h1
   simp only [e1,e3]
   obtain ⟨h3,h4⟩:=cE h
   rw [h3,e4,e5]; exact aCP R h4 hk
  ·cases h
 ·cases h
 ·obtain ⟨x, h1, h⟩ := Ev.bind_ok h
  obtain ⟨vs,h2,h⟩:=Ev.bind_ok h
  simp only
  rw [bM R h1,dM R h2]
  split at h
  ·split at h
   ·rename_i e1
    unfold vH
    simp only [e1]
    exact sR hR R h hk
   ·cases h
  ·cases h
 ·obtain ⟨vs, h2, h⟩ := Ev.bind_ok h
  simp only
  rw [dM R h2]
  exact sR hR R h hk
 ·obtain ⟨x, h1, h⟩ := Ev.bind_ok h
  obtain ⟨vs,h2,h⟩:=Ev.bind_ok h
  simp only
  rw [bM R h1,dM R h2]
  unfold aFE at h
  split at h
  ·exact sR hR R h hk
  ·cases h
 ·cases h
end
end Go.GAM
