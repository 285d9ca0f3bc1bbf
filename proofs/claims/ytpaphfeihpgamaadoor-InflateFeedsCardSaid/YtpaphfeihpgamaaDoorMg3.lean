/- Lemmas (several texts in one). -/
import Derived.Test.YtpaphfeihpgamaaDoorMg2
set_option linter.unusedVariables false
set_option linter.unusedSectionVars false
set_option maxRecDepth 100000
namespace Go.Proofs.YtpaphfeihpgamaaDoor
open Go.GAM
variable [XR]
noncomputable def Y16.body:Code:=(Tryd.f50.body).getD .skip
def Y16.ann:Ann:=(sl [0] (sq [0] (sl [0,3] (.seq 1 [0,15] lf (.br (sl [2] lf) lf))) (sl [0,4] (sl [0,4,5] (sq [5] (sl [4,5,22,23,24] (.one (.loop 2 [4,5,22,23,24] (sl [4,5,22,23,24,25] (sq [4,5,22,23,24] bl (.seq 3 [4,5,22,23,24] (.one (sl [4,5,6,7,22,23,24] (sl [4,5,6,7,22,23,24,30] (.br (sl [4,5,7,22,23,24] lf) lf)))) lf)))))) (sl [2] lf))))))
theorem Y16.dist:aI (places Y16.ann Y16.body)=true:=by kernel_rfl
noncomputable def Y16.J (Q:AV→aA→Prop):JT:=bH prog C Tryd.f50 Y16.ann Y16.body Q
def Y16.p0 (Q:AV→aA→Prop) (x0:AV) (x15:Bool) (h:aA):Prop:=Y16.J Q 1 [(0,x0),(15,(AV.b x15))] h
def Y16.p2 (Q:AV→aA→Prop) (x4 x5 x22:AV) (x23 x24:Int) (h:aA):Prop:=Y16.J Q 3 [(4,x4),(5,x5),(22,x22),(23,(AV.i .i64 x23)),(24,(AV.i .i64 x24))] h
def Y16.p1 (Q:AV→aA→Prop) (x4 x5 x22:AV) (x23 x24:Int) (h:aA):Prop:=Y16.J Q 2 [(4,x4),(5,x5),(22,x22),(23,(AV.i .i64 x23)),(24,(AV.i .i64 x24))] h
def Y16.t0 (Q:AV→aA→Prop) (x0:AV) (x15:Bool) (h:aA) (J:JT):Prop:=
(bif x15 then
(Q (AV.sl none 0 none) h)
else
(C Y14.id [x0] h fun v9 h10=>
kO 16 16 v9 fun v11=>
dF none [(AV.i .i64 0),(AV.i .i64 0),(AV.i .i64 0),(AV.i .i64 0),(AV.i .i64 0),(AV.i .i64 0),(AV.i .i64 0),(AV.i .i64 0),(AV.i .i64 0),(AV.i .i64 0),(AV.i .i64 0),(AV.i .i64 0),(AV.i .i64 0),(AV.i .i64 0),(AV.i .i64 0),(AV.i .i64 0)] h10 fun v12 h13=>
aT 16 v12 v11 h13 fun h14=>
bK x0 fun n16=>
nB 1 8 [(AV.i .i64 0)] (AV.i .i64 n16) (AV.i .i64 n16) h14 fun v17 h18=>
bK x0 fun n20=>
J 2 [(4,v12),(5,v17),(22,x0),(23,(AV.i .i64 n20)),(24,(AV.i .i64 0))] h18))
theorem Y16.i0 {Q x0 x15 h} (H:Y16.t0 Q x0 x15 h (Y16.J Q)):Y16.p0 Q x0 x15 h:=gR Y16.J Tryd.f50 Y16.dist [1,0,1,1] H
def Y16.t2 (Q:AV→aA→Prop) (x4 x5 x22:AV) (x23 x24:Int) (h:aA) (J:JT):Prop:=
aJ (IntKind.wrap .i64 (x24+1)) fun n44=>
J 2 [(4,x4),(5,x5),(22,x22),(23,(AV.i .i64 x23)),(24,(AV.i .i64 n44))] h
theorem Y16.i2 {Q x4 x5 x22 x23 x24 h} (H:Y16.t2 Q x4 x5 x22 x23 x24 h (Y16.J Q)):Y16.p2 Q x4 x5 x22 x23 x24 h:=gR Y16.J Tryd.f50 Y16.dist [1,1,1,1,0,1,0,0,1,1,1] H
def Y16.t1 (Q:AV→aA→Prop) (x4 x5 x22:AV) (x23 x24:Int) (h:aA) (J:JT):Prop:=
(bif (decide ((x24:Int)<x23)) then
(aN 1 x22 (AV.i .i64 x24) h fun v25=>
aD v25 h fun v26=>
asI .i64 v26 fun n27=>
(bif (decide ((0:Int)<n27)) then
(bM 16 1 x4 (AV.i .i64 n27) fun v30=>
aD v30 h fun v31=>
asI .i64 v31 fun n32=>
aN 1 x5 (AV.i .i64 x24) h fun v33=>
aT 1 v33 (AV.i .i64 n32) h fun h34=>
bM 16 1 x4 (AV.i .i64 n27) fun v36=>
aD v36 h34 fun v37=>
asI .i64 v37 fun n38=>
aJ (IntKind.wrap .i64 (n38+1)) fun n39=>
bM 16 1 x4 (AV.i .i64 n27) fun v40=>
aT 1 v40 (AV.i .i64 n39) h34 fun h41=>
J 3 [(4,x4),(5,x5),(22,x22),(23,(AV.i .i64 x23)),(24,(AV.i .i64 x24))] h41)
else
(J 3 [(4,x4),(5,x5),(22,x22),(23,(AV.i .i64 x23)),(24,(AV.i .i64 x24))] h)))
else
(Q x5 h))
theorem Y16.i1 {Q x4 x5 x22 x23 x24 h} (H:Y16.t1 Q x4 x5 x22 x23 x24 h (Y16.J Q)):Y16.p1 Q x4 x5 x22 x23 x24 h:=gH Y16.J Tryd.f50 Y16.dist [1,1,1,1,0,1,0] H
def Y16.t (Q:AV→aA→Prop) (x0:AV) (h:aA) (J:JT):Prop:=
C Y10.id [x0] h fun v1 h2=>
asI .i64 v1 fun n3=>
(bif (!decide ((n3:Int)=0)) then
(J 1 [(0,x0),(15,(AV.b (!decide ((n3:Int)=1))))] h2)
else
(J 1 [(0,x0),(15,(AV.b false))] h2))
theorem Y16.call {K x0 h} (H:Y16.t (aH h K) x0 h (Y16.J (aH h K))):C Y16.id [x0] h K:=
 gC Y16.J Tryd.func50 Y16.dist H
noncomputable def Y33.body:Code:=(Tryd.f51.body).getD .skip
def Y33.ann:Ann:=(sl [0,1,3,8] (.one (.loop 1 [0,1,3,8] (sq [0,1,3,8] (sl [0,1,3,8,15] bl) (sq [0,1,3,8] (.one lf) lf)))))
theorem Y33.dist:aI (places Y33.ann Y33.body)=true:=by kernel_rfl
noncomputable def Y33.J (Q:AV→aA→Prop):JT:=bH prog C Tryd.f51 Y33.ann Y33.body Q
def Y33.p0 (Q:AV→aA→Prop) (x0 x1:AV) (x3 x8:Int) (h:aA):Prop:=Y33.J Q 1 [(0,x0),(1,x1),(3,(AV.i .i64 x3)),(8,(AV.i .i64 x8))] h
def Y33.t0 (Q:AV→aA→Prop) (x0 x1:AV) (x3 x8:Int) (h:aA) (J:JT):Prop:=
(bif (decide ((0:Int)≤x8)) then
(aN 1 x1 (AV.i .i64 x3) h fun v7=>
aD v7 h fun v8=>
asI .i64 v8 fun n9=>
kZ .i64 n9 x8 fun n10=>
C Y19.id [x0,(AV.i .i64 (bO .and .i64 n10 1)),(AV.i .i64 1)] h fun v11 h12=>
aJ (IntKind.wrap .i64 (x8 - 1)) fun n14=>
J 1 [(0,x0),(1,x1),(3,(AV.i .i64 x3)),(8,(AV.i .i64 n14))] h12)
else
(Q (AV.tu []) h))
theorem Y33.i0 {Q x0 x1 x3 x8 h} (H:Y33.t0 Q x0 x1 x3 x8 h (Y33.J Q)):Y33.p0 Q x0 x1 x3 x8 h:=gH Y33.J Tryd.f51 Y33.dist [1,0] H
def Y33.t (Q:AV→aA→Prop) (x0 x1 x2:AV) (x3:Int) (h:aA) (J:JT):Prop:=
aN 1 x2 (AV.i .i64 x3) h fun v0=>
aD v0 h fun v1=>
asI .i64 v1 fun n2=>
aJ (IntKind.wrap .i64 (n2 - 1)) fun n3=>
J 1 [(0,x0),(1,x1),(3,(AV.i .i64 x3)),(8,(AV.i .i64 n3))] h
theorem Y33.call {K x0 x1 x2 x3 h} (H:Y33.t (aH h K) x0 x1 x2 x3 h (Y33.J (aH h K))):C Y33.id [x0,x1,x2,(AV.i .i64 x3)] h K:=
 gC Y33.J Tryd.func51 Y33.dist H
noncomputable def Y55.body:Code:=(Tryd.f52.body).getD .skip
def Y55.ann:Ann:=(sl [0,1,2] (sq [0,2] (sl [0,1,2,9] (.br (sl [6] lf) lf)) (sq [0] (sl [0,2,13] (.br (sl [6] lf) lf)) (sl [6] lf))))
theorem Y55.dist:aI (places Y55.ann Y55.body)=true:=by kernel_rfl
noncomputable def Y55.J (Q:AV→aA→Prop):JT:=bH prog C Tryd.f52 Y55.ann Y55.body Q
def Y55.t (Q:AV→aA→Prop) (x0 x1 x2:Int) (h:aA) (J:JT):Prop:=
(bif (decide ((x0:Int)<x1)) then
(Q (AV.i .i64 x1) h)
else
((bif (decide ((x2:Int)<x0)) then
(Q (AV.i .i64 x2) h)
else
(Q (AV.i .i64 x0) h))))
theorem Y55.call {K x0 x1 x2 h} (H:Y55.t (aH h K) x0 x1 x2 h (Y55.J (aH h K))):C Y55.id [(AV.i .i64 x0),(AV.i .i64 x1),(AV.i .i64 x2)] h K:=
 gC Y55.J Tryd.func52 Y55.dist H
noncomputable def Y24.body:Code:=(Tryd.f53.body).getD .skip
def Y24.ann:Ann:=(sl [0] (.seq 1 [2] lf lf))
theorem Y24.dist:aI (places Y24.ann Y24.body)=true:=by kernel_rfl
noncomputable def Y24.J (Q:AV→aA→Prop):JT:=bH prog C Tryd.f53 Y24.ann Y24.body Q
def Y24.p0 (Q:AV→aA→Prop) (x2:Bool) (h:aA):Prop:=Y24.J Q 1 [(2,(AV.b x2))] h
def Y24.t0 (Q:AV→aA→Prop) (x2:Bool) (h:aA) (J:JT):Prop:=
Q (AV.b x2) h
theorem Y24.i0 {Q x2 h} (H:Y24.t0 Q x2 h (Y24.J Q)):Y24.p0 Q x2 h:=gR Y24.J Tryd.f53 Y24.dist [1,1] H
def Y24.t (Q:AV→aA→Prop) (x0:AV) (h:aA) (J:JT):Prop:=
aS x0 fun v1=>
aB 5 v1 fun v2=>
aD v2 h fun v3=>
asB v3 fun c4=>
(bif c4 then
(J 1 [(2,(AV.b true))] h)
else
(aS x0 fun v6=>
aB 6 v6 fun v7=>
aD v7 h fun v8=>
asI .i64 v8 fun n9=>
J 1 [(2,(AV.b (!decide ((n9:Int)=0))))] h))
theorem Y24.call {K x0 h} (H:Y24.t (aH h K) x0 h (Y24.J (aH h K))):C Y24.id [x0] h K:=
 gC Y24.J Tryd.func53 Y24.dist H
noncomputable def Y26.body:Code:=(Tryd.f54.body).getD .skip
def Y26.ann:Ann:=(sl [0] (sq [0] (.seq 1 [0,18] (.ord (.neu 0 (.eff 1 (nn 2 13 .done) .stop))) (.br (.seq 2 [] lf (sl [2] lf)) lf)) (sq [0,3] (.ord (nn 0 20 .done)) (sl [3] (sl [2] lf)))))
theorem Y26.dist:aI (places Y26.ann Y26.body)=true:=by kernel_rfl
noncomputable def Y26.J (Q:AV→aA→Prop):JT:=bH prog C Tryd.f54 Y26.ann Y26.body Q
def Y26.p1 (Q:AV→aA→Prop) (h:aA):Prop:=Y26.J Q 2 [] h
def Y26.p0 (Q:AV→aA→Prop) (x0:AV) (x18:Bool) (h:aA):Prop:=Y26.J Q 1 [(0,x0),(18,(AV.b x18))] h
def Y26.t1 (Q:AV→aA→Prop) (h:aA) (J:JT):Prop:=
Q (AV.i .i64 0) h
theorem Y26.i1 {Q h} (H:Y26.t1 Q h (Y26.J Q)):Y26.p1 Q h:=gR Y26.J Tryd.f54 Y26.dist [1,0,1,0,1] H
def Y26.t0 (Q:AV→aA→Prop) (x0:AV) (x18:Bool) (h:aA) (J:JT):Prop:=
(bif x18 then
(aS x0 fun v15=>
aB 5 v15 fun v16=>
aD v16 h fun v17=>
asB v17 fun c18=>
(bif c18 then
(aS x0 fun v19=>
aB 5 v19 fun v20=>
aT 1 v20 (AV.b true) h fun h21=>
J 2 [] h21)
else
(aS x0 fun v23=>
aB 6 v23 fun v24=>
aD v24 h fun v25=>
asI .i64 v25 fun n26=>
aS x0 fun v27=>
aB 5 v27 fun v28=>
aT 1 v28 (AV.b (decide ((n26:Int)=0))) h fun h29=>
J 2 [] h29)))
else
(aS x0 fun v33=>
aB 0 v33 fun v34=>
aD v34 h fun v35=>
asS v35 fun l36=>
aS x0 fun v37=>
aB 1 v37 fun v38=>
aD v38 h fun v39=>
asI .i64 v39 fun n40=>
sN .i64 n40 8 fun n41=>
e6 (AV.s l36) (AV.i .i64 n41) fun n42=>
aS x0 fun v43=>
aB 1 v43 fun v44=>
aD v44 h fun v45=>
asI .i64 v45 fun n46=>
vP n46 8 fun n47=>
kZ .i64 (IntKind.wrap .i64 n42) (IntKind.wrap .u64 n47) fun n48=>
aS x0 fun v50=>
aB 1 v50 fun v51=>
aD v51 h fun v52=>
asI .i64 v52 fun n53=>
aJ (IntKind.wrap .i64 (n53+1)) fun n54=>
aS x0 fun v55=>
aB 1 v55 fun v56=>
aT 1 v56 (AV.i .i64 n54) h fun h57=>
Q (AV.i .i64 (bO .and .i64 n48 1)) h57))
theorem Y26.i0 {Q x0 x18 h} (H:Y26.t0 Q x0 x18 h (Y26.J Q)):Y26.p0 Q x0 x18 h:=gR Y26.J Tryd.f54 Y26.dist [1,0,1] H
def Y26.t (Q:AV→aA→Prop) (x0:AV) (h:aA) (J:JT):Prop:=
C Y24.id [x0] h fun v1 h2=>
asB v1 fun c3=>
(bif c3 then
(J 1 [(0,x0),(18,(AV.b true))] h2)
else
(aS x0 fun v5=>
aB 1 v5 fun v6=>
aD v6 h2 fun v7=>
asI .i64 v7 fun n8=>
aS x0 fun v9=>
aB 0 v9 fun v10=>
aD v10 h2 fun v11=>
asS v11 fun l12=>
aJ (IntKind.wrap .i64 (8 * (l12.length:Int))) fun n13=>
J 1 [(0,x0),(18,(AV.b (decide ((n13:Int)≤n8))))] h2))
theorem Y26.call {K x0 h} (H:Y26.t (aH h K) x0 h (Y26.J (aH h K))):C Y26.id [x0] h K:=
 gC Y26.J Tryd.func54 Y26.dist H
noncomputable def Y12.body:Code:=(Tryd.f55.body).getD .skip
def Y12.ann:Ann:=(sl [0,1] (sl [0,1,5] (sq [5] (sl [0,1,5,6] (.one (.loop 1 [0,1,5,6] (sq [0,1,5,6] (sl [0,1,5,6,9] bl) (sq [0,1,5,6] (.one lf) lf))))) (sl [4] lf))))
theorem Y12.dist:aI (places Y12.ann Y12.body)=true:=by kernel_rfl
noncomputable def Y12.J (Q:AV→aA→Prop):JT:=bH prog C Tryd.f55 Y12.ann Y12.body Q
def Y12.p0 (Q:AV→aA→Prop) (x0:AV) (x1 x5 x6:Int) (h:aA):Prop:=Y12.J Q 1 [(0,x0),(1,(AV.i .i64 x1)),(5,(AV.i .i64 x5)),(6,(AV.i .i64 x6))] h
def Y12.t0 (Q:AV→aA→Prop) (x0:AV) (x1 x5 x6:Int) (h:aA) (J:JT):Prop:=
(bif (decide ((x6:Int)<x1)) then
(C Y26.id [x0] h fun v6 h7=>
asI .i64 v6 fun n8=>
jX .i64 n8 (IntKind.wrap .u64 x6) fun n9=>
aJ (IntKind.wrap .i64 (x5+n9)) fun n10=>
aJ (IntKind.wrap .i64 (x6+1)) fun n12=>
J 1 [(0,x0),(1,(AV.i .i64 x1)),(5,(AV.i .i64 n10)),(6,(AV.i .i64 n12))] h7)
else
(Q (AV.i .i64 x5) h))
theorem Y12.i0 {Q x0 x1 x5 x6 h} (H:Y12.t0 Q x0 x1 x5 x6 h (Y12.J Q)):Y12.p0 Q x0 x1 x5 x6 h:=gH Y12.J Tryd.f55 Y12.dist [1,1,0,1,0] H
def Y12.t (Q:AV→aA→Prop) (x0:AV) (x1:Int) (h:aA) (J:JT):Prop:=
J 1 [(0,x0),(1,(AV.i .i64 x1)),(5,(AV.i .i64 0)),(6,(AV.i .i64 0))] h
theorem Y12.call {K x0 x1 h} (H:Y12.t (aH h K) x0 x1 h (Y12.J (aH h K))):C Y12.id [x0,(AV.i .i64 x1)] h K:=
 gC Y12.J Tryd.func55 Y12.dist H
noncomputable def Y4.body:Code:=(Tryd.f56.body).getD .skip
def Y4.ann:Ann:=(sq [0] (.one (.loop 1 [0] (sq [0] (sl [0,10] bl) (.one lf)))) (sl [0,2] (.seq 2 [0,2] (sl [0,2,25] bl) (sl [0,2,3] (.one (.loop 3 [0,2,3] (sq [0,2,3] (.seq 4 [0,2,3,35] lf bl) (sq [0,2,3] (.one (sl [0,2,3,4] lf)) lf))))))))
theorem Y4.dist:aI (places Y4.ann Y4.body)=true:=by kernel_rfl
noncomputable def Y4.J (Q:AV→aA→Prop):JT:=bH prog C Tryd.f56 Y4.ann Y4.body Q
def Y4.p0 (Q:AV→aA→Prop) (x0:AV) (h:aA):Prop:=Y4.J Q 1 [(0,x0)] h
def Y4.p3 (Q:AV→aA→Prop) (x0:AV) (x2 x3:Int) (x35:Bool) (h:aA):Prop:=Y4.J Q 4 [(0,x0),(2,(AV.i .i64 x2)),(3,(AV.i .i64 x3)),(35,(AV.b x35))] h
def Y4.p2 (Q:AV→aA→Prop) (x0:AV) (x2 x3:Int) (h:aA):Prop:=Y4.J Q 3 [(0,x0),(2,(AV.i .i64 x2)),(3,(AV.i .i64 x3))] h
def Y4.p1 (Q:AV→aA→Prop) (x0:AV) (x2:Int) (h:aA):Prop:=Y4.J Q 2 [(0,x0),(2,(AV.i .i64 x2))] h
def Y4.t0 (Q:AV→aA→Prop) (x0:AV) (h:aA) (J:JT):Prop:=
aS x0 fun v0=>
aB 1 v0 fun v1=>
aD v1 h fun v2=>
asI .i64 v2 fun n3=>
vP n3 8 fun n4=>
(bif (!decide ((n4:Int)=0)) then
(aS x0 fun v8=>
aB 1 v8 fun v9=>
aD v9 h fun v10=>
asI .i64 v10 fun n11=>
aJ (IntKind.wrap .i64 (n11+1)) fun n12=>
aS x0 fun v13=>
aB 1 v13 fun v14=>
aT 1 v14 (AV.i .i64 n12) h fun h15=>
J 1 [(0,x0)] h15)
else
(C Y12.id [x0,(AV.i .i64 16)] h fun v17 h18=>
asI .i64 v17 fun n19=>
C Y12.id [x0,(AV.i .i64 16)] h18 fun v21 h22=>
asI .i64 v21 fun n23=>
aJ (IntKind.wrap .i64 (65535 - n19)) fun n24=>
(bif (!decide ((n23:Int)=n24)) then
(C Y39.id [x0] h22 fun v26 h27=>
J 2 [(0,x0),(2,(AV.i .i64 n19))] h27)
else
(J 2 [(0,x0),(2,(AV.i .i64 n19))] h22))))
theorem Y4.i0 {Q x0 h} (H:Y4.t0 Q x0 h (Y4.J Q)):Y4.p0 Q x0 h:=gH Y4.J Tryd.f56 Y4.dist [0,0] H
def Y4.t3 (Q:AV→aA→Prop) (x0:AV) (x2 x3:Int) (x35:Bool) (h:aA) (J:JT):Prop:=
(bif x35 then
(C Y12.id [x0,(AV.i .i64 8)] h fun v37 h38=>
asI .i64 v37 fun n39=>
C Y34.id [x0,(AV.i .u8 (IntKind.wrap .u8 n39))] h38 fun v41 h42=>
aJ (IntKind.wrap .i64 (x3+1)) fun n44=>
J 3 [(0,x0),(2,(AV.i .i64 x2)),(3,(AV.i .i64 n44))] h42)
else
(Q (AV.tu []) h))
theorem Y4.i3 {Q x0 x2 x3 x35 h} (H:Y4.t3 Q x0 x2 x3 x35 h (Y4.J Q)):Y4.p3 Q x0 x2 x3 x35 h:=gR Y4.J Tryd.f56 Y4.dist [1,1,1,1,0,0,0,1] H
def Y4.t2 (Q:AV→aA→Prop) (x0:AV) (x2 x3:Int) (h:aA) (J:JT):Prop:=
(bif (decide ((x3:Int)<x2)) then
(C Y24.id [x0] h fun v31 h32=>
asB v31 fun c33=>
J 4 [(0,x0),(2,(AV.i .i64 x2)),(3,(AV.i .i64 x3)),(35,(AV.b (!c33)))] h32)
else
(J 4 [(0,x0),(2,(AV.i .i64 x2)),(3,(AV.i .i64 x3)),(35,(AV.b false))] h))
theorem Y4.i2 {Q x0 x2 x3 h} (H:Y4.t2 Q x0 x2 x3 h (Y4.J Q)):Y4.p2 Q x0 x2 x3 h:=gH Y4.J Tryd.f56 Y4.dist [1,1,1,1,0] H
def Y4.t1 (Q:AV→aA→Prop) (x0:AV) (x2:Int) (h:aA) (J:JT):Prop:=
J 3 [(0,x0),(2,(AV.i .i64 x2)),(3,(AV.i .i64 0))] h
theorem Y4.i1 {Q x0 x2 h} (H:Y4.t1 Q x0 x2 h (Y4.J Q)):Y4.p1 Q x0 x2 h:=gR Y4.J Tryd.f56 Y4.dist [1,1,1] H
def Y4.t (Q:AV→aA→Prop) (x0:AV) (h:aA) (J:JT):Prop:=
J 1 [(0,x0)] h
theorem Y4.call {K x0 h} (H:Y4.t (aH h K) x0 h (Y4.J (aH h K))):C Y4.id [x0] h K:=
 gC Y4.J Tryd.func56 Y4.dist H
noncomputable def Y2.body:Code:=(Tryd.f57.body).getD .skip
def Y2.ann:Ann:=(sl [0,2,6] (sl [0,6,8] (.one (.loop 1 [0,6,8] (sq [0,6,8] (sl [0,6,8,29] bl) (.one (sl [0,6,8,10] (sq [0,6,8,10] (.seq 2 [0,6,8,10,38] lf bl) (sq [0,6,8,10] (sl [0,6,8,10,40] (.br (sl [0,6,8] lf) lf)) (sq [0,6,8,10] (sl [0,6,8,10,46] (.br (sl [] lf) lf)) (sl [0,6,8,11,12] (sl [0,6,8,11] (sl [0,6,8,11,13] (sq [0,6,8,11,13] (sl [0,6,8,11,13,63] bl) (sq [0,6,8,11,13] (sl [0,6,8,11,13,65] (.br (sl [] lf) lf)) (sl [0,6,8,11,14,15] (sl [0,6,8,11,14] (.seq 3 [0,6,8,11,14] (sl [0,6,8,11,14,84] bl) (sl [0,6,8,11,14,16] (.one (.loop 4 [0,6,8,11,14,16] (sq [0,6,8,11,14,16] (.seq 5 [0,6,8,11,14,16,94] lf bl) (sq [0,6,8,11,14,16] (.one (.ord (nn 0 14 (.eff 14 .done .stop)))) lf)))))))))))))))))))))))
theorem Y2.dist:aI (places Y2.ann Y2.body)=true:=by kernel_rfl
noncomputable def Y2.J (Q:AV→aA→Prop):JT:=bH prog C Tryd.f57 Y2.ann Y2.body Q
def Y2.p1 (Q:AV→aA→Prop) (x0 x6 x8:AV) (x10:Int) (x38:Bool) (h:aA):Prop:=Y2.J Q 2 [(0,x0),(6,x6),(8,x8),(10,(AV.i .i64 x10)),(38,(AV.b x38))] h
def Y2.p4 (Q:AV→aA→Prop) (x0 x6 x8:AV) (x11 x14 x16:Int) (x94:Bool) (h:aA):Prop:=Y2.J Q 5 [(0,x0),(6,x6),(8,x8),(11,(AV.i .i64 x11)),(14,(AV.i .i64 x14)),(16,(AV.i .i64 x16)),(94,(AV.b x94))] h
def Y2.p3 (Q:AV→aA→Prop) (x0 x6 x8:AV) (x11 x14 x16:Int) (h:aA):Prop:=Y2.J Q 4 [(0,x0),(6,x6),(8,x8),(11,(AV.i .i64 x11)),(14,(AV.i .i64 x14)),(16,(AV.i .i64 x16))] h
def Y2.p2 (Q:AV→aA→Prop) (x0 x6 x8:AV) (x11 x14:Int) (h:aA):Prop:=Y2.J Q 3 [(0,x0),(6,x6),(8,x8),(11,(AV.i .i64 x11)),(14,(AV.i .i64 x14))] h
def Y2.p0 (Q:AV→aA→Prop) (x0 x6 x8:AV) (h:aA):Prop:=Y2.J Q 1 [(0,x0),(6,x6),(8,x8)] h
def Y2.t1 (Q:AV→aA→Prop) (x0 x6 x8:AV) (x10:Int) (x38:Bool) (h:aA) (J:JT):Prop:=
(bif x38 then
(Q (AV.tu []) h)
else
((bif (decide ((x10:Int)<256)) then
(C Y34.id [x0,(AV.i .u8 (IntKind.wrap .u8 x10))] h fun v28 h29=>
J 1 [(0,x0),(6,x6),(8,x8)] h29)
else
((bif (decide ((285:Int)<x10)) then
(C Y39.id [x0] h fun v34 h35=>
Q (AV.tu []) h35)
else
(C Y72.id [(AV.i .i64 x10)] h fun v38 h39=>
aO 0 v38 fun v40=>
asI .i64 v40 fun n41=>
aO 1 v38 fun v42=>
asI .i64 v42 fun n43=>
C Y12.id [x0,(AV.i .i64 n43)] h39 fun v45 h46=>
asI .i64 v45 fun n47=>
aJ (IntKind.wrap .i64 (n41+n47)) fun n48=>
C Y30.id [x0,x8] h46 fun v50 h51=>
asI .i64 v50 fun n52=>
C Y24.id [x0] h51 fun v54 h55=>
asB v54 fun c56=>
(bif c56 then
(Q (AV.tu []) h55)
else
((bif (decide ((29:Int)<n52)) then
(C Y39.id [x0] h55 fun v60 h61=>
Q (AV.tu []) h61)
else
(C Y70.id [(AV.i .i64 n52)] h55 fun v64 h65=>
aO 0 v64 fun v66=>
asI .i64 v66 fun n67=>
aO 1 v64 fun v68=>
asI .i64 v68 fun n69=>
C Y12.id [x0,(AV.i .i64 n69)] h65 fun v71 h72=>
asI .i64 v71 fun n73=>
aJ (IntKind.wrap .i64 (n67+n73)) fun n74=>
aS x0 fun v76=>
aB 2 v76 fun v77=>
aD v77 h72 fun v78=>
bK v78 fun n79=>
(bif (decide ((n79:Int)<n74)) then
(C Y39.id [x0] h72 fun v81 h82=>
J 3 [(0,x0),(6,x6),(8,x8),(11,(AV.i .i64 n48)),(14,(AV.i .i64 n74))] h82)
else
(J 3 [(0,x0),(6,x6),(8,x8),(11,(AV.i .i64 n48)),(14,(AV.i .i64 n74))] h72))))))))))))
theorem Y2.i1 {Q x0 x6 x8 x10 x38 h} (H:Y2.t1 Q x0 x6 x8 x10 x38 h (Y2.J Q)):Y2.p1 Q x0 x6 x8 x10 x38 h:=gR Y2.J Tryd.f57 Y2.dist [1,1,0,0,1,0,1,0,1] H
def Y2.t4 (Q:AV→aA→Prop) (x0 x6 x8:AV) (x11 x14 x16:Int) (x94:Bool) (h:aA) (J:JT):Prop:=
(bif x94 then
(aS x0 fun v93=>
aB 2 v93 fun v94=>
aD v94 h fun v95=>
aS x0 fun v96=>
aB 2 v96 fun v97=>
aD v97 h fun v98=>
bK v98 fun n99=>
aJ (IntKind.wrap .i64 (n99 - x14)) fun n100=>
aN 1 v95 (AV.i .i64 n100) h fun v101=>
aD v101 h fun v102=>
asI .u8 v102 fun n103=>
C Y34.id [x0,(AV.i .u8 n103)] h fun v104 h105=>
aJ (IntKind.wrap .i64 (x16+1)) fun n107=>
J 4 [(0,x0),(6,x6),(8,x8),(11,(AV.i .i64 x11)),(14,(AV.i .i64 x14)),(16,(AV.i .i64 n107))] h105)
else
(J 1 [(0,x0),(6,x6),(8,x8)] h))
theorem Y2.i4 {Q x0 x6 x8 x11 x14 x16 x94 h} (H:Y2.t4 Q x0 x6 x8 x11 x14 x16 x94 h (Y2.J Q)):Y2.p4 Q x0 x6 x8 x11 x14 x16 x94 h:=gR Y2.J Tryd.f57 Y2.dist [1,1,0,0,1,0,1,1,1,1,1,1,1,1,1,1,1,1,1,0,0,0,1] H
def Y2.t3 (Q:AV→aA→Prop) (x0 x6 x8:AV) (x11 x14 x16:Int) (h:aA) (J:JT):Prop:=
(bif (decide ((x16:Int)<x11)) then
(C Y24.id [x0] h fun v86 h87=>
asB v86 fun c88=>
J 5 [(0,x0),(6,x6),(8,x8),(11,(AV.i .i64 x11)),(14,(AV.i .i64 x14)),(16,(AV.i .i64 x16)),(94,(AV.b (!c88)))] h87)
else
(J 5 [(0,x0),(6,x6),(8,x8),(11,(AV.i .i64 x11)),(14,(AV.i .i64 x14)),(16,(AV.i .i64 x16)),(94,(AV.b false))] h))
theorem Y2.i3 {Q x0 x6 x8 x11 x14 x16 h} (H:Y2.t3 Q x0 x6 x8 x11 x14 x16 h (Y2.J Q)):Y2.p3 Q x0 x6 x8 x11 x14 x16 h:=gH Y2.J Tryd.f57 Y2.dist [1,1,0,0,1,0,1,1,1,1,1,1,1,1,1,1,1,1,1,0] H
def Y2.t2 (Q:AV→aA→Prop) (x0 x6 x8:AV) (x11 x14:Int) (h:aA) (J:JT):Prop:=
J 4 [(0,x0),(6,x6),(8,x8),(11,(AV.i .i64 x11)),(14,(AV.i .i64 x14)),(16,(AV.i .i64 0))] h
theorem Y2.i2 {Q x0 x6 x8 x11 x14 h} (H:Y2.t2 Q x0 x6 x8 x11 x14 h (Y2.J Q)):Y2.p2 Q x0 x6 x8 x11 x14 h:=gR Y2.J Tryd.f57 Y2.dist [1,1,0,0,1,0,1,1,1,1,1,1,1,1,1,1,1,1] H
def Y2.t0 (Q:AV→aA→Prop) (x0 x6 x8:AV) (h:aA) (J:JT):Prop:=
C Y24.id [x0] h fun v12 h13=>
asB v12 fun c14=>
(bif (!c14) then
(C Y30.id [x0,x6] h13 fun v17 h18=>
asI .i64 v17 fun n19=>
C Y24.id [x0] h18 fun v21 h22=>
asB v21 fun c23=>
(bif c23 then
(J 2 [(0,x0),(6,x6),(8,x8),(10,(AV.i .i64 n19)),(38,(AV.b true))] h22)
else
(J 2 [(0,x0),(6,x6),(8,x8),(10,(AV.i .i64 n19)),(38,(AV.b (decide ((n19:Int)=256))))] h22)))
else
(Q (AV.tu []) h13))
theorem Y2.i0 {Q x0 x6 x8 h} (H:Y2.t0 Q x0 x6 x8 h (Y2.J Q)):Y2.p0 Q x0 x6 x8 h:=gH Y2.J Tryd.f57 Y2.dist [1,1,0] H
def Y2.t (Q:AV→aA→Prop) (x0 x1 x2:AV) (h:aA) (J:JT):Prop:=
C Y48.id [x1] h fun v0 h1=>
aO 0 v0 fun v2=>
aO 1 v0 fun v3=>
asI .i64 v3 fun n4=>
C Y48.id [x2] h1 fun v6 h7=>
aO 0 v6 fun v8=>
aO 1 v6 fun v9=>
asI .i64 v9 fun n10=>
J 1 [(0,x0),(6,v2),(8,v8)] h7
theorem Y2.call {K x0 x1 x2 h} (H:Y2.t (aH h K) x0 x1 x2 h (Y2.J (aH h K))):C Y2.id [x0,x1,x2] h K:=
 gC Y2.J Tryd.func57 Y2.dist H
noncomputable def Y79.body:Code:=(Tryd.f58.body).getD .skip
def Y79.ann:Ann:=(sl [] (sl [1] (sl [1] (sl [1] (sl [0] lf)))))
theorem Y79.dist:aI (places Y79.ann Y79.body)=true:=by kernel_rfl
noncomputable def Y79.J (Q:AV→aA→Prop):JT:=bH prog C Tryd.f58 Y79.ann Y79.body Q
def Y79.t (Q:AV→aA→Prop) (h:aA) (J:JT):Prop:=
C Y31.id [(AV.sl none 0 none),(AV.i .i64 144),(AV.i .i64 8)] h fun v1 h2=>
C Y31.id [v1,(AV.i .i64 112),(AV.i .i64 9)] h2 fun v4 h5=>
C Y31.id [v4,(AV.i .i64 24),(AV.i .i64 7)] h5 fun v7 h8=>
C Y31.id [v7,(AV.i .i64 8),(AV.i .i64 8)] h8 fun v10 h11=>
Q v10 h11
theorem Y79.call {K h} (H:Y79.t (aH h K) h (Y79.J (aH h K))):C Y79.id [] h K:=
 gC Y79.J Tryd.func58 Y79.dist H
noncomputable def Y31.body:Code:=(Tryd.f59.body).getD .skip
def Y31.ann:Ann:=(sl [0,1,2] (sq [0] (sl [0,1,2,7] (.one (.loop 1 [0,1,2,7] (sq [0,1,2,7] (sl [0,1,2,7,10] bl) (sq [0,1,2,7] (.one lf) lf))))) (sl [6] lf)))
theorem Y31.dist:aI (places Y31.ann Y31.body)=true:=by kernel_rfl
noncomputable def Y31.J (Q:AV→aA→Prop):JT:=bH prog C Tryd.f59 Y31.ann Y31.body Q
def Y31.p0 (Q:AV→aA→Prop) (x0:AV) (x1 x2 x7:Int) (h:aA):Prop:=Y31.J Q 1 [(0,x0),(1,(AV.i .i64 x1)),(2,(AV.i .i64 x2)),(7,(AV.i .i64 x7))] h
def Y31.t0 (Q:AV→aA→Prop) (x0:AV) (x1 x2 x7:Int) (h:aA) (J:JT):Prop:=
(bif (decide ((x7:Int)<x1)) then
(bN 1 1 [(AV.i .i64 0)] [(0,1,(AV.i .i64 x2))] h fun v5 h6=>
bW none 1 8 x0 v5 h6 fun v7 h8=>
aJ (IntKind.wrap .i64 (x7+1)) fun n10=>
J 1 [(0,v7),(1,(AV.i .i64 x1)),(2,(AV.i .i64 x2)),(7,(AV.i .i64 n10))] h8)
else
(Q x0 h))
theorem Y31.i0 {Q x0 x1 x2 x7 h} (H:Y31.t0 Q x0 x1 x2 x7 h (Y31.J Q)):Y31.p0 Q x0 x1 x2 x7 h:=gH Y31.J Tryd.f59 Y31.dist [1,0,1,0] H
def Y31.t (Q:AV→aA→Prop) (x0:AV) (x1 x2:Int) (h:aA) (J:JT):Prop:=
J 1 [(0,x0),(1,(AV.i .i64 x1)),(2,(AV.i .i64 x2)),(7,(AV.i .i64 0))] h
theorem Y31.call {K x0 x1 x2 h} (H:Y31.t (aH h K) x0 x1 x2 h (Y31.J (aH h K))):C Y31.id [x0,(AV.i .i64 x1),(AV.i .i64 x2)] h K:=
 gC Y31.J Tryd.func59 Y31.dist H
noncomputable def Y0.body:Code:=(Tryd.f60.body).getD .skip
def Y0.ann:Ann:=(sl [0] (sl [0,4] (.seq 1 [0,4] (sl [0,4,19] bl) (sl [0,4,5] (.seq 2 [0,4,5] (sl [0,4,5,26] bl) (sl [0,4,5,6] (sl [0,4,5,6,7] (sl [0,4,5,6,7,8] (sq [0,4,5,8] (sl [0,4,5,6,7,8,9] (.one (.loop 3 [0,4,5,6,7,8,9] (sq [0,4,5,6,7,8,9] (sl [0,4,5,6,7,8,9,36] bl) (sq [0,4,5,6,7,8,9] (.one (.ord (nn 0 6 (.eff 6 (.neu 7 (.eff 8 .done .stop)) .stop)))) lf))))) (.seq 5 [0,4,5,8] (.seq 4 [0,4,5,8,54] lf bl) (sl [0,4,5,10] (sl [0,4,5,10,12] (.seq 10 [0,4,12] (.one (.loop 6 [0,4,5,10,12] (sq [0,4,5,10,12] (.seq 7 [0,4,5,10,12,72] lf bl) (.one (sl [0,4,5,10,12,13] (sl [0,4,5,10,12,13,14] (.seq 8 [0,4,5,10,12,13,14] (sl [0,4,5,10,12,13,14,77] (.br (sq [0,4,5,10,12] (sl [0,4,5,10,12,80] (.br (sl [0,4,12] lf) lf)) (sl [0,4,5,10,12,14] lf)) (sl [0,4,5,10,12,13,14,93] (.br (sl [0,4,5,10,12,14] lf) (sl [0,4,5,10,12,13,14,98] (.br (sl [0,4,5,10,12,14] lf) lf)))))) (.seq 9 [0,4,5,10,12,13,14] (sl [0,4,5,10,12,13,14,109] bl) lf)))))))) (sq [0,4,12] (sl [0,4,12,117] (.br (sl [2,3] lf) lf)) (.seq 12 [4,12] (.seq 11 [0,4,12,129] lf bl) (sq [2,3] (.ord (nn 0 8 .done)) lf))))))))))))))))
theorem Y0.dist:aI (places Y0.ann Y0.body)=true:=by kernel_rfl
noncomputable def Y0.J (Q:AV→aA→Prop):JT:=bH prog C Tryd.f60 Y0.ann Y0.body Q
def Y0.p2 (Q:AV→aA→Prop) (x0:AV) (x4 x5 x6:Int) (x7 x8:AV) (x9:Int) (h:aA):Prop:=Y0.J Q 3 [(0,x0),(4,(AV.i .i64 x4)),(5,(AV.i .i64 x5)),(6,(AV.i .i64 x6)),(7,x7),(8,x8),(9,(AV.i .i64 x9))] h
def Y0.p3 (Q:AV→aA→Prop) (x0:AV) (x4 x5:Int) (x8:AV) (x54:Bool) (h:aA):Prop:=Y0.J Q 4 [(0,x0),(4,(AV.i .i64 x4)),(5,(AV.i .i64 x5)),(8,x8),(54,(AV.b x54))] h
def Y0.p6 (Q:AV→aA→Prop) (x0:AV) (x4 x5:Int) (x10 x12:AV) (x72:Bool) (h:aA):Prop:=Y0.J Q 7 [(0,x0),(4,(AV.i .i64 x4)),(5,(AV.i .i64 x5)),(10,x10),(12,x12),(72,(AV.b x72))] h
def Y0.p8 (Q:AV→aA→Prop) (x0:AV) (x4 x5:Int) (x10 x12:AV) (x13 x14:Int) (h:aA):Prop:=Y0.J Q 9 [(0,x0),(4,(AV.i .i64 x4)),(5,(AV.i .i64 x5)),(10,x10),(12,x12),(13,(AV.i .i64 x13)),(14,(AV.i .i64 x14))] h
def Y0.p7 (Q:AV→aA→Prop) (x0:AV) (x4 x5:Int) (x10 x12:AV) (x13 x14:Int) (h:aA):Prop:=Y0.J Q 8 [(0,x0),(4,(AV.i .i64 x4)),(5,(AV.i .i64 x5)),(10,x10),(12,x12),(13,(AV.i .i64 x13)),(14,(AV.i .i64 x14))] h
def Y0.p5 (Q:AV→aA→Prop) (x0:AV) (x4 x5:Int) (x10 x12:AV) (h:aA):Prop:=Y0.J Q 6 [(0,x0),(4,(AV.i .i64 x4)),(5,(AV.i .i64 x5)),(10,x10),(12,x12)] h
def Y0.p10 (Q:AV→aA→Prop) (x0:AV) (x4:Int) (x12:AV) (x129:Bool) (h:aA):Prop:=Y0.J Q 11 [(0,x0),(4,(AV.i .i64 x4)),(12,x12),(129,(AV.b x129))] h
def Y0.p11 (Q:AV→aA→Prop) (x4:Int) (x12:AV) (h:aA):Prop:=Y0.J Q 12 [(4,(AV.i .i64 x4)),(12,x12)] h
def Y0.p9 (Q:AV→aA→Prop) (x0:AV) (x4:Int) (x12:AV) (h:aA):Prop:=Y0.J Q 10 [(0,x0),(4,(AV.i .i64 x4)),(12,x12)] h
def Y0.p4 (Q:AV→aA→Prop) (x0:AV) (x4 x5:Int) (x8:AV) (h:aA):Prop:=Y0.J Q 5 [(0,x0),(4,(AV.i .i64 x4)),(5,(AV.i .i64 x5)),(8,x8)] h
def Y0.p1 (Q:AV→aA→Prop) (x0:AV) (x4 x5:Int) (h:aA):Prop:=Y0.J Q 2 [(0,x0),(4,(AV.i .i64 x4)),(5,(AV.i .i64 x5))] h
def Y0.p0 (Q:AV→aA→Prop) (x0:AV) (x4:Int) (h:aA):Prop:=Y0.J Q 1 [(0,x0),(4,(AV.i .i64 x4))] h
def Y0.t2 (Q:AV→aA→Prop) (x0:AV) (x4 x5 x6:Int) (x7 x8:AV) (x9:Int) (h:aA) (J:JT):Prop:=
(bif (decide ((x9:Int)<x6)) then
(aN 1 x7 (AV.i .i64 x9) h fun v36=>
aD v36 h fun v37=>
asI .i64 v37 fun n38=>
C Y12.id [x0,(AV.i .i64 3)] h fun v39 h40=>
asI .i64 v39 fun n41=>
aD v36 h40 fun v42=>
asI .i64 v42 fun n43=>
((AV.i .i64 n38)=(AV.i .i64 n43) ∧
(aN 1 x7 (AV.i .i64 x9) h40 fun v44=>
(v36=v44 ∧
(aN 1 x8 (AV.i .i64 n38) h40 fun v45=>
aT 1 v45 (AV.i .i64 n41) h40 fun h46=>
aJ (IntKind.wrap .i64 (x9+1)) fun n48=>
J 3 [(0,x0),(4,(AV.i .i64 x4)),(5,(AV.i .i64 x5)),(6,(AV.i .i64 x6)),(7,x7),(8,x8),(9,(AV.i .i64 n48))] h46)))))
else
(C Y24.id [x0] h fun v50 h51=>
asB v50 fun c52=>
(bif (!c52) then
(C Y7.id [x8] h51 fun v53 h54=>
asI .i64 v53 fun n55=>
J 4 [(0,x0),(4,(AV.i .i64 x4)),(5,(AV.i .i64 x5)),(8,x8),(54,(AV.b (!decide ((n55:Int)=0))))] h54)
else
(J 4 [(0,x0),(4,(AV.i .i64 x4)),(5,(AV.i .i64 x5)),(8,x8),(54,(AV.b false))] h51))))
theorem Y0.i2 {Q x0 x4 x5 x6 x7 x8 x9 h} (H:Y0.t2 Q x0 x4 x5 x6 x7 x8 x9 h (Y0.J Q)):Y0.p2 Q x0 x4 x5 x6 x7 x8 x9 h:=gH Y0.J Tryd.f60 Y0.dist [1,1,1,1,1,1,1,1,0,1,0] H
def Y0.t3 (Q:AV→aA→Prop) (x0:AV) (x4 x5:Int) (x8:AV) (x54:Bool) (h:aA) (J:JT):Prop:=
(bif x54 then
(C Y39.id [x0] h fun v58 h59=>
J 5 [(0,x0),(4,(AV.i .i64 x4)),(5,(AV.i .i64 x5)),(8,x8)] h59)
else
(J 5 [(0,x0),(4,(AV.i .i64 x4)),(5,(AV.i .i64 x5)),(8,x8)] h))
theorem Y0.i3 {Q x0 x4 x5 x8 x54 h} (H:Y0.t3 Q x0 x4 x5 x8 x54 h (Y0.J Q)):Y0.p3 Q x0 x4 x5 x8 x54 h:=gR Y0.J Tryd.f60 Y0.dist [1,1,1,1,1,1,1,1,1,0,1] H
def Y0.t6 (Q:AV→aA→Prop) (x0:AV) (x4 x5:Int) (x10 x12:AV) (x72:Bool) (h:aA) (J:JT):Prop:=
(bif x72 then
(C Y30.id [x0,x10] h fun v78 h79=>
asI .i64 v78 fun n80=>
(bif (decide ((n80:Int)=16)) then
(bK x12 fun n84=>
(bif (decide ((n84:Int)=0)) then
(C Y39.id [x0] h79 fun v86 h87=>
J 10 [(0,x0),(4,(AV.i .i64 x4)),(12,x12)] h87)
else
(C Y12.id [x0,(AV.i .i64 2)] h79 fun v91 h92=>
asI .i64 v91 fun n93=>
aJ (IntKind.wrap .i64 (3+n93)) fun n94=>
bK x12 fun n96=>
aJ (IntKind.wrap .i64 (n96 - 1)) fun n97=>
aN 1 x12 (AV.i .i64 n97) h92 fun v98=>
aD v98 h92 fun v99=>
asI .i64 v99 fun n100=>
J 8 [(0,x0),(4,(AV.i .i64 x4)),(5,(AV.i .i64 x5)),(10,x10),(12,x12),(13,(AV.i .i64 n100)),(14,(AV.i .i64 n94))] h92)))
else
((bif (decide ((n80:Int)=17)) then
(C Y12.id [x0,(AV.i .i64 3)] h79 fun v103 h104=>
asI .i64 v103 fun n105=>
aJ (IntKind.wrap .i64 (3+n105)) fun n106=>
J 8 [(0,x0),(4,(AV.i .i64 x4)),(5,(AV.i .i64 x5)),(10,x10),(12,x12),(13,(AV.i .i64 0)),(14,(AV.i .i64 n106))] h104)
else
((bif (decide ((n80:Int)=18)) then
(C Y12.id [x0,(AV.i .i64 7)] h79 fun v110 h111=>
asI .i64 v110 fun n112=>
aJ (IntKind.wrap .i64 (11+n112)) fun n113=>
J 8 [(0,x0),(4,(AV.i .i64 x4)),(5,(AV.i .i64 x5)),(10,x10),(12,x12),(13,(AV.i .i64 0)),(14,(AV.i .i64 n113))] h111)
else
(J 8 [(0,x0),(4,(AV.i .i64 x4)),(5,(AV.i .i64 x5)),(10,x10),(12,x12),(13,(AV.i .i64 n80)),(14,(AV.i .i64 1))] h79)))))))
else
(J 10 [(0,x0),(4,(AV.i .i64 x4)),(12,x12)] h))
theorem Y0.i6 {Q x0 x4 x5 x10 x12 x72 h} (H:Y0.t6 Q x0 x4 x5 x10 x12 x72 h (Y0.J Q)):Y0.p6 Q x0 x4 x5 x10 x12 x72 h:=gR Y0.J Tryd.f60 Y0.dist [1,1,1,1,1,1,1,1,1,1,1,1,0,0,0,0,1] H
def Y0.t8 (Q:AV→aA→Prop) (x0:AV) (x4 x5:Int) (x10 x12:AV) (x13 x14:Int) (h:aA) (J:JT):Prop:=
C Y31.id [x12,(AV.i .i64 x14),(AV.i .i64 x13)] h fun v125 h126=>
J 6 [(0,x0),(4,(AV.i .i64 x4)),(5,(AV.i .i64 x5)),(10,x10),(12,v125)] h126
theorem Y0.i8 {Q x0 x4 x5 x10 x12 x13 x14 h} (H:Y0.t8 Q x0 x4 x5 x10 x12 x13 x14 h (Y0.J Q)):Y0.p8 Q x0 x4 x5 x10 x12 x13 x14 h:=gR Y0.J Tryd.f60 Y0.dist [1,1,1,1,1,1,1,1,1,1,1,1,0,0,0,1,0,1,1,1,1] H
def Y0.t7 (Q:AV→aA→Prop) (x0:AV) (x4 x5:Int) (x10 x12:AV) (x13 x14:Int) (h:aA) (J:JT):Prop:=
bK x12 fun n117=>
aJ (IntKind.wrap .i64 (n117+x14)) fun n118=>
aJ (IntKind.wrap .i64 (x4+x5)) fun n119=>
(bif (decide ((n119:Int)<n118)) then
(C Y39.id [x0] h fun v121 h122=>
J 9 [(0,x0),(4,(AV.i .i64 x4)),(5,(AV.i .i64 x5)),(10,x10),(12,x12),(13,(AV.i .i64 x13)),(14,(AV.i .i64 x14))] h122)
else
(J 9 [(0,x0),(4,(AV.i .i64 x4)),(5,(AV.i .i64 x5)),(10,x10),(12,x12),(13,(AV.i .i64 x13)),(14,(AV.i .i64 x14))] h))
theorem Y0.i7 {Q x0 x4 x5 x10 x12 x13 x14 h} (H:Y0.t7 Q x0 x4 x5 x10 x12 x13 x14 h (Y0.J Q)):Y0.p7 Q x0 x4 x5 x10 x12 x13 x14 h:=gR Y0.J Tryd.f60 Y0.dist [1,1,1,1,1,1,1,1,1,1,1,1,0,0,0,1,0,1,1,1] H
def Y0.t5 (Q:AV→aA→Prop) (x0:AV) (x4 x5:Int) (x10 x12:AV) (h:aA) (J:JT):Prop:=
bK x12 fun n69=>
aJ (IntKind.wrap .i64 (x4+x5)) fun n70=>
(bif (decide ((n69:Int)<n70)) then
(C Y24.id [x0] h fun v71 h72=>
asB v71 fun c73=>
J 7 [(0,x0),(4,(AV.i .i64 x4)),(5,(AV.i .i64 x5)),(10,x10),(12,x12),(72,(AV.b (!c73)))] h72)
else
(J 7 [(0,x0),(4,(AV.i .i64 x4)),(5,(AV.i .i64 x5)),(10,x10),(12,x12),(72,(AV.b false))] h))
theorem Y0.i5 {Q x0 x4 x5 x10 x12 h} (H:Y0.t5 Q x0 x4 x5 x10 x12 h (Y0.J Q)):Y0.p5 Q x0 x4 x5 x10 x12 h:=gH Y0.J Tryd.f60 Y0.dist [1,1,1,1,1,1,1,1,1,1,1,1,0,0] H
def Y0.t10 (Q:AV→aA→Prop) (x0:AV) (x4:Int) (x12:AV) (x129:Bool) (h:aA) (J:JT):Prop:=
(bif x129 then
(C Y39.id [x0] h fun v144 h145=>
J 12 [(4,(AV.i .i64 x4)),(12,x12)] h145)
else
(J 12 [(4,(AV.i .i64 x4)),(12,x12)] h))
theorem Y0.i10 {Q x0 x4 x12 x129 h} (H:Y0.t10 Q x0 x4 x12 x129 h (Y0.J Q)):Y0.p10 Q x0 x4 x12 x129 h:=gR Y0.J Tryd.f60 Y0.dist [1,1,1,1,1,1,1,1,1,1,1,1,1,1,0,1] H
def Y0.t11 (Q:AV→aA→Prop) (x4:Int) (x12:AV) (h:aA) (J:JT):Prop:=
bI 1 x12 none (some (AV.i .i64 x4)) none h fun v148=>
bI 1 x12 (some (AV.i .i64 x4)) none none h fun v149=>
Q (AV.tu [v148,v149]) h
theorem Y0.i11 {Q x4 x12 h} (H:Y0.t11 Q x4 x12 h (Y0.J Q)):Y0.p11 Q x4 x12 h:=gR Y0.J Tryd.f60 Y0.dist [1,1,1,1,1,1,1,1,1,1,1,1,1,1,1] H
def Y0.t9 (Q:AV→aA→Prop) (x0:AV) (x4:Int) (x12:AV) (h:aA) (J:JT):Prop:=
C Y24.id [x0] h fun v128 h129=>
asB v128 fun c130=>
(bif c130 then
(Q (AV.tu [(AV.sl none 0 none),(AV.sl none 0 none)]) h129)
else
(bI 1 x12 none (some (AV.i .i64 x4)) none h129 fun v134=>
C Y7.id [v134] h129 fun v135 h136=>
asI .i64 v135 fun n137=>
(bif (!decide ((n137:Int)=0)) then
(J 11 [(0,x0),(4,(AV.i .i64 x4)),(12,x12),(129,(AV.b true))] h136)
else
(bI 1 x12 (some (AV.i .i64 x4)) none none h136 fun v139=>
C Y7.id [v139] h136 fun v140 h141=>
asI .i64 v140 fun n142=>
J 11 [(0,x0),(4,(AV.i .i64 x4)),(12,x12),(129,(AV.b (!decide ((n142:Int)=0))))] h141))))
theorem Y0.i9 {Q x0 x4 x12 h} (H:Y0.t9 Q x0 x4 x12 h (Y0.J Q)):Y0.p9 Q x0 x4 x12 h:=gR Y0.J Tryd.f60 Y0.dist [1,1,1,1,1,1,1,1,1,1,1,1,1] H
def Y0.t4 (Q:AV→aA→Prop) (x0:AV) (x4 x5:Int) (x8:AV) (h:aA) (J:JT):Prop:=
C Y48.id [x8] h fun v62 h63=>
aO 0 v62 fun v64=>
aO 1 v62 fun v65=>
asI .i64 v65 fun n66=>
J 6 [(0,x0),(4,(AV.i .i64 x4)),(5,(AV.i .i64 x5)),(10,v64),(12,(AV.sl none 0 none))] h63
theorem Y0.i4 {Q x0 x4 x5 x8 h} (H:Y0.t4 Q x0 x4 x5 x8 h (Y0.J Q)):Y0.p4 Q x0 x4 x5 x8 h:=gR Y0.J Tryd.f60 Y0.dist [1,1,1,1,1,1,1,1,1,1] H
def Y0.t1 (Q:AV→aA→Prop) (x0:AV) (x4 x5:Int) (h:aA) (J:JT):Prop:=
C Y12.id [x0,(AV.i .i64 4)] h fun v21 h22=>
asI .i64 v21 fun n23=>
aJ (IntKind.wrap .i64 (n23+4)) fun n24=>
bN 1 19 [(AV.i .i64 0),(AV.i .i64 0),(AV.i .i64 0),(AV.i .i64 0),(AV.i .i64 0),(AV.i .i64 0),(AV.i .i64 0),(AV.i .i64 0),(AV.i .i64 0),(AV.i .i64 0),(AV.i .i64 0),(AV.i .i64 0),(AV.i .i64 0),(AV.i .i64 0),(AV.i .i64 0),(AV.i .i64 0),(AV.i .i64 0),(AV.i .i64 0),(AV.i .i64 0)] [(0,1,(AV.i .i64 16)),(1,1,(AV.i .i64 17)),(2,1,(AV.i .i64 18)),(3,1,(AV.i .i64 0)),(4,1,(AV.i .i64 8)),(5,1,(AV.i .i64 7)),(6,1,(AV.i .i64 9)),(7,1,(AV.i .i64 6)),(8,1,(AV.i .i64 10)),(9,1,(AV.i .i64 5)),(10,1,(AV.i .i64 11)),(11,1,(AV.i .i64 4)),(12,1,(AV.i .i64 12)),(13,1,(AV.i .i64 3)),(14,1,(AV.i .i64 13)),(15,1,(AV.i .i64 2)),(16,1,(AV.i .i64 14)),(17,1,(AV.i .i64 1)),(18,1,(AV.i .i64 15))] h22 fun v26 h27=>
C Y31.id [(AV.sl none 0 none),(AV.i .i64 19),(AV.i .i64 0)] h27 fun v29 h30=>
J 3 [(0,x0),(4,(AV.i .i64 x4)),(5,(AV.i .i64 x5)),(6,(AV.i .i64 n24)),(7,v26),(8,v29),(9,(AV.i .i64 0))] h30
theorem Y0.i1 {Q x0 x4 x5 h} (H:Y0.t1 Q x0 x4 x5 h (Y0.J Q)):Y0.p1 Q x0 x4 x5 h:=gR Y0.J Tryd.f60 Y0.dist [1,1,1,1,1] H
def Y0.t0 (Q:AV→aA→Prop) (x0:AV) (x4:Int) (h:aA) (J:JT):Prop:=
C Y12.id [x0,(AV.i .i64 5)] h fun v11 h12=>
asI .i64 v11 fun n13=>
aJ (IntKind.wrap .i64 (n13+1)) fun n14=>
(bif (decide ((30:Int)<n14)) then
(C Y39.id [x0] h12 fun v17 h18=>
J 2 [(0,x0),(4,(AV.i .i64 x4)),(5,(AV.i .i64 n14))] h18)
else
(J 2 [(0,x0),(4,(AV.i .i64 x4)),(5,(AV.i .i64 n14))] h12))
theorem Y0.i0 {Q x0 x4 h} (H:Y0.t0 Q x0 x4 h (Y0.J Q)):Y0.p0 Q x0 x4 h:=gR Y0.J Tryd.f60 Y0.dist [1,1,1] H
def Y0.t (Q:AV→aA→Prop) (x0:AV) (h:aA) (J:JT):Prop:=
C Y12.id [x0,(AV.i .i64 5)] h fun v1 h2=>
asI .i64 v1 fun n3=>
aJ (IntKind.wrap .i64 (n3+257)) fun n4=>
(bif (decide ((286:Int)<n4)) then
(C Y39.id [x0] h2 fun v7 h8=>
J 1 [(0,x0),(4,(AV.i .i64 n4))] h8)
else
(J 1 [(0,x0),(4,(AV.i .i64 n4))] h2))
theorem Y0.call {K x0 h} (H:Y0.t (aH h K) x0 h (Y0.J (aH h K))):C Y0.id [x0] h K:=
 gC Y0.J Tryd.func60 Y0.dist H
noncomputable def Y39.body:Code:=(Tryd.f61.body).getD .skip
def Y39.ann:Ann:=(sl [0,4] bl)
theorem Y39.dist:aI (places Y39.ann Y39.body)=true:=by kernel_rfl
noncomputable def Y39.J (Q:AV→aA→Prop):JT:=bH prog C Tryd.f61 Y39.ann Y39.body Q
def Y39.t (Q:AV→aA→Prop) (x0:AV) (h:aA) (J:JT):Prop:=
C Y24.id [x0] h fun v0 h1=>
asB v0 fun c2=>
(bif (!c2) then
(aS x0 fun v4=>
aB 6 v4 fun v5=>
aT 1 v5 (AV.i .i64 2) h1 fun h6=>
Q (AV.tu []) h6)
else
(Q (AV.tu []) h1))
theorem Y39.call {K x0 h} (H:Y39.t (aH h K) x0 h (Y39.J (aH h K))):C Y39.id [x0] h K:=
 gC Y39.J Tryd.func61 Y39.dist H
noncomputable def Y44.body:Code:=(Tryd.f62.body).getD .skip
def Y44.ann:Ann:=(sl [0,1] (sq [] (sl [0,1,6] (sl [0,1,6,20] (.br (sl [6] (sl [4,5] lf)) lf))) (sl [4,5] lf)))
theorem Y44.dist:aI (places Y44.ann Y44.body)=true:=by kernel_rfl
noncomputable def Y44.J (Q:AV→aA→Prop):JT:=bH prog C Tryd.f62 Y44.ann Y44.body Q
def Y44.t (Q:AV→aA→Prop) (x0:AV) (x1:Int) (h:aA) (J:JT):Prop:=
aS x0 fun v1=>
aB 0 v1 fun v2=>
aD v2 h fun v3=>
bK v3 fun n4=>
aS x0 fun v6=>
aB 0 v6 fun v7=>
aD v7 h fun v8=>
xW 1 v8 h fun v9 h10=>
asI .i64 v9 fun n11=>
aJ (IntKind.wrap .i64 (n11 - n4)) fun n12=>
(bif (decide ((x1:Int)≤n12)) then
(aS x0 fun v14=>
aB 0 v14 fun v15=>
aD v15 h10 fun v16=>
aJ (IntKind.wrap .i64 (n4+x1)) fun n17=>
bI 1 v16 none (some (AV.i .i64 n17)) none h10 fun v18=>
aS x0 fun v19=>
aB 0 v19 fun v20=>
aT 1 v20 v18 h10 fun h21=>
Q (AV.tu [(AV.i .i64 n4),(AV.b true)]) h21)
else
(Q (AV.tu [(AV.i .i64 0),(AV.b false)]) h10))
theorem Y44.call {K x0 x1 h} (H:Y44.t (aH h K) x0 x1 h (Y44.J (aH h K))):C Y44.id [x0,(AV.i .i64 x1)] h K:=
 gC Y44.J Tryd.func62 Y44.dist H
noncomputable def Y6.body:Code:=(Tryd.f63.body).getD .skip
def Y6.ann:Ann:=(sl [0,1] (sl [0,1,5] (.seq 2 [0,1,5] (.seq 1 [0,1,5,19] lf bl) (sq [0,1,5] (sl [0,1,5,6,7] (sl [0,1,5,6,28] (.br (sl [4] lf) lf))) (sq [0,1,5] (.seq 3 [0,1,5,38] lf (.br (sl [] (sl [4] lf)) lf)) (sl [0,1,5,8] (.seq 4 [0,1,5] (sl [0,1,5,8,54] (.br (.ord (nn 0 13 (.eff 13 .done .stop))) (sl [0,1,5,74] (.br lf (.ord (nn 0 16 (.eff 16 (nn 17 2 (.eff 19 .done .stop)) .stop))))))) (sl [0,1,5] (sl [5] (sl [4] lf))))))))))
theorem Y6.dist:aI (places Y6.ann Y6.body)=true:=by kernel_rfl
noncomputable def Y6.J (Q:AV→aA→Prop):JT:=bH prog C Tryd.f63 Y6.ann Y6.body Q
def Y6.p0 (Q:AV→aA→Prop) (x0:AV) (x1 x5:Int) (x19:Bool) (h:aA):Prop:=Y6.J Q 1 [(0,x0),(1,(AV.i .i64 x1)),(5,(AV.i .i64 x5)),(19,(AV.b x19))] h
def Y6.p2 (Q:AV→aA→Prop) (x0:AV) (x1 x5:Int) (x38:Bool) (h:aA):Prop:=Y6.J Q 3 [(0,x0),(1,(AV.i .i64 x1)),(5,(AV.i .i64 x5)),(38,(AV.b x38))] h
def Y6.p3 (Q:AV→aA→Prop) (x0:AV) (x1 x5:Int) (h:aA):Prop:=Y6.J Q 4 [(0,x0),(1,(AV.i .i64 x1)),(5,(AV.i .i64 x5))] h
def Y6.p1 (Q:AV→aA→Prop) (x0:AV) (x1 x5:Int) (h:aA):Prop:=Y6.J Q 2 [(0,x0),(1,(AV.i .i64 x1)),(5,(AV.i .i64 x5))] h
def Y6.t0 (Q:AV→aA→Prop) (x0:AV) (x1 x5:Int) (x19:Bool) (h:aA) (J:JT):Prop:=
(bif x19 then
(C Y94.id [x0] h fun v11 h12=>
J 2 [(0,x0),(1,(AV.i .i64 x1)),(5,(AV.i .i64 x5))] h12)
else
(J 2 [(0,x0),(1,(AV.i .i64 x1)),(5,(AV.i .i64 x5))] h))
theorem Y6.i0 {Q x0 x1 x5 x19 h} (H:Y6.t0 Q x0 x1 x5 x19 h (Y6.J Q)):Y6.p0 Q x0 x1 x5 x19 h:=gR Y6.J Tryd.f63 Y6.dist [1,1,0,1] H
def Y6.t2 (Q:AV→aA→Prop) (x0:AV) (x1 x5:Int) (x38:Bool) (h:aA) (J:JT):Prop:=
(bif x38 then
(nB 1 1 [(AV.i .u8 0)] (AV.i .i64 x1) (AV.i .i64 64) h fun v32 h33=>
aS x0 fun v34=>
aB 0 v34 fun v35=>
aT 1 v35 v32 h33 fun h36=>
Q (AV.i .i64 0) h36)
else
(aS x0 fun v40=>
aB 0 v40 fun v41=>
aD v41 h fun v42=>
xW 1 v42 h fun v43 h44=>
asI .i64 v43 fun n45=>
sN .i64 n45 2 fun n47=>
aJ (IntKind.wrap .i64 (n47 - x5)) fun n48=>
(bif (decide ((x1:Int)≤n48)) then
(aS x0 fun v50=>
aB 0 v50 fun v51=>
aD v51 h44 fun v52=>
aS x0 fun v53=>
aB 0 v53 fun v54=>
aD v54 h44 fun v55=>
aS x0 fun v56=>
aB 1 v56 fun v57=>
aD v57 h44 fun v58=>
asI .i64 v58 fun n59=>
bI 1 v55 (some (AV.i .i64 n59)) none none h44 fun v60=>
lC 1 v52 v60 h44 fun v61 h62=>
asI .i64 v61 fun n63=>
J 4 [(0,x0),(1,(AV.i .i64 x1)),(5,(AV.i .i64 x5))] h62)
else
(aJ (IntKind.wrap .i64 (9223372036854775807 - n45)) fun n65=>
aJ (IntKind.wrap .i64 (n65 - x1)) fun n66=>
(bif (decide ((n66:Int)<n45)) then
(aD (aBH h44 1) h44 fun v68=>
False)
else
(aS x0 fun v69=>
aB 0 v69 fun v70=>
aD v70 h44 fun v71=>
aS x0 fun v72=>
aB 1 v72 fun v73=>
aD v73 h44 fun v74=>
asI .i64 v74 fun n75=>
bI 1 v71 (some (AV.i .i64 n75)) none none h44 fun v76=>
aS x0 fun v77=>
aB 1 v77 fun v78=>
aD v78 h44 fun v79=>
asI .i64 v79 fun n80=>
aJ (IntKind.wrap .i64 (n80+x1)) fun n81=>
C Y93.id [v76,(AV.i .i64 n81)] h44 fun v82 h83=>
aS x0 fun v84=>
aB 0 v84 fun v85=>
aT 1 v85 v82 h83 fun h86=>
J 4 [(0,x0),(1,(AV.i .i64 x1)),(5,(AV.i .i64 x5))] h86))))))
theorem Y6.i2 {Q x0 x1 x5 x38 h} (H:Y6.t2 Q x0 x1 x5 x38 h (Y6.J Q)):Y6.p2 Q x0 x1 x5 x38 h:=gR Y6.J Tryd.f63 Y6.dist [1,1,1,1,0,1] H
def Y6.t3 (Q:AV→aA→Prop) (x0:AV) (x1 x5:Int) (h:aA) (J:JT):Prop:=
aS x0 fun v88=>
aB 1 v88 fun v89=>
aT 1 v89 (AV.i .i64 0) h fun h90=>
aS x0 fun v92=>
aB 0 v92 fun v93=>
aD v93 h90 fun v94=>
aJ (IntKind.wrap .i64 (x5+x1)) fun n95=>
bI 1 v94 none (some (AV.i .i64 n95)) none h90 fun v96=>
aS x0 fun v97=>
aB 0 v97 fun v98=>
aT 1 v98 v96 h90 fun h99=>
Q (AV.i .i64 x5) h99
theorem Y6.i3 {Q x0 x1 x5 h} (H:Y6.t3 Q x0 x1 x5 h (Y6.J Q)):Y6.p3 Q x0 x1 x5 h:=gR Y6.J Tryd.f63 Y6.dist [1,1,1,1,1,1,1] H
def Y6.t1 (Q:AV→aA→Prop) (x0:AV) (x1 x5:Int) (h:aA) (J:JT):Prop:=
C Y44.id [x0,(AV.i .i64 x1)] h fun v15 h16=>
aO 0 v15 fun v17=>
asI .i64 v17 fun n18=>
aO 1 v15 fun v19=>
asB v19 fun c20=>
(bif c20 then
(Q (AV.i .i64 n18) h16)
else
(aS x0 fun v25=>
aB 0 v25 fun v26=>
aD v26 h16 fun v27=>
dS prog .eql 43 v27 (AV.sl none 0 none) fun v28=>
asB v28 fun c29=>
(bif c29 then
(J 3 [(0,x0),(1,(AV.i .i64 x1)),(5,(AV.i .i64 x5)),(38,(AV.b (decide ((x1:Int)≤64))))] h16)
else
(J 3 [(0,x0),(1,(AV.i .i64 x1)),(5,(AV.i .i64 x5)),(38,(AV.b false))] h16))))
theorem Y6.i1 {Q x0 x1 x5 h} (H:Y6.t1 Q x0 x1 x5 h (Y6.J Q)):Y6.p1 Q x0 x1 x5 h:=gR Y6.J Tryd.f63 Y6.dist [1,1,1] H
def Y6.t (Q:AV→aA→Prop) (x0:AV) (x1:Int) (h:aA) (J:JT):Prop:=
C Y46.id [x0] h fun v1 h2=>
asI .i64 v1 fun n3=>
(bif (decide ((n3:Int)=0)) then
(aS x0 fun v5=>
aB 1 v5 fun v6=>
aD v6 h2 fun v7=>
asI .i64 v7 fun n8=>
J 1 [(0,x0),(1,(AV.i .i64 x1)),(5,(AV.i .i64 n3)),(19,(AV.b (!decide ((n8:Int)=0))))] h2)
else
(J 1 [(0,x0),(1,(AV.i .i64 x1)),(5,(AV.i .i64 n3)),(19,(AV.b false))] h2))
theorem Y6.call {K x0 x1 h} (H:Y6.t (aH h K) x0 x1 h (Y6.J (aH h K))):C Y6.id [x0,(AV.i .i64 x1)] h K:=
 gC Y6.J Tryd.func63 Y6.dist H
noncomputable def Y27.body:Code:=(Tryd.f64.body).getD .skip
def Y27.ann:Ann:=(sl [0,1] (sq [0,1] (sl [0,1,10] bl) (sl [0,5,6] (sq [0,6] (.seq 1 [0,6,26] lf bl) (sl [0,7] (sl [7,8] (sq [7] (.one (.loop 2 [7,8] (sq [7,8] (sl [7,8,37] bl) (.one (.ord (nn 0 7 (.eff 7 (.neu 8 (.eff 9 .done .stop)) .stop))))))) (sl [4] lf))))))))
theorem Y27.dist:aI (places Y27.ann Y27.body)=true:=by kernel_rfl
noncomputable def Y27.J (Q:AV→aA→Prop):JT:=bH prog C Tryd.f64 Y27.ann Y27.body Q
def Y27.p0 (Q:AV→aA→Prop) (x0:AV) (x6:Int) (x26:Bool) (h:aA):Prop:=Y27.J Q 1 [(0,x0),(6,(AV.i .u64 x6)),(26,(AV.b x26))] h
def Y27.p1 (Q:AV→aA→Prop) (x7:AV) (x8:Int) (h:aA):Prop:=Y27.J Q 2 [(7,x7),(8,(AV.i .i64 x8))] h
def Y27.t0 (Q:AV→aA→Prop) (x0:AV) (x6:Int) (x26:Bool) (h:aA) (J:JT):Prop:=
(bif x26 then
(False)
else
(nB 1 8 [(AV.i .i64 0)] (AV.i .i64 (IntKind.wrap .i64 x6)) (AV.i .i64 (IntKind.wrap .i64 x6)) h fun v14 h15=>
lC 1 v14 x0 h15 fun v17 h18=>
asI .i64 v17 fun n19=>
J 2 [(7,v14),(8,(AV.i .i64 n19))] h18))
theorem Y27.i0 {Q x0 x6 x26 h} (H:Y27.t0 Q x0 x6 x26 h (Y27.J Q)):Y27.p0 Q x0 x6 x26 h:=gR Y27.J Tryd.f64 Y27.dist [1,1,1,0,1] H
def Y27.t1 (Q:AV→aA→Prop) (x7:AV) (x8:Int) (h:aA) (J:JT):Prop:=
bK x7 fun n21=>
(bif (decide ((x8:Int)<n21)) then
(bI 1 x7 (some (AV.i .i64 x8)) none none h fun v25=>
bI 1 x7 none (some (AV.i .i64 x8)) none h fun v26=>
lC 1 v25 v26 h fun v27 h28=>
asI .i64 v27 fun n29=>
aJ (IntKind.wrap .i64 (x8+n29)) fun n30=>
J 2 [(7,x7),(8,(AV.i .i64 n30))] h28)
else
(Q x7 h))
theorem Y27.i1 {Q x7 x8 h} (H:Y27.t1 Q x7 x8 h (Y27.J Q)):Y27.p1 Q x7 x8 h:=gH Y27.J Tryd.f64 Y27.dist [1,1,1,1,1,1,0,0] H
def Y27.t (Q:AV→aA→Prop) (x0:AV) (x1:Int) (h:aA) (J:JT):Prop:=
(bif (decide ((x1:Int)<0)) then
(False)
else
(bK x0 fun n3=>
C Y71.id [(AV.i .u64 (IntKind.wrap .u64 n3)),(AV.i .u64 (IntKind.wrap .u64 x1))] h fun v4 h5=>
aO 0 v4 fun v6=>
asI .u64 v6 fun n7=>
aO 1 v4 fun v8=>
asI .u64 v8 fun n9=>
(bif (decide ((0:Int)<n7)) then
(J 1 [(0,x0),(6,(AV.i .u64 n9)),(26,(AV.b true))] h5)
else
(J 1 [(0,x0),(6,(AV.i .u64 n9)),(26,(AV.b (decide ((9223372036854775807:Int)<n9))))] h5))))
theorem Y27.call {K x0 x1 h} (H:Y27.t (aH h K) x0 x1 h (Y27.J (aH h K))):C Y27.id [x0,(AV.i .i64 x1)] h K:=
 gC Y27.J Tryd.func64 Y27.dist H
noncomputable def Y52.body:Code:=(Tryd.f65.body).getD .skip
def Y52.ann:Ann:=(sl [0] (sq [0] (.one (sl [0,5] (.br (sl [2,3] lf) (sl [0,10] (.br (sl [2,3] lf) lf))))) (sl [0,4] (sl [2,3] lf))))
theorem Y52.dist:aI (places Y52.ann Y52.body)=true:=by kernel_rfl
noncomputable def Y52.J (Q:AV→aA→Prop):JT:=bH prog C Tryd.f65 Y52.ann Y52.body Q
def Y52.t (Q:AV→aA→Prop) (x0:Int) (h:aA) (J:JT):Prop:=
(bif (decide ((x0:Int)≤264)) then
(aJ (IntKind.wrap .i64 (x0 - 254)) fun n2=>
Q (AV.tu [(AV.i .i64 n2),(AV.i .i64 0)]) h)
else
((bif (decide ((x0:Int)=285)) then
(Q (AV.tu [(AV.i .i64 258),(AV.i .i64 0)]) h)
else
(aJ (IntKind.wrap .i64 (x0 - 261)) fun n7=>
sN .i64 n7 4 fun n8=>
aJ (IntKind.wrap .i64 (x0 - 265)) fun n10=>
vP n10 4 fun n11=>
aJ (IntKind.wrap .i64 (4+n11)) fun n12=>
jX .i64 n12 n8 fun n13=>
aJ (IntKind.wrap .i64 (n13+3)) fun n14=>
Q (AV.tu [(AV.i .i64 n14),(AV.i .i64 n8)]) h))))
theorem Y52.call {K x0 h} (H:Y52.t (aH h K) x0 h (Y52.J (aH h K))):C Y52.id [(AV.i .i64 x0)] h K:=
 gC Y52.J Tryd.func65 Y52.dist H
noncomputable def Y49.body:Code:=(Tryd.f66.body).getD .skip
def Y49.ann:Ann:=(sl [0] (sq [0] (sl [0,6] (.br (sl [2,3] lf) lf)) (sl [0,4] (sl [2,3] lf))))
theorem Y49.dist:aI (places Y49.ann Y49.body)=true:=by kernel_rfl
noncomputable def Y49.J (Q:AV→aA→Prop):JT:=bH prog C Tryd.f66 Y49.ann Y49.body Q
def Y49.t (Q:AV→aA→Prop) (x0:Int) (h:aA) (J:JT):Prop:=
(bif (decide ((x0:Int)<4)) then
(aJ (IntKind.wrap .i64 (x0+1)) fun n2=>
Q (AV.tu [(AV.i .i64 n2),(AV.i .i64 0)]) h)
else
(sN .i64 x0 2 fun n5=>
aJ (IntKind.wrap .i64 (n5 - 1)) fun n6=>
vP x0 2 fun n8=>
aJ (IntKind.wrap .i64 (2+n8)) fun n9=>
jX .i64 n9 n6 fun n10=>
aJ (IntKind.wrap .i64 (n10+1)) fun n11=>
Q (AV.tu [(AV.i .i64 n11),(AV.i .i64 n6)]) h))
theorem Y49.call {K x0 h} (H:Y49.t (aH h K) x0 h (Y49.J (aH h K))):C Y49.id [(AV.i .i64 x0)] h K:=
 gC Y49.J Tryd.func66 Y49.dist H
noncomputable def Y45.body:Code:=(Tryd.f67.body).getD .skip
def Y45.ann:Ann:=(sl [0,1,2,8] (.br (.ord (nn 0 14 (.eff 14 (.eff 15 (.eff 16 .done .stop) .stop) .stop))) lf))
theorem Y45.dist:aI (places Y45.ann Y45.body)=true:=by kernel_rfl
noncomputable def Y45.J (Q:AV→aA→Prop):JT:=bH prog C Tryd.f67 Y45.ann Y45.body Q
def Y45.t (Q:AV→aA→Prop) (x0:Int) (x1 x2:AV) (h:aA) (J:JT):Prop:=
aJ (IntKind.wrap .i64 (x0+3)) fun n0=>
aD x1 h fun v1=>
asS v1 fun l2=>
(bif (decide ((n0:Int)≤(l2.length:Int))) then
(aD x2 h fun v4=>
aD x1 h fun v5=>
asS v5 fun l6=>
aJ (IntKind.wrap .i64 (x0+3)) fun n7=>
b7 (AV.s l6) (some (AV.i .i64 x0)) (some (AV.i .i64 n7)) fun l8=>
aD x2 h fun v9=>
aD x1 h fun v10=>
asS v10 fun l11=>
aJ (IntKind.wrap .i64 (x0+3)) fun n12=>
b7 (AV.s l11) (some (AV.i .i64 x0)) (some (AV.i .i64 n12)) fun l13=>
eZ prog 9 64 false v9 (AV.s l13) h fun v14=>
bN 1 1 [(AV.i .i64 0)] [(0,1,(AV.i .i64 x0))] h fun v15 h16=>
eZ prog 9 64 false v9 (AV.s l13) h16 fun v17=>
(v14=v17 ∧
(aD x1 h16 fun v18=>
asS v18 fun l19=>
((AV.s l11)=(AV.s l19) ∧
(aD x2 h16 fun v20=>
(v9=v20 ∧
(aD x1 h16 fun v21=>
asS v21 fun l22=>
((AV.s l6)=(AV.s l22) ∧
(aD x2 h16 fun v23=>
(v4=v23 ∧
(bW none 1 8 v14 v15 h16 fun v24 h25=>
aD x1 h25 fun v26=>
asS v26 fun l27=>
((AV.s l6)=(AV.s l27) ∧
(aD x2 h25 fun v28=>
(v4=v28 ∧
(gN prog 9 v4 (AV.s l8) v24 h25 fun h29=>
Q (AV.tu []) h29)))))))))))))))
else
(Q (AV.tu []) h))
theorem Y45.call {K x0 x1 x2 h} (H:Y45.t (aH h K) x0 x1 x2 h (Y45.J (aH h K))):C Y45.id [(AV.i .i64 x0),x1,x2] h K:=
 gC Y45.J Tryd.func67 Y45.dist H
noncomputable def Y47.body:Code:=(Tryd.f68.body).getD .skip
def Y47.ann:Ann:=(sl [2,3,4,6,7] (sl [2,3,4,6,7,8] (sq [6,7] (sl [3,4,6,7,8,18] (.one (.br lf (.one (sq [3,4,6,7,8,10] (.seq 1 [3,4,6,7,8,10,29] lf bl) (sl [3,4,6,7,8,10,11] (sq [4,6,7,10,11] (.one (.loop 2 [3,4,6,7,8,10,11] (sq [3,4,6,7,8,10,11] (.seq 3 [3,4,6,7,8,10,11,45] (.ord (nn 0 16 .done)) bl) (.one lf)))) (sl [4,6,7,10,11,50] (.br (.ord (nn 0 4 (.eff 4 (.eff 5 .done .stop) .stop))) lf))))))))) (sq [6,7] (.ord (nn 0 2 (.eff 2 (.eff 3 .done .stop) .stop))) lf))))
theorem Y47.body_eq:Tryd.f68.body=some Y47.body:=by kernel_rfl
noncomputable def Y5.body:Code:=codeAt [1,1,0,1,0,1] Y47.body
def Y5.ann:Ann:=(.one (sq [3,4,6,7,8,10] (.seq 1 [3,4,6,7,8,10,29] lf bl) (sl [3,4,6,7,8,10,11] (sq [4,6,7,10,11] (.one (.loop 2 [3,4,6,7,8,10,11] (sq [3,4,6,7,8,10,11] (.seq 3 [3,4,6,7,8,10,11,45] (.ord (nn 0 16 .done)) bl) (.one lf)))) (sl [4,6,7,10,11,50] (.br (.ord (nn 0 4 (.eff 4 (.eff 5 .done .stop) .stop))) lf))))))
theorem Y5.dist:aI (places Y5.ann Y5.body)=true:=by kernel_rfl
noncomputable def Y5.J (X:Exit→aA→Prop):JT:=mJ prog C 57 Y5.ann Y5.body (xK X)
theorem Y5.goR {X:Exit→aA→Prop} {k:Nat} {p:List Nat} (hl:jJ (places Y5.ann Y5.body) k=some (p,false)) {e:Env} {h:aA} (hk:atJ prog C 57 (Y5.J X) false p Y5.ann Y5.body e h (xK X)):Y5.J X k e h:=aGQ (P:=prog) (nt:=57) (ann:=Y5.ann) (body:=Y5.body) (K:=xK X) (k:=k) (p:=p) (e:=e) (h:=h) (hH _) Y5.dist hl hk
theorem Y5.goH {X:Exit→aA→Prop} {k:Nat} {p:List Nat} (hl:jJ (places Y5.ann Y5.body) k=some (p,true)) {e:Env} {h:aA} (hk:atJ prog C 57 (Y5.J X) true p Y5.ann Y5.body e h (xK X)):Y5.J X k e h:=aDR (P:=prog) (nt:=57) (ann:=Y5.ann) (body:=Y5.body) (K:=xK X) (k:=k) (p:=p) (e:=e) (h:=h) (hH _) Y5.dist hl hk
def Y5.p0 (X:Exit→aA→Prop) (x3 x4 x6 x7 x8:AV) (x10:Int) (x29:Bool) (h:aA):Prop:=Y5.J X 1 [(3,x3),(4,x4),(6,x6),(7,x7),(8,x8),(10,(AV.i .i64 x10)),(29,(AV.b x29))] h
def Y5.p2 (X:Exit→aA→Prop) (x3 x4 x6 x7 x8:AV) (x10 x11:Int) (x45:Bool) (h:aA):Prop:=Y5.J X 3 [(3,x3),(4,x4),(6,x6),(7,x7),(8,x8),(10,(AV.i .i64 x10)),(11,(AV.i .i64 x11)),(45,(AV.b x45))] h
def Y5.p1 (X:Exit→aA→Prop) (x3 x4 x6 x7 x8:AV) (x10 x11:Int) (h:aA):Prop:=Y5.J X 2 [(3,x3),(4,x4),(6,x6),(7,x7),(8,x8),(10,(AV.i .i64 x10)),(11,(AV.i .i64 x11))] h
def Y5.t0 (J:JT) (X:Exit→aA→Prop) (x3 x4 x6 x7 x8:AV) (x10:Int) (x29:Bool) (h:aA):Prop:=
(bif x29 then
(X (Exit.exit 0) h)
else
(J 2 [(3,x3),(4,x4),(6,x6),(7,x7),(8,x8),(10,(AV.i .i64 x10)),(11,(AV.i .i64 0))] h))
theorem Y5.t0_eq (J:JT) (X:Exit→aA→Prop) (x3:AV) (x4:AV) (x6:AV) (x7:AV) (x8:AV) (x10:Int) (x29:Bool) (h:aA):Y5.t0 J X x3 x4 x6 x7 x8 x10 x29 h=atJ prog C 57 J false [0,0,1] Y5.ann Y5.body [(3,x3),(4,x4),(6,x6),(7,x7),(8,x8),(10,(AV.i .i64 x10)),(29,(AV.b x29))] h (xK X):=by kernel_rfl
theorem Y5.i0 {X x3 x4 x6 x7 x8 x10 x29 h} (H:Y5.t0 (Y5.J X) X x3 x4 x6 x7 x8 x10 x29 h):Y5.p0 X x3 x4 x6 x7 x8 x10 x29 h:=Y5.goR (k:=1) (p:=[0,0,1]) (by kernel_rfl) ((Y5.t0_eq (Y5.J X) X x3 x4 x6 x7 x8 x10 x29 h).mp H)
def Y5.t2 (J:JT) (X:Exit→aA→Prop) (x3 x4 x6 x7 x8:AV) (x10 x11:Int) (x45:Bool) (h:aA):Prop:=
(bif x45 then
(aJ (IntKind.wrap .i64 (x11+1)) fun n54=>
J 2 [(3,x3),(4,x4),(6,x6),(7,x7),(8,x8),(10,(AV.i .i64 x10)),(11,(AV.i .i64 n54))] h)
else
(aD x6 h fun v56=>
asI .i64 v56 fun n57=>
(bif (decide ((n57:Int)<x11)) then
(aD x4 h fun v59=>
asI .i64 v59 fun n60=>
aJ (IntKind.wrap .i64 (n60 - x10)) fun n61=>
aT 1 x6 (AV.i .i64 x11) h fun h62=>
aD x4 h62 fun v63=>
asI .i64 v63 fun n64=>
((AV.i .i64 n60)=(AV.i .i64 n64) ∧
(aT 1 x7 (AV.i .i64 n61) h62 fun h65=>
X Exit.normal h65)))
else
(X Exit.normal h))))
theorem Y5.t2_eq (J:JT) (X:Exit→aA→Prop) (x3:AV) (x4:AV) (x6:AV) (x7:AV) (x8:AV) (x10:Int) (x11:Int) (x45:Bool) (h:aA):Y5.t2 J X x3 x4 x6 x7 x8 x10 x11 x45 h=atJ prog C 57 J false [0,1,1,0,0,0,0,1] Y5.ann Y5.body [(3,x3),(4,x4),(6,x6),(7,x7),(8,x8),(10,(AV.i .i64 x10)),(11,(AV.i .i64 x11)),(45,(AV.b x45))] h (xK X):=by kernel_rfl
theorem Y5.i2 {X x3 x4 x6 x7 x8 x10 x11 x45 h} (H:Y5.t2 (Y5.J X) X x3 x4 x6 x7 x8 x10 x11 x45 h):Y5.p2 X x3 x4 x6 x7 x8 x10 x11 x45 h:=Y5.goR (k:=3) (p:=[0,1,1,0,0,0,0,1]) (by kernel_rfl) ((Y5.t2_eq (Y5.J X) X x3 x4 x6 x7 x8 x10 x11 x45 h).mp H)
def Y5.t1 (J:JT) (X:Exit→aA→Prop) (x3 x4 x6 x7 x8:AV) (x10 x11:Int) (h:aA):Prop:=
aD x8 h fun v38=>
asI .i64 v38 fun n39=>
(bif (decide ((x11:Int)<n39)) then
(aD x3 h fun v40=>
asS v40 fun l41=>
aJ (IntKind.wrap .i64 (x10+x11)) fun n42=>
e6 (AV.s l41) (AV.i .i64 n42) fun n43=>
aD x3 h fun v44=>
asS v44 fun l45=>
aD x4 h fun v46=>
asI .i64 v46 fun n47=>
aJ (IntKind.wrap .i64 (n47+x11)) fun n48=>
e6 (AV.s l45) (AV.i .i64 n48) fun n49=>
J 3 [(3,x3),(4,x4),(6,x6),(7,x7),(8,x8),(10,(AV.i .i64 x10)),(11,(AV.i .i64 x11)),(45,(AV.b (decide ((n43:Int)=n49))))] h)
else
(J 3 [(3,x3),(4,x4),(6,x6),(7,x7),(8,x8),(10,(AV.i .i64 x10)),(11,(AV.i .i64 x11)),(45,(AV.b false))] h))
theorem Y5.t1_eq (J:JT) (X:Exit→aA→Prop) (x3:AV) (x4:AV) (x6:AV) (x7:AV) (x8:AV) (x10:Int) (x11:Int) (h:aA):Y5.t1 J X x3 x4 x6 x7 x8 x10 x11 h=atJ prog C 57 J true [0,1,1,0,0] Y5.ann Y5.body [(3,x3),(4,x4),(6,x6),(7,x7),(8,x8),(10,(AV.i .i64 x10)),(11,(AV.i .i64 x11))] h (xK X):=by kernel_rfl
theorem Y5.i1 {X x3 x4 x6 x7 x8 x10 x11 h} (H:Y5.t1 (Y5.J X) X x3 x4 x6 x7 x8 x10 x11 h):Y5.p1 X x3 x4 x6 x7 x8 x10 x11 h:=Y5.goH (k:=2) (p:=[0,1,1,0,0]) (by kernel_rfl) ((Y5.t1_eq (Y5.J X) X x3 x4 x6 x7 x8 x10 x11 h).mp H)
def Y47.tX (Q:AV→aA→Prop) (x0:List UInt8) (x1:Int) (x2:AV) (h:aA):Prop:=
dC none (AV.s x0) h fun v0 h1=>
dC none (AV.i .i64 x1) h1 fun v2 h3=>
dF none [(AV.i .i64 0)] h3 fun v4 h5=>
dF none [(AV.i .i64 0)] h5 fun v6 h7=>
aD v0 h7 fun v9=>
asS v9 fun l10=>
aD v2 h7 fun v11=>
asI .i64 v11 fun n12=>
aJ (IntKind.wrap .i64 ((l10.length:Int) - n12)) fun n13=>
dF none [(AV.i .i64 0)] h7 fun v14 h15=>
aT 1 v14 (AV.i .i64 (mmI false 258 n13)) h15 fun h16=>
C Y90.id [x2] h16 fun v18 h19=>
aFE prog C (dW prog) v18 (fun g21 r22 y23 h24 K25=>
h24[g21]? = some (dL r22 .ready none) ∧
aFN y23 fun y23_0 y23_1=>
asI .i64 y23_1 fun n26=>
h24[g21]? = some (dL r22 .ready none) ∧
aDS (aHT g21 r22 K25) fun X=>
aEP (Y5.J X) fun J=>
aD v2 (h24.set g21 (dL r22 .busy none)) fun v27=>
asI .i64 v27 fun n28=>
aJ (IntKind.wrap .i64 (n28 - n26)) fun n29=>
(bif (decide ((32768:Int)<n29)) then
(J 1 [(3,v0),(4,v2),(6,v4),(7,v6),(8,v14),(10,(AV.i .i64 n26)),(29,(AV.b true))] (h24.set g21 (dL r22 .busy none)))
else
(aD v4 (h24.set g21 (dL r22 .busy none)) fun v31=>
asI .i64 v31 fun n32=>
aD v14 (h24.set g21 (dL r22 .busy none)) fun v33=>
asI .i64 v33 fun n34=>
J 1 [(3,v0),(4,v2),(6,v4),(7,v6),(8,v14),(10,(AV.i .i64 n26)),(29,(AV.b (decide ((n32:Int)=n34))))] (h24.set g21 (dL r22 .busy none))))) h19 fun r68 h66=>
(h66[h19.length]? = some (dL r68 .ready none)∧aD v4 (h66.set h19.length cK) fun v73=>
asI .i64 v73 fun n74=>
aD v6 (h66.set h19.length cK) fun v75=>
asI .i64 v75 fun n76=>
aT 1 v4 (AV.i .i64 n74) (h66.set h19.length cK) fun h77=>
aD v6 h77 fun v78=>
asI .i64 v78 fun n79=>
((AV.i .i64 n76)=(AV.i .i64 n79) ∧
(aT 1 v6 (AV.i .i64 n76) h77 fun h80=>
aD v4 h80 fun v82=>
aD v6 h80 fun v83=>
Q (AV.tu [v82,v83]) h80))) ∨
(h66[h19.length]? = some (dL r68 .done (some (.exit 0)))∧aD v4 (h66.set h19.length cK) fun v84=>
asI .i64 v84 fun n85=>
aD v6 (h66.set h19.length cK) fun v86=>
asI .i64 v86 fun n87=>
aT 1 v4 (AV.i .i64 n85) (h66.set h19.length cK) fun h88=>
aD v6 h88 fun v89=>
asI .i64 v89 fun n90=>
((AV.i .i64 n87)=(AV.i .i64 n90) ∧
(aT 1 v6 (AV.i .i64 n87) h88 fun h91=>
aD v4 h91 fun v93=>
aD v6 h91 fun v94=>
Q (AV.tu [v93,v94]) h91))) ∨
(h66[h19.length]? = some (dL r68 .done (some .ret))∧aD v4 (h66.set h19.length cK) fun v71=>
aD v6 (h66.set h19.length cK) fun v72=>
Q (AV.tu [v71,v72]) (h66.set h19.length cK))
theorem Y47.tX_eq (Q:AV→aA→Prop) (x0:List UInt8) (x1:Int) (x2:AV) (h:aA):Y47.tX Q x0 x1 x2 h=eJ prog C (dW prog) 57 Y47.ann Y47.body (eL 0 [(AV.s x0),(AV.i .i64 x1),x2]) h (pE prog Tryd.f68 Q):=by kernel_rfl
theorem Y47.callX {K:AV→aA→Prop} {x0:List UInt8} {x1:Int} {x2:AV} {h:aA} (H:Y47.tX (aH h K) x0 x1 x2 h):aFX prog C (dW prog) Y47.id [(AV.s x0),(AV.i .i64 x1),x2] h K:=
 ⟨Tryd.f68,Y47.body,Y47.ann,Tryd.func68,Y47.body_eq,by kernel_rfl,Nat.le_of_ble_eq_true (by kernel_rfl),(Y47.tX_eq (aH h K) x0 x1 x2 h).mp H⟩
noncomputable def Y8.body:Code:=(Tryd.f69.body).getD .skip
def Y8.ann:Ann:=(sl [0] (sl [0,3] (sq [0] (.seq 1 [0,15] lf (.br (sl [2] lf) lf)) (sl [0,4] (sl [0,4,5] (sq [4] (sl [0,4,5,6] (.one (.loop 2 [0,4,5,6] (sq [0,4,5,6] (sl [0,4,5,6,20] bl) (sq [0,4,5,6] (.one (sl [0,4,5,6] (sl [0,4,5,6,7] (.one (.loop 3 [0,4,5,6,7] (sq [0,4,5,6,7] (sl [0,4,5,6,7,28] bl) (.seq 4 [0,4,5,6,7] (.one (sl [0,4,5,6,7,36] (.br (sl [0,4,5,6,7] lf) lf))) lf))))))) lf))))) (sl [2] lf)))))))
theorem Y8.dist:aI (places Y8.ann Y8.body)=true:=by kernel_rfl
noncomputable def Y8.J (Q:AV→aA→Prop):JT:=bH prog C Tryd.f69 Y8.ann Y8.body Q
def Y8.p0 (Q:AV→aA→Prop) (x0:AV) (x15:Bool) (h:aA):Prop:=Y8.J Q 1 [(0,x0),(15,(AV.b x15))] h
def Y8.p3 (Q:AV→aA→Prop) (x0 x4:AV) (x5 x6 x7:Int) (h:aA):Prop:=Y8.J Q 4 [(0,x0),(4,x4),(5,(AV.i .i64 x5)),(6,(AV.i .i64 x6)),(7,(AV.i .i64 x7))] h
def Y8.p2 (Q:AV→aA→Prop) (x0 x4:AV) (x5 x6 x7:Int) (h:aA):Prop:=Y8.J Q 3 [(0,x0),(4,x4),(5,(AV.i .i64 x5)),(6,(AV.i .i64 x6)),(7,(AV.i .i64 x7))] h
def Y8.p1 (Q:AV→aA→Prop) (x0 x4:AV) (x5 x6:Int) (h:aA):Prop:=Y8.J Q 2 [(0,x0),(4,x4),(5,(AV.i .i64 x5)),(6,(AV.i .i64 x6))] h
def Y8.t0 (Q:AV→aA→Prop) (x0:AV) (x15:Bool) (h:aA) (J:JT):Prop:=
(bif x15 then
(Q (AV.sl none 0 none) h)
else
(bK x0 fun n9=>
nB 1 8 [(AV.i .i64 0)] (AV.i .i64 n9) (AV.i .i64 n9) h fun v10 h11=>
J 2 [(0,x0),(4,v10),(5,(AV.i .i64 0)),(6,(AV.i .i64 1))] h11))
theorem Y8.i0 {Q x0 x15 h} (H:Y8.t0 Q x0 x15 h (Y8.J Q)):Y8.p0 Q x0 x15 h:=gR Y8.J Tryd.f69 Y8.dist [1,1,0,1] H
def Y8.t3 (Q:AV→aA→Prop) (x0 x4:AV) (x5 x6 x7:Int) (h:aA) (J:JT):Prop:=
aJ (IntKind.wrap .i64 (x7+1)) fun n35=>
J 3 [(0,x0),(4,x4),(5,(AV.i .i64 x5)),(6,(AV.i .i64 x6)),(7,(AV.i .i64 n35))] h
theorem Y8.i3 {Q x0 x4 x5 x6 x7 h} (H:Y8.t3 Q x0 x4 x5 x6 x7 h (Y8.J Q)):Y8.p3 Q x0 x4 x5 x6 x7 h:=gR Y8.J Tryd.f69 Y8.dist [1,1,1,1,1,0,1,0,0,1,0,0,1,1,0,0,1,1] H
def Y8.t2 (Q:AV→aA→Prop) (x0 x4:AV) (x5 x6 x7:Int) (h:aA) (J:JT):Prop:=
bK x0 fun n21=>
(bif (decide ((x7:Int)<n21)) then
(aN 1 x0 (AV.i .i64 x7) h fun v25=>
aD v25 h fun v26=>
asI .i64 v26 fun n27=>
(bif (decide ((n27:Int)=x6)) then
(aN 1 x4 (AV.i .i64 x7) h fun v29=>
aT 1 v29 (AV.i .i64 x5) h fun h30=>
aJ (IntKind.wrap .i64 (x5+1)) fun n32=>
J 4 [(0,x0),(4,x4),(5,(AV.i .i64 n32)),(6,(AV.i .i64 x6)),(7,(AV.i .i64 x7))] h30)
else
(J 4 [(0,x0),(4,x4),(5,(AV.i .i64 x5)),(6,(AV.i .i64 x6)),(7,(AV.i .i64 x7))] h)))
else
(aJ (IntKind.wrap .i64 (x6+1)) fun n37=>
J 2 [(0,x0),(4,x4),(5,(AV.i .i64 x5)),(6,(AV.i .i64 n37))] h))
theorem Y8.i2 {Q x0 x4 x5 x6 x7 h} (H:Y8.t2 Q x0 x4 x5 x6 x7 h (Y8.J Q)):Y8.p2 Q x0 x4 x5 x6 x7 h:=gH Y8.J Tryd.f69 Y8.dist [1,1,1,1,1,0,1,0,0,1,0,0,1,1,0] H
def Y8.t1 (Q:AV→aA→Prop) (x0 x4:AV) (x5 x6:Int) (h:aA) (J:JT):Prop:=
(bif (decide ((x6:Int)≤15)) then
(aJ (IntKind.wrap .i64 (2 * x5)) fun n18=>
J 3 [(0,x0),(4,x4),(5,(AV.i .i64 n18)),(6,(AV.i .i64 x6)),(7,(AV.i .i64 0))] h)
else
(Q x4 h))
theorem Y8.i1 {Q x0 x4 x5 x6 h} (H:Y8.t1 Q x0 x4 x5 x6 h (Y8.J Q)):Y8.p1 Q x0 x4 x5 x6 h:=gH Y8.J Tryd.f69 Y8.dist [1,1,1,1,1,0,1,0] H
def Y8.t (Q:AV→aA→Prop) (x0:AV) (h:aA) (J:JT):Prop:=
C Y7.id [x0] h fun v1 h2=>
asI .i64 v1 fun n3=>
(bif (!decide ((n3:Int)=0)) then
(J 1 [(0,x0),(15,(AV.b (!decide ((n3:Int)=1))))] h2)
else
(J 1 [(0,x0),(15,(AV.b false))] h2))
theorem Y8.call {K x0 h} (H:Y8.t (aH h K) x0 h (Y8.J (aH h K))):C Y8.id [x0] h K:=
 gC Y8.J Tryd.func69 Y8.dist H
noncomputable def Y43.body:Code:=(Tryd.f70.body).getD .skip
def Y43.ann:Ann:=(sl [0,1,2] (sl [] (sl [6] lf)))
theorem Y43.dist:aI (places Y43.ann Y43.body)=true:=by kernel_rfl
noncomputable def Y43.J (Q:AV→aA→Prop):JT:=bH prog C Tryd.f70 Y43.ann Y43.body Q
def Y43.t (Q:AV→aA→Prop) (x0:AV) (x1:Int) (x2:AV) (h:aA) (J:JT):Prop:=
aS x0 fun v1=>
aB 11 v1 fun v2=>
aT 1 v2 (AV.i .i64 0) h fun h3=>
aS x0 fun v4=>
aB 12 v4 fun v5=>
aT 1 v5 (AV.i .i64 0) h3 fun h6=>
aS x0 fun v7=>
aB 13 v7 fun v8=>
aT 1 v8 (AV.i .i64 x1) h6 fun h9=>
aS x0 fun v10=>
aB 14 v10 fun v11=>
aT 1 v11 (AV.p none) h9 fun h12=>
aS x0 fun v13=>
aB 15 v13 fun v14=>
aT 1 v14 x2 h12 fun h15=>
Q (AV.i .i64 0) h15
theorem Y43.call {K x0 x1 x2 h} (H:Y43.t (aH h K) x0 x1 x2 h (Y43.J (aH h K))):C Y43.id [x0,(AV.i .i64 x1),x2] h K:=
 gC Y43.J Tryd.func70 Y43.dist H
noncomputable def Y86.body:Code:=(Tryd.f71.body).getD .skip
def Y86.ann:Ann:=(sl [0,1] (sl [0,1] (sq [] (sl [1,11] (.one (sl [1,11,12] (.br (sl [1] (sl [3] lf)) (sl [1,11,19] (.br (sl [3] lf) (sl [1,23] (.br (sl [3] lf) lf)))))))) (sl [3] lf))))
theorem Y86.dist:aI (places Y86.ann Y86.body)=true:=by kernel_rfl
noncomputable def Y86.J (Q:AV→aA→Prop):JT:=bH prog C Tryd.f71 Y86.ann Y86.body Q
def Y86.t (Q:AV→aA→Prop) (x0:Int) (x1:AV) (h:aA) (J:JT):Prop:=
aD x1 h fun v1=>
aS v1 fun v2=>
aB 6 v2 fun v3=>
aT 1 v3 (AV.b (decide (((bO .and .i64 x0 1):Int)=1))) h fun h4=>
kZ .i64 x0 1 fun n6=>
(bif (decide ((n6:Int)=0)) then
(aD x1 h4 fun v9=>
aS v9 fun v10=>
aB 9 v10 fun v11=>
aT 1 v11 (AV.b true) h4 fun h12=>
aD x1 h12 fun v14=>
C Y68.id [v14] h12 fun v15 h16=>
asI .i64 v15 fun n17=>
Q (AV.i .i64 n17) h16)
else
((bif (decide ((n6:Int)=1)) then
(aD x1 h4 fun v20=>
C Y69.id [v20] h4 fun v21 h22=>
asI .i64 v21 fun n23=>
Q (AV.i .i64 n23) h22)
else
((bif (decide ((n6:Int)=2)) then
(aD x1 h4 fun v26=>
C Y88.id [v26] h4 fun v27 h28=>
asI .i64 v27 fun n29=>
Q (AV.i .i64 n29) h28)
else
(Q (AV.i .i64 2) h4))))))
theorem Y86.call {K x0 x1 h} (H:Y86.t (aH h K) x0 x1 h (Y86.J (aH h K))):C Y86.id [(AV.i .i64 x0),x1] h K:=
 gC Y86.J Tryd.func71 Y86.dist H
noncomputable def Y68.body:Code:=(Tryd.f72.body).getD .skip
def Y68.ann:Ann:=(sl [1] (sl [2] lf))
theorem Y68.dist:aI (places Y68.ann Y68.body)=true:=by kernel_rfl
noncomputable def Y68.J (Q:AV→aA→Prop):JT:=bH prog C Tryd.f72 Y68.ann Y68.body Q
def Y68.t (Q:AV→aA→Prop) (x0:AV) (h:aA) (J:JT):Prop:=
dC none x0 h fun v0 h1=>
aD v0 h1 fun v3=>
C Y43.id [v3,(AV.i .i64 16),(AV.fn (.func Y76.id) [] [v0])] h1 fun v4 h5=>
asI .i64 v4 fun n6=>
Q (AV.i .i64 n6) h5
theorem Y68.call {K x0 h} (H:Y68.t (aH h K) x0 h (Y68.J (aH h K))):C Y68.id [x0] h K:=
 gC Y68.J Tryd.func72 Y68.dist H
noncomputable def Y69.body:Code:=(Tryd.f73.body).getD .skip
def Y69.ann:Ann:=(sl [0] (sl [0,3,4] (sl [2] lf)))
theorem Y69.dist:aI (places Y69.ann Y69.body)=true:=by kernel_rfl
noncomputable def Y69.J (Q:AV→aA→Prop):JT:=bH prog C Tryd.f73 Y69.ann Y69.body Q
def Y69.t (Q:AV→aA→Prop) (x0:AV) (h:aA) (J:JT):Prop:=
C Y17.id [] h fun v1 h2=>
aO 0 v1 fun v3=>
aO 1 v1 fun v4=>
C Y64.id [x0,v3,v4] h2 fun v6 h7=>
asI .i64 v6 fun n8=>
Q (AV.i .i64 n8) h7
theorem Y69.call {K x0 h} (H:Y69.t (aH h K) x0 h (Y69.J (aH h K))):C Y69.id [x0] h K:=
 gC Y69.J Tryd.func73 Y69.dist H
noncomputable def Y88.body:Code:=(Tryd.f74.body).getD .skip
def Y88.ann:Ann:=(sl [1] (sl [2] lf))
theorem Y88.dist:aI (places Y88.ann Y88.body)=true:=by kernel_rfl
noncomputable def Y88.J (Q:AV→aA→Prop):JT:=bH prog C Tryd.f74 Y88.ann Y88.body Q
def Y88.t (Q:AV→aA→Prop) (x0:AV) (h:aA) (J:JT):Prop:=
dC none x0 h fun v0 h1=>
aD v0 h1 fun v3=>
C Y43.id [v3,(AV.i .i64 5),(AV.fn (.func Y85.id) [] [v0])] h1 fun v4 h5=>
asI .i64 v4 fun n6=>
Q (AV.i .i64 n6) h5
theorem Y88.call {K x0 h} (H:Y88.t (aH h K) x0 h (Y88.J (aH h K))):C Y88.id [x0] h K:=
 gC Y88.J Tryd.func74 Y88.dist H
noncomputable def Y25.body:Code:=(Tryd.f75.body).getD .skip
def Y25.ann:Ann:=(sl [0,1,4,5,6] (sq [0,1,4,5,6] (sl [0,1,4,5,6,9] (.br (sl [4,5,6] lf) lf)) (sq [0,4,5,6] (.ord (nn 0 17 (.eff 17 (nn 18 2 (.eff 20 .done .stop)) .stop))) (.seq 2 [0,4,5,6] (sl [0,4,5,6,7] (.seq 1 [0,4,5,6,7,74] (.ord (nn 0 42 .done)) (.br (.ord (nn 0 27 .done)) (sl [0,4,5,105] (.br (sl [4,5,6] lf) lf))))) (sl [4,5,6] (sl [4,5,6] lf))))))
theorem Y25.dist:aI (places Y25.ann Y25.body)=true:=by kernel_rfl
noncomputable def Y25.J (Q:AV→aA→Prop):JT:=bH prog C Tryd.f75 Y25.ann Y25.body Q
def Y25.p0 (Q:AV→aA→Prop) (x0:AV) (x4:Int) (x5:Bool) (x6 x7:Int) (x74:Bool) (h:aA):Prop:=Y25.J Q 1 [(0,x0),(4,(AV.i .i64 x4)),(5,(AV.b x5)),(6,(AV.i .i64 x6)),(7,(AV.i .i64 x7)),(74,(AV.b x74))] h
def Y25.p1 (Q:AV→aA→Prop) (x0:AV) (x4:Int) (x5:Bool) (x6:Int) (h:aA):Prop:=Y25.J Q 2 [(0,x0),(4,(AV.i .i64 x4)),(5,(AV.b x5)),(6,(AV.i .i64 x6))] h
def Y25.t0 (Q:AV→aA→Prop) (x0:AV) (x4:Int) (x5:Bool) (x6 x7:Int) (x74:Bool) (h:aA) (J:JT):Prop:=
(bif x74 then
(aS x0 fun v63=>
aB 32 v63 fun v64=>
aD v64 h fun v65=>
aS x0 fun v66=>
aB 33 v66 fun v67=>
bM 16 1 v67 (AV.i .i64 x7) fun v68=>
aD v68 h fun v69=>
asI .i64 v69 fun n70=>
aS x0 fun v71=>
aB 50 v71 fun v72=>
aD v72 h fun v73=>
asI .i64 v73 fun n74=>
aJ (IntKind.wrap .i64 (n70+n74)) fun n75=>
aS x0 fun v76=>
aB 0 v76 fun v77=>
aB 16 v77 fun v78=>
bM 16 1 v78 (AV.i .i64 x7) fun v79=>
aD v79 h fun v80=>
asI .i64 v80 fun n81=>
aJ (IntKind.wrap .i64 (n75 - n81)) fun n82=>
aN 1 v65 (AV.i .i64 n82) h fun v83=>
aD v83 h fun v84=>
asI .i64 v84 fun n85=>
J 2 [(0,x0),(4,(AV.i .i64 n85)),(5,(AV.b true)),(6,(AV.i .i64 x6))] h)
else
(aS x0 fun v87=>
aB 49 v87 fun v88=>
aD v88 h fun v89=>
asI .i64 v89 fun n90=>
(bif (decide ((x7:Int)<n90)) then
(Q (AV.tu [(AV.i .i64 0),(AV.b false),(AV.i .i64 0)]) h)
else
(J 2 [(0,x0),(4,(AV.i .i64 x4)),(5,(AV.b x5)),(6,(AV.i .i64 2))] h))))
theorem Y25.i0 {Q x0 x4 x5 x6 x7 x74 h} (H:Y25.t0 Q x0 x4 x5 x6 x7 x74 h (Y25.J Q)):Y25.p0 Q x0 x4 x5 x6 x7 x74 h:=gR Y25.J Tryd.f75 Y25.dist [1,1,1,0,1,1] H
def Y25.t1 (Q:AV→aA→Prop) (x0:AV) (x4:Int) (x5:Bool) (x6:Int) (h:aA) (J:JT):Prop:=
aS x0 fun v94=>
aB 50 v94 fun v95=>
aT 1 v95 (AV.i .i64 0) h fun h96=>
aS x0 fun v97=>
aB 51 v97 fun v98=>
aT 1 v98 (AV.i .i64 0) h96 fun h99=>
Q (AV.tu [(AV.i .i64 x4),(AV.b x5),(AV.i .i64 x6)]) h99
theorem Y25.i1 {Q x0 x4 x5 x6 h} (H:Y25.t1 Q x0 x4 x5 x6 h (Y25.J Q)):Y25.p1 Q x0 x4 x5 x6 h:=gR Y25.J Tryd.f75 Y25.dist [1,1,1,1] H
def Y25.t (Q:AV→aA→Prop) (x0:AV) (x1:Int) (h:aA) (J:JT):Prop:=
dS prog .eql 44 x0 (AV.p none) fun v1=>
asB v1 fun c2=>
(bif c2 then
(Q (AV.tu [(AV.i .i64 0),(AV.b false),(AV.i .i64 6)]) h)
else
(aS x0 fun v6=>
aB 50 v6 fun v7=>
aD v7 h fun v8=>
asI .i64 v8 fun n9=>
jX .i64 n9 1 fun n10=>
aJ (bO .or .i64 n10 (bO .and .i64 x1 1)) fun n11=>
aS x0 fun v12=>
aB 51 v12 fun v13=>
aD v13 h fun v14=>
asI .i64 v14 fun n15=>
aJ (IntKind.wrap .i64 (n15+1)) fun n16=>
aS x0 fun v17=>
aB 50 v17 fun v18=>
aT 1 v18 (AV.i .i64 n11) h fun h19=>
aS x0 fun v20=>
aB 51 v20 fun v21=>
aT 1 v21 (AV.i .i64 n16) h19 fun h22=>
aS x0 fun v24=>
aB 51 v24 fun v25=>
aD v25 h22 fun v26=>
asI .i64 v26 fun n27=>
aS x0 fun v29=>
aB 49 v29 fun v30=>
aD v30 h22 fun v31=>
asI .i64 v31 fun n32=>
(bif (decide ((n27:Int)≤n32)) then
(aS x0 fun v33=>
aB 50 v33 fun v34=>
aD v34 h22 fun v35=>
asI .i64 v35 fun n36=>
aS x0 fun v37=>
aB 0 v37 fun v38=>
aB 16 v38 fun v39=>
bM 16 1 v39 (AV.i .i64 n27) fun v40=>
aD v40 h22 fun v41=>
asI .i64 v41 fun n42=>
aJ (IntKind.wrap .i64 (n36 - n42)) fun n43=>
aS x0 fun v44=>
aB 0 v44 fun v45=>
aB 0 v45 fun v46=>
bM 16 1 v46 (AV.i .i64 n27) fun v47=>
aD v47 h22 fun v48=>
asI .i64 v48 fun n49=>
(bif (decide ((n43:Int)<n49)) then
(aS x0 fun v50=>
aB 50 v50 fun v51=>
aD v51 h22 fun v52=>
asI .i64 v52 fun n53=>
aS x0 fun v54=>
aB 0 v54 fun v55=>
aB 16 v55 fun v56=>
bM 16 1 v56 (AV.i .i64 n27) fun v57=>
aD v57 h22 fun v58=>
asI .i64 v58 fun n59=>
J 1 [(0,x0),(4,(AV.i .i64 0)),(5,(AV.b false)),(6,(AV.i .i64 0)),(7,(AV.i .i64 n27)),(74,(AV.b (decide ((n59:Int)≤n53))))] h22)
else
(J 1 [(0,x0),(4,(AV.i .i64 0)),(5,(AV.b false)),(6,(AV.i .i64 0)),(7,(AV.i .i64 n27)),(74,(AV.b false))] h22)))
else
(J 1 [(0,x0),(4,(AV.i .i64 0)),(5,(AV.b false)),(6,(AV.i .i64 0)),(7,(AV.i .i64 n27)),(74,(AV.b false))] h22))))
theorem Y25.call {K x0 x1 h} (H:Y25.t (aH h K) x0 x1 h (Y25.J (aH h K))):C Y25.id [x0,(AV.i .i64 x1)] h K:=
 gC Y25.J Tryd.func75 Y25.dist H
noncomputable def Y10.body:Code:=(Tryd.f79.body).getD .skip
def Y10.ann:Ann:=(sl [0] (sq [0] (sl [0,10] (.br (sl [2] lf) lf)) (sl [0,3,4,5] (sq [3,4,5] (sl [3,4,5,11,12,13] (.one (.loop 1 [3,4,5,11,12,13] (sl [3,4,5,11,12,13,14] (sq [3,4,5,11,12,13] bl (.seq 3 [3,4,5,11,12,13] (.one (sl [3,4,5,7,11,12,13] (sq [3,4,5,7,11,12,13] (.seq 2 [3,4,5,7,11,12,13,22] lf (.br (sl [2] lf) lf)) (sl [3,4,5,7,11,12,13,24] (.br (sl [3,4,5,7,11,12,13] (sl [3,4,5,7,11,12,13] lf)) lf))))) lf)))))) (sq [] (.one (sl [3,4,5,36] (.br (sl [2] lf) (.seq 4 [39] lf (.br (sl [2] lf) lf))))) (sl [2] lf))))))
theorem Y10.dist:aI (places Y10.ann Y10.body)=true:=by kernel_rfl
noncomputable def Y10.J (Q:AV→aA→Prop):JT:=bH prog C Tryd.f79 Y10.ann Y10.body Q
def Y10.p1 (Q:AV→aA→Prop) (x3 x4 x5 x7:Int) (x11:AV) (x12 x13:Int) (x22:Bool) (h:aA):Prop:=Y10.J Q 2 [(3,(AV.i .i64 x3)),(4,(AV.i .i64 x4)),(5,(AV.i .i64 x5)),(7,(AV.i .i64 x7)),(11,x11),(12,(AV.i .i64 x12)),(13,(AV.i .i64 x13)),(22,(AV.b x22))] h
def Y10.p2 (Q:AV→aA→Prop) (x3 x4 x5:Int) (x11:AV) (x12 x13:Int) (h:aA):Prop:=Y10.J Q 3 [(3,(AV.i .i64 x3)),(4,(AV.i .i64 x4)),(5,(AV.i .i64 x5)),(11,x11),(12,(AV.i .i64 x12)),(13,(AV.i .i64 x13))] h
def Y10.p0 (Q:AV→aA→Prop) (x3 x4 x5:Int) (x11:AV) (x12 x13:Int) (h:aA):Prop:=Y10.J Q 1 [(3,(AV.i .i64 x3)),(4,(AV.i .i64 x4)),(5,(AV.i .i64 x5)),(11,x11),(12,(AV.i .i64 x12)),(13,(AV.i .i64 x13))] h
def Y10.p3 (Q:AV→aA→Prop) (x39:Bool) (h:aA):Prop:=Y10.J Q 4 [(39,(AV.b x39))] h
def Y10.t1 (Q:AV→aA→Prop) (x3 x4 x5 x7:Int) (x11:AV) (x12 x13:Int) (x22:Bool) (h:aA) (J:JT):Prop:=
(bif x22 then
(Q (AV.i .i64 4) h)
else
((bif (decide ((0:Int)<x7)) then
(aJ (IntKind.wrap .i64 (15 - x7)) fun n20=>
jX .i64 1 n20 fun n21=>
aJ (IntKind.wrap .i64 (x3+n21)) fun n22=>
aJ (IntKind.wrap .i64 (x4+1)) fun n24=>
J 3 [(3,(AV.i .i64 n22)),(4,(AV.i .i64 n24)),(5,(AV.i .i64 (mmI true x5 x7))),(11,x11),(12,(AV.i .i64 x12)),(13,(AV.i .i64 x13))] h)
else
(J 3 [(3,(AV.i .i64 x3)),(4,(AV.i .i64 x4)),(5,(AV.i .i64 x5)),(11,x11),(12,(AV.i .i64 x12)),(13,(AV.i .i64 x13))] h))))
theorem Y10.i1 {Q x3 x4 x5 x7 x11 x12 x13 x22 h} (H:Y10.t1 Q x3 x4 x5 x7 x11 x12 x13 x22 h (Y10.J Q)):Y10.p1 Q x3 x4 x5 x7 x11 x12 x13 x22 h:=gR Y10.J Tryd.f79 Y10.dist [1,1,1,0,1,0,0,1,1,0,0,1,0,1] H
def Y10.t2 (Q:AV→aA→Prop) (x3 x4 x5:Int) (x11:AV) (x12 x13:Int) (h:aA) (J:JT):Prop:=
aJ (IntKind.wrap .i64 (x13+1)) fun n28=>
J 1 [(3,(AV.i .i64 x3)),(4,(AV.i .i64 x4)),(5,(AV.i .i64 x5)),(11,x11),(12,(AV.i .i64 x12)),(13,(AV.i .i64 n28))] h
theorem Y10.i2 {Q x3 x4 x5 x11 x12 x13 h} (H:Y10.t2 Q x3 x4 x5 x11 x12 x13 h (Y10.J Q)):Y10.p2 Q x3 x4 x5 x11 x12 x13 h:=gR Y10.J Tryd.f79 Y10.dist [1,1,1,0,1,0,0,1,1,1] H
def Y10.t0 (Q:AV→aA→Prop) (x3 x4 x5:Int) (x11:AV) (x12 x13:Int) (h:aA) (J:JT):Prop:=
(bif (decide ((x13:Int)<x12)) then
(aN 1 x11 (AV.i .i64 x13) h fun v11=>
aD v11 h fun v12=>
asI .i64 v12 fun n13=>
(bif (decide ((n13:Int)<0)) then
(J 2 [(3,(AV.i .i64 x3)),(4,(AV.i .i64 x4)),(5,(AV.i .i64 x5)),(7,(AV.i .i64 n13)),(11,x11),(12,(AV.i .i64 x12)),(13,(AV.i .i64 x13)),(22,(AV.b true))] h)
else
(J 2 [(3,(AV.i .i64 x3)),(4,(AV.i .i64 x4)),(5,(AV.i .i64 x5)),(7,(AV.i .i64 n13)),(11,x11),(12,(AV.i .i64 x12)),(13,(AV.i .i64 x13)),(22,(AV.b (decide ((15:Int)<n13))))] h)))
else
((bif (decide ((32768:Int)<x3)) then
(Q (AV.i .i64 2) h)
else
((bif (decide ((x3:Int)<32768)) then
((bif (decide ((0:Int)<x4)) then
((bif (decide ((1:Int)<x4)) then
(J 4 [(39,(AV.b true))] h)
else
(J 4 [(39,(AV.b (decide ((1:Int)<x5))))] h)))
else
(J 4 [(39,(AV.b false))] h)))
else
(J 4 [(39,(AV.b false))] h))))))
theorem Y10.i0 {Q x3 x4 x5 x11 x12 x13 h} (H:Y10.t0 Q x3 x4 x5 x11 x12 x13 h (Y10.J Q)):Y10.p0 Q x3 x4 x5 x11 x12 x13 h:=gH Y10.J Tryd.f79 Y10.dist [1,1,1,0,1,0] H
def Y10.t3 (Q:AV→aA→Prop) (x39:Bool) (h:aA) (J:JT):Prop:=
(bif x39 then
(Q (AV.i .i64 1) h)
else
(Q (AV.i .i64 0) h))
theorem Y10.i3 {Q x39 h} (H:Y10.t3 Q x39 h (Y10.J Q)):Y10.p3 Q x39 h:=gR Y10.J Tryd.f79 Y10.dist [1,1,1,1,0,0,1,1,1] H
def Y10.t (Q:AV→aA→Prop) (x0:AV) (h:aA) (J:JT):Prop:=
bK x0 fun n1=>
(bif (decide ((320:Int)<n1)) then
(Q (AV.i .i64 3) h)
else
(bK x0 fun n6=>
J 1 [(3,(AV.i .i64 0)),(4,(AV.i .i64 0)),(5,(AV.i .i64 0)),(11,x0),(12,(AV.i .i64 n6)),(13,(AV.i .i64 0))] h))
theorem Y10.call {K x0 h} (H:Y10.t (aH h K) x0 h (Y10.J (aH h K))):C Y10.id [x0] h K:=
 gC Y10.J Tryd.func79 Y10.dist H
end Go.Proofs.YtpaphfeihpgamaaDoor
